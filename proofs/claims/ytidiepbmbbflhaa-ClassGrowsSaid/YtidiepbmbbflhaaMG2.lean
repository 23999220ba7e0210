/- drv.table.needed. drv.Right, drv.Needs. drv.Depth, drv.Users. drv.Users. Readers: what is read, and how light the rows in it are. spencelaw18: hash, great, place, same; spencekit.DrvOf. Items and hashes as arguments, opened. -/
import Derived.Test.YtidiepbmbbflhaaMG1
import Derived.WalkMore
import Derived.Test.YtidiepbmbbflhaaAt
import Derived.Test.YtidiepbmbbflhaaLay
import Derived.Test.YtidiepbmbbflhaaRow
import Derived.Test.YtidiepbmbbflhaaRows
section
namespace Go.Proofs.Ytidiepbmbbflhaa
open Go Go.RowKit Go.Shelf Go.Maps
attribute [local go_sem] Oper.semAt_some
set_option maxRecDepth 100000
/-- where a class stands -/
def posD {H : Type} [DecidableEq H] (l : List (Dr.It H)) (c : H) : Nat := (Dr.css l).idxOf c
theorem at_posD {H : Type} [DecidableEq H] {l : List (Dr.It H)} {c : H} (hc : c ∈ Dr.css l) : ∃ x, l[posD l c]? = some x ∧ x.cls = c := Dr.at_idx hc
theorem posD_lt {H : Type} [DecidableEq H] {l : List (Dr.It H)} {c : H} (hc : c ∈ Dr.css l) : posD l c < l.length := Dr.idx_lt hc
/-- one round of marking -/
def mkStep {H : Type} [DecidableEq H] (l : List (Dr.It H)) (m : Nat) (b : List Bool) (x : Nat) : List Bool := if b[m - x]?.getD false then Dr.mset (Dr.css l) (Dr.insAt l (m - x)) b else b
theorem mkStep_len {H : Type} [DecidableEq H] (l : List (Dr.It H)) (m : Nat) (b : List Bool) (x : Nat) : (mkStep l m b x).length = b.length := by
  unfold mkStep
  split
  · exact Dr.mset_len _ _ _
  · rfl
theorem mkFold_len {H : Type} [DecidableEq H] (l : List (Dr.It H)) (m : Nat) : ∀ (p : List Nat) (b : List Bool), (p.foldl (mkStep l m) b).length = b.length
  | [], _ => rfl
  | x :: p, b => by rw [List.foldl_cons, mkFold_len l m p, mkStep_len]
theorem mkFold_markA {H : Type} [DecidableEq H] (l : List (Dr.It H)) (m : Nat) (b : List Bool) : ∀ k, k ≤ m + 1 → Dr.markA l (m + 1) b = Dr.markA l (m + 1 - k) ((List.range k).foldl (mkStep l m) b)
  | 0, _ => rfl
  | k + 1, hk => by
    rw [mkFold_markA l m b k (by omega), List.range_succ, List.foldl_append, show m + 1 - k = (m - k) + 1 by omega, Dr.markA, show m + 1 - (k + 1) = m - k by omega]
    rfl
theorem mkFold_need {H : Type} [DecidableEq H] (l : List (Dr.It H)) (m : Nat) : (List.range (m + 1)).foldl (mkStep l m) ((List.replicate l.length false).set m true) = Dr.needP l m := by
  have h := mkFold_markA l m ((List.replicate l.length false).set m true) (m + 1) (Nat.le_refl _)
  rw [Nat.sub_self] at h
  exact h.symm
theorem kmap_get {l : List Itm} (hr : Dr.Right (l.map itP)) {c : Hsh} (hc : c ∈ Dr.css (l.map itP)) : mget (kmap l) c = some (posD (l.map itP) c) := by
  obtain ⟨x, hx, hxc⟩ := at_posD hc
  obtain ⟨y, hy, rfl⟩ : ∃ y, l[posD (l.map itP) c]? = some y ∧ itP y = x := by
    rw [List.getElem?_map] at hx
    cases h : l[posD (l.map itP) c]? with
    | none => rw [h] at hx; cases hx
    | some y => rw [h] at hx; exact ⟨y, rfl, Option.some.inj hx⟩
  refine mget_at (by rw [kmap_keys]; exact hr.nodup) (j := posD (l.map itP) c) ?_
  unfold kmap
  rw [List.getElem?_map, List.getElem?_zipIdx, hy]
  simp [← hxc, itP]
theorem own_blk1 {w : World} {base g n s : Nat} {e : TypeId} {xs : List Value} (h : w.ownsRow base e s (.slice (some ⟨g, 0, none⟩) n n) n xs) : Blk w g e xs.toArray := by
  obtain ⟨hl, h⟩ := h
  rcases h with ⟨h, _⟩ | ⟨g', cap, cur, h, _, hb, _, _, hs, ht⟩
  · cases h
  · injection h with e1 e2 e3
    injection e1 with e1
    injection e1 with e1
    subst e1 e3
    have : cur = xs.toArray := by rw [← ht, List.take_of_length_le (by simp; omega)]
    rw [← this]
    exact hb
theorem made_bools (n : Nat) : (madeCells #[Value.bool false] n).toList = (List.replicate n false).map Value.bool := by
  apply List.ext_getElem
  · simp [size_madeCells]
  · intro i h1 h2
    simp [madeCells, Nat.mod_one]
theorem bools_set {g : Nat} {w : World} {b : List Bool} (h : Blk w g 4 (b.map Value.bool).toArray) (i : Nat) : Blk (w.setCell ⟨g, i, none⟩ (.bool true)) g 4 ((b.set i true).map Value.bool).toArray := by
  have h2 := h.set_ i (.bool true)
  rwa [List.setIfInBounds_toArray, show (b.map Value.bool).set i (.bool true) = (b.set i true).map Value.bool by rw [List.map_set]] at h2
theorem bools_at {g : Nat} {w : World} {b : List Bool} (h : Blk w g 4 (b.map Value.bool).toArray) {i : Nat} {v : Bool} (hv : b[i]? = some v) : w.cell? ⟨g, i, none⟩ = some (.bool v) := by
  rw [h.cell, List.getElem?_toArray, List.getElem?_map, hv]
  rfl
theorem info_boolI : (Try.prog.info? 4).map (fun i => (i.zero, i.size, i.bytes)) = some (some (.bool false), 1, 1) := by kernel_rfl
/-- what is marked, and where it lies -/
structure NSt (w : World) (mb b off cap : Nat) (l : List Itm) (c : Hsh) (gc gn Bn : Nat) (marks : List Bool) (W : World) : Prop where
  tbl : Blk W w.heap.size 79 #[.map (some mb), .slice (some ⟨b, off, none⟩) l.length cap]
  cls : Blk W gc 27 (bv c).toArray
  need : Blk W gn 4 (marks.map Value.bool).toArray
  box : Blk W Bn 84 #[.slice (some ⟨gn, 0, none⟩) l.length l.length]
  map_ : MapIs hV okH evN W mb (kmap l)
  below : Below w.heap.size w W
  len : marks.length = l.length
  lo : mb < w.heap.size ∧ b < w.heap.size ∧ w.heap.size < gc ∧ gc < gn ∧ gn < Bn
section
variable {w W W' : World} {mb b off cap : Nat} {l : List Itm} {c : Hsh} {gc gn Bn : Nat} {marks : List Bool}
theorem NSt.grow (h : NSt w mb b off cap l c gc gn Bn marks W) (hb : Below W.heap.size W W') : NSt w mb b off cap l c gc gn Bn marks W' :=
  ⟨h.tbl.below hb h.tbl.lt, h.cls.below hb h.cls.lt, h.need.below hb h.need.lt, h.box.below hb h.box.lt, h.map_.below hb h.map_.lt, h.below.trans (Below.mono hb h.below.size), h.len, h.lo⟩
theorem NSt.set (h : NSt w mb b off cap l c gc gn Bn marks W) (i : Nat) (hk : Blk W' gn 4 ((marks.map Value.bool).toArray.setIfInBounds i (.bool true))) (hg : W.grownBy W' (some gn)) : NSt w mb b off cap l c gc gn Bn (marks.set i true) W' := by
  have hlo := h.lo
  refine ⟨(hg.block _ h.tbl.lt (fun e => by have := Option.some.inj e; omega)).trans h.tbl, (hg.block _ h.cls.lt (fun e => by have := Option.some.inj e; omega)).trans h.cls, ?_, (hg.block _ h.box.lt (fun e => by have := Option.some.inj e; omega)).trans h.box, h.map_.of_eq (hg.block _ h.map_.lt (fun e => by have := Option.some.inj e; omega)), h.below.grown hg h.below.size (fun k e => by have := Option.some.inj e; omega), by rw [List.length_set, h.len], hlo⟩
  rwa [List.setIfInBounds_toArray, show (marks.map Value.bool).set i (.bool true) = (marks.set i true).map Value.bool by rw [List.map_set]] at hk
theorem NSt.own {row : Option Nat} {N : Nat} (hN : w.heap.size ≤ N) (h : NSt w mb b off cap l c gc gn Bn marks W) (hg : W.grownBy W' row) (hr : ∀ r, row = some r → N ≤ r ∧ ∃ o : Obj, W.heap[r]? = some o ∧ o.isCells = false) : NSt w mb b off cap l c gc gn Bn marks W' := by
  have hr' : ∀ r, row = some r → ∃ o : Obj, W.heap[r]? = some o ∧ o.isCells = false := fun r e => (hr r e).2
  exact ⟨blk_kept h.tbl hg hr', blk_kept h.cls hg hr', blk_kept h.need hg hr', blk_kept h.box hg hr', map_kept (B := N) h.map_ (by have := h.lo; omega) hg hr, h.below.grown hg h.below.size (fun k e => by have := (hr k e).1; omega), h.len, h.lo⟩
end
/-- only one block that there was has turned -/
structure OnlyT (g : Nat) (W W' : World) : Prop where
  size : W.heap.size ≤ W'.heap.size
  same : ∀ k, k < W.heap.size → k ≠ g → W'.heap[k]? = W.heap[k]?
theorem OnlyT.refl (g : Nat) (W : World) : OnlyT g W W := ⟨Nat.le_refl _, fun _ _ _ => rfl⟩
theorem OnlyT.trans {g : Nat} {A B C : World} (h : OnlyT g A B) (k : OnlyT g B C) : OnlyT g A C := ⟨Nat.le_trans h.size k.size, fun i h1 h2 => (k.same i (Nat.lt_of_lt_of_le h1 h.size) h2).trans (h.same i h1 h2)⟩
theorem OnlyT.of_below {g : Nat} {W W' : World} (h : Below W.heap.size W W') : OnlyT g W W' := ⟨h.size, fun k h1 _ => h.block k h1⟩
theorem OnlyT.of_grown {g : Nat} {W W' : World} (h : W.grownBy W' (some g)) : OnlyT g W W' := ⟨h.size, fun k h1 h2 => h.block k h1 fun e => h2 (Option.some.inj e)⟩
theorem OnlyT.keepsS {g N : Nat} {W W' : World} (h : OnlyT g W W') : KeepsS (· = g) N W W' := ⟨h.size, fun k o _ h2 h3 _ => (h.same k (Array.getElem?_eq_some_iff.1 h3).1 h2).trans h3⟩
theorem OnlyT.from {g N : Nat} {W W' : World} {t : TypeId} {cs : Array Value} (h : OnlyT g W W') (hb : Blk W g t cs) : KeepsFrom N W W' := ⟨h.size, fun k o _ h3 h4 => (h.same k (Array.getElem?_eq_some_iff.1 h3).1 fun e => by
  subst e
  rw [show W.heap[k]? = _ from hb] at h3
  injection h3 with h3
  subst h3
  cases h4).trans h3⟩
theorem exec_idx0 {P : Program} {ρ : Operand → Value} {o : Oper} (ty e : TypeId) (x i : Operand) (ho : o.op = .indexAddr ty x i) (b n cap k : Nat) (hx : ρ x = .slice (some ⟨b, 0, none⟩) n cap) (hi : ρ i = .int .i64 (k : Int)) (hk : k < n) (s : Nat) (hu : P.underlying ty = some (.slice e)) (hs : (P.info? e).map (·.size) = some s) (w : World) :
    (execOp ρ o).run P w = .ok (.value (.pointer (some ⟨b, k * s, none⟩))) w := by
  have h := exec_index_off (P := P) (ρ := ρ) (o := o) ty e x i ho b 0 n cap (k : Int) .i64 hx hi ⟨by omega, by omega⟩ s hu hs w
  rwa [Int.toNat_natCast, Nat.zero_add] at h
theorem look_at {w : World} {mb : Nat} {m : List (Hsh × Nat)} (hm : MapIs hV okH evN w mb m) {c : Hsh} (hc : okH c) {n : Nat} (hg : mget m c = some n) {ρ : Operand → Value} {o : Oper} (x y : Operand) (ho : o.op = .lookup 77 x y false) (hx : ρ x = .map (some mb)) (hy : ρ y = .agg (bv c).toArray) :
    (execOp ρ o).run Try.prog w = .ok (.value (.int .i64 (n : Int))) w := by
  have h := exec_lookup (P := Try.prog) (o := o) (ρ := ρ) 77 x y false ho (.map (some mb)) (.agg (bv c).toArray) _ hx hy (hm.look hash_enc hc Try.underlying77 (z_int w))
  rw [hg] at h
  exact h
theorem elems_fun {α : Type} {L : Lay α} {w : World} {B b off : Nat} {l : List α} (h : ElemsAt L w B b off l) : ∃ cf : Nat → List Value, ∀ j x, l[j]? = some x → w.rangeAt b (off + j * L.n) (cf j) ∧ L.At w B (cf j) x := by
  have key : ∀ j, ∃ cs : List Value, ∀ x, l[j]? = some x → w.rangeAt b (off + j * L.n) cs ∧ L.At w B cs x := fun j => by
    cases hj : l[j]? with
    | none => exact ⟨[], fun x hx => by cases hx⟩
    | some x =>
      obtain ⟨cs, h1, h2⟩ := h j x hj
      exact ⟨cs, fun y hy => by injection hy with hy; subst hy; exact ⟨h1, h2⟩⟩
  exact ⟨fun j => Classical.choose (key j), fun j x hx => Classical.choose_spec (key j) x hx⟩
theorem insAt_it {l : List Itm} {n : Nat} {x : Itm} (h : l[n]? = some x) : Dr.insAt (l.map itP) n = clsP x.2.2.1 := by
  unfold Dr.insAt
  rw [List.getElem?_map, h]
  rfl
theorem mset_snoc {H : Type} [DecidableEq H] (cs : List H) (ins : List H) (b : List Bool) (c : H) : Dr.mset cs (ins ++ [c]) b = (Dr.mset cs ins b).set (cs.idxOf c) true := by
  unfold Dr.mset
  rw [List.foldl_append]
  rfl
theorem fin_tmpD {P : Program} {fn : Func} {t D : Nat} {R : Ending → World → Prop} {tmps : Array Value} {W : World} {v : Value} (h : fn.results = #[.tmp t]) (hv : tmps.getD t undef = v) (hK : W.heap[D]? = some (.deferred (some []))) (hR : R (.returned v) (W.putObj D (.deferred none))) :
    bodyPostM Fence.wide 5 P fn R .ret { tmps := tmps, defers := [{ target := .collected D, args := #[] }] } W := by
  have hv' : tmps[t]?.getD undef = v := by simpa using hv
  exact ⟨by simp, .inl ⟨_, _, rfl, run_takeDeferred hK, v, by simp [results, h, go_sem, hv'], hR⟩⟩
theorem own_form9 {w : World} {B n s : Nat} {e : TypeId} {u : Value} {xs : List Value} (h : w.ownsRow B e s u n xs) : ∃ A c, u = .slice A n c := by
  rcases owned_formN h with ⟨e, h0, _⟩ | ⟨g, cap, cur, e, _⟩
  · exact ⟨none, 0, by rw [e, h0]⟩
  · exact ⟨_, _, e⟩
theorem flat_hash {l : List Hsh} (hl : ∀ h ∈ l, okH h) {k : Nat} {h : Hsh} (hk : l[k]? = some h) : ((l.flatMap bv).drop (k * 20)).take 20 = bv h := by
  rw [List.flatMap_def]
  refine flat_at (s := 20) (l.map bv) k (bv h) ?_ (by rw [List.getElem?_map, hk]; rfl)
  intro b hb
  obtain ⟨x, hx, rfl⟩ := List.mem_map.1 hb
  rw [bvL]
  exact hl x hx
theorem ins_knownH {H : Type} [DecidableEq H] {l : List (Dr.It H)} (hr : Dr.Right l) {n : Nat} {x : Dr.It H} (h : l[n]? = some x) : ∀ c ∈ x.ins, c ∈ Dr.css l := fun c hc => by
  have h1 := hr.ins n x h c hc
  have h2 := (List.getElem?_eq_some_iff.1 h).1
  refine List.idxOf_lt_length_iff.1 (Nat.lt_of_lt_of_le h1 ?_)
  simp [Dr.css]
  omega
theorem ins_known {l : List Itm} (hr : Dr.Right (l.map itP)) {n : Nat} {x : Itm} (h : l[n]? = some x) : ∀ c ∈ clsP x.2.2.1, c ∈ Dr.css (l.map itP) :=
  ins_knownH hr (n := n) (x := itP x) (by rw [List.getElem?_map, h]; rfl)
def NeedPost (w : World) (l : List Itm) (m : Nat) (w' : World) (e : Ending) : Prop := ∃ g, e = .returned (.slice (some ⟨g, 0, none⟩) l.length l.length) ∧ Blk w' g 4 ((Dr.needP (l.map itP) m).map Value.bool).toArray ∧ w.heap.size ≤ g ∧ Below w.heap.size w w'
set_option maxHeartbeats 8000000 in
theorem needed_any (w : World) (l : List Itm) (mb : Nat) (A : Option Addr) (cap : Nat) (h : itmsLay.At w w.heap.size [.slice A l.length cap] l) (hl : ∀ x ∈ l, x.2.2.1.length ≤ 1000000) (hlen : l.length ≤ 1000000) (hr : Dr.Right (l.map itP)) (hm : MapIs hV okH evN w mb (kmap l)) (c : Hsh) (hc : okH c) (hcm : c ∈ Dr.css (l.map itP)) :
    Calls Try.prog 44 #[.agg #[.map (some mb), .slice A l.length cap], .agg (bv c).toArray] w fun e w' => NeedPost w l (posD (l.map itP) c) w' e := by
  obtain ⟨ibo, hih, hq0, hq1, hq2⟩ := info_parts info_boolI
  have HK := hide (And.intro hih (And.intro hq0 (And.intro hq1 hq2)))
  clear hih hq0 hq1 hq2
  obtain ⟨A', cap', e, hcl, hcm9, _, hA⟩ := slice_open h
  injection e with e1 e2 e3
  subst e1 e3
  have hml := posD_lt hcm
  rw [List.length_map] at hml
  have hget := kmap_get hr hcm
  obtain ⟨m, hmd⟩ : ∃ m, m = posD (l.map itP) c := ⟨_, rfl⟩
  rw [← hmd] at hml hget ⊢
  clear hmd e2
  obtain ⟨b, off, rfl, hlb, hE⟩ := hA (by omega)
  have HM := hide (And.intro hm hget)
  have HE := hide (And.intro hE (And.intro hlb hr))
  have hszc := hszD hc
  have m0 : (0 : Int) ≤ (m : Int) := by omega
  have m1 : (m : Int) < (l.length : Int) := by omega
  clear hA hcl hcm hm hget hE hlb hr h
  refine (callsIn_wide (n := 5)).1 ?_
  refine callsIn_of_wp_marks Try.func44 rfl trivial ?_ rfl
  simp only [Try.ntmps44, List.size_toArray, List.length_cons, List.length_nil, Nat.reduceAdd, Nat.reduceSub, Array.replicate_succ, Array.replicate_zero, List.push_toArray, List.append_toArray, List.nil_append, List.cons_append]
  refine wpIn_wide.2 ?_
  go_wp2_with (first | go_step3 | ((with_reducible refine at_slot 2 ?_); (refine wpList_boxA (o := ⟨some 2, _, _, _, _, _⟩) rfl 79 (.tmp 0) rfl #[.map (some mb), .slice (some ⟨b, off, none⟩) l.length cap] rfl ?_); intro w1 hn; have H1 := hide hn; clear hn; simp only [Act.put, List.setIfInBounds_toArray, List.set_cons_zero, List.set_cons_succ]) | ((with_reducible refine at_slot 3 ?_); (refine wpList_boxA (o := ⟨some 3, _, _, _, _, _⟩) rfl 27 (.tmp 1) rfl (bv c).toArray rfl ?_); intro w2 hn; have H2 := hide (And.intro (H1.out.blk.below hn.below H1.out.blk.lt) (And.intro hn.blk (And.intro (H1.out.below.trans (Below.mono hn.below H1.out.below.size)) (And.intro H1.out.size hn.size)))); clear hn; simp only [Act.put, List.setIfInBounds_toArray, List.set_cons_zero, List.set_cons_succ]) | ((with_reducible refine at_slot 11 ?_); (refine wpList_value (o := ⟨some 11, _, _, _, _, _⟩) rfl (.slice (some ⟨b, off, none⟩) l.length cap) w2 (exec_load_cell (o := ⟨some 11, _, _, _, _, _⟩) 25 (.tmp 10) rfl ⟨w.heap.size, 1, none⟩ rfl _ _ w2 Try.underlying25 rfl (show w2.cell? ⟨w.heap.size, 1, none⟩ = some (.slice (some ⟨b, off, none⟩) l.length cap) from H2.out.1.cell 1)) ?_)) | (at_make; refine wpList_make_full _ rfl _ _ 84 rfl w2.heap.size 4 ibo _ 1 Try.underlying84 HK.out.1 HK.out.2.1 HK.out.2.2.1 _ _ _ _ l.length rfl rfl ?hC ?hC2 ?hB ?hM ?hZ ?_))
  case hC => rfl
  case hC2 => rfl
  case hB => have := HK.out.2.2.2; rw [this]; omega
  case hM => simp only [maxLen]; omega
  case hZ => exact Nat.le_refl _
  intro w3 own3 gr3
  have hb3 : Below w2.heap.size w2 w3 := (Below.refl _ w2).grown gr3 (Nat.le_refl _) (fun k hk => by cases hk)
  rw [made_bools] at own3
  have hk3 := own_blk1 own3
  have H3 := hide (And.intro (H2.out.1.below hb3 H2.out.1.lt) (And.intro (H2.out.2.1.below hb3 H2.out.2.1.lt) (And.intro (H2.out.2.2.1.trans (Below.mono hb3 H2.out.2.2.1.size)) (And.intro hk3 (And.intro hk3.lt H2.out.2.2.2)))))
  clear own3 gr3 hb3 hk3
  go_wp2_with (first | go_step3 | ((with_reducible refine at_slot 5 ?_); (refine wpList_newZ (o := ⟨some 5, _, _, _, _, _⟩) rfl 84 #[.slice none 0 0] (by kernel_rfl) ?_); intro w4 hn; have H4 := hide (And.intro (H3.out.1.below hn.below H3.out.1.lt) (And.intro (H3.out.2.1.below hn.below H3.out.2.1.lt) (And.intro (H3.out.2.2.1.trans (Below.mono hn.below H3.out.2.2.1.size)) (And.intro (H3.out.2.2.2.1.below hn.below H3.out.2.2.2.1.lt) (And.intro hn.blk hn.size))))); clear hn; simp only [Act.put, List.setIfInBounds_toArray, List.set_cons_zero, List.set_cons_succ]) | ((with_reducible refine at_store 5 13 ?_); (refine wpList_store1 (o := ⟨none, _, _, _, _, _⟩) rfl 84 (.tmp 5) (.tmp 13) rfl w3.heap.size (0) 84 #[.slice none 0 0] H4.out.2.2.2.2.1 (by decide) (by kernel_rfl) (.slice (some ⟨w2.heap.size, 0, none⟩) l.length l.length) rfl rfl rfl ?_); intro w5 hk hg hz; have h4z : w3.heap.size < w4.heap.size := (by have := H4.out.2.2.2.2.2; omega); have hst : NSt w mb b off cap l c w1.heap.size w2.heap.size w3.heap.size (List.replicate l.length false) w5 := ⟨(hg.block _ H4.out.1.lt (fun e => (by have := Option.some.inj e; have := H2.out.2.2.2.1; have := H2.out.2.2.2.2; have := H3.out.2.2.2.2.1; omega))).trans H4.out.1, (hg.block _ H4.out.2.1.lt (fun e => (by have := Option.some.inj e; have := H2.out.2.2.2.1; have := H2.out.2.2.2.2; have := H3.out.2.2.2.2.1; omega))).trans H4.out.2.1, (hg.block _ H4.out.2.2.2.1.lt (fun e => (by have := Option.some.inj e; have := H2.out.2.2.2.1; have := H2.out.2.2.2.2; have := H3.out.2.2.2.2.1; omega))).trans H4.out.2.2.2.1, hk, (HM.out.1.below (H4.out.2.2.1.grown hg H4.out.2.2.1.size (fun k e => (by have := Option.some.inj e; have := H2.out.2.2.2.1; have := H2.out.2.2.2.2; have := H3.out.2.2.2.2.1; omega))) HM.out.1.lt), (H4.out.2.2.1.grown hg H4.out.2.2.1.size (fun k e => (by have := Option.some.inj e; have := H2.out.2.2.2.1; have := H2.out.2.2.2.2; have := H3.out.2.2.2.2.1; omega))), List.length_replicate, HM.out.1.lt, HE.out.2.1, (by have := H2.out.2.2.2.1; omega), (by have := H2.out.2.2.2.2; omega), H3.out.2.2.2.2.1⟩; have H5 := hide hst; clear hk hg hz hst h4z; simp only [Act.put, List.setIfInBounds_toArray, List.set_cons_zero, List.set_cons_succ]))
  refine Fre.wp_made (X := Bel) 6 [] (by kernel_rfl) (by kernel_rfl) (by simp) (by simp) (by simp) ?_
  simp only [List.take_succ_cons, List.take_zero, List.drop_succ_cons, List.drop_zero]
  refine Fre.made_val (.slice (some ⟨w2.heap.size, 0, none⟩) l.length l.length) (by kernel_rfl) (by kernel_rfl) (by kernel_rfl) (fun W9 hW9 => exec_load_cell (o := ⟨some 14, _, _, _, _, _⟩) 84 (.tmp 5) rfl ⟨w3.heap.size, 0, none⟩ rfl _ _ W9 Try.underlying84 rfl (((H5.out.grow hW9).box).cell 0)) ?_
  simp only [Act.put, List.setIfInBounds_toArray, List.set_cons_zero, List.set_cons_succ]
  refine Fre.made_val (.pointer (some ⟨w.heap.size, 0, none⟩)) (by kernel_rfl) (by kernel_rfl) (by kernel_rfl) (fun _ _ => by kernel_rfl) ?_
  simp only [Act.put, List.setIfInBounds_toArray, List.set_cons_zero, List.set_cons_succ]
  refine Fre.made_val (.map (some mb)) (by kernel_rfl) (by kernel_rfl) (by kernel_rfl) (fun W9 hW9 => exec_load_cell (o := ⟨some 16, _, _, _, _, _⟩) 77 (.tmp 15) rfl ⟨w.heap.size, 0, none⟩ rfl _ _ W9 Try.underlying77 rfl (((H5.out.grow hW9).tbl).cell 0)) ?_
  simp only [Act.put, List.setIfInBounds_toArray, List.set_cons_zero, List.set_cons_succ]
  refine Fre.made_val (.agg (bv c).toArray) (by kernel_rfl) (by kernel_rfl) (by kernel_rfl) (fun W9 hW9 => exec_load_blk (o := ⟨some 17, _, _, _, _, _⟩) 27 (.tmp 3) rfl w1.heap.size rfl 27 _ _ W9 ((H5.out.grow hW9).cls) Try.underlying27 rfl hszc) ?_
  simp only [Act.put, List.setIfInBounds_toArray, List.set_cons_zero, List.set_cons_succ]
  refine Fre.made_val (.int .i64 (m : Int)) (by kernel_rfl) (by kernel_rfl) (by kernel_rfl) (fun W9 hW9 => look_at ((H5.out.grow hW9).map_) hc HM.out.2 (.tmp 16) (.tmp 17) rfl rfl rfl) ?_
  simp only [Act.put, List.setIfInBounds_toArray, List.set_cons_zero, List.set_cons_succ]
  refine Fre.made_val (.pointer (some ⟨w2.heap.size, m, none⟩)) (by kernel_rfl) (by kernel_rfl) (by kernel_rfl) (fun W9 hW9 => exec_idx1 84 4 (.tmp 14) (.tmp 18) rfl w2.heap.size l.length l.length m rfl rfl hml Try.underlying84 (by kernel_rfl) W9) ?_
  simp only [Act.put, List.setIfInBounds_toArray, List.set_cons_zero, List.set_cons_succ]
  intro w6 hx6
  have H6 := hide (H5.out.grow hx6)
  clear hx6
  dsimp only [Fre.ended, List.drop]
  go_wp2_with (first | go_step3 | ((with_reducible refine at_storeC 19 ?_); (refine wpList_store1 (o := ⟨none, _, _, _, _, _⟩) rfl 4 (.tmp 19) (.const (.bool true)) rfl w2.heap.size (m) 4 ((List.replicate l.length false).map Value.bool).toArray H6.out.need (by simp; exact hml) (by kernel_rfl) (.bool true) rfl rfl rfl ?_); intro w7 hk hg hz; have H7 := hide (H6.out.set m hk hg); clear hk hg hz; simp only [Act.put, List.setIfInBounds_toArray, List.set_cons_zero, List.set_cons_succ]))
  refine Fre.wp_made (X := Bel) 5 [] (by kernel_rfl) (by kernel_rfl) (by simp) (by simp) (by simp) ?_
  simp only [List.take_succ_cons, List.take_zero, List.drop_succ_cons, List.drop_zero]
  refine Fre.made_val (.agg #[.map (some mb), .slice (some ⟨b, off, none⟩) l.length cap]) (by kernel_rfl) (by kernel_rfl) (by kernel_rfl) (fun W9 hW9 => exec_load_blk (o := ⟨some 20, _, _, _, _, _⟩) 79 (.tmp 2) rfl w.heap.size rfl 79 _ _ W9 ((H7.out.grow hW9).tbl) Try.underlying79 rfl (by kernel_rfl)) ?_
  simp only [Act.put, List.setIfInBounds_toArray, List.set_cons_zero, List.set_cons_succ]
  refine Fre.made_val (.pointer (some ⟨w.heap.size, 0, none⟩)) (by kernel_rfl) (by kernel_rfl) (by kernel_rfl) (fun _ _ => by kernel_rfl) ?_
  simp only [Act.put, List.setIfInBounds_toArray, List.set_cons_zero, List.set_cons_succ]
  refine Fre.made_val (.map (some mb)) (by kernel_rfl) (by kernel_rfl) (by kernel_rfl) (fun W9 hW9 => exec_load_cell (o := ⟨some 22, _, _, _, _, _⟩) 77 (.tmp 21) rfl ⟨w.heap.size, 0, none⟩ rfl _ _ W9 Try.underlying77 rfl (((H7.out.grow hW9).tbl).cell 0)) ?_
  simp only [Act.put, List.setIfInBounds_toArray, List.set_cons_zero, List.set_cons_succ]
  refine Fre.made_val (.agg (bv c).toArray) (by kernel_rfl) (by kernel_rfl) (by kernel_rfl) (fun W9 hW9 => exec_load_blk (o := ⟨some 23, _, _, _, _, _⟩) 27 (.tmp 3) rfl w1.heap.size rfl 27 _ _ W9 ((H7.out.grow hW9).cls) Try.underlying27 rfl hszc) ?_
  simp only [Act.put, List.setIfInBounds_toArray, List.set_cons_zero, List.set_cons_succ]
  refine Fre.made_val (.int .i64 (m : Int)) (by kernel_rfl) (by kernel_rfl) (by kernel_rfl) (fun W9 hW9 => look_at ((H7.out.grow hW9).map_) hc HM.out.2 (.tmp 22) (.tmp 23) rfl rfl rfl) ?_
  simp only [Act.put, List.setIfInBounds_toArray, List.set_cons_zero, List.set_cons_succ]
  intro w8 hx8
  have H8 := hide (H7.out.grow hx8)
  clear hx8
  dsimp only [Fre.ended, List.drop]
  go_wp2_with fail
  refine (back_any w8 _ _ _ rfl rfl).mono ?_
  rintro e w9 ⟨rfl, hbt, hbf, hb9⟩
  dsimp only
  have H9 := hide (And.intro (H8.out.grow hb9) (And.intro hbt (And.intro hbf hb9)))
  clear hbt hbf hb9
  go_wp2_with fail
  obtain ⟨cf, hcf⟩ := elems_fun HE.out.1
  have hlen9 : ∀ j, j < l.length → (cf j).length = 23 := fun j hj => itmLay.len (hcf j _ (List.getElem?_eq_getElem hj)).2
  have hcs9 : ∀ j, j < l.length → w9.rangeAt b (off + j * 23) (cf j) := fun j hj => rangeAt_same (hcf j _ (List.getElem?_eq_getElem hj)).1 (H9.out.1.below.block b HE.out.2.1)
  have HCF := hide hcf
  have hmlen : l.length ≤ maxLen := by simp only [maxLen]; omega
  have hz9 : w8.heap.size + 1 < w9.heap.size := H9.out.2.2.1.lt
  have hzb : b < w9.heap.size := by have := H9.out.1.below.size; have := HE.out.2.1; omega
  have hz8 : w3.heap.size < w8.heap.size := H8.out.box.lt
  have hlo := H9.out.1.lo
  refine (wpIn_wide (n := 5)).1 ?_
  refine wpIn_rangeFunc_ownH (F := Fence.wide) (n := 5) (α := Nat) rfl (by omega) (gf := 61) (lb := #[.pointer (some ⟨w8.heap.size + 1, 0, none⟩), .pointer (some ⟨w8.heap.size, 0, none⟩)]) rfl trivial (enters_of Try.func61 (by kernel_rfl) rfl)
    (back_stops (S := fun k => k = w2.heap.size) 4 (by omega) (w8.heap.size + 1) w8.heap.size m l.length cap b off cf hml hmlen hlen9 w9 hzb hz9 (by omega) (by omega) (by omega) (by omega) (H9.out.2.2.1.cell 0) (H9.out.2.1.cell 1) hcs9) KeepsS.trans (KeepsS.putObj (Nat.le_refl _)) (Below.refl _ _) (fun _ => rfl)
    (fun pre W => NSt w mb b off cap l c w1.heap.size w2.heap.size w3.heap.size (pre.foldl (mkStep (l.map itP) m) ((List.replicate l.length false).set m true)) W) (fun _ _ _ => False) (fun pre X Y row hs hg hr => hs.own H9.out.1.below.size hg hr) (fun c pre X Y row hs hg hr => hs) H9.out.1
    (fun x a' W => ∃ Bx, Blk W Bx 43 (cf (m - x)).toArray ∧ a' = { tmps := #[.agg #[.map (some mb), .slice (some ⟨b, off, none⟩) l.length cap], .agg (bv c).toArray, .pointer (some ⟨w.heap.size, 0, none⟩), .pointer (some ⟨w1.heap.size, 0, none⟩), .slice none 0 0, .pointer (some ⟨w3.heap.size, 0, none⟩), .int .i64 ((m - x : Nat) : Int), .pointer (some ⟨Bx, 0, none⟩), undef, undef, .pointer (some ⟨w.heap.size, 1, none⟩), .slice (some ⟨b, off, none⟩) l.length cap, .int .i64 (l.length : Int), .slice (some ⟨w2.heap.size, 0, none⟩) l.length l.length, .slice (some ⟨w2.heap.size, 0, none⟩) l.length l.length, .pointer (some ⟨w.heap.size, 0, none⟩), .map (some mb), .agg (bv c).toArray, .int .i64 (m : Int), .pointer (some ⟨w2.heap.size, m, none⟩), .agg #[.map (some mb), .slice (some ⟨b, off, none⟩) l.length cap], .pointer (some ⟨w.heap.size, 0, none⟩), .map (some mb), .agg (bv c).toArray, .int .i64 (m : Int), .func (.func 61) #[] #[.pointer (some ⟨w8.heap.size + 1, 0, none⟩), .pointer (some ⟨w8.heap.size, 0, none⟩)], .int .i64 ((m - x : Nat) : Int), .agg (cf (m - x)).toArray, undef, undef, undef, undef, undef, undef, undef, undef, undef, undef, undef, undef, undef, undef, undef, undef, undef, undef, undef, undef, undef], defers := [] })
    (fun x a' _ X Y row hs hg hr => by obtain ⟨Bx, h2, h3⟩ := hs; exact ⟨Bx, blk_kept h2 hg (fun r e => (hr r e).2), h3⟩) ?assign ?body ?done ?stop
  case assign =>
    intro l0 pre x W K hi hK
    obtain ⟨n, hn⟩ : ∃ n, n = m - x := ⟨_, rfl⟩
    rw [← hn] at hK ⊢
    have hn2 : n < l.length := by omega
    have hsz9 := hlen9 n hn2
    have hszt2 : (Try.prog.info? 43).map (·.size) = some (cf n).toArray.size := by rw [List.size_toArray, hsz9]; kernel_rfl
    have hszzt : zcT.size = (cf n).toArray.size := by rw [show (cf n).toArray.size = 23 by rw [List.size_toArray]; exact hsz9]; kernel_rfl
    have hone9 : (cf n).toArray.all (·.oneCell') = true := all_oneCell_toArray (itmLay.one (HCF.out n _ (List.getElem?_eq_getElem hn2)).2)
    have HIW := hide hi
    have HHK := hide hK
    have HN := hide hn
    clear hi hK hsz9 hn hcs9
    dsimp only
    gi_wp2_with (refine list_in (fun h9 => (by obtain ⟨_, _, h9⟩ := h9; exact h9)) _ (by rfl) _ _ ?_; go_wp2_with (first | ((with_reducible refine at_slot 7 ?_); (refine wpList_newZ (o := ⟨some 7, _, _, _, _, _⟩) rfl 43 zcT (by kernel_rfl) ?_); intro wa hn; have HA1 := hide hn; clear hn; simp only [Act.put, List.setIfInBounds_toArray, List.set_cons_zero, List.set_cons_succ]) | ((with_reducible refine at_store 7 27 ?_); (with_reducible refine wpList_store_blkA (o := ⟨none, _, _, _, _, _⟩) rfl 43 (.tmp 7) (.tmp 27) rfl W.heap.size zcT (cf n).toArray 43 HA1.out.blk ?_ ?_ ?_ ?_ ?_ ?_); exact hszt2; exact hszzt; exact hone9; rfl; rfl; intro w7 hk7 hg7; have HB1 := hide (And.intro hk7 (HA1.out.below.grown hg7 (by have := HA1.out.size; omega) (fun b hb => (by have := Option.some.inj hb; omega)))); clear hk7 hg7; simp only [Act.put, List.setIfInBounds_toArray, List.set_cons_zero, List.set_cons_succ])))
    exact HHK.out _ _ (KeepsFrom.of_below9 HB1.out.2) (KeepsS.below HB1.out.2) (HIW.out.grow HB1.out.2) ⟨W.heap.size, HB1.out.1, rfl⟩
  case body =>
    rintro l0 pre x a' W hl0 _ hst ⟨Bx, hbx, rfl⟩ hlen2
    obtain ⟨n, hn⟩ : ∃ n, n = m - x := ⟨_, rfl⟩
    have hn2 : n < l.length := by omega
    have hnx : (pre ++ [x]).foldl (mkStep (l.map itP) m) ((List.replicate l.length false).set m true) = mkStep (l.map itP) m (pre.foldl (mkStep (l.map itP) m) ((List.replicate l.length false).set m true)) x := by rw [List.foldl_append]; rfl
    obtain ⟨mk, hmk⟩ : ∃ mk, mk = (pre.foldl (mkStep (l.map itP) m) ((List.replicate l.length false).set m true)) := ⟨_, rfl⟩
    rw [← hmk] at hst hnx
    rw [← hn] at hbx ⊢
    have hmlen2 : n < mk.length := by rw [hst.len]; exact hn2
    obtain ⟨y, hy⟩ : ∃ y, l[n]? = some y := ⟨_, List.getElem?_eq_getElem hn2⟩
    have hcfn := (HCF.out n y hy).2
    obtain ⟨q1, q2, hcfe, hyo, hyd⟩ := itmLay_at.1 hcfn
    rw [hcfe] at hbx ⊢
    have hybnd := hl y (List.mem_of_getElem? hy)
    have HX := hide (And.intro hbx (And.intro hyo (And.intro hyd (And.intro hy (And.intro hn hnx)))))
    have HST := hide hst
    clear hbx hyo hyd hy hn hnx hst hcfn hcfe hmk hcs9
    dsimp only
    cases hmn : mk[n]?.getD false
    · have hmn2 : mk[n]? = some false := by rw [List.getElem?_eq_getElem hmlen2] at hmn ⊢; exact congrArg some hmn
      have HMN := hide (bools_at HST.out.need hmn2)
      have hms : mkStep (l.map itP) m mk x = mk := by unfold mkStep; rw [← HX.out.2.2.2.2.1, hmn]; rfl
      have HMS := hide hms
      clear hmn hmn2 hms
      gi_wp2_with (refine list_in (fun h9 => (by obtain ⟨_, _, h9⟩ := h9; exact h9)) _ (by rfl) _ _ ?_; go_wp2_with (first | ((with_reducible refine at_slot 28 ?_); (refine wpList_value (o := ⟨some 28, _, _, _, _, _⟩) rfl (.slice (some ⟨w2.heap.size, 0, none⟩) l.length l.length) W (exec_load_cell (o := ⟨some 28, _, _, _, _, _⟩) 84 (.tmp 5) rfl ⟨w3.heap.size, 0, none⟩ rfl _ _ W Try.underlying84 rfl (show W.cell? ⟨w3.heap.size, 0, none⟩ = some (.slice (some ⟨w2.heap.size, 0, none⟩) l.length l.length) from HST.out.box.cell 0)) ?_)) | ((with_reducible refine at_slot 30 ?_); (refine wpList_value (o := ⟨some 30, _, _, _, _, _⟩) rfl (.pointer (some ⟨w2.heap.size, n, none⟩)) W (exec_idx1 84 4 (.tmp 28) (.tmp 29) rfl w2.heap.size l.length l.length n rfl rfl hn2 Try.underlying84 (by kernel_rfl) W) ?_)) | ((with_reducible refine at_slot 31 ?_); (refine wpList_value (o := ⟨some 31, _, _, _, _, _⟩) rfl (.bool false) W (exec_load_cell (o := ⟨some 31, _, _, _, _, _⟩) 4 (.tmp 30) rfl ⟨w2.heap.size, n, none⟩ rfl _ _ W Try.underlying4 rfl (show W.cell? ⟨w2.heap.size, n, none⟩ = some (.bool false) from HMN.out)) ?_))))
      refine ⟨KeepsFrom.refl _ _, KeepsS.refl _, ?_⟩
      show NSt w mb b off cap l c w1.heap.size w2.heap.size w3.heap.size _ W
      rw [HX.out.2.2.2.2.2, HMS.out]
      exact HST.out
    · have hmn2 : mk[n]? = some true := by rw [List.getElem?_eq_getElem hmlen2] at hmn ⊢; exact congrArg some hmn
      have HMN := hide (bools_at HST.out.need hmn2)
      have hms : mkStep (l.map itP) m mk x = Dr.mset (Dr.css (l.map itP)) (clsP y.2.2.1) mk := by unfold mkStep; rw [← HX.out.2.2.2.2.1, hmn, insAt_it HX.out.2.2.2.1]; rfl
      have HMS := hide hms
      clear hmn hmn2 hms
      have hyat : DrvAt W W.heap.size y.2 q1 q2 := HX.out.2.2.1.alike9 HST.out.below
      have hyd9 := hyat.okn
      gi_wp2_with (first | (refine list_in (fun h9 => (by obtain ⟨_, _, h9⟩ := h9; exact h9)) _ (by rfl) _ _ ?_; go_wp2_with (first | ((with_reducible refine at_slot 28 ?_); (refine wpList_value (o := ⟨some 28, _, _, _, _, _⟩) rfl (.slice (some ⟨w2.heap.size, 0, none⟩) l.length l.length) W (exec_load_cell (o := ⟨some 28, _, _, _, _, _⟩) 84 (.tmp 5) rfl ⟨w3.heap.size, 0, none⟩ rfl _ _ W Try.underlying84 rfl (show W.cell? ⟨w3.heap.size, 0, none⟩ = some (.slice (some ⟨w2.heap.size, 0, none⟩) l.length l.length) from HST.out.box.cell 0)) ?_)) | ((with_reducible refine at_slot 30 ?_); (refine wpList_value (o := ⟨some 30, _, _, _, _, _⟩) rfl (.pointer (some ⟨w2.heap.size, n, none⟩)) W (exec_idx1 84 4 (.tmp 28) (.tmp 29) rfl w2.heap.size l.length l.length n rfl rfl hn2 Try.underlying84 (by kernel_rfl) W) ?_)) | ((with_reducible refine at_slot 31 ?_); (refine wpList_value (o := ⟨some 31, _, _, _, _, _⟩) rfl (.bool true) W (exec_load_cell (o := ⟨some 31, _, _, _, _, _⟩) 4 (.tmp 30) rfl ⟨w2.heap.size, n, none⟩ rfl _ _ W Try.underlying4 rfl (show W.cell? ⟨w2.heap.size, n, none⟩ = some (.bool true) from HMN.out)) ?_)) | ((with_reducible refine at_slot 34 ?_); (refine wpList_value (o := ⟨some 34, _, _, _, _, _⟩) rfl (.agg (dC y.2 q1 q2).toArray) W (exec_load_mid (o := ⟨some 34, _, _, _, _, _⟩) 34 (.tmp 33) rfl Bx (20) rfl (dC y.2 q1 q2) _ W (item_drv HX.out.2.1 HX.out.1) Try.underlying34 rfl (by kernel_rfl)) ?_)) | ((go_at_call 34; refine (classes_any W y.2 q1 q2 hyat hybnd).mono ?_); rintro e wc ⟨uc, rfl, hoc, hbc⟩; have HC := hide (And.intro hoc hbc); clear hoc hbc; obtain ⟨Ac, cc, rfl⟩ := own_form9 HC.out.1; dsimp only))))
      obtain ⟨N, hN⟩ : ∃ N, N = (clsP y.2.2.1).length := ⟨_, rfl⟩
      rw [← hN] at HC ⊢
      have hcok := cls_ok hyd9
      have hN9 : (N : Int) ≤ 1000000 := by have := clsP_len y.2.2.1 y.2.2.1.length; rw [List.take_length] at this; omega
      have hins := ins_known HE.out.2.2 HX.out.2.2.2.1
      have HCO := hide (And.intro hcok (And.intro hN hins))
      clear hcok hN hins hyd9
      gi_loopw [37] (fun x37 wr => ∃ k : Nat, k ≤ N ∧ x37 = .int .i64 (k : Int) ∧ NSt w mb b off cap l c w1.heap.size w2.heap.size w3.heap.size (Dr.mset (Dr.css (l.map itP)) ((clsP y.2.2.1).take k) mk) wr ∧ OnlyT w2.heap.size W wr ∧ wr.ownsRow W.heap.size 27 20 (.slice Ac N cc) N ((clsP y.2.2.1).flatMap bv)) (fun x37 _ => N - (intOf x37).toNat)
      case atStart => exact ⟨0, by omega, rfl, HST.out.grow HC.out.2, OnlyT.of_below HC.out.2, HC.out.1⟩
      case round =>
        obtain ⟨wi, rfl⟩ : ∃ wi, wi = wr := ⟨_, rfl⟩
        obtain ⟨k, hk, rfl, hst, hot, hown⟩ := hrel
        have HI := hide (And.intro hst (And.intro hot hown))
        clear hst hot hown
        have k0 : (0 : Int) ≤ (k : Int) := by omega
        by_cases hk2 : k < N
        · have k1 : (k : Int) < (N : Int) := by omega
          obtain ⟨z, hz⟩ : ∃ z, (clsP y.2.2.1)[k]? = some z := ⟨_, List.getElem?_eq_getElem (by rw [← HCO.out.2.1]; exact hk2)⟩
          have hzo := HCO.out.1 z (List.mem_of_getElem? hz)
          obtain ⟨g5, cap5, he5⟩ := owned_placeN HI.out.2.2 (by omega)
          injection he5 with e51 _ e53
          subst e51 e53
          have hrz : wi.rangeAt g5 (k * 20) (bv z) := own_range HI.out.2.2 (k * 20) 20 _ (flat_hash HCO.out.1 hz)
          have HRZ := hide hrz
          have hszx2 := hszD hzo
          have hszx : (Try.prog.info? 27).map (·.size) = some (bv z).length := by simpa using hszx2
          have hszz : zcH.size = (bv z).toArray.size := by rw [show (bv z).toArray.size = 20 by rw [List.size_toArray, bvL]; exact hzo]; kernel_rfl
          have hone : (bv z).toArray.all (·.oneCell') = true := all_oneCell_toArray (bv1 z)
          have hzk := HCO.out.2.2 z (List.mem_of_getElem? hz)
          have hpz := posD_lt hzk
          have hgz := kmap_get HE.out.2.2 hzk
          obtain ⟨p, hp⟩ : ∃ p, p = posD (l.map itP) z := ⟨_, rfl⟩
          rw [List.length_map] at hpz
          rw [← hp] at hpz hgz
          have HZ := hide (And.intro hz (And.intro hzo (And.intro hp hgz)))
          clear hz hzo hp hgz hzk hrz
          gi_wp2_with (first | (refine list_in (fun h9 => (by obtain ⟨_, _, h9⟩ := h9; exact h9)) _ (by rfl) _ _ ?_; go_wp2_with (first | ((with_reducible refine at_slot 39 ?_); (refine wpList_value (o := ⟨some 39, _, _, _, _, _⟩) rfl (.pointer (some ⟨g5, k * 20, none⟩)) wi (exec_idx0 45 27 (.tmp 35) (.tmp 37) rfl g5 N cc k rfl rfl hk2 20 Try.underlying45 sz_hash wi) ?_)) | ((with_reducible refine at_slot 40 ?_); (refine wpList_value (o := ⟨some 40, _, _, _, _, _⟩) rfl (.agg (bv z).toArray) wi (exec_load_mid (o := ⟨some 40, _, _, _, _, _⟩) 27 (.tmp 39) rfl g5 (k * 20) rfl (bv z) _ wi HRZ.out Try.underlying27 rfl hszx) ?_)) | ((with_reducible refine at_slot 9 ?_); ((with_reducible refine wpList_box (o1 := ⟨some 9, _, _, _, _, _⟩) (o2 := ⟨none, _, _, _, _, _⟩) rfl rfl 27 (.tmp 9) (.tmp 40) ?_ zcH (bv z).toArray ?_ hszx2 ?_ hone ?_ ?_ ?_); rfl; kernel_rfl; exact hszz; rfl; rfl; intro wb hmm hbb; have HB := hide (And.intro hmm hbb); clear hmm hbb; simp only [Act.put, List.setIfInBounds_toArray, List.set_cons_zero, List.set_cons_succ])))))
          have HJ := hide (HI.out.1.grow HB.out.2)
          refine draws_in (by kernel_rfl) (fun h9 => (by obtain ⟨_, _, h9⟩ := h9; exact h9)) (by rfl) ?_
          refine Fre.wp_made_any (X := Bel) 6 [] (by kernel_rfl) (by kernel_rfl) (by simp) (by simp) (by simp) ?_
          simp only [List.take_succ_cons, List.take_zero, List.drop_succ_cons, List.drop_zero]
          refine Fre.made_val (.slice (some ⟨w2.heap.size, 0, none⟩) l.length l.length) (by kernel_rfl) (by kernel_rfl) (by kernel_rfl) (fun W9 hW9 => exec_load_cell (o := ⟨some 41, _, _, _, _, _⟩) 84 (.tmp 5) rfl ⟨w3.heap.size, 0, none⟩ rfl _ _ W9 Try.underlying84 rfl (((HJ.out.grow hW9).box).cell 0)) ?_
          simp only [Act.put, List.setIfInBounds_toArray, List.set_cons_zero, List.set_cons_succ]
          refine Fre.made_val (.pointer (some ⟨w.heap.size, 0, none⟩)) (by kernel_rfl) (by kernel_rfl) (by kernel_rfl) (fun _ _ => by kernel_rfl) ?_
          simp only [Act.put, List.setIfInBounds_toArray, List.set_cons_zero, List.set_cons_succ]
          refine Fre.made_val (.map (some mb)) (by kernel_rfl) (by kernel_rfl) (by kernel_rfl) (fun W9 hW9 => exec_load_cell (o := ⟨some 43, _, _, _, _, _⟩) 77 (.tmp 42) rfl ⟨w.heap.size, 0, none⟩ rfl _ _ W9 Try.underlying77 rfl (((HJ.out.grow hW9).tbl).cell 0)) ?_
          simp only [Act.put, List.setIfInBounds_toArray, List.set_cons_zero, List.set_cons_succ]
          refine Fre.made_val (.agg (bv z).toArray) (by kernel_rfl) (by kernel_rfl) (by kernel_rfl) (fun W9 hW9 => exec_load_blk (o := ⟨some 44, _, _, _, _, _⟩) 27 (.tmp 9) rfl wi.heap.size rfl 27 _ _ W9 (HB.out.1.below hW9 HB.out.1.lt) Try.underlying27 rfl hszx2) ?_
          simp only [Act.put, List.setIfInBounds_toArray, List.set_cons_zero, List.set_cons_succ]
          refine Fre.made_val (.int .i64 (p : Int)) (by kernel_rfl) (by kernel_rfl) (by kernel_rfl) (fun W9 hW9 => look_at ((HJ.out.grow hW9).map_) HZ.out.2.1 HZ.out.2.2.2 (.tmp 43) (.tmp 44) rfl rfl rfl) ?_
          simp only [Act.put, List.setIfInBounds_toArray, List.set_cons_zero, List.set_cons_succ]
          refine Fre.made_val (.pointer (some ⟨w2.heap.size, p, none⟩)) (by kernel_rfl) (by kernel_rfl) (by kernel_rfl) (fun W9 hW9 => exec_idx1 84 4 (.tmp 41) (.tmp 45) rfl w2.heap.size l.length l.length p rfl rfl hpz Try.underlying84 (by kernel_rfl) W9) ?_
          simp only [Act.put, List.setIfInBounds_toArray, List.set_cons_zero, List.set_cons_succ]
          intro wd hxd
          have HD := hide (And.intro (HJ.out.grow hxd) (HB.out.2.trans (Below.mono hxd HB.out.2.size)))
          clear hxd
          dsimp only [Fre.ended, List.drop]
          go_wp2_with ((with_reducible refine at_storeC 46 ?_); (refine wpList_store1 (o := ⟨none, _, _, _, _, _⟩) rfl 4 (.tmp 46) (.const (.bool true)) rfl w2.heap.size (p) 4 ((Dr.mset (Dr.css (l.map itP)) ((clsP y.2.2.1).take k) mk).map Value.bool).toArray HD.out.1.need (by have := HD.out.1.len; simp; omega) (by kernel_rfl) (.bool true) rfl rfl rfl ?_); intro we hk hg hz; have HE9 := hide (And.intro (HD.out.1.set p hk hg) (OnlyT.of_grown hg)); clear hk hg hz; simp only [Act.put, List.setIfInBounds_toArray, List.set_cons_zero, List.set_cons_succ])
          have hsn : (Dr.mset (Dr.css (l.map itP)) ((clsP y.2.2.1).take k) mk).set p true = Dr.mset (Dr.css (l.map itP)) ((clsP y.2.2.1).take (k + 1)) mk := by rw [List.take_add_one, HZ.out.1, HZ.out.2.2.1]; exact (mset_snoc _ _ _ _).symm
          have HSN := hide hsn
          clear hsn
          gi_wp2_with fail
          go_roundw
          case rel => exact ⟨k + 1, by omega, by go_num, by rw [← HSN.out]; exact HE9.out.1, (HI.out.2.1.trans (OnlyT.of_below HD.out.2)).trans HE9.out.2, owned_keepN (owned_keepN HI.out.2.2 fun g _ hl => HD.out.2.block g hl) fun g hg hl => HE9.out.2.same g hl (fun e => by have := (owned_ltN HI.out.2.2 hg).1; have := HST.out.need.lt; omega)⟩
          case measure => simp [intOf]; omega
        · obtain rfl : k = N := by omega
          gi_wp2_with fail
          refine ⟨HI.out.2.1.from HST.out.need, HI.out.2.1.keepsS, ?_⟩
          show NSt w mb b off cap l c w1.heap.size w2.heap.size w3.heap.size _ wi
          rw [HX.out.2.2.2.2.2, HMS.out]
          have h9 := HI.out.1
          rw [HCO.out.2.1, List.take_length] at h9
          exact h9
  case done =>
    rintro D ys W hD rfl hst hK
    have hst2 := hst
    rw [show (List.range (m + 1)).foldl (mkStep (l.map itP) m) ((List.replicate l.length false).set m true) = Dr.needP (l.map itP) m by rw [show l.length = (l.map itP).length by rw [List.length_map]]; exact mkFold_need _ _] at hst2
    have HW := hide hst2
    clear hst hst2
    go_wp2_with (first | go_step3 | ((with_reducible refine at_slot 48 ?_); (refine wpList_value (o := ⟨some 48, _, _, _, _, _⟩) rfl (.slice (some ⟨w2.heap.size, 0, none⟩) l.length l.length) W (exec_load_cell (o := ⟨some 48, _, _, _, _, _⟩) 84 (.tmp 5) rfl ⟨w3.heap.size, 0, none⟩ rfl _ _ W Try.underlying84 rfl (show W.cell? ⟨w3.heap.size, 0, none⟩ = some (.slice (some ⟨w2.heap.size, 0, none⟩) l.length l.length) from HW.out.box.cell 0)) ?_)))
    refine fin_tmpD rfl rfl hK ⟨w2.heap.size, rfl, (grownBy_putObj' W D (.deferred none)).block _ HW.out.need.lt (fun e => by have := Option.some.inj e; omega) |>.trans HW.out.need, by omega, HW.out.below.grown (grownBy_putObj' W D (.deferred none)) HW.out.below.size (fun k e => by have := Option.some.inj e; have := H9.out.1.below.size; omega)⟩
  case stop =>
    rintro D c' pre W hD _ hf
    exact hf.elim
end Go.Proofs.Ytidiepbmbbflhaa
end
section
namespace Go.Proofs.Ytidiepbmbbflhaa
open Go Go.RowKit Go.Maps
set_option maxRecDepth 100000
theorem itms_alike {w w' : World} {v : Value} {l : List Itm} (h : itmsLay.At w w.heap.size [v] l) (hb : Below w.heap.size w w') : itmsLay.At w' w'.heap.size [v] l :=
  itmsLay.widen (itmsLay.alike h fun b hb9 => hb.block b hb9) hb.size
theorem outA_snoc {H : Type} : ∀ (l : List H) (b : List Bool) (k : Nat) (x : H) (v : Bool), l[k]? = some x → b[k]? = some v → Dr.outA (l.take (k + 1)) (b.take (k + 1)) = Dr.outA (l.take k) (b.take k) ++ (if v = true then [x] else [])
  | y :: l, u :: b, 0, x, v, h1, h2 => by
    injection h1 with h1
    injection h2 with h2
    subst h1 h2
    cases u <;> rfl
  | y :: l, u :: b, k + 1, x, v, h1, h2 => by
    have ih := outA_snoc l b k x v (by simpa using h1) (by simpa using h2)
    show Dr.outA (y :: l.take (k + 1)) (u :: b.take (k + 1)) = Dr.outA (y :: l.take k) (u :: b.take k) ++ _
    cases u
    · exact ih
    · exact congrArg (y :: ·) ih
  | [], _, k, x, v, h1, _ => by simp at h1
  | _ :: _, [], k, x, v, _, h2 => by simp at h2
/-- the error of Needs; what it tells -/
def needsE (l : List Itm) (c : Hsh) : Int := if Dr.rightP (l.map itP) = true then (if (mget (kmap l) c).isSome = true then 0 else 5) else 2
def needsL (l : List Itm) (c : Hsh) : List Hsh := if Dr.rightP (l.map itP) = true then (if (mget (kmap l) c).isSome = true then Dr.needsP (l.map itP) c else []) else []
theorem known_mem {l : List Itm} {c : Hsh} (h : (mget (kmap l) c).isSome = true) : c ∈ Dr.css (l.map itP) := by rw [← kmap_keys]; exact mem_keys.2 h
theorem known_not {l : List Itm} {c : Hsh} (h : (mget (kmap l) c).isSome = false) : c ∉ Dr.css (l.map itP) := fun hm => by
  rw [← kmap_keys] at hm
  rw [mem_keys.1 hm] at h
  cases h
theorem needsP_eq {l : List (Dr.It Hsh)} {c : Hsh} : Dr.needsP l c = Dr.outA (Dr.css l) (Dr.needP l (posD l c)) := rfl
theorem css_at {l : List Itm} {k : Nat} {x : Itm} (h : l[k]? = some x) : (Dr.css (l.map itP))[k]? = some x.1 := by
  unfold Dr.css
  rw [List.getElem?_map, List.getElem?_map, h]
  rfl
theorem css_len (l : List Itm) : (Dr.css (l.map itP)).length = l.length := by simp [Dr.css]
theorem right_any (w : World) (l : List Itm) (A : Option Addr) (cap : Nat) (h : itmsLay.At w w.heap.size [.slice A l.length cap] l) (hl : ∀ x ∈ l, x.2.2.1.length ≤ 1000000) :
    Calls Try.prog 24 #[.slice A l.length cap] w fun e w' => e = .returned (.bool (Dr.rightP (l.map itP))) ∧ Below w.heap.size w w' := by
  go_enter Try.func24, Try.ntmps24
  go_wp2_with fail
  refine (tabOf_any w l A cap h hl).mono ?_
  rintro e w2 ⟨mb, rfl, _, hb⟩
  dsimp only
  have H2 := hide hb
  clear hb
  go_wp2_with (first | ((with_reducible refine at_slot 3 ?_); (refine wpList_newZ (o := ⟨some 3, _, _, _, _, _⟩) rfl 79 #[.map none, .slice none 0 0] (by kernel_rfl) ?_); intro w3 hn; have H3 := hide hn; clear hn; simp only [Act.put, List.setIfInBounds_toArray, List.set_cons_zero, List.set_cons_succ]) | ((with_reducible refine at_store 3 8 ?_); (with_reducible refine wpList_store_blkA (o := ⟨none, _, _, _, _, _⟩) rfl 79 (.tmp 3) (.tmp 8) rfl w2.heap.size #[.map none, .slice none 0 0] #[.map (some mb), .slice A l.length cap] 79 H3.out.blk ?_ ?_ ?_ ?_ ?_ ?_); kernel_rfl; rfl; kernel_rfl; rfl; rfl; intro w4 hk4 hg4; have H4 := hide (H2.out.trans (Below.mono (H3.out.below.grown hg4 (by have := H3.out.size; omega) (fun b hb => (by have := Option.some.inj hb; omega))) H2.out.size)); clear hk4 hg4; simp only [Act.put, List.setIfInBounds_toArray, List.set_cons_zero, List.set_cons_succ]))
  go_ret
  exact ⟨rfl, H4.out⟩
theorem outA_le {H : Type} : ∀ (l : List H) (b : List Bool) (j : Nat), (Dr.outA (l.take j) (b.take j)).length ≤ j
  | _, _, 0 => by simp [Dr.outA]
  | [], _, j + 1 => by simp [Dr.outA]
  | x :: l, [], j + 1 => by simp [Dr.outA]
  | x :: l, true :: b, j + 1 => by
    have := outA_le l b j
    show (x :: Dr.outA (l.take j) (b.take j)).length ≤ _
    rw [List.length_cons]
    omega
  | x :: l, false :: b, j + 1 => by
    have := outA_le l b j
    show (Dr.outA (l.take j) (b.take j)).length ≤ _
    omega
theorem item_cls9 {x : Itm} {v1 v2 : Value} {w : World} {b o : Nat} (h : w.rangeAt b o (tC x v1 v2)) : w.rangeAt b o (bv x.1) := rangeAt_left (c2 := dC x.2 v1 v2) (by simpa [tC] using h)
set_option maxHeartbeats 8000000 in
theorem needs_any (w : World) (l : List Itm) (A : Option Addr) (cap : Nat) (h : itmsLay.At w w.heap.size [.slice A l.length cap] l) (hl : ∀ x ∈ l, x.2.2.1.length ≤ 1000000) (hlen : l.length ≤ 1000000) (c : Hsh) (hc : okH c) :
    Calls Try.prog 29 #[.slice A l.length cap, .agg (bv c).toArray] w fun e w' => ∃ u, e = .returned (.tuple #[u, .int .i64 (needsE l c)]) ∧ w'.ownsRow w.heap.size 27 20 u (needsL l c).length ((needsL l c).flatMap bv) ∧ Below w.heap.size w w' := by
  obtain ⟨ih, hih, hq0, hq1, hq2⟩ := info_parts info_hashI
  have HJ := hide (And.intro hih (And.intro hq0 (And.intro hq1 hq2)))
  clear hih hq0 hq1 hq2
  obtain ⟨A', cap', e, hcl, hcm9, _, hA⟩ := slice_open h
  injection e with e1 e2 e3
  subst e1 e3
  have k9 : (l.length : Int) ≤ 9223372036854775807 := by omega
  have hszc := hszD hc
  have HA := hide hA
  clear hA hcl hcm9 e2
  go_enter Try.func29, Try.ntmps29
  go_wp2_with (first | ((with_reducible refine at_slot 3 ?_); (refine wpList_boxA (o := ⟨some 3, _, _, _, _, _⟩) rfl 27 (.tmp 1) rfl (bv c).toArray rfl ?_); intro w1 hn; have H1 := hide hn; clear hn; simp only [Act.put, List.setIfInBounds_toArray, List.set_cons_zero, List.set_cons_succ]))
  refine (tabOf_any w1 l A cap (itms_alike h H1.out.below) hl).mono ?_
  rintro e w2 ⟨mb, rfl, hmap, hb⟩
  dsimp only
  have H2 := hide (And.intro (H1.out.blk.below hb H1.out.blk.lt) (And.intro (H1.out.below.trans (Below.mono hb H1.out.below.size)) hmap))
  clear hb hmap
  cases hR : Dr.rightP (l.map itP)
  · have HE : Hid (needsE l c = 2 ∧ needsL l c = []) := hide (by unfold needsE needsL; rw [hR]; exact ⟨rfl, rfl⟩)
    clear hR
    go_wp2_with (first | ((with_reducible refine at_slot 6 ?_); (refine wpList_newZ (o := ⟨some 6, _, _, _, _, _⟩) rfl 79 #[.map none, .slice none 0 0] (by kernel_rfl) ?_); intro w3 hn; have H3 := hide hn; clear hn; simp only [Act.put, List.setIfInBounds_toArray, List.set_cons_zero, List.set_cons_succ]) | ((with_reducible refine at_store 6 13 ?_); (with_reducible refine wpList_store_blkA (o := ⟨none, _, _, _, _, _⟩) rfl 79 (.tmp 6) (.tmp 13) rfl w2.heap.size #[.map none, .slice none 0 0] #[.map (some mb), .slice A l.length cap] 79 H3.out.blk ?_ ?_ ?_ ?_ ?_ ?_); kernel_rfl; rfl; kernel_rfl; rfl; rfl; intro w4 hk4 hg4; have h24 := H3.out.below.grown hg4 (by have := H3.out.size; omega) (fun b hb => (by have := Option.some.inj hb; omega)); have H4 := hide (And.intro hk4 (And.intro (H2.out.1.below h24 H2.out.1.lt) (And.intro (H2.out.2.1.trans (Below.mono h24 H2.out.2.1.size)) h24))); clear hk4 hg4 h24; simp only [Act.put, List.setIfInBounds_toArray, List.set_cons_zero, List.set_cons_succ]))
    refine bodyPost_ret (v := .tuple #[.slice none 0 0, .int .i64 2]) (by simp [results, Try.results29, go_sem]) rfl ?_
    refine ⟨_, by rw [HE.out.1], ?_, H4.out.2.2.1⟩
    rw [HE.out.2]
    exact World.ownsRow_nil _ _ _ _
  · have HRT := hide hR
    have hmk := (H2.out.2.2 hR).2
    have HMK := hide hmk
    clear hR hmk
    have hhc := hc
    go_wp2_with (first | ((with_reducible refine at_slot 6 ?_); (refine wpList_newZ (o := ⟨some 6, _, _, _, _, _⟩) rfl 79 #[.map none, .slice none 0 0] (by kernel_rfl) ?_); intro w3 hn; have H3 := hide hn; clear hn; simp only [Act.put, List.setIfInBounds_toArray, List.set_cons_zero, List.set_cons_succ]) | ((with_reducible refine at_store 6 13 ?_); (with_reducible refine wpList_store_blkA (o := ⟨none, _, _, _, _, _⟩) rfl 79 (.tmp 6) (.tmp 13) rfl w2.heap.size #[.map none, .slice none 0 0] #[.map (some mb), .slice A l.length cap] 79 H3.out.blk ?_ ?_ ?_ ?_ ?_ ?_); kernel_rfl; rfl; kernel_rfl; rfl; rfl; intro w4 hk4 hg4; have h24 := H3.out.below.grown hg4 (by have := H3.out.size; omega) (fun b hb => (by have := Option.some.inj hb; omega)); have H4 := hide (And.intro hk4 (And.intro (H2.out.1.below h24 H2.out.1.lt) (And.intro (H2.out.2.1.trans (Below.mono h24 H2.out.2.1.size)) h24))); clear hk4 hg4 h24; simp only [Act.put, List.setIfInBounds_toArray, List.set_cons_zero, List.set_cons_succ]) | ((with_reducible refine at_slot 18 ?_); (refine wpList_value (o := ⟨some 18, _, _, _, _, _⟩) rfl (.map (some mb)) w4 (exec_load_cell (o := ⟨some 18, _, _, _, _, _⟩) 77 (.tmp 17) rfl ⟨w2.heap.size, 0, none⟩ rfl _ _ w4 Try.underlying77 rfl (show w4.cell? ⟨w2.heap.size, 0, none⟩ = some (.map (some mb)) from H4.out.1.cell 0)) ?_)) | ((with_reducible refine at_slot 19 ?_); (refine wpList_value (o := ⟨some 19, _, _, _, _, _⟩) rfl (.agg ((bv c).toArray)) w4 (exec_load_blk (o := ⟨some 19, _, _, _, _, _⟩) 27 (.tmp 3) rfl w.heap.size rfl 27 _ _ w4 H4.out.2.1 Try.underlying27 rfl hszc) ?_)) | ((with_reducible refine at_slot 20 ?_); (refine wpList_row1 (o := ⟨some 20, _, _, _, _, _⟩) rfl 45 (.tmp 19) rfl 27 20 (.agg zcH) (.agg (bv c).toArray) rfl Try.underlying45 sz_hash (by decide) (by decide) (fun w => by kernel_rfl) (by rw [Value.cells, List.size_toArray, bvL]; exact hhc) ?_); intro w5 hn; have H5 := hide hn; clear hn; simp only [Act.put, List.setIfInBounds_toArray, List.set_cons_zero, List.set_cons_succ]))
    have hm5 : MapIs hV okH evN w5 mb (kmap l) := HMK.out.below (H4.out.2.2.2.trans (Below.mono H5.out.below H4.out.2.2.2.size)) HMK.out.lt
    have hone5 : OneH c (.slice (some ⟨w4.heap.size, 0, none⟩) 1 1) w5 := ⟨_, rfl, H5.out.blk⟩
    have hat5 := hone5.at_ hc
    have HM5 := hide hm5
    clear hm5 hone5
    refine (all_any w5 mb (kmap l) HM5.out [c] _ hat5).mono ?_
    rintro e w6 ⟨rfl, hb⟩
    rw [all_one]
    dsimp only
    have h46 := H5.out.below.trans (Below.mono hb H5.out.below.size)
    have H6 := hide (And.intro (H4.out.1.below h46 H4.out.1.lt) (And.intro (H4.out.2.1.below h46 H4.out.2.1.lt) (And.intro (H4.out.2.2.1.trans (Below.mono h46 H4.out.2.2.1.size)) (HM5.out.below hb HM5.out.lt))))
    clear hb h46 hat5
    cases hK : (mget (kmap l) c).isSome
    · have HE : Hid (needsE l c = 5 ∧ needsL l c = []) := hide (by unfold needsE needsL; rw [HRT.out, hK]; exact ⟨rfl, rfl⟩)
      clear hK
      go_wp2_with fail
      refine bodyPost_ret (v := .tuple #[.slice none 0 0, .int .i64 5]) (by simp [results, Try.results29, go_sem]) rfl ?_
      refine ⟨_, by rw [HE.out.1], ?_, H6.out.2.2.1⟩
      rw [HE.out.2]
      exact World.ownsRow_nil _ _ _ _
    · have HE : Hid (needsE l c = 0 ∧ needsL l c = Dr.needsP (l.map itP) c) := hide (by unfold needsE needsL; rw [HRT.out, hK]; exact ⟨rfl, rfl⟩)
      have HCM := hide (known_mem hK)
      clear hK
      go_wp2_with (first | ((with_reducible refine at_slot 23 ?_); (refine wpList_value (o := ⟨some 23, _, _, _, _, _⟩) rfl (.agg (#[.map (some mb), .slice A l.length cap])) w6 (exec_load_blk (o := ⟨some 23, _, _, _, _, _⟩) 79 (.tmp 6) rfl w2.heap.size rfl 79 _ _ w6 H6.out.1 Try.underlying79 rfl (by kernel_rfl)) ?_)) | ((with_reducible refine at_slot 24 ?_); (refine wpList_value (o := ⟨some 24, _, _, _, _, _⟩) rfl (.agg ((bv c).toArray)) w6 (exec_load_blk (o := ⟨some 24, _, _, _, _, _⟩) 27 (.tmp 3) rfl w.heap.size rfl 27 _ _ w6 H6.out.2.1 Try.underlying27 rfl hszc) ?_)))
      refine (needed_any w6 l mb A cap (itms_alike h H6.out.2.2.1) hl hlen ((Dr.rightP_iff _).1 HRT.out) H6.out.2.2.2 c hc HCM.out).mono ?_
      rintro e w7 ⟨gn, rfl, hkn, hgn, hb⟩
      dsimp only
      have hnl : (Dr.needP (l.map itP) (posD (l.map itP) c)).length = l.length := by rw [Dr.needP_len, List.length_map]
      have H7 := hide (And.intro hkn (And.intro (H6.out.2.2.1.trans (Below.mono hb H6.out.2.2.1.size)) (Nat.le_trans H6.out.2.2.1.size hgn)))
      have HNL := hide hnl
      clear hkn hgn hb hnl
      go_wp2_with fail
      go_loopw [4, 27] (fun x4 x27 wr => ∃ (j : Nat) (u : Value), j ≤ l.length ∧ u = x4 ∧ x27 = .int .i64 (j : Int) ∧ Blk wr gn 4 ((Dr.needP (l.map itP) (posD (l.map itP) c)).map Value.bool).toArray ∧ wr.ownsRow w.heap.size 27 20 u (Dr.outA ((Dr.css (l.map itP)).take j) ((Dr.needP (l.map itP) (posD (l.map itP) c)).take j)).length ((Dr.outA ((Dr.css (l.map itP)).take j) ((Dr.needP (l.map itP) (posD (l.map itP) c)).take j)).flatMap bv) ∧ Below w.heap.size w wr) (fun _ x27 _ => l.length - (intOf x27).toNat)
      case atStart => exact ⟨0, _, by omega, rfl, rfl, H7.out.1, World.ownsRow_nil _ _ _ _, H7.out.2.1⟩
      case round =>
        obtain ⟨wo, rfl⟩ : ∃ wo, wo = wr := ⟨_, rfl⟩
        obtain ⟨j, x4, hj, rfl, rfl, hk, hown, hbw⟩ := hrel
        have HI := hide (And.intro hk (And.intro hown hbw))
        clear hk hown hbw
        have j0 : (0 : Int) ≤ (j : Int) := by omega
        by_cases hj2 : j < l.length
        · have j1 : (j : Int) < (l.length : Int) := by omega
          obtain ⟨x, hx⟩ : ∃ x, l[j]? = some x := ⟨_, List.getElem?_eq_getElem hj2⟩
          obtain ⟨b, off, rfl, hlb, hE⟩ := HA.out (by omega)
          obtain ⟨cs, hr, hatx⟩ := hE j x hx
          obtain ⟨q1, q2, rfl, hxo, hxd⟩ := itmLay_at.1 hatx
          obtain ⟨B1, k1, rfl, _⟩ := slice_open hxd.ins
          obtain ⟨B2, k2, rfl, _⟩ := slice_open hxd.rcp
          obtain ⟨q1, hq1⟩ : ∃ q1, q1 = Value.slice B1 x.2.2.1.length k1 := ⟨_, rfl⟩
          obtain ⟨q2, hq2⟩ : ∃ q2, q2 = Value.slice B2 x.2.2.2.length k2 := ⟨_, rfl⟩
          have hone1 : q1.oneCell' = true ∧ q2.oneCell' = true := by rw [hq1, hq2]; exact ⟨rfl, rfl⟩
          rw [← hq1, ← hq2] at hr hatx
          rw [← hq1, ← hq2] at hxd
          have hbnd := hl x (List.mem_of_getElem? hx)
          have HX := hide (And.intro (rangeAt_same hr (HI.out.2.2.block b (by omega))) (And.intro hxo hxd))
          have HXX := hide hx
          have hszt2 : (Try.prog.info? 43).map (·.size) = some (tC x q1 q2).toArray.size := by rw [show (tC x q1 q2).toArray.size = 23 by rw [List.size_toArray]; exact tC_len hxo]; kernel_rfl
          have hszt : (Try.prog.info? 43).map (·.size) = some (tC x q1 q2).length := by simpa using hszt2
          have hszzt : zcT.size = (tC x q1 q2).toArray.size := by rw [show (tC x q1 q2).toArray.size = 23 by rw [List.size_toArray]; exact tC_len hxo]; kernel_rfl
          have honet : (tC x q1 q2).toArray.all (·.oneCell') = true := all_oneCell_toArray (tC_one x hone1.1 hone1.2)
          have hszx : (Try.prog.info? 27).map (·.size) = some (bv x.1).length := by have := hszD hxo; simpa using this
          have hszx2 := hszD hxo
          clear hx hE hr hatx hxd hq1 hq2
          have hhc := hxo
          obtain ⟨v, hv⟩ : ∃ v, (Dr.needP (l.map itP) (posD (l.map itP) c))[j]? = some v := ⟨_, List.getElem?_eq_getElem (by rw [HNL.out]; exact hj2)⟩
          have hsn := outA_snoc _ _ j x.1 v (css_at HXX.out) hv
          have hcv := bools_at HI.out.1 hv
          have HSN := hide hsn
          have HCV := hide hcv
          have hol : (Dr.outA ((Dr.css (l.map itP)).take j) ((Dr.needP (l.map itP) (posD (l.map itP) c)).take j)).length ≤ j := outA_le _ _ j
          clear hsn hcv hv
          cases v
          · go_wp2_with (first | ((with_reducible refine at_slot 30 ?_); (refine wpList_value (o := ⟨some 30, _, _, _, _, _⟩) rfl (.pointer (some ⟨gn, j, none⟩)) wo (exec_idx1 84 4 (.tmp 25) (.tmp 27) rfl gn l.length l.length j rfl rfl hj2 Try.underlying84 (by kernel_rfl) wo) ?_)) | ((with_reducible refine at_slot 31 ?_); (refine wpList_value (o := ⟨some 31, _, _, _, _, _⟩) rfl (.bool false) wo (exec_load_cell (o := ⟨some 31, _, _, _, _, _⟩) 4 (.tmp 30) rfl ⟨gn, j, none⟩ rfl _ _ wo Try.underlying4 rfl (show wo.cell? ⟨gn, j, none⟩ = some (.bool false) from HCV.out)) ?_)))
            go_roundw
            case rel => exact ⟨j + 1, x4, by omega, rfl, by go_num, HI.out.1, by rw [HSN.out]; simpa using HI.out.2.1, HI.out.2.2⟩
            case measure => simp [intOf]; omega
          · go_wp2_with (first | ((with_reducible refine at_slot 30 ?_); (refine wpList_value (o := ⟨some 30, _, _, _, _, _⟩) rfl (.pointer (some ⟨gn, j, none⟩)) wo (exec_idx1 84 4 (.tmp 25) (.tmp 27) rfl gn l.length l.length j rfl rfl hj2 Try.underlying84 (by kernel_rfl) wo) ?_)) | ((with_reducible refine at_slot 31 ?_); (refine wpList_value (o := ⟨some 31, _, _, _, _, _⟩) rfl (.bool true) wo (exec_load_cell (o := ⟨some 31, _, _, _, _, _⟩) 4 (.tmp 30) rfl ⟨gn, j, none⟩ rfl _ _ wo Try.underlying4 rfl (show wo.cell? ⟨gn, j, none⟩ = some (.bool true) from HCV.out)) ?_)) | ((with_reducible refine at_slot 36 ?_); (refine wpList_value (o := ⟨some 36, _, _, _, _, _⟩) rfl (.pointer (some ⟨b, off + (j : Int).toNat * 23, none⟩)) wo (exec_index_off (o := ⟨some 36, _, _, _, _, _⟩) 25 43 (.tmp 34) (.tmp 35) rfl b off l.length cap (j : Int) .i64 rfl rfl ⟨j0, j1⟩ 23 Try.underlying25 sz_itm wo) ?_; rw [show off + (j : Int).toNat * 23 = off + j * 23 by omega])) | ((with_reducible refine at_slot 38 ?_); (refine wpList_value (o := ⟨some 38, _, _, _, _, _⟩) rfl (.agg (bv x.1).toArray) wo (exec_load_mid (o := ⟨some 38, _, _, _, _, _⟩) 27 (.tmp 37) rfl b (off + j * 23) rfl (bv x.1) _ wo (item_cls9 HX.out.1) Try.underlying27 rfl hszx) ?_)) | ((with_reducible refine at_slot 39 ?_); (refine wpList_row1 (o := ⟨some 39, _, _, _, _, _⟩) rfl 45 (.tmp 38) rfl 27 20 (.agg zcH) (.agg (bv x.1).toArray) rfl Try.underlying45 sz_hash (by decide) (by decide) (fun w => by kernel_rfl) (by rw [Value.cells, List.size_toArray, bvL]; exact hhc) ?_); intro w8 hn; have H8 := hide hn; have h8 := hide (And.intro (hn.src (cs := bv x.1) (n := 20) (by rw [bvL]; exact hxo) (bv1 x.1)) (owned_keepN HI.out.2.1 fun g _ hl9 => hn.below.block g hl9)); clear hn; simp only [Act.put, List.setIfInBounds_toArray, List.set_cons_zero, List.set_cons_succ]) | (at_builtin; ((with_reducible refine at_slot 40 ?_); refine wpList_appS (o := ⟨some 40, _, _, _, _, _⟩) rfl _ _ 45 rfl w.heap.size 27 ih _ 20 20 Try.underlying45 HJ.out.1 HJ.out.2.1 HJ.out.2.2.1 HJ.out.2.2.2 rfl (by decide) _ ((Dr.outA ((Dr.css (l.map itP)).take j) ((Dr.needP (l.map itP) (posD (l.map itP) c)).take j)).length) ((Dr.outA ((Dr.css (l.map itP)).take j) ((Dr.needP (l.map itP) (posD (l.map itP) c)).take j)).flatMap bv) h8.out.2 (some ⟨wo.heap.size, 0, none⟩) 1 1 (bv x.1) h8.out.1 ?hm1 ?hb1 ?hz1 rfl rfl ?_)))
            case hm1 => simp only [maxLen]; omega
            case hb1 => omega
            case hz1 => have := HI.out.2.2.size; have := H8.out.below.size; omega
            intro u9 w9 own9 gr9 _
            have h9 : w9.ownsRow w.heap.size 27 20 u9 (Dr.outA ((Dr.css (l.map itP)).take (j + 1)) ((Dr.needP (l.map itP) (posD (l.map itP) c)).take (j + 1))).length ((Dr.outA ((Dr.css (l.map itP)).take (j + 1)) ((Dr.needP (l.map itP) (posD (l.map itP) c)).take (j + 1))).flatMap bv) := by rw [HSN.out]; simpa using own9
            have hkb : Blk w9 gn 4 ((Dr.needP (l.map itP) (posD (l.map itP) c)).map Value.bool).toArray := (gr9.block _ (by have := HI.out.1.lt; have := H8.out.below.size; omega) (fun e => owned_neN h8.out.2 (HI.out.1.below H8.out.below HI.out.1.lt) (by decide) e.symm)).trans (HI.out.1.below H8.out.below HI.out.1.lt)
            have hb9 : Below w.heap.size w w9 := (HI.out.2.2.trans (Below.mono H8.out.below HI.out.2.2.size)).grown gr9 (by have := HI.out.2.2.size; have := H8.out.below.size; omega) (fun k hk => (owned_ltN h8.out.2 hk).1)
            have H9 := hide (And.intro hkb (And.intro h9 hb9))
            clear own9 gr9 h9 hkb hb9
            go_wp2_with fail
            go_roundw
            case rel => exact ⟨j + 1, u9, by omega, rfl, by go_num, H9.out.1, H9.out.2.1, H9.out.2.2⟩
            case measure => simp [intOf]; omega
        · obtain rfl : j = l.length := by omega
          have ho := HI.out.2.1
          rw [List.take_of_length_le (by rw [css_len]; exact Nat.le_refl _), List.take_of_length_le (by rw [HNL.out]; exact Nat.le_refl _), ← needsP_eq] at ho
          have HO := hide ho
          clear ho
          obtain ⟨u9, hu9⟩ : ∃ u9, u9 = x4 := ⟨_, rfl⟩
          go_wp2_with fail
          refine bodyPost_ret (v := .tuple #[x4, .int .i64 0]) (by simp [results, Try.results29, go_sem]) rfl ?_
          refine ⟨_, by rw [HE.out.1], ?_, HI.out.2.2⟩
          rw [HE.out.2]
          exact HO.out
end Go.Proofs.Ytidiepbmbbflhaa
end
section
namespace Go.Proofs.Ytidiepbmbbflhaa
open Go Go.RowKit Go.Maps
set_option maxRecDepth 100000
def depthR (l : List Itm) (c : Hsh) : Nat := if Dr.rightP (l.map itP) = true then (if (mget (kmap l) c).isSome = true then Dr.depthP (l.map itP) c else 0) else 0
theorem maxOf_snoc (l : List Nat) (x : Nat) : Dr.maxOf (l ++ [x]) = max (Dr.maxOf l) x := by
  unfold Dr.maxOf
  rw [List.foldl_append]
  rfl
theorem maxOf_le {l : List Nat} {b : Nat} (h : ∀ x ∈ l, x ≤ b) : Dr.maxOf l ≤ b := by
  unfold Dr.maxOf
  have key : ∀ (l : List Nat) (a : Nat), a ≤ b → (∀ x ∈ l, x ≤ b) → l.foldl max a ≤ b := by
    intro l
    induction l with
    | nil => intro a ha _; exact ha
    | cons x l ih =>
      intro a ha hx
      exact ih _ (Nat.max_le.2 ⟨ha, hx x (List.mem_cons_self ..)⟩) fun y hy => hx y (List.mem_cons_of_mem _ hy)
  exact key l 0 (Nat.zero_le _) h
theorem depF_snoc {H : Type} [DecidableEq H] (l : List (Dr.It H)) (x : Dr.It H) (h : H) : Dr.depF (l ++ [x]) (fun _ => 0) h = if h = x.cls then Dr.maxOf (x.ins.map (Dr.depF l fun _ => 0)) + 1 else Dr.depF l (fun _ => 0) h := by
  rw [Dr.depF_app]
  rfl
/-- the depths of the first ones, in a map -/
def DepOk (l : List Itm) (j : Nat) (dm : List (Hsh × Nat)) : Prop := ∀ h, (mget dm h).getD 0 = Dr.depF ((l.take j).map itP) (fun _ => 0) h ∧ (mget dm h).getD 0 ≤ j
theorem dep_zero (l : List Itm) : DepOk l 0 [] := fun h => ⟨rfl, Nat.le_refl _⟩
theorem dep_step {l : List Itm} {j : Nat} {dm : List (Hsh × Nat)} {x : Itm} (h : DepOk l j dm) (hx : l[j]? = some x) : DepOk l (j + 1) (mput dm x.1 (Dr.maxOf ((clsP x.2.2.1).map fun c => (mget dm c).getD 0) + 1)) := fun c => by
  have e : (l.take (j + 1)).map itP = (l.take j).map itP ++ [itP x] := by rw [List.take_add_one, hx]; simp
  have em : ((clsP x.2.2.1).map fun c => (mget dm c).getD 0) = (clsP x.2.2.1).map (Dr.depF ((l.take j).map itP) fun _ => 0) := List.map_congr_left fun d _ => (h d).1
  rw [mget_mput, e, depF_snoc]
  by_cases hc : c = x.1
  · rw [if_pos hc, if_pos (show c = (itP x).cls from hc), em]
    refine ⟨rfl, ?_⟩
    show Dr.maxOf _ + 1 ≤ j + 1
    have : Dr.maxOf ((clsP x.2.2.1).map (Dr.depF ((l.take j).map itP) fun _ => 0)) ≤ j := maxOf_le fun y hy => by
      obtain ⟨d, _, rfl⟩ := List.mem_map.1 hy
      rw [← (h d).1]
      exact (h d).2
    omega
  · rw [if_neg hc, if_neg (show ¬ c = (itP x).cls from hc)]
    exact ⟨(h c).1, Nat.le_trans (h c).2 (Nat.le_succ _)⟩
theorem dep_max {l : List Itm} {j : Nat} {dm : List (Hsh × Nat)} (h : DepOk l j dm) (ks : List Hsh) : Dr.maxOf (ks.map fun c => (mget dm c).getD 0) ≤ j := maxOf_le fun y hy => by
  obtain ⟨d, _, rfl⟩ := List.mem_map.1 hy
  exact (h d).2
theorem depthP_eq {l : List Itm} {c : Hsh} : Dr.depthP (l.map itP) c = Dr.depF ((l.take (posD (l.map itP) c + 1)).map itP) (fun _ => 0) c := by
  rw [List.map_take]
  rfl
def evD (n : Nat) : Value := .int .i64 (n : Int)
theorem look_dep {w : World} {mb : Nat} {m : List (Hsh × Nat)} (hm : MapIs hV okH evN w mb m) {c : Hsh} (hc : okH c) {ρ : Operand → Value} {o : Oper} (x y : Operand) (ho : o.op = .lookup 61 x y false) (hx : ρ x = .map (some mb)) (hy : ρ y = .agg (bv c).toArray) :
    (execOp ρ o).run Try.prog w = .ok (.value (.int .i64 (((mget m c).getD 0 : Nat) : Int))) w := by
  have h := exec_lookup (P := Try.prog) (o := o) (ρ := ρ) 61 x y false ho (.map (some mb)) (.agg (bv c).toArray) _ hx hy (hm.look hash_enc hc Try.underlying61 (z_int w))
  have e : ((mget m c).map evN).getD (.int .i64 0) = .int .i64 (((mget m c).getD 0 : Nat) : Int) := by cases mget m c <;> rfl
  rw [e] at h
  exact h
theorem wpList_row1_w {P : Program} {ops : Array Oper} {rest : List Oper} {o : Oper} {a : Act} {w : World} {Q : Exit → Act → World → Prop} (hw : Region.wanted o (yielded ops a.tmps) = true) (t : TypeId) (x : Operand) (ho : o.op = .buildSlice t 1 #[(0, x)]) (e n : Nat) (z v : Value) (hx : a.eval x = v) (ht : P.underlying t = some (.slice e)) (hs : (P.info? e).map (·.size) = some n) (hn : 0 < n) (h24 : n ≤ 16777216) (hz : ∀ w, (zeroValue e).run P w = .ok z w) (hv : v.cells.size = n)
    (h : ∀ w', New1 w w' e v.cells → wpList P ops Q rest (a.put o.dst (.slice (some ⟨w.heap.size, 0, none⟩) 1 1)) w') : wpList P ops Q (o :: rest) a w :=
  wpList_value_w hw _ _ (exec_buildSliceP t x ho hx ht hs hn h24 hz hv w) (h _ (new1_alloc w e v.cells))
theorem run_sliceTo {P : Program} (t e s : Nat) (ht : P.underlying t = some (.slice e)) (hs : (P.info? e).map (·.size) = some s) (A : Option Addr) (len cap n : Nat) (hn : n ≤ cap) (w : World) :
    (Instr.sliceAt t (.slice A len cap) none (some (.int .i64 (n : Int))) none).run P w = .ok (.slice A n cap) w := by
  have e2 : P.elem t = e := by simp [Program.elem, ht]
  rw [run_sliceAt_slice w t _ _ _ _ (by rw [e2]; exact ht)]
  have h := run_slice_h (P := P) w t A len cap (by rw [e2]; exact ht) .i64 (n : Int) (by omega) (by omega)
  rw [h, e2]
  cases hi : P.info? e with
  | none => simp [hi] at hs
  | some i =>
    have h1 : i.size = s := by simpa [hi] using hs
    have e0 : A.map (fun a => a.add 0) = A := by cases A <;> simp [Addr.add]
    simp [sizeOf, typeInfo, hi, h1, sliced, e0]
theorem exec_sliceTo {P : Program} {ρ : Operand → Value} {o : Oper} (t e s : Nat) (x y : Operand) (ho : o.op = .slice t x none (some y) none) (A : Option Addr) (len cap n : Nat) (hx : ρ x = .slice A len cap) (hy : ρ y = .int .i64 (n : Int)) (ht : P.underlying t = some (.slice e)) (hs : (P.info? e).map (·.size) = some s) (hn : n ≤ cap) (w : World) :
    (execOp ρ o).run P w = .ok (.value (.slice A n cap)) w := by
  refine exec_slice t x none (some y) none ho _ (fun W => ?_) w
  rw [hx, Option.map_some, hy]
  exact run_sliceTo t e s ht hs A len cap n hn W
end Go.Proofs.Ytidiepbmbbflhaa
end
section
namespace Go.Proofs.Ytidiepbmbbflhaa
open Go Go.RowKit Go.Maps
set_option maxRecDepth 100000
theorem usersP_snoc {H : Type} [DecidableEq H] (l : List (Dr.It H)) (x : Dr.It H) (c : H) : Dr.usersP (l ++ [x]) c = Dr.usersP l c ++ (if c ∈ x.ins then [x.cls] else []) := by
  unfold Dr.usersP
  rw [List.filter_append, List.map_append]
  congr 1
  by_cases h : c ∈ x.ins
  · simp [h]
  · simp [h]
theorem usersP_le {H : Type} [DecidableEq H] (l : List (Dr.It H)) (c : H) : (Dr.usersP l c).length ≤ l.length := by
  unfold Dr.usersP
  rw [List.length_map]
  exact List.length_filter_le _ _
theorem users_le (l : List Itm) (c : Hsh) (j : Nat) : (Dr.usersP ((l.take j).map itP) c).length ≤ j := by
  refine Nat.le_trans (usersP_le _ _) ?_
  rw [List.length_map, List.length_take]
  omega
theorem users_take {l : List Itm} {j : Nat} {x : Itm} {c : Hsh} (h : l[j]? = some x) : Dr.usersP ((l.take (j + 1)).map itP) c = Dr.usersP ((l.take j).map itP) c ++ (if c ∈ clsP x.2.2.1 then [x.1] else []) := by
  rw [List.take_add_one, h]
  have e : (l.take j ++ (some x).toList).map itP = (l.take j).map itP ++ [itP x] := by simp
  rw [e, usersP_snoc]
  congr 1
  by_cases hm : c ∈ clsP x.2.2.1
  · rw [if_pos hm, if_pos (show c ∈ (itP x).ins from hm)]
    rfl
  · rw [if_neg hm, if_neg (show ¬ c ∈ (itP x).ins from hm)]
def usersT (l : List Itm) (c : Hsh) (j : Nat) : List Hsh := Dr.usersP ((l.take j).map itP) c
theorem usersT_le (l : List Itm) (c : Hsh) (j : Nat) : (usersT l c j).length ≤ j := users_le l c j
theorem usersT_all (l : List Itm) (c : Hsh) : usersT l c l.length = Dr.usersP (l.map itP) c := by unfold usersT; rw [List.take_length]
/-- what is added while a class's classes are gone through -/
def addU (x : Itm) (c : Hsh) (k : Nat) : List Hsh := if c ∈ (clsP x.2.2.1).take k then [x.1] else []
theorem addU_zero (x : Itm) (c : Hsh) : addU x c 0 = [] := by simp [addU]
theorem addU_le (x : Itm) (c : Hsh) (k : Nat) : (addU x c k).length ≤ 1 := by
  unfold addU
  split <;> simp
theorem addU_all {x : Itm} {c : Hsh} : addU x c (clsP x.2.2.1).length = if c ∈ clsP x.2.2.1 then [x.1] else [] := by
  unfold addU
  rw [List.take_length]
theorem usersT_step {l : List Itm} {j : Nat} {x : Itm} {c : Hsh} (h : l[j]? = some x) : usersT l c (j + 1) = usersT l c j ++ addU x c (clsP x.2.2.1).length := by rw [addU_all]; exact users_take h
theorem cls_nodup : ∀ (l : List Nam) (out : List Hsh), out.Nodup → (l.foldl (fun out x => if x.2.2.2 = true ∧ x.2.2.1 ∉ out then out ++ [x.2.2.1] else out) out).Nodup
  | [], out, h => h
  | x :: l, out, h => by
    refine cls_nodup l _ ?_
    dsimp only
    split
    · rename_i hc
      rw [List.nodup_append]
      exact ⟨h, by simp, fun a ha b hb e => hc.2 (by rw [List.mem_singleton.1 hb] at e; exact e ▸ ha)⟩
    · exact h
theorem clsP_nodup (l : List Nam) : (clsP l).Nodup := cls_nodup l [] List.nodup_nil
theorem addU_step {x : Itm} {c z : Hsh} {k : Nat} (hz : (clsP x.2.2.1)[k]? = some z) : if z = c then addU x c k = [] ∧ addU x c (k + 1) = [x.1] else addU x c (k + 1) = addU x c k := by
  have e : (clsP x.2.2.1).take (k + 1) = (clsP x.2.2.1).take k ++ [z] := by rw [List.take_add_one, hz]; rfl
  split
  · rename_i h
    subst h
    have hn := clsP_nodup x.2.2.1
    have hnot : z ∉ (clsP x.2.2.1).take k := fun hm => by
      have h2 : ((clsP x.2.2.1).take (k + 1)).Nodup := hn.sublist (List.take_sublist _ _)
      rw [e, List.nodup_append] at h2
      exact h2.2.2 z hm z (List.mem_singleton.2 rfl) rfl
    unfold addU
    rw [if_neg hnot, e, if_pos (by simp)]
    exact ⟨rfl, rfl⟩
  · rename_i h
    unfold addU
    rw [e]
    have h' : ¬ c = z := fun e => h e.symm
    simp [h']
set_option maxHeartbeats 8000000 in
theorem users_any (w : World) (l : List Itm) (A : Option Addr) (cap : Nat) (h : itmsLay.At w w.heap.size [.slice A l.length cap] l) (hl : ∀ x ∈ l, x.2.2.1.length ≤ 1000000) (hlen : l.length ≤ 1000000) (c : Hsh) (hc : okH c) :
    Calls Try.prog 15 #[.slice A l.length cap, .agg (bv c).toArray] w fun e w' => ∃ u, e = .returned u ∧ w'.ownsRow w.heap.size 27 20 u (Dr.usersP (l.map itP) c).length ((Dr.usersP (l.map itP) c).flatMap bv) ∧ Below w.heap.size w w' := by
  obtain ⟨ih, hih, hq0, hq1, hq2⟩ := info_parts info_hashI
  have HJ := hide (And.intro hih (And.intro hq0 (And.intro hq1 hq2)))
  clear hih hq0 hq1 hq2
  obtain ⟨A', cap', e, hcl, hcm9, _, hA⟩ := slice_open h
  injection e with e1 e2 e3
  subst e1 e3
  have k9 : (l.length : Int) ≤ 9223372036854775807 := by omega
  have hszc := hszD hc
  have HA := hide hA
  clear hA hcl hcm9 e2
  go_enter Try.func15, Try.ntmps15
  go_wp2_with (first | ((with_reducible refine at_slot 3 ?_); (refine wpList_boxA (o := ⟨some 3, _, _, _, _, _⟩) rfl 27 (.tmp 1) rfl (bv c).toArray rfl ?_); intro w1 hn; have H1 := hide hn; clear hn; simp only [Act.put, List.setIfInBounds_toArray, List.set_cons_zero, List.set_cons_succ]))
  go_loopw [4, 11] (fun x4 x11 wr => ∃ (j : Nat) (u : Value), j ≤ l.length ∧ u = x4 ∧ x11 = .int .i64 (j : Int) ∧ Blk wr w.heap.size 27 (bv c).toArray ∧ wr.ownsRow w1.heap.size 27 20 u (usersT l c j).length ((usersT l c j).flatMap bv) ∧ Below w.heap.size w wr) (fun _ x11 _ => l.length - (intOf x11).toNat)
  case atStart => exact ⟨0, _, by omega, rfl, rfl, H1.out.blk, World.ownsRow_nil _ _ _ _, H1.out.below⟩
  case round =>
    obtain ⟨wo, rfl⟩ : ∃ wo, wo = wr := ⟨_, rfl⟩
    obtain ⟨j, x4, hj, rfl, rfl, hk, hown, hbw⟩ := hrel
    have HI := hide (And.intro hk (And.intro hown hbw))
    clear hk hown hbw
    have j0 : (0 : Int) ≤ (j : Int) := by omega
    by_cases hj2 : j < l.length
    · have j1 : (j : Int) < (l.length : Int) := by omega
      obtain ⟨x, hx⟩ : ∃ x, l[j]? = some x := ⟨_, List.getElem?_eq_getElem hj2⟩
      obtain ⟨b, off, rfl, hlb, hE⟩ := HA.out (by omega)
      obtain ⟨cs, hr, hatx⟩ := hE j x hx
      obtain ⟨q1, q2, rfl, hxo, hxd⟩ := itmLay_at.1 hatx
      obtain ⟨B1, k1, rfl, _⟩ := slice_open hxd.ins
      obtain ⟨B2, k2, rfl, _⟩ := slice_open hxd.rcp
      obtain ⟨q1, hq1⟩ : ∃ q1, q1 = Value.slice B1 x.2.2.1.length k1 := ⟨_, rfl⟩
      obtain ⟨q2, hq2⟩ : ∃ q2, q2 = Value.slice B2 x.2.2.2.length k2 := ⟨_, rfl⟩
      have hone1 : q1.oneCell' = true ∧ q2.oneCell' = true := by rw [hq1, hq2]; exact ⟨rfl, rfl⟩
      rw [← hq1, ← hq2] at hr hatx
      rw [← hq1, ← hq2] at hxd
      have hbnd := hl x (List.mem_of_getElem? hx)
      have HX := hide (And.intro (rangeAt_same hr (HI.out.2.2.block b (by omega))) (And.intro hxo hxd))
      have HXX := hide hx
      have hszt2 : (Try.prog.info? 43).map (·.size) = some (tC x q1 q2).toArray.size := by rw [show (tC x q1 q2).toArray.size = 23 by rw [List.size_toArray]; exact tC_len hxo]; kernel_rfl
      have hszt : (Try.prog.info? 43).map (·.size) = some (tC x q1 q2).length := by simpa using hszt2
      have hszzt : zcT.size = (tC x q1 q2).toArray.size := by rw [show (tC x q1 q2).toArray.size = 23 by rw [List.size_toArray]; exact tC_len hxo]; kernel_rfl
      have honet : (tC x q1 q2).toArray.all (·.oneCell') = true := all_oneCell_toArray (tC_one x hone1.1 hone1.2)
      have hszx : (Try.prog.info? 27).map (·.size) = some (bv x.1).length := by have := hszD hxo; simpa using this
      have hszx2 := hszD hxo
      clear hx hE hr hatx hxd hq1 hq2
      go_wp2_with (first | ((with_reducible refine at_slot 13 ?_); (refine wpList_value (o := ⟨some 13, _, _, _, _, _⟩) rfl (.pointer (some ⟨b, off + (j : Int).toNat * 23, none⟩)) wo (exec_index_off (o := ⟨some 13, _, _, _, _, _⟩) 25 43 (.tmp 9) (.tmp 11) rfl b off l.length cap (j : Int) .i64 rfl rfl ⟨j0, j1⟩ 23 Try.underlying25 sz_itm wo) ?_; rw [show off + (j : Int).toNat * 23 = off + j * 23 by omega])) | ((with_reducible refine at_slot 14 ?_); (refine wpList_value (o := ⟨some 14, _, _, _, _, _⟩) rfl (.agg (tC x q1 q2).toArray) wo (exec_load_mid (o := ⟨some 14, _, _, _, _, _⟩) 43 (.tmp 13) rfl b (off + j * 23) rfl (tC x q1 q2) _ wo HX.out.1 Try.underlying43 rfl hszt) ?_)) | ((with_reducible refine at_slot 6 ?_); ((with_reducible refine wpList_box (o1 := ⟨some 6, _, _, _, _, _⟩) (o2 := ⟨none, _, _, _, _, _⟩) rfl rfl 43 (.tmp 6) (.tmp 14) ?_ zcT (tC x q1 q2).toArray ?_ hszt2 ?_ honet ?_ ?_ ?_); rfl; kernel_rfl; exact hszzt; rfl; rfl; intro w8 hmm hbb; have H8 := hide (And.intro hmm hbb); clear hmm hbb; simp only [Act.put, List.setIfInBounds_toArray, List.set_cons_zero, List.set_cons_succ])) | ((with_reducible refine at_slot 16 ?_); (refine wpList_value (o := ⟨some 16, _, _, _, _, _⟩) rfl (.agg (dC x.2 q1 q2).toArray) w8 (exec_load_mid (o := ⟨some 16, _, _, _, _, _⟩) 34 (.tmp 15) rfl wo.heap.size (20) rfl (dC x.2 q1 q2) _ w8 (item_drv HX.out.2.1 H8.out.1) Try.underlying34 rfl (by kernel_rfl)) ?_)))
      have hat8 : DrvAt w8 w8.heap.size x.2 q1 q2 := HX.out.2.2.alike9 (HI.out.2.2.trans (Below.mono H8.out.2 HI.out.2.2.size))
      have hcok := cls_ok hat8.okn
      refine (classes_any w8 x.2 q1 q2 hat8 hbnd).mono ?_
      rintro e w9 ⟨uc, rfl, hoc, hb⟩
      obtain ⟨Ac, cc, rfl⟩ := own_form9 hoc
      dsimp only
      have h9 := H8.out.2.trans (Below.mono hb H8.out.2.size)
      obtain ⟨N, hN⟩ : ∃ N, N = (clsP x.2.2.1).length := ⟨_, rfl⟩
      rw [← hN] at hoc ⊢
      have hN9 : (N : Int) ≤ 1000000 := by have := clsP_len x.2.2.1 x.2.2.1.length; rw [List.take_length] at this; omega
      have H9 := hide (And.intro (H8.out.1.below hb H8.out.1.lt) (And.intro (owned_keepN HI.out.2.1 fun g _ hl9 => h9.block g hl9) (And.intro hoc (And.intro (HI.out.1.below h9 HI.out.1.lt) (HI.out.2.2.trans (Below.mono h9 HI.out.2.2.size))))))
      have HCO := hide (And.intro hcok hN)
      have hol : (usersT l c j).length ≤ j := usersT_le l c j
      have HZ9 := hide (And.intro H8.out.1.lt (And.intro HI.out.2.2.size hb.size))
      have HZ1 := hide (And.intro (show w1.heap.size ≤ w8.heap.size from by have := H1.out.size; have := HI.out.1.lt; have := H8.out.1.lt; omega) (show w1.heap.size ≤ wo.heap.size from by have := H1.out.size; have := HI.out.1.lt; omega))
      clear hb h9 hoc hcok hN hat8
      go_wp2_with fail
      go_loopw [4, 19] (fun x4 x19 wr => ∃ (k : Nat) (u : Value), k ≤ N ∧ u = x4 ∧ x19 = .int .i64 (k : Int) ∧ Blk wr wo.heap.size 43 (tC x q1 q2).toArray ∧ Blk wr w.heap.size 27 (bv c).toArray ∧ wr.ownsRow w8.heap.size 27 20 (.slice Ac N cc) N ((clsP x.2.2.1).flatMap bv) ∧ wr.ownsRow w1.heap.size 27 20 u ((usersT l c j) ++ addU x c k).length (((usersT l c j) ++ addU x c k).flatMap bv) ∧ (∀ g, u.ownBlock = some g → g < w8.heap.size ∨ w9.heap.size ≤ g) ∧ Below w.heap.size w wr ∧ w9.heap.size ≤ wr.heap.size) (fun _ x19 _ => N - (intOf x19).toNat)
      case atStart => exact ⟨0, x4, by omega, rfl, rfl, H9.out.1, H9.out.2.2.2.1, H9.out.2.2.1, by rw [addU_zero, List.append_nil]; exact H9.out.2.1, (fun g hg => .inl (Nat.lt_of_lt_of_le (owned_ltN HI.out.2.1 hg).2 H8.out.2.size)), H9.out.2.2.2.2, Nat.le_refl _⟩
      case round =>
        obtain ⟨wi, rfl⟩ : ∃ wi, wi = wr := ⟨_, rfl⟩
        obtain ⟨k, u4, hk, rfl, rfl, hbi, hbc, hoc, hou, hub, hbw, hsz9⟩ := hrel
        have HB := hide (And.intro hbi (And.intro hbc (And.intro hoc (And.intro hou (And.intro hub (And.intro hbw hsz9))))))
        clear hbi hbc hoc hou hub hbw hsz9
        have k0 : (0 : Int) ≤ (k : Int) := by omega
        by_cases hk2 : k < N
        · have k1 : (k : Int) < (N : Int) := by omega
          obtain ⟨z, hz⟩ : ∃ z, (clsP x.2.2.1)[k]? = some z := ⟨_, List.getElem?_eq_getElem (by rw [← HCO.out.2]; exact hk2)⟩
          have hzo := HCO.out.1 z (List.mem_of_getElem? hz)
          obtain ⟨g5, cap5, he5⟩ := owned_placeN HB.out.2.2.1 (by omega)
          injection he5 with e51 _ e53
          subst e51 e53
          have hrz : wi.rangeAt g5 (k * 20) (bv z) := own_range HB.out.2.2.1 (k * 20) 20 _ (flat_hash HCO.out.1 hz)
          have HRZ := hide hrz
          have hszy2 := hszD hzo
          have hszy : (Try.prog.info? 27).map (·.size) = some (bv z).length := by simpa using hszy2
          have hszz : zcH.size = (bv z).toArray.size := by rw [show (bv z).toArray.size = 20 by rw [List.size_toArray, bvL]; exact hzo]; kernel_rfl
          have hone : (bv z).toArray.all (·.oneCell') = true := all_oneCell_toArray (bv1 z)
          have hads := addU_step (c := c) hz
          have HADS := hide hads
          have HZO := hide (And.intro hzo hz)
          clear hz hzo hrz hads
          by_cases hzc : z = c
          · have hd := decide_eq_true hzc
            have HD := hide hd
            rw [if_pos hzc] at HADS
            clear hd hzc
            have hhc := HX.out.2.1
            go_wp2_with (first | ((with_reducible refine at_slot 21 ?_); (refine wpList_value (o := ⟨some 21, _, _, _, _, _⟩) rfl (.pointer (some ⟨g5, k * 20, none⟩)) wi (exec_idx0 45 27 (.tmp 17) (.tmp 19) rfl g5 N cc k rfl rfl hk2 20 Try.underlying45 sz_hash wi) ?_)) | ((with_reducible refine at_slot 22 ?_); (refine wpList_value (o := ⟨some 22, _, _, _, _, _⟩) rfl (.agg (bv z).toArray) wi (exec_load_mid (o := ⟨some 22, _, _, _, _, _⟩) 27 (.tmp 21) rfl g5 (k * 20) rfl (bv z) _ wi HRZ.out Try.underlying27 rfl hszy) ?_)) | ((with_reducible refine at_slot 8 ?_); ((with_reducible refine wpList_box (o1 := ⟨some 8, _, _, _, _, _⟩) (o2 := ⟨none, _, _, _, _, _⟩) rfl rfl 27 (.tmp 8) (.tmp 22) ?_ zcH (bv z).toArray ?_ hszy2 ?_ hone ?_ ?_ ?_); rfl; kernel_rfl; exact hszz; rfl; rfl; intro wb hmm hbb; have HBX := hide (And.intro hmm hbb); clear hmm hbb; simp only [Act.put, List.setIfInBounds_toArray, List.set_cons_zero, List.set_cons_succ])) | ((with_reducible refine at_slot 23 ?_); (refine wpList_value (o := ⟨some 23, _, _, _, _, _⟩) rfl (.agg ((bv z).toArray)) wb (exec_load_blk (o := ⟨some 23, _, _, _, _, _⟩) 27 (.tmp 8) rfl wi.heap.size rfl 27 _ _ wb HBX.out.1 Try.underlying27 rfl hszy2) ?_)) | ((with_reducible refine at_slot 24 ?_); (refine wpList_value (o := ⟨some 24, _, _, _, _, _⟩) rfl (.agg ((bv c).toArray)) wb (exec_load_blk (o := ⟨some 24, _, _, _, _, _⟩) 27 (.tmp 3) rfl w.heap.size rfl 27 _ _ wb (HB.out.2.1.below HBX.out.2 HB.out.2.1.lt) Try.underlying27 rfl hszc) ?_)) | ((with_reducible refine at_slot 25 ?_); (refine wpList_value (o := ⟨some 25, _, _, _, _, _⟩) rfl (.bool true) wb (exec_binop_agg (o := ⟨some 25, _, _, _, _, _⟩) .eql 27 (.tmp 23) (.tmp 24) _ rfl (bv z).toArray (bv c).toArray rfl rfl (by kernel_rfl) _ (fun W => by have h := bin_eq_hash z c HZO.out.1 hc W; rw [HD.out] at h; exact h) wb) ?_)) | ((with_reducible refine at_slot 28 ?_); (refine wpList_value (o := ⟨some 28, _, _, _, _, _⟩) rfl (.agg (bv x.1).toArray) wb (exec_load_mid (o := ⟨some 28, _, _, _, _, _⟩) 27 (.tmp 27) rfl wo.heap.size (0) rfl (bv x.1) _ wb (item_cls HX.out.2.1 (HB.out.1.below HBX.out.2 HB.out.1.lt)) Try.underlying27 rfl hszx) ?_)) | ((with_reducible refine at_slot 29 ?_); (refine wpList_row1 (o := ⟨some 29, _, _, _, _, _⟩) rfl 45 (.tmp 28) rfl 27 20 (.agg zcH) (.agg (bv x.1).toArray) rfl Try.underlying45 sz_hash (by decide) (by decide) (fun w => by kernel_rfl) (by rw [Value.cells, List.size_toArray, bvL]; exact hhc) ?_); intro wc hn; have HC := hide (And.intro (hn.src (cs := bv x.1) (n := 20) (by rw [bvL]; exact hxo) (bv1 x.1)) (And.intro (owned_keepN HB.out.2.2.2.1 fun g _ hl9 => (HBX.out.2.trans (Below.mono hn.below HBX.out.2.size)).block g hl9) (HBX.out.2.trans (Below.mono hn.below HBX.out.2.size)))); clear hn; simp only [Act.put, List.setIfInBounds_toArray, List.set_cons_zero, List.set_cons_succ]) | (at_builtin; ((with_reducible refine at_slot 30 ?_); refine wpList_appS (o := ⟨some 30, _, _, _, _, _⟩) rfl _ _ 45 rfl w1.heap.size 27 ih _ 20 20 Try.underlying45 HJ.out.1 HJ.out.2.1 HJ.out.2.2.1 HJ.out.2.2.2 rfl (by decide) _ (((usersT l c j) ++ addU x c k).length) (((usersT l c j) ++ addU x c k).flatMap bv) HC.out.2.1 (some ⟨wb.heap.size, 0, none⟩) 1 1 (bv x.1) HC.out.1 ?hm1 ?hb1 ?hz1 rfl rfl ?_)))
            case hm1 => have := addU_le x c k; (try rw [List.length_append]); simp only [maxLen]; omega
            case hb1 => have := addU_le x c k; (try rw [List.length_append]); omega
            case hz1 => have := HB.out.2.2.2.2.2.2; have := HZ9.out.2.2; have := HZ9.out.1; have := HC.out.2.2.size; have := HZ1.out; omega
            intro u9 wd own9 gr9 hub9
            have h9 : wd.ownsRow w1.heap.size 27 20 u9 ((usersT l c j) ++ addU x c (k + 1)).length (((usersT l c j) ++ addU x c (k + 1)).flatMap bv) := by rw [HADS.out.2]; have e := HADS.out.1; rw [e] at own9; simpa using own9
            have hwo : w1.heap.size ≤ wo.heap.size := HZ1.out.2
            have hbi9 := HB.out.1.below HC.out.2.2 HB.out.1.lt
            have hbc9 := HB.out.2.1.below HC.out.2.2 HB.out.2.1.lt
            have hoc9 := owned_keepN HB.out.2.2.1 fun g _ hl9 => HC.out.2.2.block g hl9
            have r1 : Blk wd wo.heap.size 43 (tC x q1 q2).toArray := (gr9.block _ hbi9.lt (fun e => owned_neN HC.out.2.1 hbi9 (by decide) e.symm)).trans hbi9
            have r2 : Blk wd w.heap.size 27 (bv c).toArray := (gr9.block _ hbc9.lt (fun e => by have := (owned_ltN HC.out.2.1 e.symm).1; have := H1.out.size; omega)).trans hbc9
            have r3 := owned_keepN hoc9 fun g hg hl9 => gr9.block g hl9 (fun e => by have h1 := owned_ltN H9.out.2.2.1 hg; rcases HB.out.2.2.2.2.1 g e.symm with h2 | h2 <;> omega)
            have r4 : ∀ g, u9.ownBlock = some g → g < w8.heap.size ∨ w9.heap.size ≤ g := fun g hg => by
              rcases hub9 with h1 | h1
              · exact HB.out.2.2.2.2.1 g (by rw [← h1]; exact hg)
              · rw [h1] at hg
                have := Option.some.inj hg
                have h2 := HB.out.2.2.2.2.2.2
                have h3 := HC.out.2.2.size
                have h4 := HBX.out.2.size
                exact .inr (by omega)
            have r5 : Below w.heap.size w wd := (HB.out.2.2.2.2.2.1.trans (Below.mono HC.out.2.2 HB.out.2.2.2.2.2.1.size)).grown gr9 (Nat.le_trans HB.out.2.2.2.2.2.1.size HC.out.2.2.size) (fun k9 hk9 => by have := (owned_ltN HC.out.2.1 hk9).1; have := H1.out.size; omega)
            have r6 : w9.heap.size ≤ wd.heap.size := Nat.le_trans HB.out.2.2.2.2.2.2 (Nat.le_trans HC.out.2.2.size gr9.size)
            have HG := hide (And.intro r1 (And.intro r2 (And.intro r3 (And.intro h9 (And.intro r4 (And.intro r5 r6))))))
            clear own9 gr9 h9 hub9 r1 r2 r3 r4 r5 r6 hbi9 hbc9 hoc9
            go_wp2_with fail
            go_roundw
            case rel => exact ⟨k + 1, u9, by omega, rfl, by go_num, HG.out⟩
            case measure => simp [intOf]; omega
          · have hd := decide_eq_false hzc
            have HD := hide hd
            rw [if_neg hzc] at HADS
            clear hd hzc
            go_wp2_with (first | ((with_reducible refine at_slot 21 ?_); (refine wpList_value (o := ⟨some 21, _, _, _, _, _⟩) rfl (.pointer (some ⟨g5, k * 20, none⟩)) wi (exec_idx0 45 27 (.tmp 17) (.tmp 19) rfl g5 N cc k rfl rfl hk2 20 Try.underlying45 sz_hash wi) ?_)) | ((with_reducible refine at_slot 22 ?_); (refine wpList_value (o := ⟨some 22, _, _, _, _, _⟩) rfl (.agg (bv z).toArray) wi (exec_load_mid (o := ⟨some 22, _, _, _, _, _⟩) 27 (.tmp 21) rfl g5 (k * 20) rfl (bv z) _ wi HRZ.out Try.underlying27 rfl hszy) ?_)) | ((with_reducible refine at_slot 8 ?_); ((with_reducible refine wpList_box (o1 := ⟨some 8, _, _, _, _, _⟩) (o2 := ⟨none, _, _, _, _, _⟩) rfl rfl 27 (.tmp 8) (.tmp 22) ?_ zcH (bv z).toArray ?_ hszy2 ?_ hone ?_ ?_ ?_); rfl; kernel_rfl; exact hszz; rfl; rfl; intro wb hmm hbb; have HBX := hide (And.intro hmm hbb); clear hmm hbb; simp only [Act.put, List.setIfInBounds_toArray, List.set_cons_zero, List.set_cons_succ])) | ((with_reducible refine at_slot 23 ?_); (refine wpList_value (o := ⟨some 23, _, _, _, _, _⟩) rfl (.agg ((bv z).toArray)) wb (exec_load_blk (o := ⟨some 23, _, _, _, _, _⟩) 27 (.tmp 8) rfl wi.heap.size rfl 27 _ _ wb HBX.out.1 Try.underlying27 rfl hszy2) ?_)) | ((with_reducible refine at_slot 24 ?_); (refine wpList_value (o := ⟨some 24, _, _, _, _, _⟩) rfl (.agg ((bv c).toArray)) wb (exec_load_blk (o := ⟨some 24, _, _, _, _, _⟩) 27 (.tmp 3) rfl w.heap.size rfl 27 _ _ wb (HB.out.2.1.below HBX.out.2 HB.out.2.1.lt) Try.underlying27 rfl hszc) ?_)) | ((with_reducible refine at_slot 25 ?_); (refine wpList_value (o := ⟨some 25, _, _, _, _, _⟩) rfl (.bool false) wb (exec_binop_agg (o := ⟨some 25, _, _, _, _, _⟩) .eql 27 (.tmp 23) (.tmp 24) _ rfl (bv z).toArray (bv c).toArray rfl rfl (by kernel_rfl) _ (fun W => by have h := bin_eq_hash z c HZO.out.1 hc W; rw [HD.out] at h; exact h) wb) ?_)))
            go_roundw
            case rel => exact ⟨k + 1, u4, by omega, rfl, by go_num, HB.out.1.below HBX.out.2 HB.out.1.lt, HB.out.2.1.below HBX.out.2 HB.out.2.1.lt, owned_keepN HB.out.2.2.1 (fun g _ hl9 => HBX.out.2.block g hl9), by rw [HADS.out]; exact owned_keepN HB.out.2.2.2.1 (fun g _ hl9 => HBX.out.2.block g hl9), HB.out.2.2.2.2.1, HB.out.2.2.2.2.2.1.trans (Below.mono HBX.out.2 HB.out.2.2.2.2.2.1.size), Nat.le_trans HB.out.2.2.2.2.2.2 HBX.out.2.size⟩
            case measure => simp [intOf]; omega
        · obtain rfl : k = N := by omega
          have hfin : (usersT l c (j + 1)) = (usersT l c j) ++ addU x c k := by rw [HCO.out.2]; exact usersT_step HXX.out
          have HF := hide hfin
          clear hfin
          go_wp2_with fail
          go_roundw
          case rel => exact ⟨j + 1, u4, by omega, rfl, by go_num, HB.out.2.1, by rw [HF.out]; exact HB.out.2.2.2.1, HB.out.2.2.2.2.2.1⟩
          case measure => simp [intOf]; omega
    · obtain rfl : j = l.length := by omega
      have ho := HI.out.2.1
      rw [usersT_all] at ho
      have HO := hide ho
      clear ho
      go_wp2_with fail
      go_ret
      exact ⟨_, rfl, owned_baseN HO.out (fun g hg => by have := (owned_ltN HO.out hg).1; have := H1.out.size; omega), HI.out.2.2⟩
end Go.Proofs.Ytidiepbmbbflhaa
end
section
namespace Go.Proofs.Ytidiepbmbbflhaa
open Go Go.RowKit Go.WideShapes Go.ChangeShapes
theorem weightsAll_in {H : Type} {P : Program} {e : TypeId} : ∀ {l : List (DataW H)} {d : DataW H}, d ∈ l → ∀ n ∈ d.weights P e, n ∈ DataW.weightsAll P e l
  | [], _, h, _, _ => by cases h
  | x :: l, d, h, n, hn => by
    rw [DataW.weightsAll, List.mem_append]
    rcases List.mem_cons.1 h with rfl | h
    · exact .inl hn
    · exact .inr (weightsAll_in h n hn)
structure Lay.OpensW {α : Type} (L : Lay α) (P : Program) (M : Nat) (sm : α → Prop) : Prop where
  cells : P.cellsOf L.t = L.n
  op : ∀ {H : Type} {enc : TypeId × Value → H} {w : World} {sp : Nat → Bool} {hd : Bool} {fuel : Nat} {cs : List Value} {y : DataW H × List MemPlace}, DataW.trod enc P w 0 sp hd fuel L.t cs = some y → ∃ x, L.At w w.heap.size cs x ∧ ((∀ n ∈ y.1.weights P L.t, n ≤ M) → sm x)
structure Flds.OpensW {α : Type} (F : Flds α) (P : Program) (M : Nat) (sm : α → Prop) : Prop where
  op : ∀ {H : Type} {enc : TypeId × Value → H} {w : World} {sp : Nat → Bool} {hd : Bool} {fuel : Nat} {cs : List Value} {off : Nat}, cs.length = off + F.n → ∀ ys : List (DataW H × List MemPlace), ys.length = (F.shape off).length →
    (∀ (i : Nat) p, (F.shape off)[i]? = some p → DataW.trod enc P w 0 sp hd fuel p.1 ((cs.drop p.2).take (P.cellsOf p.1)) = ys[i]?) → ∃ x, F.At w w.heap.size (cs.drop off) x ∧ ((∀ n ∈ DataW.weightsEach P ((F.shape off).map (·.1)) (ys.map (·.1)), n ≤ M) → sm x)
theorem Lay.Opens.w {α : Type} {L : Lay α} {P : Program} (h : L.Opens P) (M : Nat) : L.OpensW P M fun _ => True where
  cells := h.cells
  op := fun hy => by
    obtain ⟨x, hx⟩ := h.op hy
    exact ⟨x, hx, fun _ => trivial⟩
theorem opensW_nil {P : Program} {M : Nat} : Flds.nil.OpensW P M fun _ => True where
  op := fun {H enc w sp hd fuel cs off} h _ _ _ => ⟨(), by
    have h : cs.length = off + 0 := h
    show cs.drop off = []
    rw [List.drop_eq_nil_iff]
    omega, fun _ => trivial⟩
theorem opensW_cons {P : Program} {M : Nat} {α β : Type} {L : Lay α} {F : Flds β} {s1 : α → Prop} {s2 : β → Prop} (hL : L.OpensW P M s1) (hF : F.OpensW P M s2) : (Flds.cons L F).OpensW P M fun x => s1 x.1 ∧ s2 x.2 where
  op := fun {H enc w sp hd fuel cs off} hl ys hys h => by
    have hl : cs.length = off + (L.n + F.n) := hl
    have hys : ys.length = (F.shape (off + L.n)).length + 1 := hys
    match ys, hys with
    | y :: ys, hys =>
      have h0 := h 0 (L.t, off) rfl
      obtain ⟨x1, h1, k1⟩ := hL.op h0
      obtain ⟨x2, h2, k2⟩ := hF.op (off := off + L.n) (cs := cs) (by omega) ys (by simpa using hys) (fun i p hp => by
        have := h (i + 1) p (by rw [← hp]; rfl)
        simpa using this)
      refine ⟨(x1, x2), ⟨_, _, ?_, h1, h2⟩, fun hw => ?_⟩
      · rw [hL.cells, ← List.drop_drop, List.take_append_drop]
      · have hw : ∀ n ∈ y.1.weights P L.t ++ DataW.weightsEach P ((F.shape (off + L.n)).map (·.1)) (ys.map (·.1)), n ≤ M := hw
        exact ⟨k1 fun n hn => hw n (List.mem_append_left _ hn), k2 fun n hn => hw n (List.mem_append_right _ hn)⟩
theorem opensW_struct {P : Program} {M : Nat} {γ β : Type} {t : TypeId} {F : Flds β} {f : γ → β} {fs : Array Field} {s : β → Prop} (mk : β → γ) (hmk : ∀ b, f (mk b) = b) (hF : F.OpensW P M s) (ht : P.underlying t = some (.struct fs)) (hc : P.cellsOf t = F.n)
    (hs : fs.toList.map (fun g => (g.type, g.offset)) = F.shape 0) : (Lay.struct t F f).OpensW P M fun x => s (f x) where
  cells := hc
  op := fun {H enc w sp hd fuel cs y} h => by
    obtain ⟨xs, n, _, hy, hl, hxl, hel⟩ := DataW.trod_struct ht h
    have hsl : (F.shape 0).length = fs.size := by rw [← hs]; simp
    obtain ⟨b, hb, hk⟩ := hF.op (H := H) (enc := enc) (w := w) (sp := sp) (hd := hd) (fuel := n) (cs := cs) (off := 0) (by omega) xs (by omega) (fun i p hp => by
      rw [← hs, List.getElem?_map] at hp
      cases e : fs.toList[i]? with
      | none => rw [e] at hp; cases hp
      | some g =>
        rw [e] at hp
        injection hp with hp
        subst hp
        exact hel i g (by simpa using e))
    refine ⟨mk b, ?_, fun hw => ?_⟩
    · show F.At w w.heap.size cs (f (mk b))
      rw [hmk]
      simpa using hb
    · rw [hmk]
      refine hk fun m hm => hw m ?_
      rw [hy]
      show m ∈ DataW.weights P t (.agg (xs.map (·.1)))
      simp only [DataW.weights, ht]
      have e : fs.toList.map (·.type) = (F.shape 0).map (·.1) := by
        rw [← hs, List.map_map]
        rfl
      rw [e]
      exact hm
theorem opensW_slice {P : Program} {M : Nat} {α : Type} {t : TypeId} {L : Lay α} {s : α → Prop} (hL : L.OpensW P M s) (hn : 0 < L.n) (ht : P.underlying t = some (.slice L.t)) (hc : P.cellsOf t = 1) : (Lay.slice t L).OpensW P M fun l => l.length * P.bytesOf L.t ≤ M ∧ ∀ x ∈ l, s x where
  cells := hc
  op := fun {H enc w sp hd fuel cs y} h => by
    rcases Go.Deep.open_slice ht h with ⟨rfl, _⟩ | ⟨a, len, cap, m, n, D, Pl, rfl, _, hl, hm, hmm, hy, hi⟩
    · exact ⟨[], ⟨none, 0, rfl, Nat.le_refl _, Nat.zero_le _, fun _ => rfl, fun h => absurd h (by simp)⟩, fun _ => ⟨by simp, fun x hx => by cases hx⟩⟩
    · rw [hL.cells] at hi
      have hml : len ≤ m := by rw [hmm]; split <;> omega
      have hw1 : (∀ k ∈ y.1.weights P t, k ≤ M) → len * P.bytesOf L.t ≤ M ∧ ∀ i, i < len → ∀ k ∈ (D i).weights P L.t, k ≤ M := by
        intro hw
        rw [hy] at hw
        simp only [DataW.weights, ht] at hw
        have h1 := hw _ (List.mem_cons_self ..)
        simp only [List.length_map, List.length_range] at h1
        refine ⟨Nat.le_trans (Nat.mul_le_mul_right _ (by omega)) h1, fun i hi k hk => hw k (List.mem_cons_of_mem _ (List.mem_append_left _ (weightsAll_in (d := D i) ?_ k hk)))⟩
        exact List.mem_map.2 ⟨i, List.mem_range.2 hi, rfl⟩
      have hel : ∀ i, i < len → ∃ (x : α) (cs : List Value), cs.length = L.n ∧ (∀ k, k < L.n → w.cell? ((a.add (i * L.n)).add k) = cs[k]?) ∧ L.At w w.heap.size cs x ∧ ((∀ k ∈ (D i).weights P L.t, k ≤ M) → s x) := by
        intro i hil
        obtain ⟨cs', hc', htr⟩ := hi i (by omega)
        obtain ⟨_, hcl, hat⟩ := World.cells?_some hc'
        obtain ⟨x, hx, hk⟩ := hL.op htr
        exact ⟨x, cs', hcl, hat, hx, hk⟩
      rcases Nat.eq_zero_or_pos len with rfl | hpos
      · exact ⟨[], ⟨some a, cap, rfl, Nat.zero_le _, hm, (fun h => by cases h), fun h => absurd h (by simp)⟩, fun _ => ⟨by simp, fun x hx => by cases hx⟩⟩
      obtain ⟨x0, _⟩ := hel 0 hpos
      obtain ⟨f, hf⟩ : ∃ f : Nat → α, ∀ i, i < len → ∃ cs : List Value, cs.length = L.n ∧ (∀ k, k < L.n → w.cell? ((a.add (i * L.n)).add k) = cs[k]?) ∧ L.At w w.heap.size cs (f i) ∧ ((∀ k ∈ (D i).weights P L.t, k ≤ M) → s (f i)) :=
        ⟨fun i => if h : i < len then Classical.choose (hel i h) else x0, fun i h => by simp only [dif_pos h]; exact Classical.choose_spec (hel i h)⟩
      clear hel
      have hll : ((List.range len).map f).length = len := by simp
      refine ⟨(List.range len).map f, ⟨some a, cap, by rw [hll], by omega, hm, (fun h => by cases h), fun _ => ?_⟩, fun hw => ⟨by rw [hll]; exact (hw1 hw).1, fun x hx => ?_⟩⟩
      · obtain ⟨c0, q0, q1, _⟩ := hf 0 hpos
        have hcell := q1 0 hn
        rw [List.getElem?_eq_getElem (by omega)] at hcell
        obtain ⟨b, off, sp'⟩ := a
        cases sp' with
        | some q =>
          have h2 : w.cell? ⟨b, off, some q⟩ = some c0[0] := by simpa [Addr.add] using hcell
          rw [cell_spot] at h2
          cases h2
        | none =>
          have h2 : w.cell? ⟨b, off, none⟩ = some c0[0] := by simpa [Addr.add] using hcell
          refine ⟨b, off, rfl, World.block_lt_of_cell? w _ h2, fun j x hj => ?_⟩
          obtain ⟨hj1, hj2⟩ := List.getElem?_eq_some_iff.1 hj
          rw [hll] at hj1
          have hj3 : f j = x := by simpa using hj2
          obtain ⟨cs, k1, k2, k3, _⟩ := hf j hj1
          rw [hj3] at k3
          refine ⟨cs, fun k v hk => ?_, k3⟩
          have hkn : k < L.n := by
            have := (List.getElem?_eq_some_iff.1 hk).1
            omega
          have := k2 k hkn
          rw [add_plain, add_plain, hk] at this
          exact this
      · obtain ⟨i, hi2, rfl⟩ := List.mem_map.1 hx
        have hil := List.mem_range.1 hi2
        obtain ⟨_, _, _, _, k4⟩ := hf i hil
        exact k4 ((hw1 hw).2 i hil)
end Go.Proofs.Ytidiepbmbbflhaa
end
section
namespace Go.Proofs.Ytidiepbmbbflhaa
open Go Go.RowKit Go.Maps Go.WideShapes Go.ChangeShapes
set_option maxRecDepth 100000
def hashN (n : Nat) : Hsh := UInt8.ofNat (n % 256) :: UInt8.ofNat (n / 256 % 256) :: List.replicate 18 0
theorem hashN_ok (n : Nat) : okH (hashN n) := rfl
theorem u8_cell (n : Nat) : ((UInt8.ofNat (n % 256)).toNat : Int) = ((n % 256 : Nat) : Int) := by
  rw [UInt8.toNat_ofNat']
  omega
/-- what is counted of a derivation, up to some -/
def ofLoop (most : Nat) : Nat → List Nam → Nat
  | n, [] => n
  | n, x :: l => if n ≤ most then ofLoop most (n + 1 + x.1.size + x.2.1.2.size) l else n
def drvOfP (most : Nat) (d : Drv) : Nat := ofLoop most (1 + d.1.size + d.2.2.length) d.2.1
/-- no part of a derivation is longer than memory -/
structure LightD (d : Drv) : Prop where
  name : d.1.size ≤ 140737488355328
  ins : d.2.1.length ≤ 140737488355328
  rcp : d.2.2.length ≤ 140737488355328
  each : ∀ x ∈ d.2.1, x.1.size ≤ 140737488355328 ∧ x.2.1.2.size ≤ 140737488355328
theorem ofLoop_ge (most : Nat) : ∀ (l : List Nam) (n : Nat), n ≤ ofLoop most n l
  | [], n => Nat.le_refl _
  | x :: l, n => by
    unfold ofLoop
    split
    · exact Nat.le_trans (by omega) (ofLoop_ge most l _)
    · exact Nat.le_refl _
theorem ofLoop_len (most : Nat) : ∀ (l : List Nam) (n : Nat), ofLoop most n l ≤ most → n + l.length ≤ most
  | [], n, h => h
  | x :: l, n, h => by
    unfold ofLoop at h
    split at h
    · have := ofLoop_len most l _ h
      rw [List.length_cons]
      omega
    · omega
theorem ofLoop_step {most : Nat} {l : List Nam} {k : Nat} {x : Nam} {n : Nat} (h : l[k]? = some x) (hn : n ≤ most) : ofLoop most n (l.drop k) = ofLoop most (n + 1 + x.1.size + x.2.1.2.size) (l.drop (k + 1)) := by
  have hj := (List.getElem?_eq_some_iff.1 h)
  rw [List.drop_eq_getElem_cons hj.1, hj.2, ofLoop, if_pos hn]
theorem ofLoop_stop {most : Nat} {l : List Nam} {n : Nat} (hn : ¬ n ≤ most) : ofLoop most n l = n := by
  cases l with
  | nil => rfl
  | cons x l => rw [ofLoop, if_neg hn]
theorem nam_21 {x : Nam} (h : okN x) : (nC x)[21]? = some (.string x.2.1.2) := by
  have e : nC x = (.string x.1 :: bv x.2.1.1) ++ (.string x.2.1.2 :: (bv x.2.2.1 ++ [.bool x.2.2.2])) := by simp [nC, iC, pC]
  have hl : (Value.string x.1 :: bv x.2.1.1).length = 21 := by rw [List.length_cons, bvL, show x.2.1.1.length = 20 from h.2.1.1]
  rw [e, List.getElem?_append_right (by omega), hl]
  rfl
theorem exec_idxO {P : Program} {ρ : Operand → Value} {o : Oper} (ty e : TypeId) (x i : Operand) (ho : o.op = .indexAddr ty x i) (b off n cap k : Nat) (hx : ρ x = .slice (some ⟨b, off, none⟩) n cap) (hi : ρ i = .int .i64 (k : Int)) (hk : k < n) (s : Nat) (hu : P.underlying ty = some (.slice e)) (hs : (P.info? e).map (·.size) = some s) (w : World) :
    (execOp ρ o).run P w = .ok (.value (.pointer (some ⟨b, off + k * s, none⟩))) w := by
  have h := exec_index_off (P := P) (ρ := ρ) (o := o) ty e x i ho b off n cap (k : Int) .i64 hx hi ⟨by omega, by omega⟩ s hu hs w
  rwa [Int.toNat_natCast] at h
theorem item_drv9 {x : Itm} {v1 v2 : Value} {w : World} {b o : Nat} (h : okH x.1) (hr : w.rangeAt b o (tC x v1 v2)) : w.rangeAt b (o + 20) (dC x.2 v1 v2) := by
  have h2 := rangeAt_right (c1 := bv x.1) (c2 := dC x.2 v1 v2) (by simpa [tC] using hr)
  rwa [bvL, show x.1.length = 20 from h] at h2
theorem bin_neq_hash (a b : Hsh) (ha : okH a) (hb : okH b) (w : World) : (binOp .neq 27 (hV a) (hV b)).run Try.prog w = .ok (.bool (!decide (a = b))) w := by
  have h := eq_hash a b ha hb w
  unfold hV at h ⊢
  simp only [binOp, Sem.run_bind, h, Result.andThen_ok, Sem.run_pure]
set_option maxHeartbeats 4000000 in
theorem drvOf_any (w : World) (d : Drv) (v1 v2 : Value) (h : DrvAt w w.heap.size d v1 v2) (hl : LightD d) :
    Calls Try.prog 17 #[.agg (dC d v1 v2).toArray, .int .i64 3000] w fun e w' => e = .returned (.int .i64 (drvOfP 3000 d : Int)) ∧ Below w.heap.size w w' := by
  obtain ⟨A, cap, rfl, hcl, hcm, _, hA⟩ := slice_open h.ins
  obtain ⟨A2, cap2, rfl, hcl2, hcm2, _, _⟩ := slice_open h.rcp
  have hl1 := hl.name
  have hl2 := hl.ins
  have hl3 := hl.rcp
  have i9 : (d.2.1.length : Int) ≤ 140737488355328 := by omega
  have i8 : (d.2.2.length : Int) ≤ 140737488355328 := by omega
  have i7 : (d.1.size : Int) ≤ 140737488355328 := by omega
  have HA := hide hA
  have HL := hide hl.each
  clear hA h hcl hcm hcl2 hcm2 hl
  go_enter Try.func17, Try.ntmps17
  go_wp2_with (first | ((with_reducible refine at_slot 2 ?_); (refine wpList_boxA (o := ⟨some 2, _, _, _, _, _⟩) rfl 34 (.tmp 0) rfl (dC d (.slice A d.2.1.length cap) (.slice A2 d.2.2.length cap2)).toArray rfl ?_); intro w1 hn; have H1 := hide hn; clear hn; simp only [Act.put, List.setIfInBounds_toArray, List.set_cons_zero, List.set_cons_succ]) | ((with_reducible refine at_slot 8 ?_); (refine wpList_value (o := ⟨some 8, _, _, _, _, _⟩) rfl (.string d.1) w1 (exec_load_cell (o := ⟨some 8, _, _, _, _, _⟩) 9 (.tmp 7) rfl ⟨w.heap.size, 0, none⟩ rfl _ _ w1 Try.underlying9 rfl (show w1.cell? ⟨w.heap.size, 0, none⟩ = some (.string d.1) from H1.out.blk.cell 0)) ?_)) | ((with_reducible refine at_slot 12 ?_); (refine wpList_value (o := ⟨some 12, _, _, _, _, _⟩) rfl (.slice A2 d.2.2.length cap2) w1 (exec_load_cell (o := ⟨some 12, _, _, _, _, _⟩) 32 (.tmp 11) rfl ⟨w.heap.size, 2, none⟩ rfl _ _ w1 Try.underlying32 rfl (show w1.cell? ⟨w.heap.size, 2, none⟩ = some (.slice A2 d.2.2.length cap2) from H1.out.blk.cell 2)) ?_)))
  have c1 : w1.cell? ⟨w.heap.size, 1, none⟩ = some (.slice A d.2.1.length cap) := H1.out.blk.cell 1
  go_loopw [5, 6] (fun x5 x6 wr => ∃ (n k : Nat), k ≤ d.2.1.length ∧ n ≤ 3000 + 300000000000000 ∧ x5 = .int .i64 (n : Int) ∧ x6 = .int .i64 (k : Int) ∧ drvOfP 3000 d = ofLoop 3000 n (d.2.1.drop k) ∧ Below w1.heap.size w1 wr) (fun _ x6 _ => d.2.1.length - (intOf x6).toNat)
  case atStart => exact ⟨1 + d.1.size + d.2.2.length, 0, by omega, by omega, by go_num, rfl, rfl, Below.refl _ _⟩
  case round =>
    obtain ⟨wo, rfl⟩ : ∃ wo, wo = wr := ⟨_, rfl⟩
    obtain ⟨n, j, hj, hn, rfl, rfl, hof, hb⟩ := hrel
    have HB := hide (And.intro hof hb)
    clear hof hb
    have c1' : wo.cell? ⟨w.heap.size, 1, none⟩ = some (.slice A d.2.1.length cap) := (World.cell?_of_block (HB.out.2.block _ H1.out.blk.lt)).trans c1
    have HC1 := hide c1'
    have j0 : (0 : Int) ≤ (j : Int) := by omega
    have n0 : (0 : Int) ≤ (n : Int) := by omega
    have n9 : (n : Int) ≤ 300000000003000 := by omega
    by_cases hj2 : j < d.2.1.length
    · have j1 : (j : Int) < (d.2.1.length : Int) := by omega
      by_cases hn3 : n ≤ 3000
      · have n3 : (n : Int) ≤ 3000 := by omega
        obtain ⟨x, hx⟩ : ∃ x, d.2.1[j]? = some x := ⟨_, List.getElem?_eq_getElem hj2⟩
        obtain ⟨b, off, rfl, hlb, hE⟩ := HA.out (by omega)
        obtain ⟨cs, hr, hatx⟩ := hE j x hx
        obtain ⟨rfl, hxo⟩ := namLay_at.1 hatx
        have hr0 := rangeAt_same hr (((HB.out.2.block b (by have := H1.out.size; omega)).trans (H1.out.below.block b hlb)))
        have d0 : wo.cell? ⟨b, off + j * 43, none⟩ = some (.string x.1) := hr0 0 _ rfl
        have d21 : wo.cell? ⟨b, off + j * 43 + 21, none⟩ = some (.string x.2.1.2) := hr0 21 _ (nam_21 hxo)
        have hxl := HL.out x (List.mem_of_getElem? hx)
        have x1 : (x.1.size : Int) ≤ 140737488355328 := by omega
        have x2 : (x.2.1.2.size : Int) ≤ 140737488355328 := by omega
        have hst := ofLoop_step hx hn3
        have HST := hide hst
        have HD0 := hide (And.intro d0 d21)
        clear hx hE hr hatx hxo hr0 d0 d21 hst hxl
        go_wp2_with fail
        refine Fre.wp_made (X := Bel) 19 [] (by kernel_rfl) (by kernel_rfl) (by simp) (by simp) (by simp) ?_
        simp only [List.take_succ_cons, List.take_zero, List.drop_succ_cons, List.drop_zero]
        refine Fre.made_val (.int .i64 (n : Int)) (by kernel_rfl) (by kernel_rfl) (by kernel_rfl) (fun _ _ => by kernel_rfl) ?_
        simp only [Act.put, List.setIfInBounds_toArray, List.set_cons_zero, List.set_cons_succ]
        refine Fre.made_val (.int .i64 ((n : Int) + 1)) (by kernel_rfl) (by kernel_rfl) (by kernel_rfl) (fun W9 hW9 => ?hs1) ?_
        case hs1 =>
          go_simp
          all_goals exact Go.IntWalk.i64_in _ (by omega)
        simp only [Act.put, List.setIfInBounds_toArray, List.set_cons_zero, List.set_cons_succ]
        refine Fre.made_val (.pointer (some ⟨w.heap.size, 1, none⟩)) (by kernel_rfl) (by kernel_rfl) (by kernel_rfl) (fun _ _ => by kernel_rfl) ?_
        simp only [Act.put, List.setIfInBounds_toArray, List.set_cons_zero, List.set_cons_succ]
        refine Fre.made_val (.slice (some ⟨b, off, none⟩) d.2.1.length cap) (by kernel_rfl) (by kernel_rfl) (by kernel_rfl) (fun W9 hW9 => exec_load_cell (o := ⟨some 30, _, _, _, _, _⟩) 31 (.tmp 29) rfl ⟨w.heap.size, 1, none⟩ rfl _ _ W9 Try.underlying31 rfl (((World.cell?_of_block (Below.block hW9 _ (World.block_lt_of_cell? wo _ HC1.out))).trans HC1.out))) ?_
        simp only [Act.put, List.setIfInBounds_toArray, List.set_cons_zero, List.set_cons_succ]
        refine Fre.made_val (.int .i64 (j : Int)) (by kernel_rfl) (by kernel_rfl) (by kernel_rfl) (fun _ _ => by kernel_rfl) ?_
        simp only [Act.put, List.setIfInBounds_toArray, List.set_cons_zero, List.set_cons_succ]
        refine Fre.made_val (.pointer (some ⟨b, off + j * 43, none⟩)) (by kernel_rfl) (by kernel_rfl) (by kernel_rfl) (fun W9 hW9 => exec_idxO (o := ⟨some 32, _, _, _, _, _⟩) 31 72 (.tmp 30) (.tmp 31) rfl b off d.2.1.length cap j rfl rfl hj2 43 Try.underlying31 sz_namD W9) ?_
        simp only [Act.put, List.setIfInBounds_toArray, List.set_cons_zero, List.set_cons_succ]
        refine Fre.made_val (.pointer (some ⟨b, off + j * 43, none⟩)) (by kernel_rfl) (by kernel_rfl) (by kernel_rfl) (fun _ _ => by kernel_rfl) ?_
        simp only [Act.put, List.setIfInBounds_toArray, List.set_cons_zero, List.set_cons_succ]
        refine Fre.made_val (.string x.1) (by kernel_rfl) (by kernel_rfl) (by kernel_rfl) (fun W9 hW9 => exec_load_cell (o := ⟨some 34, _, _, _, _, _⟩) 9 (.tmp 33) rfl ⟨b, off + j * 43, none⟩ rfl _ _ W9 Try.underlying9 rfl (((World.cell?_of_block (Below.block hW9 _ (World.block_lt_of_cell? wo _ HD0.out.1))).trans HD0.out.1))) ?_
        simp only [Act.put, List.setIfInBounds_toArray, List.set_cons_zero, List.set_cons_succ]
        refine Fre.made_val (.int .i64 (x.1.size : Int)) (by kernel_rfl) (by kernel_rfl) (by kernel_rfl) (fun W9 hW9 => ?hs2) ?_
        case hs2 =>
          go_simp
        simp only [Act.put, List.setIfInBounds_toArray, List.set_cons_zero, List.set_cons_succ]
        refine Fre.made_val (.int .i64 ((n : Int) + 1 + (x.1.size : Int))) (by kernel_rfl) (by kernel_rfl) (by kernel_rfl) (fun W9 hW9 => ?hs3) ?_
        case hs3 =>
          go_simp
          all_goals exact Go.IntWalk.i64_in _ (by omega)
        simp only [Act.put, List.setIfInBounds_toArray, List.set_cons_zero, List.set_cons_succ]
        refine Fre.made_val (.pointer (some ⟨w.heap.size, 1, none⟩)) (by kernel_rfl) (by kernel_rfl) (by kernel_rfl) (fun _ _ => by kernel_rfl) ?_
        simp only [Act.put, List.setIfInBounds_toArray, List.set_cons_zero, List.set_cons_succ]
        refine Fre.made_val (.slice (some ⟨b, off, none⟩) d.2.1.length cap) (by kernel_rfl) (by kernel_rfl) (by kernel_rfl) (fun W9 hW9 => exec_load_cell (o := ⟨some 38, _, _, _, _, _⟩) 31 (.tmp 37) rfl ⟨w.heap.size, 1, none⟩ rfl _ _ W9 Try.underlying31 rfl (((World.cell?_of_block (Below.block hW9 _ (World.block_lt_of_cell? wo _ HC1.out))).trans HC1.out))) ?_
        simp only [Act.put, List.setIfInBounds_toArray, List.set_cons_zero, List.set_cons_succ]
        refine Fre.made_val (.int .i64 (j : Int)) (by kernel_rfl) (by kernel_rfl) (by kernel_rfl) (fun _ _ => by kernel_rfl) ?_
        simp only [Act.put, List.setIfInBounds_toArray, List.set_cons_zero, List.set_cons_succ]
        refine Fre.made_val (.pointer (some ⟨b, off + j * 43, none⟩)) (by kernel_rfl) (by kernel_rfl) (by kernel_rfl) (fun W9 hW9 => exec_idxO (o := ⟨some 40, _, _, _, _, _⟩) 31 72 (.tmp 38) (.tmp 39) rfl b off d.2.1.length cap j rfl rfl hj2 43 Try.underlying31 sz_namD W9) ?_
        simp only [Act.put, List.setIfInBounds_toArray, List.set_cons_zero, List.set_cons_succ]
        refine Fre.made_val (.pointer (some ⟨b, off + j * 43 + 1, none⟩)) (by kernel_rfl) (by kernel_rfl) (by kernel_rfl) (fun _ _ => by kernel_rfl) ?_
        simp only [Act.put, List.setIfInBounds_toArray, List.set_cons_zero, List.set_cons_succ]
        refine Fre.made_val (.pointer (some ⟨b, off + j * 43 + 1, none⟩)) (by kernel_rfl) (by kernel_rfl) (by kernel_rfl) (fun _ _ => by kernel_rfl) ?_
        simp only [Act.put, List.setIfInBounds_toArray, List.set_cons_zero, List.set_cons_succ]
        refine Fre.made_val (.pointer (some ⟨b, off + j * 43 + 21, none⟩)) (by kernel_rfl) (by kernel_rfl) (by kernel_rfl) (fun _ _ => by kernel_rfl) ?_
        simp only [Act.put, List.setIfInBounds_toArray, List.set_cons_zero, List.set_cons_succ]
        refine Fre.made_val (.string x.2.1.2) (by kernel_rfl) (by kernel_rfl) (by kernel_rfl) (fun W9 hW9 => exec_load_cell (o := ⟨some 44, _, _, _, _, _⟩) 9 (.tmp 43) rfl ⟨b, off + j * 43 + 21, none⟩ rfl _ _ W9 Try.underlying9 rfl (((World.cell?_of_block (Below.block hW9 _ (World.block_lt_of_cell? wo _ HD0.out.2))).trans HD0.out.2))) ?_
        simp only [Act.put, List.setIfInBounds_toArray, List.set_cons_zero, List.set_cons_succ]
        refine Fre.made_val (.int .i64 (x.2.1.2.size : Int)) (by kernel_rfl) (by kernel_rfl) (by kernel_rfl) (fun W9 hW9 => ?hs4) ?_
        case hs4 =>
          go_simp
        simp only [Act.put, List.setIfInBounds_toArray, List.set_cons_zero, List.set_cons_succ]
        intro w5 hx5
        have H5 := hide (HB.out.2.trans (Below.mono hx5 HB.out.2.size))
        clear hx5
        dsimp only [Fre.ended, List.drop]
        go_wp2_with fail
        go_roundw
        case rel => exact ⟨n + 1 + x.1.size + x.2.1.2.size, j + 1, by omega, by omega, by go_num, by go_num, by rw [HB.out.1]; exact HST.out, H5.out⟩
        case measure => simp [intOf]; omega
      · have n3 : ¬ (n : Int) ≤ 3000 := by omega
        have hfin : drvOfP 3000 d = n := by rw [HB.out.1]; exact ofLoop_stop hn3
        have HF := hide hfin
        clear hfin
        go_wp2_with fail
        go_ret
        exact ⟨by rw [HF.out]; rfl, H1.out.below.trans (Below.mono HB.out.2 H1.out.below.size)⟩
    · obtain rfl : j = d.2.1.length := by omega
      have hfin : drvOfP 3000 d = n := by rw [HB.out.1, List.drop_length]; rfl
      have HF := hide hfin
      clear hfin
      go_wp2_with fail
      go_ret
      exact ⟨by rw [HF.out]; rfl, H1.out.below.trans (Below.mono HB.out.2 H1.out.below.size)⟩
def gLoop : Nat → List Itm → Nat
  | n, [] => n
  | n, x :: l => if n ≤ 3000 then gLoop (n + drvOfP 3000 x.2) l else n
/-- are items more than is gone through in time? -/
def greatP (l : List Itm) : Bool := decide (3000 < gLoop 0 l)
theorem gLoop_len : ∀ (l : List Itm) (n : Nat), gLoop n l ≤ 3000 → n + l.length ≤ 3000 ∧ ∀ x ∈ l, drvOfP 3000 x.2 ≤ 3000
  | [], n, h => ⟨h, fun x hx => by cases hx⟩
  | x :: l, n, h => by
    unfold gLoop at h
    split at h
    · have h1 := gLoop_len l _ h
      have h2 : 1 ≤ drvOfP 3000 x.2 := Nat.le_trans (by omega) (ofLoop_ge 3000 x.2.2.1 (1 + x.2.1.size + x.2.2.2.length))
      rw [List.length_cons]
      refine ⟨by omega, fun y hy => ?_⟩
      rcases List.mem_cons.1 hy with rfl | hy
      · omega
      · exact h1.2 y hy
    · omega
theorem great_small {l : List Itm} (h : greatP l = false) : l.length ≤ 3000 ∧ ∀ x ∈ l, x.2.2.1.length ≤ 3000 ∧ x.2.2.2.length ≤ 3000 := by
  have h1 : gLoop 0 l ≤ 3000 := by
    have := of_decide_eq_false h
    omega
  obtain ⟨h2, h3⟩ := gLoop_len l 0 h1
  refine ⟨by omega, fun x hx => ?_⟩
  have h4 := ofLoop_len 3000 _ _ (h3 x hx)
  omega
theorem gLoop_step {l : List Itm} {k : Nat} {x : Itm} {n : Nat} (h : l[k]? = some x) (hn : n ≤ 3000) : gLoop n (l.drop k) = gLoop (n + drvOfP 3000 x.2) (l.drop (k + 1)) := by
  have hj := (List.getElem?_eq_some_iff.1 h)
  rw [List.drop_eq_getElem_cons hj.1, hj.2, gLoop, if_pos hn]
theorem gLoop_stop {l : List Itm} {n : Nat} (hn : ¬ n ≤ 3000) : gLoop n l = n := by
  cases l with
  | nil => rfl
  | cons x l => rw [gLoop, if_neg hn]
theorem ofLoop_le (most : Nat) : ∀ (l : List Nam) (n : Nat), (∀ x ∈ l, x.1.size ≤ 140737488355328 ∧ x.2.1.2.size ≤ 140737488355328) → ofLoop most n l ≤ max n (most + 300000000000000)
  | [], n, _ => Nat.le_max_left _ _
  | x :: l, n, h => by
    unfold ofLoop
    split
    · have h1 := h x (List.mem_cons_self ..)
      have h2 := ofLoop_le most l (n + 1 + x.1.size + x.2.1.2.size) fun y hy => h y (List.mem_cons_of_mem _ hy)
      omega
    · exact Nat.le_max_left _ _
theorem drvOf_le {d : Drv} (h : LightD d) : drvOfP 3000 d ≤ 400000000000000 := by
  have h1 := ofLoop_le 3000 d.2.1 (1 + d.1.size + d.2.2.length) h.each
  have h2 := h.name
  have h3 := h.rcp
  unfold drvOfP
  omega
/-- where a class stands in a row -/
def placeH {H : Type} [DecidableEq H] (l : List H) (c : H) : Int := if c ∈ l then (l.idxOf c : Int) else -1
theorem placeH_at {H : Type} [DecidableEq H] {l : List H} {c : H} {j : Nat} (h : l[j]? = some c) (hn : ∀ x ∈ l.take j, x ≠ c) : placeH l c = (j : Int) := by
  have hm := List.mem_of_getElem? h
  have hj := List.getElem?_eq_some_iff.1 h
  have e : l.idxOf c = j := by
    have e2 : l = l.take j ++ c :: l.drop (j + 1) := by rw [← hj.2, List.getElem_cons_drop, List.take_append_drop]
    have hnm : c ∉ l.take j := fun hm => hn c hm rfl
    conv => lhs; rw [e2]
    rw [List.idxOf_append, if_neg hnm, List.idxOf_cons_self, List.length_take]
    have := hj.1
    omega
  unfold placeH
  rw [if_pos hm, e]
theorem placeH_not {H : Type} [DecidableEq H] {l : List H} {c : H} (h : c ∉ l) : placeH l c = -1 := by
  unfold placeH
  rw [if_neg h]
end Go.Proofs.Ytidiepbmbbflhaa
end
section
namespace Go.Proofs.Ytidiepbmbbflhaa
open Go Go.ChangeShapes Go.WideShapes Go.ChangeAt Go.RowKit
theorem Try.ownPF : ownKnob Try.prog.godebug = none := by kernel_rfl
set_option maxRecDepth 100000
theorem opensW_str {P : Program} {M : Nat} {t : TypeId} (ht : P.underlying t = some .string) (hc : P.cellsOf t = 1) : (Lay.str t).OpensW P M fun s => s.size ≤ M where
  cells := hc
  op := fun h => by
    obtain ⟨z, rfl, e, hw⟩ := DataW.trod_string ht h
    refine ⟨z, ⟨rfl, hw⟩, fun hk => hk _ ?_⟩
    rw [e]
    simp [DataW.weights]
theorem itmLay_opensW : itmLay.OpensW Try.prog reachBytes fun x => LightD x.2 where
  cells := itmLay_opens.cells
  op := fun {H enc w sp hd fuel cs y} h => by
    have hs := opensW_str (P := Try.prog) (M := reachBytes) Try.underlying9 cells_str
    have hp := opensW_struct (t := 68) (f := fun p : Pth => (p.1, p.2, ())) (fun b => (b.1, b.2.1)) (fun _ => rfl) (opensW_cons (hashLay_opens.w reachBytes) (opensW_cons hs opensW_nil)) Try.underlying68 (by kernel_rfl) (by kernel_rfl)
    have hi := opensW_struct (t := 70) (f := fun x : Inp => (x.1, x.2.1, x.2.2, ())) (fun b => (b.1, b.2.1, b.2.2.1)) (fun _ => rfl) (opensW_cons hp (opensW_cons (hashLay_opens.w reachBytes) (opensW_cons ((opens_bool (P := Try.prog) Try.underlying4 (by kernel_rfl)).w reachBytes) opensW_nil))) Try.underlying70 (by kernel_rfl) (by kernel_rfl)
    have hn := opensW_struct (t := 72) (f := fun x : Nam => (x.1, x.2, ())) (fun b => (b.1, b.2.1)) (fun _ => rfl) (opensW_cons hs (opensW_cons hi opensW_nil)) Try.underlying72 (by kernel_rfl) (by kernel_rfl)
    have hns := opensW_slice (t := 31) hn (by decide) Try.underlying31 (by kernel_rfl)
    have hb := opensW_slice (t := 32) ((opens_int (P := Try.prog) Try.underlying5 cells_u8).w reachBytes) (by decide) Try.underlying32 (by kernel_rfl)
    have hdr := opensW_struct (t := 34) (f := fun d : Drv => (d.1, d.2.1, d.2.2, ())) (fun b => (b.1, b.2.1, b.2.2.1)) (fun _ => rfl) (opensW_cons hs (opensW_cons hns (opensW_cons hb opensW_nil))) Try.underlying34 (by kernel_rfl) (by kernel_rfl)
    have ht := opensW_struct (t := 43) (f := fun x : Itm => (x.1, x.2, ())) (fun b => (b.1, b.2.1)) (fun _ => rfl) (opensW_cons (hashLay_opens.w reachBytes) (opensW_cons hdr opensW_nil)) Try.underlying43 (by kernel_rfl) (by kernel_rfl)
    obtain ⟨x, hx, hk⟩ := ht.op h
    refine ⟨x, hx, fun hw => ?_⟩
    obtain ⟨_, ⟨h1, ⟨h2, h3⟩, ⟨h4, _⟩, _⟩, _⟩ := hk hw
    have e1 : Try.prog.bytesOf namLay.t = 80 := by kernel_rfl
    have e2 : Try.prog.bytesOf (Lay.int 5 .u8).t = 1 := by kernel_rfl
    have hR : reachBytes ≤ 140737488355328 := by decide
    have h1 : x.2.1.size ≤ reachBytes := h1
    have h2 : x.2.2.1.length * Try.prog.bytesOf namLay.t ≤ reachBytes := h2
    have h4 : x.2.2.2.length * Try.prog.bytesOf (Lay.int 5 .u8).t ≤ reachBytes := h4
    rw [e1] at h2
    rw [e2] at h4
    refine ⟨by omega, by omega, by omega, fun n hn => ?_⟩
    obtain ⟨h5, ⟨⟨_, h6, _⟩, _⟩, _⟩ := h3 n hn
    have h5 : n.1.size ≤ reachBytes := h5
    have h6 : n.2.1.2.size ≤ reachBytes := h6
    exact ⟨by omega, by omega⟩
theorem open_items {H : Type} {enc : TypeId × Value → H} {w : World} {r : Reach} {b0 : Nat} {hd : Bool} {u : Value} {d : DataW H} {ps : List MemPlace}
    (hval : Value.okWide Try.prog w r b0 25 u) (h : DataW.Trod enc Try.prog w 0 (fun _ => true) hd 25 u d ps) (hsz : ∀ n ∈ d.weights Try.prog 25, n ≤ reachBytes) :
    ∃ (l : List Itm) (A : Option Addr) (cap : Nat), u = .slice A l.length cap ∧ itmsLay.At w w.heap.size [.slice A l.length cap] l ∧ ∀ x ∈ l, LightD x.2 := by
  obtain ⟨a0, len, cap, rfl⟩ := okWide_slice Try.underlying25 hval
  obtain ⟨fuel, hf⟩ := h
  have ho := opensW_slice (t := 25) itmLay_opensW (by decide) Try.underlying25 (by kernel_rfl)
  obtain ⟨l, hk, hs⟩ := ho.op hf
  obtain ⟨A, cp, e, _⟩ := slice_open hk
  injection e with e1 e2 e3
  subst e1 e2 e3
  exact ⟨l, _, _, rfl, hk, (hs hsz).2⟩
theorem open_item {H : Type} {enc : TypeId × Value → H} {w : World} {r : Reach} {b0 : Nat} {hd : Bool} {u : Value} {d : DataW H} {ps : List MemPlace}
    (hval : Value.okWide Try.prog w r b0 43 u) (h : DataW.Trod enc Try.prog w 0 (fun _ => true) hd 43 u d ps) (hsz : ∀ n ∈ d.weights Try.prog 43, n ≤ reachBytes) :
    ∃ (x : Itm) (v1 v2 : Value), u = .agg (tC x v1 v2).toArray ∧ okH x.1 ∧ DrvAt w w.heap.size x.2 v1 v2 ∧ LightD x.2 := by
  obtain ⟨cs, rfl, _⟩ := okWide_struct Try.underlying43 hval
  obtain ⟨fuel, hf⟩ := h
  obtain ⟨x, hx, hs⟩ := itmLay_opensW.op hf
  obtain ⟨v1, v2, e, h1, h2⟩ := itmLay_at.1 hx
  refine ⟨x, v1, v2, ?_, h1, h2, hs hsz⟩
  congr 1
  rw [← e]
  rfl
theorem open_hash {H : Type} {enc : TypeId × Value → H} {w : World} {r : Reach} {b0 : Nat} {hd : Bool} {u : Value} {d : DataW H} {ps : List MemPlace}
    (hval : Value.okWide Try.prog w r b0 27 u) (h : DataW.Trod enc Try.prog w 0 (fun _ => true) hd 27 u d ps) : ∃ c : Hsh, u = .agg (bv c).toArray ∧ okH c := by
  obtain ⟨l, rfl, hl, _⟩ := open_bytes Try.underlying27 Try.underlying5 cells_u8 cells_hash hval h
  exact ⟨l, rfl, hl⟩
end Go.Proofs.Ytidiepbmbbflhaa
end
