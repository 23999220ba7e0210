/- package pick: a path gets one class more: its memory. -/
import Derived.Test.YtfppddnfdinipaaPickD
namespace Go.Proofs.Ytfppddnfdinipaa
open Go Go.RowKit Go.Maps
set_option maxRecDepth 100000
def clsL (S : Sst) (p : Pth) : List Hsh := (mget S.cm p).getD []
def cvL (S : Sst) (p : Pth) : Value := if (mget S.cm p).isSome then S.cv p else .slice none 0 0
def tmN (S : Sst) (p : Pth) : Int := (mget S.tm p).getD 0
def idV (v : Value) : Value := v
def cmV (S : Sst) : List (Pth × Value) := S.cm.map fun p => (p.1, S.cv p.1)
theorem mget_mapv {V U : Type} (m : List (Pth × V)) (f : Pth → U) (p : Pth) : mget (m.map fun q => (q.1, f q.1)) p = (mget m p).map fun _ => f p := by
  unfold mget
  induction m with
  | nil => rfl
  | cons q m ih =>
    rw [List.map_cons, List.find?_cons, List.find?_cons]
    by_cases hq : q.1 = p
    · simp [hq]
    · simp only [hq, decide_false]
      exact ih
theorem cvL_look (S : Sst) (p : Pth) : ((mget (cmV S) p).map idV).getD (.slice none 0 0) = cvL S p := by
  unfold cmV cvL
  rw [mget_mapv]
  cases mget S.cm p <;> rfl
section
variable {B : Nat} {w w' : World} {s cb tb hb : Nat} {c : Cvs} {S : Sst}
theorem SAt.cmap' (h : SAt B w s cb tb hb c S) : MapIs pV okP idV w cb (cmV S) := h.cmap
theorem SAt.look_c (hS : SAt B w s cb tb hb c S) {p : Pth} (hp : okP p) : (Instr.lookup 100 (.map (some cb)) (.agg (pC p).toArray) false).run Try.prog w = .ok (cvL S p) w := by
  have := hS.cmap'.look path_enc hp (t := 100) Try.underlying100 (z_sl w)
  rw [cvL_look] at this
  exact this
theorem SAt.look_t (hS : SAt B w s cb tb hb c S) {p : Pth} (hp : okP p) : (Instr.lookup 101 (.map (some tb)) (.agg (pC p).toArray) false).run Try.prog w = .ok (.int .i64 (tmN S p)) w := by
  have := hS.tmap.look path_enc hp (t := 101) Try.underlying101 (z_int w)
  have e : ((mget S.tm p).map intV).getD (.int .i64 0) = .int .i64 (tmN S p) := by
    unfold tmN
    cases mget S.tm p <;> rfl
  rw [e] at this
  exact this
theorem SAt.row (hS : SAt B w s cb tb hb c S) (p : Pth) : OwnH B w (cvL S p) (clsL S p) := by
  unfold cvL clsL
  cases hg : mget S.cm p with
  | none => exact ⟨World.ownsRow_nil _ _ _ _, fun x hx => by cases hx⟩
  | some l => exact hS.rows (p, l) (mget_mem hg)
end
/-- what a path's row and the map of rows may become -/
structure GrowN (cb : Nat) (m : List (Pth × Value)) (p : Pth) (v0 : Value) (F : List Value) (N : Nat) (w w' : World) : Prop where
  os : w'.os = w.os
  tape : w'.tape = w.tape
  output : w'.output = w.output
  size : w.heap.size ≤ w'.heap.size
  block : ∀ k, k < w.heap.size → w'.heap[k]? = w.heap[k]? ∨ (k = cb ∧ mget m p = none ∧ MapIs pV okP idV w cb m ∧ MapIs pV okP idV w' cb (m ++ [(p, .slice none 0 0)])) ∨
    (v0.ownBlock = some k ∧ N < F.length ∧ ∃ cs cs' e, w.heap[k]? = some (.cells cs e (0, 0)) ∧ w'.heap[k]? = some (.cells cs' e (0, 0)) ∧ cs'.size = cs.size ∧ cs.toList.take N = F.take N ∧ cs'.toList.take F.length = F)
theorem take_of_take' {l F : List Value} {N : Nat} (h : l.take F.length = F) (hN : N < F.length) : l.take N = F.take N := by
  have h2 : (l.take F.length).take N = F.take N := by rw [h]
  rwa [List.take_take, Nat.min_eq_left (by omega)] at h2
theorem map_cells {K V : Type} {ek : K → Value} {ok : K → Prop} {ev : V → Value} {w : World} {b : Nat} {m : List (K × V)} (h : MapIs ek ok ev w b m) {cs : Array Value} {e : TypeId} (hc : w.heap[b]? = some (.cells cs e (0, 0))) : False :=
  map_not_cells h (t := e) (cs := cs) hc
section
variable {cb : Nat} {m : List (Pth × Value)} {p : Pth} {v0 : Value} {F : List Value} {N : Nat}
theorem GrowN.of_below {w w' : World} (h : Below w.heap.size w w') : GrowN cb m p v0 F N w w' := ⟨h.os, h.tape, h.output, h.size, fun k hk => .inl (h.block k hk)⟩
instance : Fre.RelOk (GrowN cb m p v0 F N) where
  refl w := .of_below (Below.refl _ w)
  drew w := .of_below ((Below.refl _ w).drew)
  trans a b d h1 h2 := by
    refine ⟨h2.os.trans h1.os, h2.tape.trans h1.tape, h2.output.trans h1.output, Nat.le_trans h1.size h2.size, fun k hk => ?_⟩
    rcases h1.block k hk with e1 | ⟨rfl, q1, q2, q3⟩ | ⟨hv, hN, cs, cs', e, q1, q2, q3, q4, q5⟩
    · rcases h2.block k (Nat.lt_of_lt_of_le hk h1.size) with e2 | ⟨rfl, r1, r2, r3⟩ | ⟨hv, hN, cs, cs', e, q1, q2, q3, q4, q5⟩
      · exact .inl (e2.trans e1)
      · exact .inr (.inl ⟨rfl, r1, r2.of_eq e1.symm, r3⟩)
      · exact .inr (.inr ⟨hv, hN, cs, cs', e, e1.symm.trans q1, q2, q3, q4, q5⟩)
    · rcases h2.block k (Nat.lt_of_lt_of_le hk h1.size) with e2 | ⟨_, r1, r2, r3⟩ | ⟨hv, hN, cs, cs', e, r1, r2, r3, r4, r5⟩
      · exact .inr (.inl ⟨rfl, q1, q2, q3.of_eq e2⟩)
      · have := q3.one_len r2
        simp at this
      · exact (map_cells q3 r1).elim
    · rcases h2.block k (Nat.lt_of_lt_of_le hk h1.size) with e2 | ⟨rfl, r1, r2, r3⟩ | ⟨_, _, ds, ds', e', r1, r2, r3, r4, r5⟩
      · exact .inr (.inr ⟨hv, hN, cs, cs', e, q1, e2.trans q2, q3, q4, q5⟩)
      · exact (map_cells r2 q2).elim
      · rw [q2] at r1
        injection r1 with r1
        injection r1 with r1 r1'
        subst r1 r1'
        exact .inr (.inr ⟨hv, hN, cs, ds', e, q1, r2, r3.trans q3, q4, r5⟩)
theorem GrowN.own_first {B : Nat} {w w' : World} {l : List Hsh} (h : OwnH B w v0 l) (hF : hashCells l = F.take N) (hN : N = l.length * 20) (hx : GrowN cb m p v0 F N w w') : OwnH B w' v0 l := by
  refine ⟨?_, h.2⟩
  obtain ⟨hl, h1⟩ := h.1
  rcases h1 with ⟨h1, h2⟩ | ⟨g, cap, cur, h1, hg, hb, hn, hm, hs, ht⟩
  · exact ⟨hl, .inl ⟨h1, h2⟩⟩
  · have hlt : g < w.heap.size := (Array.getElem?_eq_some_iff.1 hb).1
    rcases hx.block g hlt with e | ⟨rfl, _, q2, _⟩ | ⟨_, hNF, cs, cs', e, q1, q2, q3, q4, q5⟩
    · exact ⟨hl, .inr ⟨g, cap, cur, h1, hg, e.trans hb, hn, hm, hs, ht⟩⟩
    · exact (map_cells q2 hb).elim
    · rw [hb] at q1
      injection q1 with q1
      injection q1 with q1 q1'
      subst q1 q1'
      refine ⟨hl, .inr ⟨g, cap, cs', h1, hg, q2, hn, hm, by rw [q3]; exact hs, ?_⟩⟩
      rw [← hN, take_of_take' q5 hNF, hF]
theorem GrowN.own_last {B : Nat} {w w' : World} {u : Value} {l : List Hsh} (h : OwnH B w u l) (hF : hashCells l = F) (hx : GrowN cb m p v0 F N w w') : OwnH B w' u l := by
  refine ⟨?_, h.2⟩
  obtain ⟨hl, h1⟩ := h.1
  rcases h1 with ⟨h1, h2⟩ | ⟨g, cap, cur, h1, hg, hb, hn, hm, hs, ht⟩
  · exact ⟨hl, .inl ⟨h1, h2⟩⟩
  · have hlt : g < w.heap.size := (Array.getElem?_eq_some_iff.1 hb).1
    rcases hx.block g hlt with e | ⟨rfl, _, q2, _⟩ | ⟨_, hNF, cs, cs', e, q1, q2, q3, q4, q5⟩
    · exact ⟨hl, .inr ⟨g, cap, cur, h1, hg, e.trans hb, hn, hm, hs, ht⟩⟩
    · exact (map_cells q2 hb).elim
    · rw [hb] at q1
      injection q1 with q1
      injection q1 with q1 q1'
      subst q1 q1'
      refine ⟨hl, .inr ⟨g, cap, cs', h1, hg, q2, hn, hm, by rw [q3]; exact hs, ?_⟩⟩
      rw [← hl, hF]
      exact q5
theorem GrowN.other {w w' : World} (hx : GrowN cb m p v0 F N w w') {k : Nat} (hk : k < w.heap.size) (h1 : k ≠ cb) (h2 : v0.ownBlock ≠ some k) : w'.heap[k]? = w.heap[k]? := by
  rcases hx.block k hk with e | ⟨e, _⟩ | ⟨e, _⟩
  · exact e
  · exact absurd e h1
  · exact absurd e h2
/-- the entry's tuple, its stamp, a new row, the row that has grown -/
def EntT (cb : Nat) (m : List (Pth × Value)) (p : Pth) (v0 : Value) (u : Value) (w : World) : Prop := ∃ st : Nat, u = .tuple #[v0, .int .i64 (st : Nat)] ∧ MapIs pV okP idV w cb (ment m p (.slice none 0 0)) ∧ StampIs w cb (pV p) st
def EntS (cb : Nat) (m : List (Pth × Value)) (p : Pth) (u : Value) (w : World) : Prop := ∃ st : Nat, u = .int .i64 (st : Nat) ∧ MapIs pV okP idV w cb (ment m p (.slice none 0 0)) ∧ StampIs w cb (pV p) st
def OneH (N0 : Nat) (h : Hsh) (u : Value) (w : World) : Prop := ∃ r, u = .slice (some ⟨r, 0, none⟩) 1 1 ∧ N0 ≤ r ∧ Blk w r 23 (bv h).toArray
def GrewH (B N0 : Nat) (v0 : Value) (l : List Hsh) (u : Value) (w : World) : Prop := OwnH B w u l ∧ ∀ k, u.ownBlock = some k → v0.ownBlock = some k ∨ N0 ≤ k
theorem GrowN.cb_same {w w' : World} (hx : GrowN cb m p v0 F N w w') (hm : MapIs pV okP idV w cb (ment m p (.slice none 0 0))) : w'.heap[cb]? = w.heap[cb]? := by
  rcases hx.block cb hm.lt with e | ⟨_, q1, q2, _⟩ | ⟨_, _, cs, cs', e, q1, _⟩
  · exact e
  · have := hm.one_len q2
    unfold ment at this
    rw [q1] at this
    simp at this
  · exact (map_cells hm q1).elim
theorem stamp_same {w w' : World} {b : Nat} {k : Value} {st : Nat} (h : StampIs w b k st) (he : w'.heap[b]? = w.heap[b]?) : StampIs w' b k st := by
  obtain ⟨es, c, e, h1, h2⟩ := h
  exact ⟨es, c, e, he.trans h1, h2⟩
theorem entT_ok : Fre.MadeOk (GrowN cb m p v0 F N) (EntT cb m p v0) := ⟨fun _ _ _ ⟨st, h1, h2, h3⟩ hx => by
  have e := GrowN.cb_same hx h2
  exact ⟨st, h1, h2.of_eq e, stamp_same h3 e⟩⟩
theorem entS_ok : Fre.MadeOk (GrowN cb m p v0 F N) (EntS cb m p) := ⟨fun _ _ _ ⟨st, h1, h2, h3⟩ hx => by
  have e := GrowN.cb_same hx h2
  exact ⟨st, h1, h2.of_eq e, stamp_same h3 e⟩⟩
theorem oneH_ok {N0 : Nat} {h : Hsh} (h1 : cb < N0) (h2 : ∀ k, v0.ownBlock = some k → k < N0) : Fre.MadeOk (GrowN cb m p v0 F N) (OneH N0 h) := ⟨fun _ _ _ ⟨r, q1, q2, q3⟩ hx =>
  ⟨r, q1, q2, (GrowN.other hx q3.lt (by omega) fun e => by have := h2 r e; omega).trans q3⟩⟩
theorem grewH_ok {B N0 : Nat} {l : List Hsh} (hF : hashCells l = F) : Fre.MadeOk (GrowN cb m p v0 F N) (GrewH B N0 v0 l) := ⟨fun _ _ _ ⟨q1, q2⟩ hx => ⟨GrowN.own_last q1 hF hx, q2⟩⟩
end
theorem info_hash : (Try.prog.info? 23).map (fun i => (i.zero, i.size, i.bytes)) = some (some (.agg (bv (List.replicate 20 0)).toArray), 20, 20) := by kernel_rfl
/-- the append -/
theorem app_hash {B cb : Nat} {m : List (Pth × Value)} {p : Pth} {v0 : Value} {l : List Hsh} {h : Hsh} {w0 W : World} (h0 : OwnH B w0 v0 l) (hh : okH h) (hl : l.length ≤ 100000) (hB : B ≤ w0.heap.size) (hx : GrowN cb m p v0 (hashCells (l ++ [h])) (l.length * 20) w0 W) {r : Nat} (hr : Blk W r 23 (bv h).toArray) :
    ∃ v' w', (Builtin.append_ #[25, 25] 25 #[v0, .slice (some ⟨r, 0, none⟩) 1 1]).run Try.prog W = .ok v' w' ∧ GrowN cb m p v0 (hashCells (l ++ [h])) (l.length * 20) W w' ∧ GrewH B w0.heap.size v0 (l ++ [h]) v' w' := by
  obtain ⟨i, hi, hz0, hz1, hz2⟩ := info_parts info_hash
  have hl20 := hashCells_len h0.2
  have hF : hashCells (l ++ [h]) = hashCells l ++ bv h := by rw [hashCells_app]; simp [hashCells]
  have hown := hx.own_first h0 (by rw [hF, List.take_left' hl20]) rfl
  have hsz := hx.size
  obtain ⟨v', w', k1, k2, k3, k4⟩ := run_appG (P := Try.prog) (w := W) B 25 25 23 i _ 20 20 Try.underlying25 hi hz0 hz1 hz2 (by simp [Value.cells, bvL]) (by omega) v0 l.length (hashCells l) hown.1 ⟨r, 0, none⟩ 1 1 (bv h) (by rw [bvL, hh]) (fun j u hu => by
    rw [Addr.add_mid, Nat.zero_add, hr.cell]
    simpa using hu) (bv1 h) (by omega) (by unfold maxLen; omega) (by omega) (by omega)
  rw [← hF] at k2
  have hown2 : OwnH B w' v' (l ++ [h]) := ⟨by rw [List.length_append]; exact k2, fun x hx => by
    rcases List.mem_append.1 hx with hx | hx
    · exact h0.2 x hx
    · rw [List.mem_singleton.1 hx]; exact hh⟩
  have hFl : (hashCells (l ++ [h])).length = (l.length + 1) * 20 := k2.1
  rcases k4 with ⟨g, cap, rfl, rfl⟩ | ⟨hloc, hbel⟩
  · refine ⟨_, w', k1, ⟨k3.os, k3.tape, k3.output, k3.size, fun k hk => ?_⟩, hown2, fun k hk => .inl hk⟩
    by_cases hkg : k = g
    · subst hkg
      rcases hown.1.2 with ⟨h, _⟩ | ⟨g1, c1, cs, q1, q2, q3, q4, q5, q6, q7⟩
      · cases h
      · rcases k2.2 with ⟨h, _⟩ | ⟨g2, c2, cs', r1, r2, r3, r4, r5, r6, r7⟩
        · cases h
        · injection q1 with q1 _ q1'
          injection r1 with r1 _ r1'
          injection q1 with q1
          injection r1 with r1
          injection q1 with q1
          injection r1 with r1
          subst q1 r1 q1' r1'
          refine .inr (.inr ⟨rfl, by omega, cs, cs', _, q3, r3, by rw [r6, q6], ?_, by rw [hFl]; exact r7⟩)
          rw [q7, hF, List.take_left' hl20]
    · exact .inl (k3.block k hk fun e => hkg (by have e : some g = some k := e.symm; injection e with e; exact e.symm))
  · refine ⟨v', w', k1, .of_below hbel, hown2, fun k hk => .inr ?_⟩
    rw [hloc] at hk
    injection hk with hk
    omega
/-- the state behind the entry's store -/
def Sst.add (S : Sst) (p : Pth) (l : List Hsh) (u : Value) : Sst := { S with cm := mput S.cm p l, cv := fun q => if q = p then u else S.cv q }
theorem cmV_add (S : Sst) (p : Pth) (l : List Hsh) (u : Value) : cmV (S.add p l u) = mput (cmV S) p u := by
  unfold cmV Sst.add
  dsimp only
  have hg : mget (S.cm.map fun q => (q.1, S.cv q.1)) p = (mget S.cm p).map fun _ => S.cv p := mget_mapv S.cm S.cv p
  unfold mput
  rw [hg]
  cases hc : mget S.cm p with
  | none =>
    simp only [Option.map_none, Option.isSome_none, Bool.false_eq_true, if_false, List.map_append, List.map_cons, List.map_nil, if_true]
    congr 1
    apply List.map_congr_left
    intro q hq
    rw [if_neg (mget_none.1 hc q hq)]
  | some l0 =>
    simp only [Option.map_some, Option.isSome_some, if_true, List.map_map]
    apply List.map_congr_left
    intro q _
    simp only [Function.comp]
    by_cases e : q.1 = p
    · simp [e]
    · simp [e]
theorem mput_mem {K V : Type} [DecidableEq K] {m : List (K × V)} (hn : (m.map (·.1)).Nodup) {x : K} {v : V} {q : K × V} (hq : q ∈ mput m x v) : (q.1 = x ∧ q.2 = v) ∨ (q.1 ≠ x ∧ q ∈ m) := by
  have h1 := (mget_iff (mput_nodup hn x v)).2 (show (q.1, q.2) ∈ mput m x v from hq)
  rw [mget_mput] at h1
  split at h1
  · rename_i e
    injection h1 with h1
    exact .inl ⟨e, h1.symm⟩
  · rename_i e
    exact .inr ⟨e, mget_mem h1⟩
theorem SAt.added {B : Nat} {w w2 : World} {s cb tb hb : Nat} {c : Cvs} {S : Sst} (hS : SAt B w s cb tb hb c S) {p : Pth} (hp : okP p) {h : Hsh} {u : Value} {st : Nat} (hx : GrowN cb (cmV S) p (cvL S p) (hashCells (clsL S p ++ [h])) ((clsL S p).length * 20) w w2)
    (hm : MapIs pV okP idV w2 cb (ment (cmV S) p (.slice none 0 0))) (hst : StampIs w2 cb (pV p) st) (hu : GrewH B w.heap.size (cvL S p) (clsL S p ++ [h]) u w2) :
    ∃ w3, (Instr.entryStore 100 (.map (some cb)) (.int .i64 (st : Nat)) u).run Try.prog w2 = .ok () w3 ∧ SLeft B w s cb tb hb c S (S.add p (clsL S p ++ [h]) u) w3 := by
  obtain ⟨w3, r1, r2, r3⟩ := hm.entry_store path_enc hp hst u 100
  have hcn : (S.cm.map (·.1)).Nodup := by
    have := hS.cmap.nodup
    rw [List.map_map] at this
    exact this
  rw [← cmV_add S p (clsL S p ++ [h]) u] at r2
  have hsz := hx.size
  have hv0 : ∀ k, (cvL S p).ownBlock = some k → ∃ q ∈ S.cm, q.1 = p ∧ (S.cv q.1).ownBlock = some k := by
    intro k hk
    unfold cvL at hk
    split at hk
    · rename_i hsome
      obtain ⟨l, hl⟩ := Option.isSome_iff_exists.1 hsome
      exact ⟨(p, l), mget_mem hl, rfl, hk⟩
    · cases hk
  have hfoot : ∀ k, (cvL S p).ownBlock = some k → S.foot s cb tb hb k := fun k hk => by
    obtain ⟨q, hq, _, h2⟩ := hv0 k hk
    exact .inr (.inr (.inr (.inr (.inr ⟨q, hq, h2⟩))))
  -- what is neither the map of rows nor the old row is as it was
  have hsame : ∀ k, k < w.heap.size → k ≠ cb → (cvL S p).ownBlock ≠ some k → w3.heap[k]? = w.heap[k]? := fun k hk h1 h2 => (r3.2.1 k h1).trans (hx.other hk h1 h2)
  have hrow : ∀ k, (cvL S p).ownBlock = some k → ∃ cs, Blk w k 23 cs := fun k hk => by
    obtain ⟨cs, hb', _⟩ := ownH_blk (hS.row p) hk
    exact ⟨cs, hb'⟩
  have hmapne : ∀ {b : Nat} {K V : Type} {ek : K → Value} {ok : K → Prop} {ev : V → Value} {m : List (K × V)}, MapIs ek ok ev w b m → (cvL S p).ownBlock ≠ some b := fun hmb e => by
    obtain ⟨cs, hb'⟩ := hrow _ e
    exact map_not_cells hmb hb'
  have hsne : (cvL S p).ownBlock ≠ some s := fun e => by
    obtain ⟨cs, hb'⟩ := hrow _ e
    exact hS.blk.ne_ hb' (by decide) rfl
  have hscb : s ≠ cb := fun e => map_not_cells hS.cmap (by rw [← e]; exact hS.blk)
  have hu2 : OwnH B w3 u (clsL S p ++ [h]) := hu.1.keep fun k hk hl => r3.2.1 k fun e => by
    obtain ⟨cs, hb', _⟩ := ownH_blk hu.1 hk
    rw [e] at hb'
    exact map_not_cells hm hb'
  refine ⟨w3, r1, ⟨hS.own, (hsame s hS.blk.lt hscb hsne).trans hS.blk, r2, hS.tmap.of_eq (hsame tb hS.tmap.lt hS.maps.1.symm (hmapne hS.tmap)), hS.hmap.of_eq (hsame hb hS.hmap.lt hS.maps.2.1.symm (hmapne hS.hmap)), fun e he => (hS.imap e he).of_eq (hsame _ (hS.imap e he).lt (hS.maps.2.2.2 e he).1 (hmapne (hS.imap e he))), ?_, hS.low, hS.maps, hS.inner, ?_⟩, ?_, ?_⟩
  · intro q hq
    show OwnH B w3 (if q.1 = p then u else S.cv q.1) q.2
    rcases mput_mem hcn hq with ⟨e1, e2⟩ | ⟨e1, e2⟩
    · rw [if_pos e1, e2]
      exact hu2
    · rw [if_neg e1]
      refine (hS.rows q e2).keep fun k hk hl => hsame k hl (fun e => ?_) (fun e => ?_)
      · obtain ⟨cs, hb', _⟩ := ownH_blk (hS.rows q e2) hk
        rw [e] at hb'
        exact map_not_cells hS.cmap hb'
      · obtain ⟨q', hq', h1, h2⟩ := hv0 k e
        exact hS.apart q e2 q' hq' (by rw [h1]; exact e1) k hk h2
  · intro q hq q' hq' hne k
    show (if q.1 = p then u else S.cv q.1).ownBlock = some k → (if q'.1 = p then u else S.cv q'.1).ownBlock ≠ some k
    rcases mput_mem hcn hq with ⟨e1, e2⟩ | ⟨e1, e2⟩
    · rcases mput_mem hcn hq' with ⟨e3, e4⟩ | ⟨e3, e4⟩
      · exact absurd (e1.trans e3.symm) hne
      · rw [if_pos e1, if_neg e3]
        intro hk hk'
        rcases hu.2 k hk with h1 | h1
        · obtain ⟨q2, hq2, h3, h4⟩ := hv0 k h1
          exact hS.apart q2 hq2 q' e4 (by rw [h3]; exact fun e => e3 e.symm) k h4 hk'
        · obtain ⟨cs, hb', _⟩ := ownH_blk (hS.rows q' e4) hk'
          have := hb'.lt
          omega
    · rcases mput_mem hcn hq' with ⟨e3, e4⟩ | ⟨e3, e4⟩
      · rw [if_neg e1, if_pos e3]
        intro hk hk'
        rcases hu.2 k hk' with h1 | h1
        · obtain ⟨q2, hq2, h3, h4⟩ := hv0 k h1
          exact hS.apart q e2 q2 hq2 (by rw [h3]; exact e1) k hk h4
        · obtain ⟨cs, hb', _⟩ := ownH_blk (hS.rows q e2) hk
          have := hb'.lt
          omega
      · rw [if_neg e1, if_neg e3]
        exact hS.apart q e2 q' e4 hne k
  · refine ⟨r3.2.2.1.trans hx.os, r3.2.2.2.1.trans hx.tape, r3.2.2.2.2.trans hx.output, by rw [r3.1]; exact hsz, fun k hk hf => hsame k hk (fun e => hf (.inr (.inl e))) fun e => hf (hfoot k e)⟩
  · rintro k (h | h | h | h | h | ⟨q, hq, hk⟩)
    · exact .inl (.inl h)
    · exact .inl (.inr (.inl h))
    · exact .inl (.inr (.inr (.inl h)))
    · exact .inl (.inr (.inr (.inr (.inl h))))
    · exact .inl (.inr (.inr (.inr (.inr (.inl h)))))
    · have hk : (if q.1 = p then u else S.cv q.1).ownBlock = some k := hk
      rcases mput_mem hcn hq with ⟨e1, e2⟩ | ⟨e1, e2⟩
      · rw [if_pos e1] at hk
        exact (hu.2 k hk).imp (hfoot k) id
      · rw [if_neg e1] at hk
        exact .inl (.inr (.inr (.inr (.inr (.inr ⟨q, e2, hk⟩)))))
end Go.Proofs.Ytfppddnfdinipaa
