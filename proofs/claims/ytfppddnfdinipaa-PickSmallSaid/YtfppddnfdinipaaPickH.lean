/- package pick: how often a path is there: its memory. -/
import Derived.Test.YtfppddnfdinipaaPickF
import Derived.Test.YtfppddnfdinipaaPickG
namespace Go.Proofs.Ytfppddnfdinipaa
open Go Go.RowKit Go.Maps
set_option maxRecDepth 100000
/-- what a map of counts may become: an entry more -/
structure EntX (tb : Nat) (m : List (Pth × Int)) (p : Pth) (w w' : World) : Prop where
  os : w'.os = w.os
  tape : w'.tape = w.tape
  output : w'.output = w.output
  size : w.heap.size ≤ w'.heap.size
  block : ∀ k, k < w.heap.size → w'.heap[k]? = w.heap[k]? ∨ (k = tb ∧ mget m p = none ∧ MapIs pV okP intV w tb m ∧ MapIs pV okP intV w' tb (m ++ [(p, 0)]))
section
variable {tb : Nat} {m : List (Pth × Int)} {p : Pth}
theorem EntX.of_below {w w' : World} (h : Below w.heap.size w w') : EntX tb m p w w' := ⟨h.os, h.tape, h.output, h.size, fun k hk => .inl (h.block k hk)⟩
instance : Fre.RelOk (EntX tb m p) where
  refl w := .of_below (Below.refl _ w)
  drew w := .of_below ((Below.refl _ w).drew)
  trans a b d h1 h2 := by
    refine ⟨h2.os.trans h1.os, h2.tape.trans h1.tape, h2.output.trans h1.output, Nat.le_trans h1.size h2.size, fun k hk => ?_⟩
    rcases h1.block k hk with e1 | ⟨rfl, q1, q2, q3⟩
    · rcases h2.block k (Nat.lt_of_lt_of_le hk h1.size) with e2 | ⟨rfl, r1, r2, r3⟩
      · exact .inl (e2.trans e1)
      · exact .inr ⟨rfl, r1, r2.of_eq e1.symm, r3⟩
    · rcases h2.block k (Nat.lt_of_lt_of_le hk h1.size) with e2 | ⟨_, r1, r2, r3⟩
      · exact .inr ⟨rfl, q1, q2, q3.of_eq e2⟩
      · have := q3.one_len r2
        simp at this
theorem EntX.other {w w' : World} (hx : EntX tb m p w w') {k : Nat} (hk : k < w.heap.size) (h1 : k ≠ tb) : w'.heap[k]? = w.heap[k]? := by
  rcases hx.block k hk with e | ⟨e, _⟩
  · exact e
  · exact absurd e h1
/-- the entry's tuple, its stamp -/
def EntTT (tb : Nat) (m : List (Pth × Int)) (p : Pth) (v0 : Value) (u : Value) (w : World) : Prop := ∃ st : Nat, u = .tuple #[v0, .int .i64 (st : Nat)] ∧ MapIs pV okP intV w tb (ment m p 0) ∧ StampIs w tb (pV p) st
def EntST (tb : Nat) (m : List (Pth × Int)) (p : Pth) (u : Value) (w : World) : Prop := ∃ st : Nat, u = .int .i64 (st : Nat) ∧ MapIs pV okP intV w tb (ment m p 0) ∧ StampIs w tb (pV p) st
theorem EntX.tb_same {w w' : World} (hx : EntX tb m p w w') (hm : MapIs pV okP intV w tb (ment m p 0)) : w'.heap[tb]? = w.heap[tb]? := by
  rcases hx.block tb hm.lt with e | ⟨_, q1, q2, _⟩
  · exact e
  · have := hm.one_len q2
    unfold ment at this
    rw [q1] at this
    simp at this
theorem entTT_ok {v0 : Value} : Fre.MadeOk (EntX tb m p) (EntTT tb m p v0) := ⟨fun _ _ _ ⟨st, h1, h2, h3⟩ hx => by
  have e := EntX.tb_same hx h2
  exact ⟨st, h1, h2.of_eq e, stamp_same h3 e⟩⟩
theorem entST_ok : Fre.MadeOk (EntX tb m p) (EntST tb m p) := ⟨fun _ _ _ ⟨st, h1, h2, h3⟩ hx => by
  have e := EntX.tb_same hx h2
  exact ⟨st, h1, h2.of_eq e, stamp_same h3 e⟩⟩
end
section
variable {B : Nat} {w W : World} {s cb tb hb : Nat} {c : Cvs} {S : Sst} {p : Pth}
theorem entX_case (hS : SAt B w s cb tb hb c S) (hx : EntX tb S.tm p w W) : MapIs pV okP intV W tb S.tm ∨ (mget S.tm p = none ∧ MapIs pV okP intV W tb (S.tm ++ [(p, 0)])) := by
  rcases hx.block tb hS.tmap.lt with e | ⟨_, h1, _, h3⟩
  · exact .inl (hS.tmap.of_eq e)
  · exact .inr ⟨h1, h3⟩
theorem tmN_val (S : Sst) (p : Pth) : ((mget S.tm p).map intV).getD (.int .i64 0) = .int .i64 (tmN S p) := by
  unfold tmN
  cases mget S.tm p <;> rfl
/-- the count, wherever it is looked up -/
theorem look_x (hS : SAt B w s cb tb hb c S) (hp : okP p) (hx : EntX tb S.tm p w W) : (Instr.lookup 101 (.map (some tb)) (.agg (pC p).toArray) false).run Try.prog W = .ok (.int .i64 (tmN S p)) W := by
  rcases entX_case hS hx with hm | ⟨hno, hm⟩
  · have := hm.look path_enc hp (t := 101) Try.underlying101 (z_int W)
    rw [tmN_val] at this
    exact this
  · have := hm.look path_enc hp (t := 101) Try.underlying101 (z_int W)
    have e : ((mget (S.tm ++ [(p, 0)]) p).map intV).getD (.int .i64 0) = .int .i64 (tmN S p) := by
      rw [mget_app_new hno, if_pos rfl]
      unfold tmN
      rw [hno]
      rfl
    rw [e] at this
    exact this
/-- the entry, wherever it is looked for -/
theorem ent_stepT (hS : SAt B w s cb tb hb c S) (hp : okP p) (hx : EntX tb S.tm p w W) :
    ∃ w' st, (Instr.mapEntry 101 (.map (some tb)) (.agg (pC p).toArray)).run Try.prog W = .ok (.tuple #[.int .i64 (tmN S p), .int .i64 (st : Nat)]) w' ∧ MapIs pV okP intV w' tb (ment S.tm p 0) ∧ StampIs w' tb (pV p) st ∧ EntX tb S.tm p W w' := by
  have hval : intV ((mget S.tm p).getD 0) = .int .i64 (tmN S p) := rfl
  rcases entX_case hS hx with hm | ⟨hno, hm⟩
  · obtain ⟨w', st, r1, r2, r3, r4, r5⟩ := hm.entry path_enc hp (t := 101) Try.underlying101 (z := 0) (z_int W)
    rw [hval] at r1
    refine ⟨w', st, r1, r2, r3, ⟨r4.2.2.1, r4.2.2.2.1, r4.2.2.2.2, by rw [r4.1]; exact Nat.le_refl _, fun k hk => ?_⟩⟩
    by_cases hkc : k = tb
    · subst hkc
      cases hg : mget S.tm p with
      | none =>
        unfold ment at r2
        rw [hg] at r2
        exact .inr ⟨rfl, rfl, hm, r2⟩
      | some v =>
        rw [r5 (by rw [hg]; rfl)]
        exact .inl rfl
    · exact .inl (r4.2.1 k hkc)
  · have hg : mget (S.tm ++ [(p, (0 : Int))]) p = some 0 := by rw [mget_app_new hno, if_pos rfl]
    obtain ⟨w', st, r1, r2, r3, r4, r5⟩ := hm.entry path_enc hp (t := 101) Try.underlying101 (z := 0) (z_int W)
    have hw : w' = W := r5 (by rw [hg]; rfl)
    have e1 : intV ((mget (S.tm ++ [(p, (0 : Int))]) p).getD 0) = .int .i64 (tmN S p) := by
      rw [hg, ← hval, hno]
      rfl
    rw [e1] at r1
    subst hw
    refine ⟨w', st, r1, ?_, r3, Fre.Ext.refl (X := EntX tb S.tm p) w'⟩
    unfold ment at r2 ⊢
    rw [hg] at r2
    rw [hno]
    exact r2
/-- the state behind the entry's store -/
def Sst.setT (S : Sst) (p : Pth) (n : Int) : Sst := { S with tm := mput S.tm p n }
theorem SAt.counted {w2 : World} (hS : SAt B w s cb tb hb c S) (hp : okP p) {st : Nat} (n : Int) (hx : EntX tb S.tm p w w2)
    (hm : MapIs pV okP intV w2 tb (ment S.tm p 0)) (hst : StampIs w2 tb (pV p) st) :
    ∃ w3, (Instr.entryStore 101 (.map (some tb)) (.int .i64 (st : Nat)) (.int .i64 n)).run Try.prog w2 = .ok () w3 ∧ SLeft B w s cb tb hb c S (S.setT p n) w3 := by
  obtain ⟨w3, r1, r2, r3⟩ := hm.entry_store path_enc hp hst n 101
  have hsz := hx.size
  have hsame : ∀ k, k < w.heap.size → k ≠ tb → w3.heap[k]? = w.heap[k]? := fun k hk h1 => (r3.2.1 k h1).trans (hx.other hk h1)
  have hstb : s ≠ tb := fun e => map_not_cells hS.tmap (by rw [← e]; exact hS.blk)
  refine ⟨w3, r1, ⟨hS.own, (hsame s hS.blk.lt hstb).trans hS.blk, hS.cmap.of_eq (hsame cb hS.cmap.lt hS.maps.1), r2, hS.hmap.of_eq (hsame hb hS.hmap.lt hS.maps.2.2.1.symm), fun e he => (hS.imap e he).of_eq (hsame _ (hS.imap e he).lt (hS.maps.2.2.2 e he).2.1), ?_, hS.low, hS.maps, hS.inner, hS.apart⟩, ?_, fun k h => .inl h⟩
  · exact fun q hq => (hS.rows q hq).keep fun k hk hl => hsame k hl fun e => by
      obtain ⟨cs, hb', _⟩ := ownH_blk (hS.rows q hq) hk
      rw [e] at hb'
      exact map_not_cells hS.tmap hb'
  · exact ⟨r3.2.2.1.trans hx.os, r3.2.2.2.1.trans hx.tape, r3.2.2.2.2.trans hx.output, by rw [r3.1]; exact hsz, fun k hk hf => hsame k hk fun e => hf (.inr (.inr (.inl e)))⟩
end
theorem tmN_setT (S : Sst) (p q : Pth) (n : Int) : tmN (S.setT p n) q = if q = p then n else tmN S q := by
  unfold tmN Sst.setT
  dsimp only
  rw [mget_mput]
  split <;> rfl
/-- how often a path is there turns; the classes' maps not yet -/
theorem InvP.counted {own : Hsh} {U : List Hsh} {V : List Pth} {S : Sst} {cnt : Pth → Nat} {M : Pth → List Hsh} {R : Hsh → Pth → Prop} (h : InvP own U V S cnt M R) (p : Pth) (n : Nat) : InvP own U V (S.setT p (n : Int)) (upd cnt p n) M R := by
  refine ⟨fun q => ?_, h.cls, h.nod, h.mem, h.mnod, h.mU, h.rV, h.unod, h.bad⟩
  rw [tmN_setT]
  unfold upd
  split
  · rfl
  · exact h.tm q
/-- the first k classes of a path have been turned -/
def flip (is : Bool) (cnt : Pth → Nat) (M : Pth → List Hsh) (p : Pth) (k : Nat) (x : Hsh) (q : Pth) : Prop := if q = p then x ∈ (if is then (M p).take k else (M p).drop k) else there cnt M x q
theorem mem_take_next {l : List Hsh} {k : Nat} {x y : Hsh} (h : l[k]? = some x) : y ∈ l.take (k + 1) ↔ y ∈ l.take k ∨ y = x := by
  rw [List.take_add_one, h, List.mem_append]
  simp only [Option.toList_some, List.mem_singleton]
theorem mem_drop_next {l : List Hsh} (hn : l.Nodup) {k : Nat} {x y : Hsh} (h : l[k]? = some x) : y ∈ l.drop (k + 1) ↔ y ∈ l.drop k ∧ y ≠ x := by
  obtain ⟨hk, rfl⟩ := List.getElem?_eq_some_iff.1 h
  have e : l.drop k = l[k] :: l.drop (k + 1) := List.drop_eq_getElem_cons hk
  have hn2 : (l.drop k).Nodup := hn.sublist (List.drop_sublist _ _)
  rw [e] at hn2 ⊢
  have h1 := (List.nodup_cons.1 hn2).1
  constructor
  · intro hy
    exact ⟨List.mem_cons_of_mem _ hy, fun e => h1 (e ▸ hy)⟩
  · rintro ⟨hy, hne⟩
    rcases List.mem_cons.1 hy with h | h
    · exact absurd h hne
    · exact h
theorem InvP.flipped {own : Hsh} {U : List Hsh} {V : List Pth} {S S' : Sst} {cnt c1 : Pth → Nat} {M : Pth → List Hsh} {p : Pth} {is : Bool} {k : Nat} {x : Hsh} (h : InvP own U V S c1 M (flip is cnt M p k)) (hx : (M p)[k]? = some x) (hp : p ∈ V) (hq : TurnQ own S S' x p is) : InvP own U V S' c1 M (flip is cnt M p (k + 1)) := by
  have hxM : x ∈ M p := List.mem_of_getElem? hx
  refine (h.turned (h.mU p x hxM) (fun _ => hp) hq).say fun y q => ?_
  unfold flip
  by_cases e : q = p
  · subst e
    simp only [and_true, if_true]
    cases is with
    | true =>
      simp only [if_true]
      rw [mem_take_next hx]
      by_cases e2 : y = x <;> simp [e2]
    | false =>
      simp only [Bool.false_eq_true, if_false]
      rw [mem_drop_next (h.mnod q) hx]
      by_cases e2 : y = x <;> simp [e2]
  · simp [e]
theorem flip_first {is : Bool} {cnt : Pth → Nat} {M : Pth → List Hsh} {p : Pth} (h : if is then cnt p = 0 else 0 < cnt p) (x : Hsh) (q : Pth) : there cnt M x q ↔ flip is cnt M p 0 x q := by
  unfold flip
  by_cases e : q = p
  · subst e
    rw [if_pos rfl]
    unfold there
    cases is with
    | true => simp at h; simp [h]
    | false => simp at h; simp [h]
  · rw [if_neg e]
theorem flip_last {is : Bool} {cnt : Pth → Nat} {M : Pth → List Hsh} {p : Pth} {n : Nat} (h : if is then 0 < n else n = 0) (x : Hsh) (q : Pth) : flip is cnt M p (M p).length x q ↔ there (upd cnt p n) M x q := by
  unfold flip there upd
  by_cases e : q = p
  · subst e
    rw [if_pos rfl, if_pos rfl]
    cases is with
    | true => simp at h; simp [h]
    | false => simp at h; simp [h]
  · rw [if_neg e, if_neg e]
/-- no class is turned -/
theorem there_same {cnt : Pth → Nat} {M : Pth → List Hsh} {p : Pth} {n : Nat} (h : 0 < cnt p ↔ 0 < n) (x : Hsh) (q : Pth) : there cnt M x q ↔ there (upd cnt p n) M x q := by
  unfold there upd
  by_cases e : q = p
  · subst e
    rw [if_pos rfl, h]
  · rw [if_neg e]
end Go.Proofs.Ytfppddnfdinipaa
