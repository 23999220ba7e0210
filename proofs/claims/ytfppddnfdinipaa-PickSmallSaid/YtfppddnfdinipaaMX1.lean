/- A struct built of any parts, the filling given. package pick: the cells of a search that begins. pick.Case in memory, as an argument; the document's, too. package pick: over. package pick: Least. package pick: Free. Readers: what is read, and how light the rows in it are. spencelaw24: great. pick.Case as an argument, opened. Rows of things of many cells: a source of an append; an append onto a row of one's own, whatever the source is; one that grows from nothing. Rows that grow in a region that draws its order, by their types: the relation of worlds. -/
import Derived.Test.YtfppddnfdinipaaBuild2
import Derived.Test.YtfppddnfdinipaaPickP
import Derived.Test.YtfppddnfdinipaaPickLaw
import Derived.Test.YtfppddnfdinipaaLay
import Derived.Test.YtfppddnfdinipaaRows
import Derived.Test.YtfppddnfdinipaaGrow
import Derived.Test.YtfppddnfdinipaaFre2
import Derived.Test.YtfppddnfdinipaaBuild
section
namespace Go.Proofs.Ytfppddnfdinipaa
open Go Go.RowKit
theorem exec_buildN {P : Program} {ρ : Operand → Value} {o : Oper} (t : TypeId) (xs : Array (Nat × Operand)) (ho : o.op = .build t xs) {fields : Array Field} {places : Array (Nat × Nat)} {z : Value} {cells : Array Value} (ht : P.underlying t = some (.struct fields)) (hz : ∀ w, (zeroValue t).run P w = .ok z w)
    (hpl : ∀ w, (fields.mapM fun f => do pure (f.offset, ← sizeOf f.type) : Sem (Array (Nat × Nat))).run P w = .ok places w) (parts : List (Nat × Value)) (hx : (xs.map fun (i, x) => (i, ρ x)) = parts.toArray) (hf : Instr.fill (fun i => places[i]?) z.cells parts = some cells) (w : World) :
    (execOp ρ o).run P w = .ok (.value (.agg cells)) w := by
  have h : (Instr.build t parts.toArray).run P w = .ok (.agg cells) w := by
    unfold Instr.build
    simp only [Sem.run_bind, hz, Result.andThen_ok, run_underlying ht]
    rw [hpl]
    simp only [Result.andThen_ok]
    rw [hf]
    rfl
  unfold execOp
  simp only [ho, hx, Sem.run_bind, h, Result.andThen_ok, Sem.run_pure]
end Go.Proofs.Ytfppddnfdinipaa
end
section
namespace Go.Proofs.Ytfppddnfdinipaa
open Go Go.RowKit Go.Maps
set_option maxRecDepth 100000
def caseC (c : Cvs) : List Value := bv c.own ++ [c.fixed, c.classes, c.opts, c.of]
def srchZ : List Value := bv (List.replicate 20 0) ++ [.slice none 0 0, .slice none 0 0, .slice none 0 0, .slice none 0 0, .map none, .map none, .map none, .int .i64 0, .int .i64 0, .int .i64 0]
def srchPlaces : Array (Nat × Nat) := #[(0, 24), (24, 1), (25, 1), (26, 1), (27, 1), (28, 1), (29, 1)]
theorem caseC_len {c : Cvs} (h : okH c.own) : (caseC c).length = 24 := by
  unfold caseC
  rw [List.length_append, bvL, show c.own.length = 20 from h]
  rfl
theorem fill_one {place : Nat → Option (Nat × Nat)} {A L : List Value} (hA : A.length = 24) (n i : Nat) (v : Value) (rest : List (Nat × Value)) (hv : v.cells = #[v]) (hp : place i = some (24 + n, 1)) (hn : n < L.length) :
    Instr.fill place (A ++ L).toArray ((i, v) :: rest) = Instr.fill place (A ++ L.set n v).toArray rest := by
  have e1 : (A ++ L).take (24 + n) = A ++ L.take n := by
    rw [List.take_append, hA, List.take_of_length_le (by omega), show 24 + n - 24 = n by omega]
  have e2 : (A ++ L).drop (24 + n + 1) = L.drop (n + 1) := by
    rw [List.drop_append, hA, List.drop_of_length_le (by omega), List.nil_append, show 24 + n + 1 - 24 = n + 1 by omega]
  rw [fill_part _ _ i v rest (24 + n) (by rw [hv]; exact hp) (by rw [hv]; simp [hA]; omega)]
  rw [hv]
  show Instr.fill place ((A ++ L).take (24 + n) ++ [v] ++ (A ++ L).drop (24 + n + 1)).toArray rest = _
  rw [e1, e2, List.set_eq_take_append_cons_drop, if_pos hn]
  simp
theorem fill_srch {c : Cvs} (h : okH c.own) (cb tb hb : Nat) (f : Int) :
    Instr.fill (fun i => srchPlaces[i]?) srchZ.toArray [(0, .agg (caseC c).toArray), (1, .map (some cb)), (2, .map (some tb)), (3, .map (some hb)), (6, .int .i64 f)] = some (srchCells c cb tb hb (S0 f)).toArray := by
  have hl := caseC_len h
  have hz : srchZ.drop 24 = [Value.map none, .map none, .map none, .int .i64 0, .int .i64 0, .int .i64 0] := rfl
  rw [fill_part _ _ 0 _ _ 0 (by simp [Value.cells, hl, srchPlaces]) (by simp [Value.cells, hl]; decide)]
  have z1 : (srchZ.toArray.toList.take 0 ++ (Value.agg (caseC c).toArray).cells.toList ++ srchZ.toArray.toList.drop (0 + (Value.agg (caseC c).toArray).cells.size)).toArray = (caseC c ++ [Value.map none, .map none, .map none, .int .i64 0, .int .i64 0, .int .i64 0]).toArray := by
    simp [Value.cells, hl, hz]
  rw [z1]
  rw [fill_one hl 0 1 _ _ rfl rfl (by simp), fill_one hl 1 2 _ _ rfl rfl (by simp), fill_one hl 2 3 _ _ rfl rfl (by simp), fill_one hl 5 6 _ _ rfl rfl (by simp)]
  unfold Instr.fill srchCells caseC
  simp [S0]
/-- the search is built (give the five slots by rfl) -/
theorem exec_srch {ρ : Operand → Value} {o : Oper} {c : Cvs} (ho : okH c.own) (a b d : Nat) (f : Int) (w : World) (hop : o.op = .build 104 #[(0, .tmp 10), (1, .tmp 11), (2, .tmp 12), (3, .tmp 13), (6, .tmp 15)]) (h1 : ρ (.tmp 10) = .agg (caseC c).toArray) (h2 : ρ (.tmp 11) = .map (some a)) (h3 : ρ (.tmp 12) = .map (some b)) (h4 : ρ (.tmp 13) = .map (some d)) (h5 : ρ (.tmp 15) = .int .i64 f) :
    (execOp ρ o).run Try.prog w = .ok (.value (.agg (srchCells c a b d (S0 f)).toArray)) w := by
  refine exec_buildN 104 _ hop (z := .agg srchZ.toArray) (places := srchPlaces) Try.underlying104 (fun w => by kernel_rfl) (fun w => by kernel_rfl) [(0, .agg (caseC c).toArray), (1, .map (some a)), (2, .map (some b)), (3, .map (some d)), (6, .int .i64 f)] ?_ (fill_srch ho _ _ _ f) _
  simp [h1, h2, h3, h4, h5]
end Go.Proofs.Ytfppddnfdinipaa
end
section
namespace Go.Proofs.Ytfppddnfdinipaa
open Go Go.RowKit Go.Maps
set_option maxRecDepth 100000
def madeLay : Lay Mde := Lay.struct 60 (.cons hashLay (.cons pathLay .nil)) fun m => (m.1, m.2, ())
def madesLay : Lay (List Mde) := Lay.slice 27 madeLay
def caseLay : Lay CaseP := Lay.struct 29 (.cons hashLay (.cons pathsLay (.cons hashesLay (.cons rowsLay (.cons madesLay .nil))))) fun c => (c.own, c.fixed, c.cls, c.opts, c.of, ())
theorem madeLay_opens : madeLay.Opens Try.prog := opens_struct (fun b => (b.1, b.2.1)) (fun _ => rfl) (opens_cons hashLay_opens (opens_cons pathLay_opens opens_nil)) Try.underlying60 (by kernel_rfl) (by kernel_rfl)
theorem madesLay_opens : madesLay.Opens Try.prog := opens_slice madeLay_opens (by decide) Try.underlying27 (by kernel_rfl)
theorem optLay_opens : optLay.Opens Try.prog := opens_struct (fun b => (b.1, b.2.1)) (fun _ => rfl) (opens_cons pathLay_opens (opens_cons pathsLay_opens opens_nil)) Try.underlying55 (by kernel_rfl) (by kernel_rfl)
theorem rowLay_opens : rowLay.Opens Try.prog := opens_slice optLay_opens (by decide) Try.underlying57 (by kernel_rfl)
theorem rowsLay_opens : rowsLay.Opens Try.prog := opens_slice rowLay_opens (by decide) Try.underlying26 (by kernel_rfl)
theorem caseLay_opens : caseLay.Opens Try.prog := opens_struct (fun b => ⟨b.1, b.2.1, b.2.2.1, b.2.2.2.1, b.2.2.2.2.1⟩) (fun _ => rfl) (opens_cons hashLay_opens (opens_cons pathsLay_opens (opens_cons hashesLay_opens (opens_cons rowsLay_opens (opens_cons madesLay_opens opens_nil))))) Try.underlying29 (by kernel_rfl) (by kernel_rfl)
theorem madeLay_at {w : World} {B : Nat} {cs : List Value} {m : Mde} : madeLay.At w B cs m ↔ cs = mC m.1 m.2 ∧ okH m.1 ∧ okP m.2 := by
  constructor
  · rintro ⟨c1, c2, rfl, ⟨rfl, h1⟩, c3, c4, rfl, h2, h3⟩
    have h3 : c4 = [] := h3
    subst h3
    obtain ⟨e, h4⟩ := pathLay_at.1 h2
    subst e
    exact ⟨by simp [mC], h1, h4⟩
  · rintro ⟨rfl, h1, h2⟩
    exact ⟨bv m.1, pC m.2, rfl, ⟨rfl, h1⟩, pC m.2, [], by simp, pathLay_at.2 ⟨rfl, h2⟩, rfl⟩
theorem slice1 {α : Type} {t : TypeId} {L : Lay α} {w : World} {B : Nat} {cs : List Value} {l : List α} (h : (Lay.slice t L).At w B cs l) : ∃ v, cs = [v] := by
  obtain ⟨A, cap, e, _⟩ := h
  exact ⟨_, e⟩
/-- a case in memory: its cells -/
structure CaseAt (B : Nat) (w : World) (v : Cvs) (c : CaseP) : Prop where
  own : v.own = c.own
  okO : okH c.own
  atF : pathsLay.At w B [v.fixed] c.fixed
  atC : hashesLay.At w B [v.classes] c.cls
  atO : rowsLay.At w B [v.opts] c.opts
  atM : madesLay.At w B [v.of] c.of
theorem caseLay_at {w : World} {B : Nat} {cs : List Value} {c : CaseP} (h : caseLay.At w B cs c) : ∃ v, cs = caseC v ∧ CaseAt B w v c := by
  obtain ⟨c0, d0, rfl, ⟨rfl, h0⟩, c1, d1, rfl, h1, c2, d2, rfl, h2, c3, d3, rfl, h3, c4, d4, rfl, h4, h5⟩ := h
  have h5 : d4 = [] := h5
  subst h5
  obtain ⟨v1, rfl⟩ := slice1 h1
  obtain ⟨v2, rfl⟩ := slice1 h2
  obtain ⟨v3, rfl⟩ := slice1 h3
  obtain ⟨v4, rfl⟩ := slice1 h4
  exact ⟨⟨c.own, v1, v2, v3, v4⟩, by simp [caseC], rfl, h0, h1, h2, h3, h4⟩
theorem CaseAt.alike {B : Nat} {w w' : World} {v : Cvs} {c : CaseP} (h : CaseAt B w v c) (ha : Alike B w w') : CaseAt B w' v c :=
  ⟨h.own, h.okO, pathsLay.alike h.atF ha, hashesLay.alike h.atC ha, rowsLay.alike h.atO ha, madesLay.alike h.atM ha⟩
theorem CaseAt.widen {B B' : Nat} {w : World} {v : Cvs} {c : CaseP} (h : CaseAt B w v c) (hB : B ≤ B') : CaseAt B' w v c :=
  ⟨h.own, h.okO, pathsLay.widen h.atF hB, hashesLay.widen h.atC hB, rowsLay.widen h.atO hB, madesLay.widen h.atM hB⟩
/-- what all elements of a row in memory are -/
theorem slice_all {α : Type} {t : TypeId} {L : Lay α} {w : World} {B : Nat} {v : Value} {l : List α} (h : (Lay.slice t L).At w B [v] l) {x : α} (hx : x ∈ l) : ∃ cs, L.At w B cs x := by
  obtain ⟨A, cap, _, _, _, _, h4⟩ := h
  obtain ⟨i, hi⟩ := List.getElem?_of_mem hx
  obtain ⟨b, off, _, _, hE⟩ := h4 (by have := (List.getElem?_eq_some_iff.1 hi).1; omega)
  obtain ⟨cs, _, h5⟩ := hE i x hi
  exact ⟨cs, h5⟩
theorem CaseAt.oks {B : Nat} {w : World} {v : Cvs} {c : CaseP} (h : CaseAt B w v c) : (∀ p ∈ c.fixed, okP p) ∧ (∀ x ∈ c.cls, okH x) ∧ (∀ m ∈ c.of, okH m.1 ∧ okP m.2) ∧ ∀ os ∈ c.opts, ∀ x ∈ os, okP x.1 ∧ ∀ q ∈ x.2, okP q := by
  refine ⟨fun p hp => ?_, fun x hx => ?_, fun m hm => ?_, fun os hos x hx => ?_⟩
  · obtain ⟨cs, h1⟩ := slice_all h.atF hp
    exact (pathLay_at.1 h1).2
  · obtain ⟨cs, h1⟩ := slice_all h.atC hx
    exact h1.2
  · obtain ⟨cs, h1⟩ := slice_all h.atM hm
    exact (madeLay_at.1 h1).2
  · obtain ⟨cs, h1⟩ := slice_all h.atO hos
    obtain ⟨vr, rfl, h1⟩ := rowLay_at h1
    obtain ⟨cs, h2⟩ := slice_all h1 hx
    obtain ⟨vx, rfl, h3, h4⟩ := optLay_at h2
    refine ⟨h3, fun q hq => ?_⟩
    obtain ⟨cs, h5⟩ := slice_all h4 hq
    exact (pathLay_at.1 h5).2
/-! all classes, all paths of a case -/
def dd : List Hsh → List Hsh
  | [] => []
  | x :: l => if x ∈ dd l then dd l else x :: dd l
theorem mem_dd {x : Hsh} : ∀ {l : List Hsh}, x ∈ dd l ↔ x ∈ l
  | [] => Iff.rfl
  | y :: l => by
    unfold dd
    split
    · rename_i h
      rw [mem_dd, List.mem_cons]
      refine ⟨.inr, fun h1 => h1.elim ?_ id⟩
      rintro rfl
      exact mem_dd.1 h
    · rw [List.mem_cons, List.mem_cons, mem_dd]
theorem nodup_dd : ∀ l : List Hsh, (dd l).Nodup
  | [] => List.nodup_nil
  | y :: l => by
    unfold dd
    split
    · exact nodup_dd l
    · rename_i h
      exact List.nodup_cons.2 ⟨h, nodup_dd l⟩
theorem dd_len : ∀ l : List Hsh, (dd l).length ≤ l.length
  | [] => Nat.le_refl _
  | y :: l => by
    have := dd_len l
    unfold dd
    split <;> simp only [List.length_cons] <;> omega
def CaseP.U (c : CaseP) : List Hsh := dd (c.cls ++ c.of.map (·.1))
def CaseP.V (c : CaseP) : List Pth := c.fixed ++ (c.of.map (·.2) ++ c.opts.flatMap fun os => os.flatMap fun x => x.1 :: x.2)
/-- how great a case is -/
def CaseP.size (c : CaseP) : Nat := c.fixed.length + c.of.length + c.cls.length + c.opts.length + (c.opts.map fun os => (os.map fun x => 1 + x.2.length).sum).sum
theorem sum_mem {α : Type} (f : α → Nat) : ∀ {l : List α} {x : α}, x ∈ l → f x ≤ (l.map f).sum
  | y :: l, x, h => by
    rw [List.map_cons, List.sum_cons]
    rcases List.mem_cons.1 h with rfl | h
    · omega
    · have := sum_mem f h
      omega
theorem flatO_len (os : List Opt) : (os.flatMap fun x => x.1 :: x.2).length = (os.map fun x => 1 + x.2.length).sum := by
  induction os with
  | nil => rfl
  | cons x os ih =>
    rw [List.flatMap_cons, List.length_append, ih, List.map_cons, List.sum_cons, List.length_cons]
    omega
theorem len_sum (os : List Opt) : os.length ≤ (os.map fun x => 1 + x.2.length).sum := by
  induction os with
  | nil => exact Nat.le_refl _
  | cons x os ih =>
    rw [List.map_cons, List.sum_cons, List.length_cons]
    omega
theorem V_len (c : CaseP) : c.V.length ≤ c.size := by
  have h : ∀ l : List (List Opt), (l.flatMap fun os => os.flatMap fun x => x.1 :: x.2).length = (l.map fun os => (os.map fun x => 1 + x.2.length).sum).sum := by
    intro l
    induction l with
    | nil => rfl
    | cons os l ih => rw [List.flatMap_cons, List.length_append, ih, flatO_len, List.map_cons, List.sum_cons]
  unfold CaseP.V CaseP.size
  rw [List.length_append, List.length_append, h, List.length_map]
  omega
theorem CaseP.bounds {c : CaseP} (hc : c.size ≤ 120) : c.U.length ≤ 120 ∧ c.V.length ≤ 120 ∧ c.fixed.length ≤ 120 ∧ c.of.length ≤ 120 ∧ c.cls.length ≤ 120 ∧ c.opts.length ≤ 120 ∧ ∀ os ∈ c.opts, os.length ≤ 120 ∧ ∀ x ∈ os, x.2.length ≤ 119 := by
  have hV := V_len c
  have hU := dd_len (c.cls ++ c.of.map (·.1))
  rw [List.length_append, List.length_map] at hU
  have hs : c.size = c.fixed.length + c.of.length + c.cls.length + c.opts.length + (c.opts.map fun os => (os.map fun x => 1 + x.2.length).sum).sum := rfl
  refine ⟨by show (dd _).length ≤ 120; omega, by omega, by omega, by omega, by omega, by omega, fun os hos => ?_⟩
  have h1 := sum_mem (fun os : List Opt => (os.map fun x => 1 + x.2.length).sum) hos
  have h2 := len_sum os
  refine ⟨by omega, fun x hx => ?_⟩
  have h3 := sum_mem (fun x : Opt => 1 + x.2.length) hx
  omega
theorem CaseAt.ok {B : Nat} {w : World} {v : Cvs} {c : CaseP} (h : CaseAt B w v c) (hc : c.size ≤ 120) (hl : c.opts.length = c.cls.length) : CaseOk B w v c.cls c.opts c.U c.V := by
  obtain ⟨_, _, _, _, _, h6, h7⟩ := CaseP.bounds hc
  refine ⟨h.atC, h.atO, hl.symm, by omega, fun x hx => mem_dd.2 (List.mem_append_left _ hx), fun os hos => ⟨by have := (h7 os hos).1; omega, fun x hx => ⟨?_, by have := (h7 os hos).2 x hx; omega, fun q hq => ?_⟩⟩⟩
  · exact List.mem_append_right _ (List.mem_append_right _ (List.mem_flatMap.2 ⟨os, hos, List.mem_flatMap.2 ⟨x, hx, by simp⟩⟩))
  · exact List.mem_append_right _ (List.mem_append_right _ (List.mem_flatMap.2 ⟨os, hos, List.mem_flatMap.2 ⟨x, hx, by simp [hq]⟩⟩))
theorem CaseAt.okU {B : Nat} {w : World} {v : Cvs} {c : CaseP} (h : CaseAt B w v c) : ∀ x ∈ c.U, okH x := by
  intro x hx
  rcases List.mem_append.1 (mem_dd.1 hx) with h1 | h1
  · exact h.oks.2.1 x h1
  · obtain ⟨m, hm, rfl⟩ := List.mem_map.1 h1
    exact (h.oks.2.2.1 m hm).1
end Go.Proofs.Ytfppddnfdinipaa
end
section
namespace Go.Proofs.Ytfppddnfdinipaa
open Go Go.RowKit Go.Maps
set_option maxRecDepth 100000
theorem SLeft.belowB {B : Nat} {w w' : World} {s cb tb hb : Nat} {c : Cvs} {S S' : Sst} (h0 : SAt B w s cb tb hb c S) (h : SLeft B w s cb tb hb c S S' w') : Below B w w' :=
  ⟨h.2.1.os, h.2.1.tape, h.2.1.output, h.2.1.size, fun k hk => SLeft.alike h0 h k hk⟩
def namesM (of : List Mde) : Pth → List Hsh := of.foldl (fun M m => nameM M m.2 m.1) fun _ => []
theorem names_next {of : List Mde} {k : Nat} {m : Mde} (h : of[k]? = some m) : namesM (of.take (k + 1)) = nameM (namesM (of.take k)) m.2 m.1 := by
  unfold namesM
  rw [List.take_add_one, h, List.foldl_append]
  rfl
theorem names_mem (of : List Mde) : ∀ h p, h ∈ namesM of p ↔ (h, p) ∈ of := by
  have key : ∀ (of : List Mde) (M : Pth → List Hsh) h p, h ∈ (of.foldl (fun M m => nameM M m.2 m.1) M) p ↔ h ∈ M p ∨ (h, p) ∈ of := by
    intro of
    induction of with
    | nil => intro M h p; simp
    | cons m of ih =>
      intro M h p
      rw [List.foldl_cons, ih, mem_nameM, List.mem_cons]
      constructor
      · rintro ((h1 | ⟨rfl, rfl⟩) | h1)
        · exact .inl h1
        · exact .inr (.inl rfl)
        · exact .inr (.inr h1)
      · rintro (h1 | h1 | h1)
        · exact .inl (.inl h1)
        · subst h1
          exact .inl (.inr ⟨rfl, rfl⟩)
        · exact .inr h1
  intro h p
  unfold namesM
  rw [key]
  simp
/-- how often the fixed paths are there -/
def cnt0 (ps : List Pth) : Pth → Nat := cntK true (fun _ => 0) ps ps.length
theorem cnt0_eq (ps : List Pth) (q : Pth) : cnt0 ps q = pcnt ps q := by
  unfold cnt0 cntK
  rw [List.take_length]
  simp
theorem say_first (fixed : List Pth) (of : List Mde) : Say (cnt0 fixed) (namesM of) fixed of where
  cnt := fun q => by rw [cnt0_eq]; exact pcnt_pos
  mem := names_mem of
theorem caseC_at {v : Cvs} (h : okH v.own) : (caseC v)[20]? = some v.fixed ∧ (caseC v)[21]? = some v.classes ∧ (caseC v)[22]? = some v.opts ∧ (caseC v)[23]? = some v.of := by
  have hl : (bv v.own).length = 20 := by rw [bvL]; exact h
  unfold caseC
  simp only [List.getElem?_append_right (show (bv v.own).length ≤ 20 by omega), List.getElem?_append_right (show (bv v.own).length ≤ 21 by omega), List.getElem?_append_right (show (bv v.own).length ≤ 22 by omega), List.getElem?_append_right (show (bv v.own).length ≤ 23 by omega), hl]
  exact ⟨rfl, rfl, rfl, rfl⟩
theorem case_cells {w : World} {g : Nat} {v : Cvs} (ho : okH v.own) (h : Blk w g 29 (caseC v).toArray) : w.cell? ⟨g, 20, none⟩ = some v.fixed ∧ w.cell? ⟨g, 21, none⟩ = some v.classes ∧ w.cell? ⟨g, 22, none⟩ = some v.opts ∧ w.cell? ⟨g, 23, none⟩ = some v.of := by
  have hc : ∀ i, w.cell? ⟨g, i, none⟩ = (caseC v)[i]? := fun i => by rw [h.cell]; simp
  simp only [hc]
  exact caseC_at ho
theorem csz {v : Cvs} (h : okH v.own) : (Try.prog.info? 29).map (·.size) = some (caseC v).toArray.size := by
  rw [List.size_toArray, caseC_len h]
  kernel_rfl
theorem mC_len {h : Hsh} {p : Pth} (hh : okH h) (hp : okP p) : (mC h p).length = 41 := by
  show (bv h ++ pC p).length = 41
  rw [List.length_append, bvL, pC_len hp, show h.length = 20 from hh]
theorem msz {h : Hsh} {p : Pth} (hh : okH h) (hp : okP p) : (Try.prog.info? 60).map (·.size) = some (mC h p).toArray.size := by
  rw [List.size_toArray, mC_len hh hp]
  kernel_rfl
theorem mC_one (h : Hsh) (p : Pth) : ∀ u ∈ mC h p, u.oneCell' = true := by
  intro u hu
  rcases List.mem_append.1 hu with hu | hu
  · exact bv1 _ u hu
  · exact pC_one p u hu
theorem cntK_one {cnt : Pth → Nat} {ps : List Pth} {k : Nat} {p : Pth} (h : ps[k]? = some p) : cntK true (cntK true cnt ps k) [p] ([p] : List Pth).length = cntK true cnt ps (k + 1) := by
  rw [cntK_put h]
  have := cntK_put (cnt := cntK true cnt ps k) (ps := [p]) (k := 0) (p := p) rfl
  rw [cntK_zero] at this
  exact this
/-- a search over a case, as it begins -/
def OverQ (w : World) (v : Cvs) (c : CaseP) (g : Int) (e : Ending) (w' : World) : Prop :=
  ∃ B s cb tb hb S, e = .returned (.pointer (some ⟨s, 0, none⟩)) ∧ w.heap.size ≤ B ∧ Below w.heap.size w w' ∧ SAt B w' s cb tb hb v S ∧ InvP v.own c.U c.V S (cnt0 c.fixed) (namesM c.of) (there (cnt0 c.fixed) (namesM c.of)) ∧ S.steps = 0 ∧ S.fuel = g
set_option maxHeartbeats 4000000 in
theorem over_any (w : World) (v : Cvs) (c : CaseP) (hc : c.size ≤ 120) (hC : CaseAt w.heap.size w v c) (f : Int) (hf : -9223372036854775808 ≤ f ∧ f ≤ 9223372036854775807) :
    Calls Try.prog 48 #[.agg (caseC v).toArray, .int .i64 f] w (OverQ w v c (max f 0)) := by
  obtain ⟨b1, b2, b3, b4, b5, b6, b7⟩ := CaseP.bounds hc
  have hUl : c.U.length ≤ 100000 ∧ ∀ h ∈ c.U, okH h := ⟨by omega, hC.okU⟩
  have hVl : c.V.length ≤ 100000 := by omega
  obtain ⟨w1, hw1⟩ : ∃ w1, w1 = w.alloc (.cells (caseC v).toArray 29) := ⟨_, rfl⟩
  have hb1 : Below w.heap.size w w1 := by rw [hw1]; exact (Below.refl _ w).alloc (Nat.le_refl _) _
  have hk1 : Blk w1 w.heap.size 29 (caseC v).toArray := by rw [hw1]; exact Blk.new _ _ _
  have hz1 : w1.heap.size = w.heap.size + 1 := by rw [hw1, size_alloc]
  have hC1 : CaseAt w.heap.size w1 v c := hC.alike fun k hk => hb1.block k hk
  have ho : okH v.own := by rw [hC.own]; exact hC.okO
  have H1 := hide (And.intro hb1 (And.intro hk1 (And.intro hC1 hz1)))
  clear hb1 hk1 hC1 hz1
  have hmm := @run_makeMap Try.prog
  obtain ⟨w2, hw2⟩ : ∃ w2, w2 = ((((w.alloc (.cells (caseC v).toArray 29)).alloc (.map #[] 0)).alloc (.map #[] 0)).alloc (.map #[] 0)).alloc (.cells (srchCells v (w.heap.size + 1) (w.heap.size + 1 + 1) (w.heap.size + 1 + 1 + 1) (S0 (max f 0))).toArray 104) := ⟨_, rfl⟩
  have hz2 : w2.heap.size = w.heap.size + 1 + 1 + 1 + 1 + 1 := by rw [hw2]; simp only [size_alloc]
  have hb2 : Below (w.heap.size + 1) w1 w2 := by
    rw [hw2, hw1]
    refine ((((Below.refl _ _).alloc ?_ _).alloc ?_ _).alloc ?_ _).alloc ?_ _ <;> simp only [size_alloc] <;> omega
  have hS2 : SAt (w.heap.size + 1) w2 (w.heap.size + 1 + 1 + 1 + 1) (w.heap.size + 1) (w.heap.size + 1 + 1) (w.heap.size + 1 + 1 + 1) v (S0 (max f 0)) := by
    have e1 := size_alloc w (.cells (caseC v).toArray 29)
    have m1 := mapIs_new (ek := pV) (ok := okP) (ev := fun v : Value => v) (w.alloc (.cells (caseC v).toArray 29))
    have e2 := size_alloc (w.alloc (.cells (caseC v).toArray 29)) (.map #[] 0)
    have m2 := mapIs_new (ek := pV) (ok := okP) (ev := intV) ((w.alloc (.cells (caseC v).toArray 29)).alloc (.map #[] 0))
    have e3 := size_alloc ((w.alloc (.cells (caseC v).toArray 29)).alloc (.map #[] 0)) (.map #[] 0)
    have m3 := mapIs_new (ek := hV) (ok := okH) (ev := mapV) (((w.alloc (.cells (caseC v).toArray 29)).alloc (.map #[] 0)).alloc (.map #[] 0))
    have e4 := size_alloc (((w.alloc (.cells (caseC v).toArray 29)).alloc (.map #[] 0)).alloc (.map #[] 0)) (.map #[] 0)
    have k4 : Blk w2 ((((w.alloc (.cells (caseC v).toArray 29)).alloc (.map #[] 0)).alloc (.map #[] 0)).alloc (.map #[] 0)).heap.size 104 (srchCells v (w.heap.size + 1) (w.heap.size + 1 + 1) (w.heap.size + 1 + 1 + 1) (S0 (max f 0))).toArray := by rw [hw2]; exact Blk.new _ _ _
    rw [e1] at m1
    rw [e2, e1] at m2
    rw [e3, e2, e1] at m3
    rw [e4, e3, e2, e1] at k4
    refine sat_new ho k4 ?_ ?_ ?_ (by omega) (by omega)
    · refine m1.of_eq ?_
      rw [hw2, Below.heap_alloc _ _ _ (by omega), Below.heap_alloc _ _ _ (by omega), Below.heap_alloc _ _ _ (by omega)]
    · refine m2.of_eq ?_
      rw [hw2, Below.heap_alloc _ _ _ (by omega), Below.heap_alloc _ _ _ (by omega)]
    · refine m3.of_eq ?_
      rw [hw2, Below.heap_alloc _ _ _ (by omega)]
  have hI2 : InvP v.own c.U c.V (S0 (max f 0)) (fun _ => 0) (namesM (c.of.take 0)) (there (fun _ => 0) (namesM (c.of.take 0))) := inv_new (nodup_dd _) _
  have hF2 : (S0 (max f 0)).steps = 0 ∧ (S0 (max f 0)).fuel = max f 0 := ⟨rfl, rfl⟩
  obtain ⟨S2, hSS⟩ : ∃ S2, S2 = S0 (max f 0) := ⟨_, rfl⟩
  have hw2' := hw2
  rw [← hSS] at hS2 hI2 hF2
  have hC2 : CaseAt w.heap.size w2 v c := H1.out.2.2.1.alike fun k hk => hb2.block k (by omega)
  have hk2 : Blk w2 w.heap.size 29 (caseC v).toArray := (hb2.block _ (by omega)).trans H1.out.2.1
  obtain ⟨Am, capm, hvm, _, _, _, hAm⟩ := slice_open hC2.atM
  obtain ⟨Af, capf, hvf, _, _, _, hAf⟩ := slice_open hC2.atF
  have H2 := hide (And.intro hb2 (And.intro hS2 (And.intro hI2 (And.intro hF2 (And.intro hC2 (And.intro hk2 (And.intro hvm (And.intro hAm (And.intro hvf (And.intro hAf hz2))))))))))
  clear hb2 hS2 hI2 hF2 hC2 hk2 hvm hAm hvf hAf hz2 hSS hC
  rcases (show (0 ≤ f ∧ max f 0 = f) ∨ (¬ 0 ≤ f ∧ max f 0 = 0) by omega) with ⟨hf0, hg⟩ | ⟨hf0, hg⟩
  all_goals
    rw [hg] at hw2
    have HW := hide hw2
    clear hw2 hw2' hg
    go_enter Try.func48, Try.ntmps48
    go_wp2_with (first | (refine wpList_value (o := ⟨some 10, _, _, _, _, _⟩) rfl (.agg (caseC v).toArray) w1 (by rw [← hw1]; exact exec_load_blk (o := ⟨some 10, _, _, _, _, _⟩) 29 (.tmp 2) rfl w.heap.size rfl 29 _ _ w1 H1.out.2.1 Try.underlying29 rfl (csz ho)) ?_; rw [hw1]) | (refine wpList_value (o := ⟨some 16, _, _, _, _, _⟩) rfl _ _ (exec_srch ho _ _ _ _ _ rfl rfl rfl rfl rfl rfl) ?_) | (refine wpList_value (o := ⟨some 19, _, _, _, _, _⟩) rfl (.slice Am c.of.length capm) w2 (by rw [← HW.out]; exact exec_load_cell (o := ⟨some 19, _, _, _, _, _⟩) 27 (.tmp 18) rfl ⟨w.heap.size, 23, none⟩ rfl _ _ w2 Try.underlying27 rfl (by have := (case_cells ho H2.out.2.2.2.2.2.1).2.2.2; rw [H2.out.2.2.2.2.2.2.1] at this; exact this)) ?_))
    go_loopw [21] (fun x wr => ∃ k S1, k ≤ c.of.length ∧ x = .int .i64 ((k : Nat) : Int) ∧ SAt (w.heap.size + 1) wr (w.heap.size + 1 + 1 + 1 + 1) (w.heap.size + 1) (w.heap.size + 1 + 1) (w.heap.size + 1 + 1 + 1) v S1 ∧ Below (w.heap.size + 1) w2 wr ∧ InvP v.own c.U c.V S1 (fun _ => 0) (namesM (c.of.take k)) (there (fun _ => 0) (namesM (c.of.take k))) ∧ S1.steps = 0 ∧ S1.fuel = max f 0) (fun x _ => c.of.length - (intOf x).toNat)
    case atStart => exact ⟨0, S2, by omega, rfl, H2.out.2.1, Below.refl _ _, H2.out.2.2.1, H2.out.2.2.2.1⟩
    case round =>
      obtain ⟨wo, rfl⟩ : ∃ wo, wo = wr := ⟨_, rfl⟩
      obtain ⟨k, S1, hk, rfl, hs1, hbw1, hi1, hf1⟩ := hrel
      have H3 := hide (And.intro hs1 (And.intro hbw1 (And.intro hi1 hf1)))
      clear hs1 hbw1 hi1 hf1
      have k0 : (0 : Int) ≤ (k : Int) := by omega
      have k9 : (c.of.length : Int) ≤ 120 := by omega
      by_cases hk2 : k < c.of.length
      · have k1 : (k : Int) < (c.of.length : Int) := by omega
        obtain ⟨m, hm⟩ : ∃ m, c.of[k]? = some m := ⟨_, List.getElem?_eq_getElem hk2⟩
        obtain ⟨bm, om, rfl, hlm, hEm⟩ := H2.out.2.2.2.2.2.2.2.1 (by omega)
        obtain ⟨cs, hr, hat⟩ := hEm k m hm
        obtain ⟨rfl, hmh, hmp⟩ := madeLay_at.1 hat
        have hr1 : wo.rangeAt bm (om + k * 41) (mC m.1 m.2) := rangeAt_same hr (H3.out.2.1.block bm (by omega))
        have HM := hide (And.intro hm hr1)
        have hmU : m.1 ∈ c.U := mem_dd.2 (List.mem_append_right _ (List.mem_map.2 ⟨m, List.mem_of_getElem? hm, rfl⟩))
        have hmV : m.2 ∈ c.V := List.mem_append_right _ (List.mem_append_left _ (List.mem_map.2 ⟨m, List.mem_of_getElem? hm, rfl⟩))
        clear hm hr hat hEm hr1
        go_wp2_with (first | (refine wpList_value (o := ⟨some 23, _, _, _, _, _⟩) rfl (.pointer (some ⟨bm, om + (k : Int).toNat * 41, none⟩)) wo (exec_index_off (o := ⟨some 23, _, _, _, _, _⟩) 27 60 (.tmp 19) (.tmp 21) rfl bm om c.of.length capm (k : Int) .i64 rfl rfl ⟨k0, k1⟩ 41 Try.underlying27 sz_made wo) ?_; rw [show om + (k : Int).toNat * 41 = om + k * 41 by omega]) | (refine wpList_value (o := ⟨some 24, _, _, _, _, _⟩) rfl (.agg (mC m.1 m.2).toArray) wo (exec_load_mid (o := ⟨some 24, _, _, _, _, _⟩) 60 (.tmp 23) rfl bm (om + k * 41) rfl (mC m.1 m.2) _ wo HM.out.2 Try.underlying60 rfl (by have := msz hmh hmp; simpa using this)) ?_; simp only [Act.put, List.setIfInBounds_toArray, List.set_cons_zero, List.set_cons_succ]) | ((with_reducible refine wpList_box (o1 := ⟨some 7, _, _, _, _, _⟩) (o2 := ⟨none, _, _, _, _, _⟩) rfl rfl 60 (.tmp 7) (.tmp 24) ?_ zcM (mC m.1 m.2).toArray ?_ (msz hmh hmp) ?_ ?_ ?_ ?_ ?_); rfl; kernel_rfl; (simp only [List.size_toArray, mC_len hmh hmp]; kernel_rfl); exact all_oneCell_toArray (mC_one m.1 m.2); rfl; rfl; intro w3 hm3 hb3; have H4 := hide (And.intro hm3 hb3); clear hm3 hb3; dsimp only [Act.put]) | (refine wpList_value (o := ⟨some 26, _, _, _, _, _⟩) rfl (.agg (mC m.1 m.2).toArray) w3 (exec_load_blk (o := ⟨some 26, _, _, _, _, _⟩) 60 (.tmp 7) rfl wo.heap.size rfl 60 _ _ w3 H4.out.1 Try.underlying60 rfl (msz hmh hmp)) ?_))
        have hln := H3.out.2.2.1.lens hUl.1 hVl
        have hs3 := H3.out.1.below H4.out.2
        refine (name_any m.1 hmh m.2 hmp (hln.1 m.1) (hln.2.1 m.2) hln.2.2 hs3).mono ?_
        rintro e w4 ⟨rfl, S3, hl4, hq4⟩
        have H5 := hide (And.intro hl4 (And.intro (SLeft.belowB hs3 hl4) (And.intro (inv_name H3.out.2.2.1 hmU hmV hq4) (NameQ.fix hq4))))
        clear hl4 hq4 hs3 hln
        dsimp only
        go_wp2_with fail
        go_roundw
        case rel => exact ⟨k + 1, S3, by omega, by go_num, H5.out.1.1, (H3.out.2.1.trans (Below.mono H4.out.2 (by have := H3.out.2.1.size; have := H2.out.2.2.2.2.2.2.2.2.2.2; omega))).trans H5.out.2.1, by rw [names_next HM.out.1]; exact H5.out.2.2.1, by rw [H5.out.2.2.2.1]; exact H3.out.2.2.2.1, by rw [H5.out.2.2.2.2]; exact H3.out.2.2.2.2⟩
        case measure => simp [intOf]; omega
      · obtain rfl : k = c.of.length := by omega
        have hi3 := H3.out.2.2.1
        rw [List.take_length] at hi3
        have hkc := (H3.out.2.1.block w.heap.size (by omega)).trans H2.out.2.2.2.2.2.1
        have H4 := hide (And.intro H3.out.1 (And.intro H3.out.2.1 (And.intro hi3 (And.intro H3.out.2.2.2 hkc))))
        clear hi3 hkc
        go_wp2_with (first | (refine wpList_value (o := ⟨some 30, _, _, _, _, _⟩) rfl (.slice Af c.fixed.length capf) wo (exec_load_cell (o := ⟨some 30, _, _, _, _, _⟩) 24 (.tmp 29) rfl ⟨w.heap.size, 20, none⟩ rfl _ _ wo Try.underlying24 rfl (by have := (case_cells ho H4.out.2.2.2.2).1; rw [H2.out.2.2.2.2.2.2.2.2.1] at this; exact this)) ?_))
        go_loopw [32] (fun x wr => ∃ k S1, k ≤ c.fixed.length ∧ x = .int .i64 ((k : Nat) : Int) ∧ SAt (w.heap.size + 1) wr (w.heap.size + 1 + 1 + 1 + 1) (w.heap.size + 1) (w.heap.size + 1 + 1) (w.heap.size + 1 + 1 + 1) v S1 ∧ Below (w.heap.size + 1) w2 wr ∧ InvP v.own c.U c.V S1 (cntK true (fun _ => 0) c.fixed k) (namesM c.of) (there (cntK true (fun _ => 0) c.fixed k) (namesM c.of)) ∧ S1.steps = 0 ∧ S1.fuel = max f 0) (fun x _ => c.fixed.length - (intOf x).toNat)
        case atStart => exact ⟨0, S1, by omega, rfl, H4.out.1, H4.out.2.1, by rw [cntK_zero]; exact H4.out.2.2.1, H4.out.2.2.2.1⟩
        case round =>
          obtain ⟨wo, rfl⟩ : ∃ wo, wo = wr := ⟨_, rfl⟩
          obtain ⟨k, S1, hk, rfl, hs1, hbw1, hi1, hf1⟩ := hrel
          have H5 := hide (And.intro hs1 (And.intro hbw1 (And.intro hi1 hf1)))
          clear hs1 hbw1 hi1 hf1
          have k0 : (0 : Int) ≤ (k : Int) := by omega
          have k9 : (c.fixed.length : Int) ≤ 120 := by omega
          by_cases hk2 : k < c.fixed.length
          · have k1 : (k : Int) < (c.fixed.length : Int) := by omega
            obtain ⟨p, hp⟩ : ∃ p, c.fixed[k]? = some p := ⟨_, List.getElem?_eq_getElem hk2⟩
            obtain ⟨bf, of', rfl, hlf, hEf⟩ := H2.out.2.2.2.2.2.2.2.2.2.1 (by omega)
            obtain ⟨cs, hr, hat⟩ := hEf k p hp
            obtain ⟨rfl, hpo⟩ := pathLay_at.1 hat
            have hr1 : wo.rangeAt bf (of' + k * 21) (pC p) := rangeAt_same hr (H5.out.2.1.block bf (by omega))
            have HP := hide (And.intro hp hr1)
            have hpV : p ∈ c.V := List.mem_append_left _ (List.mem_of_getElem? hp)
            clear hp hr hat hEf hr1
            obtain ⟨w4, hw4⟩ : ∃ w4 : World → World, w4 = fun w3 => w3.alloc (.cells (pC p).toArray 53) := ⟨_, rfl⟩
            have HW4 := hide hw4
            clear hw4
            go_wp2_with (first | (refine wpList_value (o := ⟨some 34, _, _, _, _, _⟩) rfl (.pointer (some ⟨bf, of' + (k : Int).toNat * 21, none⟩)) wo (exec_index_off (o := ⟨some 34, _, _, _, _, _⟩) 24 53 (.tmp 30) (.tmp 32) rfl bf of' c.fixed.length capf (k : Int) .i64 rfl rfl ⟨k0, k1⟩ 21 Try.underlying24 sz_path wo) ?_; rw [show of' + (k : Int).toNat * 21 = of' + k * 21 by omega]) | (refine wpList_value (o := ⟨some 35, _, _, _, _, _⟩) rfl (.agg (pC p).toArray) wo (exec_load_mid (o := ⟨some 35, _, _, _, _, _⟩) 53 (.tmp 34) rfl bf (of' + k * 21) rfl (pC p) _ wo HP.out.2 Try.underlying53 rfl (by have := psz hpo; simpa using this)) ?_; simp only [Act.put, List.setIfInBounds_toArray, List.set_cons_zero, List.set_cons_succ]) | ((with_reducible refine wpList_box (o1 := ⟨some 9, _, _, _, _, _⟩) (o2 := ⟨none, _, _, _, _, _⟩) rfl rfl 53 (.tmp 9) (.tmp 35) ?_ zcP (pC p).toArray ?_ (psz hpo) ?_ ?_ ?_ ?_ ?_); rfl; kernel_rfl; (simp only [List.size_toArray, pC_len hpo]; kernel_rfl); exact all_oneCell_toArray (pC_one p); rfl; rfl; intro w3 hm3 hb3; have H6 := hide (And.intro hm3 hb3); clear hm3 hb3; dsimp only [Act.put]) | (refine wpList_value (o := ⟨some 37, _, _, _, _, _⟩) rfl (.agg (pC p).toArray) w3 (exec_load_blk (o := ⟨some 37, _, _, _, _, _⟩) 53 (.tmp 9) rfl wo.heap.size rfl 53 _ _ w3 H6.out.1 Try.underlying53 rfl (psz hpo)) ?_) | (refine wpList_value (o := ⟨some 38, _, _, _, _, _⟩) rfl (.slice (some ⟨w3.heap.size, 0, none⟩) 1 1) (w4 w3) (by rw [HW4.out]; exact exec_buildSliceP (o := ⟨some 38, _, _, _, _, _⟩) (v := .agg (pC p).toArray) 24 (.tmp 37) rfl rfl Try.underlying24 sz_path (by omega) (by omega) (z := .agg zcP) (fun w => by kernel_rfl) (by simp [Value.cells, pC_len hpo]) w3) ?_))
            have hb4 : Below w3.heap.size w3 (w4 w3) := by rw [HW4.out]; exact (Below.refl _ w3).alloc (Nat.le_refl _) _
            have hk4 : Blk (w4 w3) w3.heap.size 53 (pC p).toArray := by rw [HW4.out]; exact Blk.new _ _ _
            have hs4 := (H5.out.1.below H6.out.2).below hb4
            refine (put_any hUl hVl [p] (by simp) (fun q hq => by rw [List.mem_singleton.1 hq]; exact hpV) (cnt := cntK true (fun _ => 0) c.fixed k) (fun q => by have := pcnt_take c.fixed k q; have := pcnt_len c.fixed q; unfold cntK; simp; omega) _ (pths_one hk4 hpo (fun hf => by have := (H5.out.1.foot_lt hf).1; have := H6.out.2.size; omega)) hs4 H5.out.2.2.1).mono ?_
            rintro e w5 ⟨rfl, S5, hl5, hi5, hk5⟩
            rw [cntK_one HP.out.1] at hi5
            have H7 := hide (And.intro hl5 (And.intro (SLeft.belowB hs4 hl5) (And.intro hi5 (And.intro hk5 hb4))))
            clear hl5 hi5 hk5 hs4 hb4 hk4
            dsimp only
            go_wp2_with fail
            go_roundw
            case rel => exact ⟨k + 1, S5, by omega, by go_num, H7.out.1.1, (((H5.out.2.1.trans (Below.mono H6.out.2 (by have := H5.out.2.1.size; have := H2.out.2.2.2.2.2.2.2.2.2.2; omega))).trans (Below.mono H7.out.2.2.2.2 (by have := H5.out.2.1.size; have := H6.out.2.size; have := H2.out.2.2.2.2.2.2.2.2.2.2; omega)))).trans H7.out.2.1, H7.out.2.2.1, by rw [H7.out.2.2.2.1.2.2.1]; exact H5.out.2.2.2.1, by rw [H7.out.2.2.2.1.2.2.2]; exact H5.out.2.2.2.2⟩
            case measure => simp [intOf]; omega
          · obtain rfl : k = c.fixed.length := by omega
            go_wp2_with fail
            go_ret
            exact ⟨_, _, _, _, _, S1, rfl, by omega, H1.out.1.trans (Below.mono (H2.out.1.trans H5.out.2.1) (by omega)), H5.out.1, H5.out.2.2.1, H5.out.2.2.2⟩
end Go.Proofs.Ytfppddnfdinipaa
end
section
namespace Go.Proofs.Ytfppddnfdinipaa
open Go Go.RowKit Go.Maps
set_option maxRecDepth 100000
theorem empty_any (A : Option Addr) (n cap : Nat) (w : World) : Calls Try.prog 46 #[.slice A n cap] w fun e w' => e = .returned (.bool (decide (n = 0))) ∧ w' = w := by
  have hn : ((n : Int) == 0) = decide (n = 0) := by
    by_cases h : n = 0
    · subst h; rfl
    · simp [h]
  go_enter Try.func46, Try.ntmps46
  go_wp2_with fail
  go_ret
  exact ⟨rfl, rfl⟩
theorem any_next {l : List (List Opt)} {k : Nat} {os : List Opt} (h : l[k]? = some os) : (l.take (k + 1)).any (·.isEmpty) = ((l.take k).any (·.isEmpty) || os.isEmpty) := by
  rw [List.take_add_one, h, List.any_append]
  simp
theorem idx_any (w : World) (B : Nat) (v : Value) (opts : List (List Opt)) (hO : rowsLay.At w B [v] opts) (hl : opts.length ≤ 100000) :
    Calls Try.prog 91 #[v, .func (.func 46) #[] #[]] w fun e w' => (∃ i : Int, e = .returned (.int .i64 i) ∧ (0 ≤ i ↔ opts.any (·.isEmpty) = true)) ∧ w' = w := by
  obtain ⟨Ao, capo, rfl, _, _, _, hAo⟩ := slice_open hO
  have HO := hide hAo
  clear hAo hO
  go_enter Try.func91, Try.ntmps91
  go_wp2_with fail
  go_loopw [8] (fun x wr => ∃ k, k ≤ opts.length ∧ x = .int .i64 ((k : Nat) : Int) ∧ wr = w ∧ (opts.take k).any (·.isEmpty) = false) (fun x _ => opts.length - (intOf x).toNat)
  case atStart => exact ⟨0, by omega, rfl, rfl, rfl⟩
  case round =>
    obtain ⟨k, hk, rfl, rfl, he⟩ := hrel
    have k0 : (0 : Int) ≤ (k : Int) := by omega
    have k9 : (opts.length : Int) ≤ 100000 := by omega
    by_cases hk2 : k < opts.length
    · have k1 : (k : Int) < (opts.length : Int) := by omega
      obtain ⟨os, hos⟩ : ∃ os, opts[k]? = some os := ⟨_, List.getElem?_eq_getElem hk2⟩
      obtain ⟨bo, offo, rfl, _, hE⟩ := HO.out (by omega)
      obtain ⟨cs, hr, hat⟩ := hE k os hos
      obtain ⟨vr, rfl, hat⟩ := rowLay_at hat
      obtain ⟨Ar, capr, rfl, _, _, _, _⟩ := slice_open hat
      have HR := hide (And.intro hr hos)
      have HE := hide he
      clear hE hr hat he hos
      go_wp2_with (first | (refine wpList_value (o := ⟨some 14, _, _, _, _, _⟩) rfl (.pointer (some ⟨bo, offo + (k : Int).toNat * 1, none⟩)) wr (exec_index_off (o := ⟨some 14, _, _, _, _, _⟩) 26 57 (.tmp 12) (.tmp 13) rfl bo offo opts.length capo (k : Int) .i64 rfl rfl ⟨k0, k1⟩ 1 Try.underlying26 sz_row wr) ?_; rw [show offo + (k : Int).toNat * 1 = offo + k by omega]) | (refine wpList_value (o := ⟨some 15, _, _, _, _, _⟩) rfl (.slice Ar os.length capr) wr (exec_load_cell (o := ⟨some 15, _, _, _, _, _⟩) 57 (.tmp 14) rfl ⟨bo, offo + k, none⟩ rfl _ _ wr Try.underlying57 rfl (by have h9 : wr.cell? ⟨bo, offo + k * 1 + 0, none⟩ = some (.slice Ar os.length capr) := HR.out.1 0 _ rfl; rwa [Nat.mul_one, Nat.add_zero] at h9)) ?_))
      refine (empty_any Ar os.length capr wr).mono ?_
      rintro e w2 ⟨rfl, rfl⟩
      dsimp only
      have hnx := any_next HR.out.2
      rw [HE.out, Bool.false_or] at hnx
      have HN := hide hnx
      clear hnx
      by_cases hz : os.length = 0
      · have hd : decide (os.length = 0) = true := by simp [hz]
        rw [hd]
        go_wp2_with fail
        go_ret
        refine ⟨⟨_, rfl, ⟨fun _ => ?_, fun _ => k0⟩⟩, rfl⟩
        obtain rfl := List.eq_nil_of_length_eq_zero hz
        exact List.any_eq_true.2 ⟨[], List.mem_of_getElem? HR.out.2, rfl⟩
      · have hd : decide (os.length = 0) = false := by simp [hz]
        rw [hd]
        go_wp2_with fail
        go_roundw
        case rel =>
          refine ⟨k + 1, by omega, by go_num, trivial, ?_⟩
          rw [HN.out]
          cases os with
          | nil => exact absurd rfl hz
          | cons x os => rfl
        case measure => simp [intOf]; omega
    · obtain rfl : k = opts.length := by omega
      rw [List.take_length] at he
      have HE := hide he
      clear he
      go_wp2_with fail
      go_ret
      exact ⟨⟨_, rfl, ⟨fun h => absurd h (by omega), fun h => by rw [HE.out] at h; cases h⟩⟩, rfl⟩
theorem containsE_any (w : World) (B : Nat) (v : Value) (opts : List (List Opt)) (hO : rowsLay.At w B [v] opts) (hl : opts.length ≤ 100000) :
    Calls Try.prog 47 #[v, .func (.func 46) #[] #[]] w fun e w' => e = .returned (.bool (opts.any (·.isEmpty))) ∧ w' = w := by
  have HO := hide hO
  clear hO
  go_enter Try.func47, Try.ntmps47
  go_wp2_with fail
  refine (idx_any w B v opts HO.out hl).mono ?_
  rintro e w2 ⟨⟨i, rfl, hi⟩, rfl⟩
  dsimp only
  go_wp2_with fail
  go_ret
  refine ⟨?_, rfl⟩
  show Ending.returned (Value.bool (decide (i ≥ 0))) = _
  rw [show decide (i ≥ 0) = opts.any (·.isEmpty) by rw [Bool.eq_iff_iff, decide_eq_true_iff, ← hi]]
set_option maxHeartbeats 4000000 in
theorem least_any (w : World) (v : Cvs) (c : CaseP) (hc : c.size ≤ 120) (hC : CaseAt w.heap.size w v c) (f : Int) (hf : -9223372036854775808 ≤ f ∧ f ≤ 9223372036854775807) :
    Calls Try.prog 13 #[.agg (caseC v).toArray, .int .i64 f] w fun e w' => ∃ u, e = .returned (.tuple #[u, .int .i64 (leastB c f).2.1, .int .i64 (leastB c f).2.2]) ∧ OwnI w.heap.size w' u (leastB c f).1 ∧ Below w.heap.size w w' := by
  obtain ⟨b1, b2, b3, b4, b5, b6, b7⟩ := CaseP.bounds hc
  have hUl : c.U.length ≤ 100000 ∧ ∀ h ∈ c.U, okH h := ⟨by omega, hC.okU⟩
  have hVl : c.V.length ≤ 100000 := by omega
  obtain ⟨w1, hw1⟩ : ∃ w1, w1 = w.alloc (.cells (caseC v).toArray 29) := ⟨_, rfl⟩
  have hb1 : Below w.heap.size w w1 := by rw [hw1]; exact (Below.refl _ w).alloc (Nat.le_refl _) _
  have hk1 : Blk w1 w.heap.size 29 (caseC v).toArray := by rw [hw1]; exact Blk.new _ _ _
  have hz1 : w1.heap.size = w.heap.size + 1 := by rw [hw1, size_alloc]
  have hC1 : CaseAt w.heap.size w1 v c := hC.alike fun k hk => hb1.block k hk
  have ho : okH v.own := by rw [hC.own]; exact hC.okO
  obtain ⟨Ao, capo, hvo, _, _, _, _⟩ := slice_open hC1.atO
  obtain ⟨Ac, capc, hvc, _, _, _, _⟩ := slice_open hC1.atC
  have hcells := case_cells ho hk1
  rw [hvo, hvc] at hcells
  have H1 := hide (And.intro hb1 (And.intro hk1 (And.intro hC1 (And.intro hcells (And.intro hvo hvc)))))
  have HW := hide hw1
  clear hb1 hk1 hC1 hC hvo hvc hcells hw1
  have o9 : (c.opts.length : Int) ≤ 120 := by omega
  have c9 : (c.cls.length : Int) ≤ 120 := by omega
  by_cases hne : c.opts.length = c.cls.length
  · have hcl : w1.cell? ⟨w.heap.size, 21, none⟩ = some (.slice Ac c.opts.length capc) := by rw [hne]; exact H1.out.2.2.2.1.2.1
    have HCL := hide hcl
    have HNE := hide hne
    clear hcl hne
    go_enter Try.func13, Try.ntmps13
    go_wp2_with (first | (refine wpList_value (o := ⟨some 11, _, _, _, _, _⟩) rfl (.slice Ao c.opts.length capo) w1 (by rw [← HW.out]; exact exec_load_cell (o := ⟨some 11, _, _, _, _, _⟩) 26 (.tmp 10) rfl ⟨w.heap.size, 22, none⟩ rfl _ _ w1 Try.underlying26 rfl H1.out.2.2.2.1.2.2.1) ?_) | (refine wpList_value (o := ⟨some 14, _, _, _, _, _⟩) rfl (.slice Ac c.opts.length capc) w1 (exec_load_cell (o := ⟨some 14, _, _, _, _, _⟩) 25 (.tmp 13) rfl ⟨w.heap.size, 21, none⟩ rfl _ _ w1 Try.underlying25 rfl HCL.out) ?_) | (refine wpList_value (o := ⟨some 19, _, _, _, _, _⟩) rfl (.slice Ao c.opts.length capo) w1 (exec_load_cell (o := ⟨some 19, _, _, _, _, _⟩) 26 (.tmp 18) rfl ⟨w.heap.size, 22, none⟩ rfl _ _ w1 Try.underlying26 rfl H1.out.2.2.2.1.2.2.1) ?_))
    have hO1 := H1.out.2.2.1.atO
    rw [H1.out.2.2.2.2.1] at hO1
    refine (containsE_any w1 _ _ c.opts hO1 (by omega)).mono ?_
    clear hO1
    rintro e w2 ⟨rfl, rfl⟩
    dsimp only
    cases hany : c.opts.any (·.isEmpty) with
    | true =>
      go_wp2_with fail
      go_ret3
      have e : leastB c f = ([], 0, 5) := by unfold leastB; rw [if_neg (fun h => h HNE.out), if_pos hany]
      rw [e]
      exact ⟨_, rfl, OwnI.nil _ _, H1.out.1⟩
    | false =>
      have HA := hide hany
      clear hany
      go_wp2_with ((refine wpList_value (o := ⟨some 22, _, _, _, _, _⟩) rfl (.agg (caseC v).toArray) w2 (exec_load_blk (o := ⟨some 22, _, _, _, _, _⟩) 29 (.tmp 2) rfl w.heap.size rfl 29 _ _ w2 H1.out.2.1 Try.underlying29 rfl (csz ho)) ?_))
      refine (over_any w2 v c hc (H1.out.2.2.1.widen (by omega)) f hf).mono ?_
      rintro e w3 ⟨B, s, cb, tb, hb, S, rfl, hB, hb3, hs3, hi3, hst, hfu⟩
      have hconf := (inv_bad hi3).trans (confl_iff (say_first c.fixed c.of))
      have hfrom := from_eq (own := v.own) (fuel := S.fuel) (c.cls.zip c.opts) (say_first c.fixed c.of) S.steps
      rw [H1.out.2.2.1.own] at hconf hfrom
      obtain ⟨bd, hbd⟩ : ∃ bd, bd = S.bad := ⟨_, rfl⟩
      rw [← hbd] at hconf
      have c27 : w3.cell? ⟨s, 27, none⟩ = some (.int .i64 bd) := by rw [hbd]; exact hs3.cells.2.2.2.2.2.2.2.2.1
      have H3 := hide (And.intro hB (And.intro hb3 (And.intro hs3 (And.intro hi3 (And.intro hst (And.intro hfu (And.intro hconf hfrom)))))))
      clear hB hb3 hs3 hi3 hst hfu hconf hfrom hbd
      dsimp only
      by_cases hb0 : 0 < bd
      · go_wp2_with fail
        go_ret3
        have e : leastB c f = ([], 0, 13) := by
          have hcl := H3.out.2.2.2.2.2.2.1.1 hb0
          unfold leastB
          rw [if_neg (fun h => h HNE.out), if_neg (by rw [HA.out]; simp), if_neg (by rw [hcl]; simp)]
        rw [e]
        exact ⟨_, rfl, OwnI.nil _ _, H1.out.1.trans (Below.mono H3.out.2.1 (by omega))⟩
      · go_wp2_with fail
        have hC3 : CaseAt B w3 v c := (H1.out.2.2.1.alike fun k hk => H3.out.2.1.block k (by omega)).widen (by have := H3.out.1; omega)
        have hsz3 := H3.out.2.1.size
        refine (from_any (N := w.heap.size) hUl hVl (c.cls.zip c.opts) (cnt0 c.fixed) (namesM c.of) S w3 [] (.slice none 0 0) (by simp) (by simp) (fun q => by have := pcnt_len c.fixed q; rw [cnt0_eq, List.length_zip]; omega) (hC3.ok hc HNE.out) (OwnI.nil _ _) (fun k hk => by cases hk) (by omega) H3.out.2.2.1 H3.out.2.2.2.1 (by rw [H3.out.2.2.2.2.1]; omega) (by rw [H3.out.2.2.2.2.2.1]; omega)).mono ?_
        rintro e w4 ⟨u, rfl, S4, hl4, hi4, hs4, hp4, hf4, hr4, hn4⟩
        rw [H1.out.2.2.1.own, H3.out.2.2.2.2.2.2.2] at hs4 hr4 hn4
        rw [H1.out.2.2.1.own, H3.out.2.2.2.2.2.2.2]
        rw [H3.out.2.2.2.2.1, H3.out.2.2.2.2.2.1] at hs4 hr4 hn4 ⊢
        have e : leastB c f = ((fromB c.own (max f 0) (c.cls.zip c.opts) c.fixed c.of 0).1.row, (fromB c.own (max f 0) (c.cls.zip c.opts) c.fixed c.of 0).2, (fromB c.own (max f 0) (c.cls.zip c.opts) c.fixed c.of 0).1.code) := by
          have hcl : cleanB c.own c.fixed c.of = true := by
            cases h : cleanB c.own c.fixed c.of with
            | true => rfl
            | false =>
              have := H3.out.2.2.2.2.2.2.1.2 h
              omega
          unfold leastB
          rw [if_neg (fun h => h HNE.out), if_neg (by rw [HA.out]; simp), if_pos hcl]
        generalize fromB c.own (max f 0) (c.cls.zip c.opts) c.fixed c.of 0 = R at hs4 hr4 hn4 e ⊢
        obtain ⟨R, m⟩ := R
        have HE := hide e
        clear e
        have hs28 : w4.cell? ⟨s, 28, none⟩ = some (.int .i64 m) := by have := hl4.1.cells.2.2.2.2.2.2.2.2.2.1; rw [hs4] at this; exact this
        have hown : OwnI w.heap.size w4 u R.row := by
          cases R with
          | ok l => exact (hr4 l rfl).1
          | fuel => rw [hn4 (fun l h => by cases h)]; exact OwnI.nil _ _
          | conflict => rw [hn4 (fun l h => by cases h)]; exact OwnI.nil _ _
        have hb4 : Below w.heap.size w w4 := H1.out.1.trans ((Below.mono H3.out.2.1 (by omega)).trans (Below.mono (SLeft.belowB H3.out.2.2.1 hl4) (by have := H3.out.1; omega)))
        have H4 := hide (And.intro hown (And.intro hb4 hs28))
        clear hl4 hi4 hs4 hp4 hf4 hr4 hn4 hown hb4 hs28 hC3 hsz3
        dsimp only
        go_wp2_with fail
        refine Fre.wp_made (X := Blw) 8 [] (by kernel_rfl) (by kernel_rfl) (by simp) (by simp) (by simp) ?_
        simp only [List.take_succ_cons, List.take_zero, List.drop_succ_cons, List.drop_zero]
        refine Fre.made_val (u) (by kernel_rfl) (by kernel_rfl) (by kernel_rfl) (fun _ _ => by kernel_rfl) ?_
        simp only [Act.put, List.setIfInBounds_toArray, List.set_cons_zero, List.set_cons_succ]
        refine Fre.made_val (.pointer (some ⟨s, 0, none⟩)) (by kernel_rfl) (by kernel_rfl) (by kernel_rfl) (fun _ _ => by kernel_rfl) ?_
        simp only [Act.put, List.setIfInBounds_toArray, List.set_cons_zero, List.set_cons_succ]
        refine Fre.made_val (.pointer (some ⟨s, 0, none⟩)) (by kernel_rfl) (by kernel_rfl) (by kernel_rfl) (fun _ _ => by kernel_rfl) ?_
        simp only [Act.put, List.setIfInBounds_toArray, List.set_cons_zero, List.set_cons_succ]
        refine Fre.made_val (.pointer (some ⟨s, 28, none⟩)) (by kernel_rfl) (by kernel_rfl) (by kernel_rfl) (fun _ _ => by kernel_rfl) ?_
        simp only [Act.put, List.setIfInBounds_toArray, List.set_cons_zero, List.set_cons_succ]
        refine Fre.made_val (.int .i64 m) (by kernel_rfl) (by kernel_rfl) (by kernel_rfl) (fun W9 hW9 => exec_load_cell (o := ⟨some 39, _, _, _, _, _⟩) 3 (.tmp 38) rfl ⟨s, 28, none⟩ rfl _ _ W9 Try.underlying3 rfl (by have hb9 : Below w4.heap.size w4 W9 := hW9; rw [World.cell?_of_block (hb9.block s (World.block_lt_of_cell? w4 _ H4.out.2.2))]; exact H4.out.2.2)) ?_
        simp only [Act.put, List.setIfInBounds_toArray, List.set_cons_zero, List.set_cons_succ]
        refine Fre.made_val (.int .i64 R.code) (by kernel_rfl) (by kernel_rfl) (by kernel_rfl) (fun _ _ => by kernel_rfl) ?_
        simp only [Act.put, List.setIfInBounds_toArray, List.set_cons_zero, List.set_cons_succ]
        refine Fre.made_val (u) (by kernel_rfl) (by kernel_rfl) (by kernel_rfl) (fun _ _ => by kernel_rfl) ?_
        simp only [Act.put, List.setIfInBounds_toArray, List.set_cons_zero, List.set_cons_succ]
        refine Fre.made_val (.int .i64 m) (by kernel_rfl) (by kernel_rfl) (by kernel_rfl) (fun _ _ => by kernel_rfl) ?_
        simp only [Act.put, List.setIfInBounds_toArray, List.set_cons_zero, List.set_cons_succ]
        show ∀ w', _ → _
        intro w5 hb5
        simp only [Fre.ended]
        have H5 := hide (show Below w4.heap.size w4 w5 from hb5)
        clear hb5
        go_wp2_with fail
        go_ret3
        rw [HE.out]
        exact ⟨u, rfl, owned_keepN H4.out.1 fun g _ hl => H5.out.block g hl, H4.out.2.1.trans (Below.mono H5.out H4.out.2.1.size)⟩
  · have hni : ¬ (c.opts.length : Int) = (c.cls.length : Int) := by omega
    go_enter Try.func13, Try.ntmps13
    go_wp2_with (first | (refine wpList_value (o := ⟨some 11, _, _, _, _, _⟩) rfl (.slice Ao c.opts.length capo) w1 (by rw [← HW.out]; exact exec_load_cell (o := ⟨some 11, _, _, _, _, _⟩) 26 (.tmp 10) rfl ⟨w.heap.size, 22, none⟩ rfl _ _ w1 Try.underlying26 rfl H1.out.2.2.2.1.2.2.1) ?_) | (refine wpList_value (o := ⟨some 14, _, _, _, _, _⟩) rfl (.slice Ac c.cls.length capc) w1 (exec_load_cell (o := ⟨some 14, _, _, _, _, _⟩) 25 (.tmp 13) rfl ⟨w.heap.size, 21, none⟩ rfl _ _ w1 Try.underlying25 rfl H1.out.2.2.2.1.2.1) ?_))
    go_ret3
    have e : leastB c f = ([], 0, 2) := by unfold leastB; rw [if_pos hne]
    rw [e]
    exact ⟨_, rfl, OwnI.nil _ _, H1.out.1⟩
end Go.Proofs.Ytfppddnfdinipaa
end
section
namespace Go.Proofs.Ytfppddnfdinipaa
open Go Go.RowKit Go.Maps
set_option maxRecDepth 100000
/-- a row of numbers in memory -/
def intLay : Lay (List Int) := Lay.slice 33 (Lay.int 3 .i64)
theorem intLay_opens : intLay.Opens Try.prog := opens_slice (opens_int Try.underlying3 (by kernel_rfl)) (by decide) Try.underlying33 (by kernel_rfl)
theorem intLay_at {w : World} {B : Nat} {v : Value} {ks : List Int} (h : intLay.At w B [v] ks) : ∃ A cap, v = .slice A ks.length cap ∧ ∀ i k, ks[i]? = some k → (∃ b off, A = some ⟨b, off, none⟩ ∧ b < B ∧ w.cell? ⟨b, off + i, none⟩ = some (.int .i64 k)) ∧ -9223372036854775808 ≤ k ∧ k ≤ 9223372036854775807 := by
  obtain ⟨A, cap, rfl, _, _, _, hA⟩ := slice_open h
  refine ⟨A, cap, rfl, fun i k hi => ?_⟩
  obtain ⟨b, off, rfl, hb, hE⟩ := hA (by have := (List.getElem?_eq_some_iff.1 hi).1; omega)
  obtain ⟨cs, hr, rfl, hw⟩ := hE i k hi
  have h9 : w.cell? ⟨b, off + i * 1 + 0, none⟩ = some (.int .i64 k) := hr 0 _ rfl
  rw [Nat.mul_one, Nat.add_zero] at h9
  refine ⟨⟨b, off, rfl, hb, h9⟩, ?_⟩
  simp [Lit.wf, IntKind.min, IntKind.max, IntKind.signed, IntKind.bits] at hw
  omega
/-- numbers that lie in memory -/
def IntsAt (w : World) (B : Nat) (v : Value) (zs : List Int) : Prop := ∃ A cap, v = .slice A zs.length cap ∧ ∀ i k, zs[i]? = some k → ∃ b off, A = some ⟨b, off, none⟩ ∧ b < B ∧ w.cell? ⟨b, off + i, none⟩ = some (.int .i64 k)
theorem IntsAt.alike {w w' : World} {B : Nat} {v : Value} {zs : List Int} (h : IntsAt w B v zs) (ha : Alike B w w') : IntsAt w' B v zs := by
  obtain ⟨A, cap, e, hA⟩ := h
  refine ⟨A, cap, e, fun i k hk => ?_⟩
  obtain ⟨b, off, h1, h2, h3⟩ := hA i k hk
  exact ⟨b, off, h1, h2, (ha.cell (p := ⟨b, off + i, none⟩) h2).trans h3⟩
theorem IntsAt.widen {w : World} {B B' : Nat} {v : Value} {zs : List Int} (h : IntsAt w B v zs) (hB : B ≤ B') : IntsAt w B' v zs := by
  obtain ⟨A, cap, e, hA⟩ := h
  refine ⟨A, cap, e, fun i k hk => ?_⟩
  obtain ⟨b, off, h1, h2, h3⟩ := hA i k hk
  exact ⟨b, off, h1, by omega, h3⟩
theorem intLay_ints {w : World} {B : Nat} {v : Value} {ks : List Int} (h : intLay.At w B [v] ks) : IntsAt w B v ks := by
  obtain ⟨A, cap, e, hA⟩ := intLay_at h
  exact ⟨A, cap, e, fun i k hk => (hA i k hk).1⟩
theorem OwnI.ints {N : Nat} {w : World} {v : Value} {l : List Nat} (h : OwnI N w v l) : IntsAt w w.heap.size v (l.map fun k => ((k : Nat) : Int)) := by
  rcases owned_formN h with ⟨e, h0, _⟩ | ⟨g, cap, cur, e, _, _, _, hb, hs, ht, hlt⟩
  · obtain rfl := List.eq_nil_of_length_eq_zero h0
    exact ⟨none, 0, e, fun i k hk => by simp at hk⟩
  · refine ⟨_, cap, by rw [List.length_map]; exact e, fun i k hk => ⟨g, 0, rfl, hlt, ?_⟩⟩
    rw [List.getElem?_map] at hk
    cases e2 : l[i]? with
    | none => rw [e2] at hk; cases hk
    | some j =>
      rw [e2] at hk
      injection hk with hk
      subst hk
      have hil := (List.getElem?_eq_some_iff.1 e2).1
      have h3 : (iv l)[i]? = some (.int .i64 ((j : Nat) : Int)) := by unfold iv; rw [List.getElem?_map, e2]; rfl
      rw [← ht, List.getElem?_take_of_lt (by omega)] at h3
      rw [hb.cell, ← Array.getElem?_toList, Nat.zero_add]
      exact h3
theorem foldT_nil (rows : List (Hsh × List Opt)) (ps : List Pth) (of : List Mde) : foldT rows [] ps of = (ps, of) := by
  cases rows with
  | nil => unfold foldT; rfl
  | cons r rows => obtain ⟨h, os⟩ := r; unfold foldT; rfl
theorem foldT_snoc : ∀ (rows : List (Hsh × List Opt)) (l : List Nat) (ps : List Pth) (of : List Mde) (h : Hsh) (os : List Opt) (k : Nat) (x : Opt), rows[l.length]? = some (h, os) → os[k]? = some x → (∀ (i : Nat) r j, rows[i]? = some r → l[i]? = some j → j < r.2.length) →
    foldT rows (l ++ [k]) ps of = ((foldT rows l ps of).1 ++ x.1 :: x.2, (foldT rows l ps of).2 ++ [(h, x.1)])
  | [], l, ps, of, h, os, k, x, hr, _, _ => by simp at hr
  | (h0, os0) :: rows, [], ps, of, h, os, k, x, hr, hx, _ => by
    simp only [List.length_nil, List.getElem?_cons_zero, Option.some.injEq, Prod.mk.injEq] at hr
    obtain ⟨rfl, rfl⟩ := hr
    rw [foldT_nil]
    show foldT ((h0, os0) :: rows) [k] ps of = _
    conv => lhs; unfold foldT
    rw [hx]
    dsimp only
    rw [foldT_nil]
  | (h0, os0) :: rows, k0 :: l, ps, of, h, os, k, x, hr, hx, hin => by
    have h0l : k0 < os0.length := hin 0 (h0, os0) k0 rfl rfl
    have e : os0[k0]? = some os0[k0] := List.getElem?_eq_getElem h0l
    have ih := foldT_snoc rows l (ps ++ os0[k0].1 :: os0[k0].2) (of ++ [(h0, os0[k0].1)]) h os k x (by simpa using hr) hx (fun i r j h1 h2 => hin (i + 1) r j (by simpa using h1) (by simpa using h2))
    show foldT ((h0, os0) :: rows) (k0 :: (l ++ [k])) ps of = _
    have e1 : ∀ m, foldT ((h0, os0) :: rows) (k0 :: m) ps of = foldT rows m (ps ++ os0[k0].1 :: os0[k0].2) (of ++ [(h0, os0[k0].1)]) := fun m => by
      conv => lhs; unfold foldT
      rw [e]
    rw [e1, e1]
    exact ih
theorem inRange_iff {opts : List (List Opt)} {ks : List Int} : inRange opts ks = true ↔ ∀ (i : Nat) os k, opts[i]? = some os → ks[i]? = some k → 0 ≤ k ∧ k < (os.length : Int) := by
  unfold inRange
  rw [List.all_eq_true]
  constructor
  · intro h i os k h1 h2
    have := h (os, k) (List.mem_of_getElem? (i := i) (by rw [List.getElem?_zip_eq_some]; exact ⟨h1, h2⟩))
    simpa using this
  · rintro h ⟨os, k⟩ hm
    obtain ⟨i, hi⟩ := List.getElem?_of_mem hm
    rw [List.getElem?_zip_eq_some] at hi
    simpa using h i os k hi.1 hi.2
/-- the first places are in range -/
def InR (opts : List (List Opt)) (ks : List Int) (n : Nat) : Prop := ∀ (i : Nat) os k, i < n → opts[i]? = some os → ks[i]? = some k → 0 ≤ k ∧ k < (os.length : Int)
/-- what is there by the first n places -/
def thereN (c : CaseP) (ks : List Int) (n : Nat) : List Pth × List Mde := foldT (c.cls.zip c.opts) ((ks.map Int.toNat).take n) c.fixed c.of
theorem thereN_next {c : CaseP} {ks : List Int} {n : Nat} {h : Hsh} {os : List Opt} {k : Int} {x : Opt} (hn : InR c.opts ks n) (hc : c.cls[n]? = some h) (ho : c.opts[n]? = some os) (hk : ks[n]? = some k) (hx : os[k.toNat]? = some x) :
    thereN c ks (n + 1) = ((thereN c ks n).1 ++ x.1 :: x.2, (thereN c ks n).2 ++ [(h, x.1)]) := by
  have hnl := (List.getElem?_eq_some_iff.1 hk).1
  have hl : ((ks.map Int.toNat).take n).length = n := by
    rw [List.length_take, List.length_map]
    omega
  unfold thereN
  rw [List.take_add_one, List.getElem?_map, hk]
  refine foldT_snoc _ _ _ _ h os k.toNat x ?_ hx ?_
  · rw [hl, List.getElem?_zip_eq_some]
    exact ⟨hc, ho⟩
  · intro i r j h1 h2
    obtain ⟨r1, r2⟩ := r
    rw [List.getElem?_zip_eq_some] at h1
    have hi : i < n := by
      have := (List.getElem?_eq_some_iff.1 h2).1
      omega
    rw [List.getElem?_take_of_lt hi, List.getElem?_map] at h2
    cases e : ks[i]? with
    | none => rw [e] at h2; cases h2
    | some z =>
      rw [e] at h2
      injection h2 with h2
      have := hn i r2 z hi h1.2 e
      dsimp only
      omega
theorem thereN_all (c : CaseP) (ks : List Int) (n : Nat) (h : ks.length ≤ n) : thereN c ks n = foldT (c.cls.zip c.opts) (ks.map Int.toNat) c.fixed c.of := by
  unfold thereN
  rw [List.take_of_length_le (by rw [List.length_map]; exact h)]
theorem thereN_zero (c : CaseP) (ks : List Int) : thereN c ks 0 = (c.fixed, c.of) := by
  unfold thereN
  rw [List.take_zero, foldT_nil]
set_option maxHeartbeats 4000000 in
theorem free_any (w : World) (v : Cvs) (c : CaseP) (hc : c.size ≤ 120) (hC : CaseAt w.heap.size w v c) (ks : List Int) (hkl : ks.length ≤ 1000000) (vk : Value) (hK : IntsAt w w.heap.size vk ks) :
    Calls Try.prog 20 #[.agg (caseC v).toArray, vk] w fun e w' => e = .returned (.bool (freeB c ks)) ∧ Below w.heap.size w w' := by
  obtain ⟨b1, b2, b3, b4, b5, b6, b7⟩ := CaseP.bounds hc
  have hUl : c.U.length ≤ 100000 ∧ ∀ h ∈ c.U, okH h := ⟨by omega, hC.okU⟩
  have hVl : c.V.length ≤ 100000 := by omega
  obtain ⟨w1, hw1⟩ : ∃ w1, w1 = w.alloc (.cells (caseC v).toArray 29) := ⟨_, rfl⟩
  have hb1 : Below w.heap.size w w1 := by rw [hw1]; exact (Below.refl _ w).alloc (Nat.le_refl _) _
  have hk1 : Blk w1 w.heap.size 29 (caseC v).toArray := by rw [hw1]; exact Blk.new _ _ _
  have hz1 : w1.heap.size = w.heap.size + 1 := by rw [hw1, size_alloc]
  have hC1 : CaseAt w.heap.size w1 v c := hC.alike fun k hk => hb1.block k hk
  have hK1 : IntsAt w1 w.heap.size vk ks := hK.alike fun k hk => hb1.block k hk
  have ho : okH v.own := by rw [hC.own]; exact hC.okO
  obtain ⟨Ao, capo, hvo, _, _, _, hAo⟩ := slice_open hC1.atO
  obtain ⟨Ac, capc, hvc, _, _, _, _⟩ := slice_open hC1.atC
  obtain ⟨Ak, capk, rfl, hKs⟩ := hK1
  have hcells := case_cells ho hk1
  rw [hvo, hvc] at hcells
  have H1 := hide (And.intro hb1 (And.intro hk1 (And.intro hC1 (And.intro hcells (And.intro hvo (And.intro hvc (And.intro hKs hAo)))))))
  have HW := hide hw1
  clear hb1 hk1 hC1 hC hvo hvc hcells hw1 hK hKs hAo
  have o9 : (c.opts.length : Int) ≤ 120 := by omega
  have c9 : (c.cls.length : Int) ≤ 120 := by omega
  have k9 : (ks.length : Int) ≤ 1000000 := by omega
  have c22 : w1.cell? ⟨w.heap.size, 22, none⟩ = some (.slice Ao c.opts.length capo) := H1.out.2.2.2.1.2.2.1
  by_cases hne : c.opts.length = c.cls.length
  · have c21 : w1.cell? ⟨w.heap.size, 21, none⟩ = some (.slice Ac c.opts.length capc) := by rw [hne]; exact H1.out.2.2.2.1.2.1
    have HNE := hide hne
    clear hne
    by_cases hkn : ks.length = c.opts.length
    · rw [hkn]
      have HKN := hide hkn
      clear hkn
      go_enter Try.func20, Try.ntmps20
      go_wp2_with (first | (refine wpList_value (o := ⟨some 9, _, _, _, _, _⟩) rfl (.slice Ao c.opts.length capo) w1 (by rw [← HW.out]; exact exec_load_cell (o := ⟨some 9, _, _, _, _, _⟩) 26 (.tmp 8) rfl ⟨w.heap.size, 22, none⟩ rfl _ _ w1 Try.underlying26 rfl H1.out.2.2.2.1.2.2.1) ?_) | (refine wpList_value (o := ⟨some 23, _, _, _, _, _⟩) rfl (.agg (caseC v).toArray) w1 (exec_load_blk (o := ⟨some 23, _, _, _, _, _⟩) 29 (.tmp 2) rfl w.heap.size rfl 29 _ _ w1 H1.out.2.1 Try.underlying29 rfl (csz ho)) ?_))
      refine (over_any w1 v c hc (H1.out.2.2.1.widen (by omega)) 0 (by omega)).mono ?_
      rintro e w3 ⟨B, s, cb, tb, hb, S, rfl, hB, hb3, hs3, hi3, hst, hfu⟩
      have hC3 : CaseAt B w3 v c := (H1.out.2.2.1.alike fun k hk => hb3.block k (by omega)).widen (by omega)
      have hk3 : Blk w3 w.heap.size 29 (caseC v).toArray := (hb3.block _ (by omega)).trans H1.out.2.1
      have H3 := hide (And.intro hB (And.intro hb3 (And.intro hs3 (And.intro hi3 (And.intro hC3 hk3)))))
      clear hB hb3 hs3 hi3 hst hfu hC3 hk3
      dsimp only
      go_wp2_with fail
      go_loopw [27] (fun x wr => ∃ k S1 cnt M, k ≤ c.opts.length ∧ x = .int .i64 ((k : Nat) : Int) ∧ SLeft B w3 s cb tb hb v S S1 wr ∧ InvP v.own c.U c.V S1 cnt M (there cnt M) ∧ Say cnt M (thereN c ks k).1 (thereN c ks k).2 ∧ InR c.opts ks k ∧ ∀ q, cnt q ≤ 120 + 200 * k) (fun x _ => c.opts.length - (intOf x).toNat)
      case atStart => exact ⟨0, S, _, _, by omega, rfl, .refl H3.out.2.2.1, H3.out.2.2.2.1, by rw [thereN_zero]; exact say_first _ _, (fun i _ _ hi => absurd hi (by omega)), fun q => by rw [cnt0_eq]; have := pcnt_len c.fixed q; omega⟩
      case round =>
        obtain ⟨wo, rfl⟩ : ∃ wo, wo = wr := ⟨_, rfl⟩
        obtain ⟨k, S1, cnt, M, hk, rfl, hl1, hi1, hsay, hin, hcq⟩ := hrel
        have hal := SLeft.alike H3.out.2.2.1 hl1
        have hC4 := H3.out.2.2.2.2.1.alike hal
        have hcells := case_cells ho ((hal w.heap.size (by have := H3.out.1; omega)).trans H3.out.2.2.2.2.2)
        rw [H1.out.2.2.2.2.1, H1.out.2.2.2.2.2.1] at hcells
        have hbw := SLeft.belowB H3.out.2.2.1 hl1
        have H4 := hide (And.intro hl1 (And.intro hi1 (And.intro hsay (And.intro hin (And.intro hcq (And.intro hC4 (And.intro hcells hbw)))))))
        clear hl1 hi1 hsay hin hcq hC4 hcells hal hbw
        have k0 : (0 : Int) ≤ (k : Int) := by omega
        by_cases hk2 : k < c.opts.length
        · have k1 : (k : Int) < (c.opts.length : Int) := by omega
          obtain ⟨z, hz⟩ : ∃ z, ks[k]? = some z := ⟨_, List.getElem?_eq_getElem (by have := HKN.out; omega)⟩
          obtain ⟨os, hos⟩ : ∃ os, c.opts[k]? = some os := ⟨_, List.getElem?_eq_getElem hk2⟩
          obtain ⟨h, hh⟩ : ∃ h, c.cls[k]? = some h := ⟨_, List.getElem?_eq_getElem (by have := HNE.out; omega)⟩
          obtain ⟨bk, offk, rfl, hbk, hzc⟩ := H1.out.2.2.2.2.2.2.1 k z hz
          obtain ⟨bo, offo, rfl, hlo, hEo⟩ := H1.out.2.2.2.2.2.2.2 (by omega)
          obtain ⟨cs1, hr1, hat1⟩ := hEo k os hos
          obtain ⟨vr, rfl, hat1⟩ := rowLay_at hat1
          obtain ⟨Ar, capr, rfl, _, _, _, hAr⟩ := slice_open hat1
          have hsame : ∀ b, b < w.heap.size → wo.heap[b]? = w1.heap[b]? := fun b hb9 => (H4.out.2.2.2.2.2.2.2.block b (by have := H3.out.1; omega)).trans (H3.out.2.1.block b (by omega))
          have hzc4 : wo.cell? ⟨bk, offk + k, none⟩ = some (.int .i64 z) := (World.cell?_of_block (hsame bk hbk)).trans hzc
          have hr4 : wo.cell? ⟨bo, offo + k, none⟩ = some (.slice Ar os.length capr) := by
            have h9 : w1.cell? ⟨bo, offo + k * 1 + 0, none⟩ = some (.slice Ar os.length capr) := hr1 0 _ rfl
            rw [Nat.mul_one, Nat.add_zero] at h9
            exact (World.cell?_of_block (hsame bo hlo)).trans h9
          have c22o : wo.cell? ⟨w.heap.size, 22, none⟩ = some (.slice (some ⟨bo, offo, none⟩) c.opts.length capo) := H4.out.2.2.2.2.2.2.1.2.2.1
          have os9 : (os.length : Int) ≤ 120 := by have := (b7 os (List.mem_of_getElem? hos)).1; omega
          have H5 := hide (And.intro hz (And.intro hos (And.intro hh (And.intro hAr hsame))))
          clear hz hos hh hAr hsame hzc hEo hr1 hat1
          by_cases hz0 : z < 0
          · go_wp2_with (first | (refine wpList_value (o := ⟨some 30, _, _, _, _, _⟩) rfl (.pointer (some ⟨bk, offk + (k : Int).toNat * 1, none⟩)) wo (exec_index_off (o := ⟨some 30, _, _, _, _, _⟩) 33 3 (.tmp 25) (.tmp 27) rfl bk offk c.opts.length capk (k : Int) .i64 rfl rfl ⟨k0, k1⟩ 1 Try.underlying33 (by kernel_rfl) wo) ?_; rw [show offk + (k : Int).toNat * 1 = offk + k by omega]))
            go_ret
            have e : freeB c ks = false := by
              have hir : inRange c.opts ks = false := by
                cases h9 : inRange c.opts ks with
                | false => rfl
                | true =>
                  have := (inRange_iff.1 h9 k os z H5.out.2.1 H5.out.1).1
                  omega
              unfold freeB
              rw [hir]
              simp
            rw [e]
            exact ⟨rfl, H1.out.1.trans (Below.mono (H3.out.2.1.trans (Below.mono H4.out.2.2.2.2.2.2.2 H3.out.1)) (by omega))⟩
          · have hz1' : 0 ≤ z := by omega
            by_cases hzl : z < (os.length : Int)
            · obtain ⟨j, rfl⟩ : ∃ j : Nat, z = (j : Int) := ⟨z.toNat, by omega⟩
              have hjl : j < os.length := by omega
              obtain ⟨x, hx⟩ : ∃ x, os[j]? = some x := ⟨_, List.getElem?_eq_getElem hjl⟩
              obtain ⟨br, offr, rfl, hlr, hEr⟩ := H5.out.2.2.2.1 (by omega)
              obtain ⟨cs2, hr2, hat2⟩ := hEr j x hx
              obtain ⟨vx, rfl, hpx, hvx⟩ := optLay_at hat2
              have hr2o : wo.rangeAt br (offr + j * 22) (oC x.1 vx) := rangeAt_same hr2 (H5.out.2.2.2.2 br hlr)
              have hvxo : pathsLay.At wo B [vx] x.2 := pathsLay.widen (pathsLay.alike hvx fun b hb9 => H5.out.2.2.2.2 b hb9) (by have := H3.out.1; omega)
              have HX := hide (And.intro hx (And.intro hr2o hvxo))
              have hxV : x.1 ∈ c.V ∧ (∀ q ∈ x.2, q ∈ c.V) := by
                have := (H4.out.2.2.2.2.2.1.ok hc HNE.out).opt os (List.mem_of_getElem? H5.out.2.1)
                exact ⟨(this.2 x (List.mem_of_getElem? hx)).1, (this.2 x (List.mem_of_getElem? hx)).2.2⟩
              have hhU : h ∈ c.U := mem_dd.2 (List.mem_append_left _ (List.mem_of_getElem? H5.out.2.2.1))
              have hx9 := (b7 os (List.mem_of_getElem? H5.out.2.1)).2 x (List.mem_of_getElem? hx)
              have hxo : (Try.prog.info? 55).map (·.size) = some (oC x.1 vx).length := by rw [sz_opt]; simp [pC_len hpx]
              clear hx hEr hr2 hat2 hr2o hvx hvxo
              go_wp2_with (first | (refine wpList_value (o := ⟨some 30, _, _, _, _, _⟩) rfl (.pointer (some ⟨bk, offk + (k : Int).toNat * 1, none⟩)) wo (exec_index_off (o := ⟨some 30, _, _, _, _, _⟩) 33 3 (.tmp 25) (.tmp 27) rfl bk offk c.opts.length capk (k : Int) .i64 rfl rfl ⟨k0, k1⟩ 1 Try.underlying33 (by kernel_rfl) wo) ?_; rw [show offk + (k : Int).toNat * 1 = offk + k by omega]) | (refine wpList_value (o := ⟨some 52, _, _, _, _, _⟩) rfl (.pointer (some ⟨br, offr + (j : Int).toNat * 22, none⟩)) wo (exec_index_off (o := ⟨some 52, _, _, _, _, _⟩) 57 55 (.tmp 50) (.tmp 51) rfl br offr os.length capr (j : Int) .i64 rfl rfl ⟨hz1', hzl⟩ 22 Try.underlying57 sz_opt wo) ?_; rw [show offr + (j : Int).toNat * 22 = offr + j * 22 by omega]) | (refine wpList_value (o := ⟨some 53, _, _, _, _, _⟩) rfl (.agg (oC x.1 vx).toArray) wo (exec_load_mid (o := ⟨some 53, _, _, _, _, _⟩) 55 (.tmp 52) rfl br (offr + j * 22) rfl (oC x.1 vx) _ wo HX.out.2.1 Try.underlying55 rfl hxo) ?_; simp only [Act.put, List.setIfInBounds_toArray, List.set_cons_zero, List.set_cons_succ]))
              refine (choose_any hUl hVl c.cls (by omega) H4.out.2.2.2.2.2.1.atC k h H5.out.2.2.1 hhU x.1 hpx hxV.1 x.2 (by omega) hxV.2 vx HX.out.2.2 (fun q => by have := H4.out.2.2.2.2.1 q; omega) H4.out.1.1 H4.out.2.1).mono ?_
              rintro e w5 ⟨_, _, _, _, S5, rfl, hl5, hi5, _, _⟩
              have H6 := hide (And.intro hl5 hi5)
              clear hl5 hi5
              dsimp only
              go_wp2_with fail
              go_roundw
              case rel =>
                refine ⟨k + 1, S5, _, _, by omega, by go_num, H4.out.1.trans H6.out.1, H6.out.2, ?_, ?_, fun q => ?_⟩
                · rw [thereN_next H4.out.2.2.2.1 H5.out.2.2.1 H5.out.2.1 H5.out.1 (x := x) (by rw [Int.toNat_natCast]; exact HX.out.1)]
                  exact H4.out.2.2.1.choose h x
                · intro i os' z' hi h1 h2
                  by_cases hik : i < k
                  · exact H4.out.2.2.2.1 i os' z' hik h1 h2
                  · obtain rfl : i = k := by omega
                    rw [H5.out.2.1] at h1
                    rw [H5.out.1] at h2
                    injection h1 with h1
                    injection h2 with h2
                    subst h1 h2
                    exact ⟨hz1', hzl⟩
                · rw [cntC_eq]
                  have := H4.out.2.2.2.2.1 q
                  have := pcnt_len [x.1] q
                  have := pcnt_len x.2 q
                  simp at *
                  omega
              case measure => simp [intOf]; omega
            · go_wp2_with (first | (refine wpList_value (o := ⟨some 30, _, _, _, _, _⟩) rfl (.pointer (some ⟨bk, offk + (k : Int).toNat * 1, none⟩)) wo (exec_index_off (o := ⟨some 30, _, _, _, _, _⟩) 33 3 (.tmp 25) (.tmp 27) rfl bk offk c.opts.length capk (k : Int) .i64 rfl rfl ⟨k0, k1⟩ 1 Try.underlying33 (by kernel_rfl) wo) ?_; rw [show offk + (k : Int).toNat * 1 = offk + k by omega]))
              go_ret
              have e : freeB c ks = false := by
                have hir : inRange c.opts ks = false := by
                  cases h9 : inRange c.opts ks with
                  | false => rfl
                  | true =>
                    have := (inRange_iff.1 h9 k os z H5.out.2.1 H5.out.1).2
                    omega
                unfold freeB
                rw [hir]
                simp
              rw [e]
              exact ⟨rfl, H1.out.1.trans (Below.mono (H3.out.2.1.trans (Below.mono H4.out.2.2.2.2.2.2.2 H3.out.1)) (by omega))⟩
        · obtain rfl : k = c.opts.length := by omega
          obtain ⟨bd, hbd⟩ : ∃ bd, bd = S1.bad := ⟨_, rfl⟩
          have c27 : wo.cell? ⟨s, 27, none⟩ = some (.int .i64 bd) := by rw [hbd]; exact H4.out.1.1.cells.2.2.2.2.2.2.2.2.1
          have hres : decide (bd = 0) = freeB c ks := by
            have h1 := (H4.out.2.1.lens hUl.1 hVl).2.2
            have h2 := (inv_bad H4.out.2.1).trans (confl_iff H4.out.2.2.1)
            rw [thereN_all c ks _ (by have := HKN.out; omega)] at h2
            have h3 : inRange c.opts ks = true := inRange_iff.2 fun i os z h1 h2 => H4.out.2.2.2.1 i os z (List.getElem?_eq_some_iff.1 h1).1 h1 h2
            rw [H1.out.2.2.1.own] at h2
            unfold freeB
            rw [h3, decide_eq_true HNE.out, decide_eq_true HKN.out, Bool.true_and, Bool.true_and, Bool.true_and]
            cases hcl : cleanB c.own (foldT (c.cls.zip c.opts) (ks.map Int.toNat) c.fixed c.of).1 (foldT (c.cls.zip c.opts) (ks.map Int.toNat) c.fixed c.of).2 with
            | true =>
              have : ¬ 0 < S1.bad := fun h => by rw [h2.1 h] at hcl; cases hcl
              exact decide_eq_true (by omega)
            | false =>
              have := h2.2 hcl
              exact decide_eq_false (by omega)
          have HR := hide hres
          clear hres
          go_wp2_with fail
          go_ret
          refine ⟨?_, H1.out.1.trans (Below.mono (H3.out.2.1.trans (Below.mono H4.out.2.2.2.2.2.2.2 H3.out.1)) (by omega))⟩
          rw [← HR.out, hbd]
          have hq : (S1.bad == 0) = decide (S1.bad = 0) := by by_cases h : S1.bad = 0 <;> simp [h]
          rw [← hq]
          rfl
    · have hki : ¬ (ks.length : Int) = (c.opts.length : Int) := by omega
      go_enter Try.func20, Try.ntmps20
      go_wp2_with (first | (refine wpList_value (o := ⟨some 9, _, _, _, _, _⟩) rfl (.slice Ao c.opts.length capo) w1 (by rw [← HW.out]; exact exec_load_cell (o := ⟨some 9, _, _, _, _, _⟩) 26 (.tmp 8) rfl ⟨w.heap.size, 22, none⟩ rfl _ _ w1 Try.underlying26 rfl H1.out.2.2.2.1.2.2.1) ?_))
      go_ret
      have e : freeB c ks = false := by
        unfold freeB
        rw [decide_eq_false hkn]
        simp
      rw [e]
      exact ⟨rfl, H1.out.1⟩
  · have c21 : w1.cell? ⟨w.heap.size, 21, none⟩ = some (.slice Ac c.cls.length capc) := H1.out.2.2.2.1.2.1
    have hni : ¬ (c.opts.length : Int) = (c.cls.length : Int) := by omega
    go_enter Try.func20, Try.ntmps20
    go_wp2_with (first | (refine wpList_value (o := ⟨some 9, _, _, _, _, _⟩) rfl (.slice Ao c.opts.length capo) w1 (by rw [← HW.out]; exact exec_load_cell (o := ⟨some 9, _, _, _, _, _⟩) 26 (.tmp 8) rfl ⟨w.heap.size, 22, none⟩ rfl _ _ w1 Try.underlying26 rfl H1.out.2.2.2.1.2.2.1) ?_))
    go_ret
    have e : freeB c ks = false := by
      unfold freeB
      rw [decide_eq_false hne]
      simp
    rw [e]
    exact ⟨rfl, H1.out.1⟩
end Go.Proofs.Ytfppddnfdinipaa
end
section
namespace Go.Proofs.Ytfppddnfdinipaa
open Go Go.RowKit Go.WideShapes Go.ChangeShapes
theorem weightsAll_in {H : Type} {P : Program} {e : TypeId} : ∀ {l : List (DataW H)} {d : DataW H}, d ∈ l → ∀ n ∈ d.weights P e, n ∈ DataW.weightsAll P e l
  | [], _, h, _, _ => by cases h
  | x :: l, d, h, n, hn => by
    rw [DataW.weightsAll, List.mem_append]
    rcases List.mem_cons.1 h with rfl | h
    · exact .inl hn
    · exact .inr (weightsAll_in h n hn)
structure Lay.OpensW {α : Type} (L : Lay α) (P : Program) (M : Nat) (sm : α → Prop) : Prop where
  cells : P.cellsOf L.t = L.n
  op : ∀ {H : Type} {enc : TypeId × Value → H} {w : World} {sp : Nat → Bool} {hd : Bool} {fuel : Nat} {cs : List Value} {y : DataW H × List MemPlace}, DataW.trod enc P w 0 sp hd fuel L.t cs = some y → ∃ x, L.At w w.heap.size cs x ∧ ((∀ n ∈ y.1.weights P L.t, n ≤ M) → sm x)
structure Flds.OpensW {α : Type} (F : Flds α) (P : Program) (M : Nat) (sm : α → Prop) : Prop where
  op : ∀ {H : Type} {enc : TypeId × Value → H} {w : World} {sp : Nat → Bool} {hd : Bool} {fuel : Nat} {cs : List Value} {off : Nat}, cs.length = off + F.n → ∀ ys : List (DataW H × List MemPlace), ys.length = (F.shape off).length →
    (∀ (i : Nat) p, (F.shape off)[i]? = some p → DataW.trod enc P w 0 sp hd fuel p.1 ((cs.drop p.2).take (P.cellsOf p.1)) = ys[i]?) → ∃ x, F.At w w.heap.size (cs.drop off) x ∧ ((∀ n ∈ DataW.weightsEach P ((F.shape off).map (·.1)) (ys.map (·.1)), n ≤ M) → sm x)
theorem Lay.Opens.w {α : Type} {L : Lay α} {P : Program} (h : L.Opens P) (M : Nat) : L.OpensW P M fun _ => True where
  cells := h.cells
  op := fun hy => by
    obtain ⟨x, hx⟩ := h.op hy
    exact ⟨x, hx, fun _ => trivial⟩
theorem opensW_nil {P : Program} {M : Nat} : Flds.nil.OpensW P M fun _ => True where
  op := fun {H enc w sp hd fuel cs off} h _ _ _ => ⟨(), by
    have h : cs.length = off + 0 := h
    show cs.drop off = []
    rw [List.drop_eq_nil_iff]
    omega, fun _ => trivial⟩
theorem opensW_cons {P : Program} {M : Nat} {α β : Type} {L : Lay α} {F : Flds β} {s1 : α → Prop} {s2 : β → Prop} (hL : L.OpensW P M s1) (hF : F.OpensW P M s2) : (Flds.cons L F).OpensW P M fun x => s1 x.1 ∧ s2 x.2 where
  op := fun {H enc w sp hd fuel cs off} hl ys hys h => by
    have hl : cs.length = off + (L.n + F.n) := hl
    have hys : ys.length = (F.shape (off + L.n)).length + 1 := hys
    match ys, hys with
    | y :: ys, hys =>
      have h0 := h 0 (L.t, off) rfl
      obtain ⟨x1, h1, k1⟩ := hL.op h0
      obtain ⟨x2, h2, k2⟩ := hF.op (off := off + L.n) (cs := cs) (by omega) ys (by simpa using hys) (fun i p hp => by
        have := h (i + 1) p (by rw [← hp]; rfl)
        simpa using this)
      refine ⟨(x1, x2), ⟨_, _, ?_, h1, h2⟩, fun hw => ?_⟩
      · rw [hL.cells, ← List.drop_drop, List.take_append_drop]
      · have hw : ∀ n ∈ y.1.weights P L.t ++ DataW.weightsEach P ((F.shape (off + L.n)).map (·.1)) (ys.map (·.1)), n ≤ M := hw
        exact ⟨k1 fun n hn => hw n (List.mem_append_left _ hn), k2 fun n hn => hw n (List.mem_append_right _ hn)⟩
theorem opensW_struct {P : Program} {M : Nat} {γ β : Type} {t : TypeId} {F : Flds β} {f : γ → β} {fs : Array Field} {s : β → Prop} (mk : β → γ) (hmk : ∀ b, f (mk b) = b) (hF : F.OpensW P M s) (ht : P.underlying t = some (.struct fs)) (hc : P.cellsOf t = F.n)
    (hs : fs.toList.map (fun g => (g.type, g.offset)) = F.shape 0) : (Lay.struct t F f).OpensW P M fun x => s (f x) where
  cells := hc
  op := fun {H enc w sp hd fuel cs y} h => by
    obtain ⟨xs, n, _, hy, hl, hxl, hel⟩ := DataW.trod_struct ht h
    have hsl : (F.shape 0).length = fs.size := by rw [← hs]; simp
    obtain ⟨b, hb, hk⟩ := hF.op (H := H) (enc := enc) (w := w) (sp := sp) (hd := hd) (fuel := n) (cs := cs) (off := 0) (by omega) xs (by omega) (fun i p hp => by
      rw [← hs, List.getElem?_map] at hp
      cases e : fs.toList[i]? with
      | none => rw [e] at hp; cases hp
      | some g =>
        rw [e] at hp
        injection hp with hp
        subst hp
        exact hel i g (by simpa using e))
    refine ⟨mk b, ?_, fun hw => ?_⟩
    · show F.At w w.heap.size cs (f (mk b))
      rw [hmk]
      simpa using hb
    · rw [hmk]
      refine hk fun m hm => hw m ?_
      rw [hy]
      show m ∈ DataW.weights P t (.agg (xs.map (·.1)))
      simp only [DataW.weights, ht]
      have e : fs.toList.map (·.type) = (F.shape 0).map (·.1) := by
        rw [← hs, List.map_map]
        rfl
      rw [e]
      exact hm
theorem opensW_slice {P : Program} {M : Nat} {α : Type} {t : TypeId} {L : Lay α} {s : α → Prop} (hL : L.OpensW P M s) (hn : 0 < L.n) (ht : P.underlying t = some (.slice L.t)) (hc : P.cellsOf t = 1) : (Lay.slice t L).OpensW P M fun l => l.length * P.bytesOf L.t ≤ M ∧ ∀ x ∈ l, s x where
  cells := hc
  op := fun {H enc w sp hd fuel cs y} h => by
    rcases Go.Deep.open_slice ht h with ⟨rfl, _⟩ | ⟨a, len, cap, m, n, D, Pl, rfl, _, hl, hm, hmm, hy, hi⟩
    · exact ⟨[], ⟨none, 0, rfl, Nat.le_refl _, Nat.zero_le _, fun _ => rfl, fun h => absurd h (by simp)⟩, fun _ => ⟨by simp, fun x hx => by cases hx⟩⟩
    · rw [hL.cells] at hi
      have hml : len ≤ m := by rw [hmm]; split <;> omega
      have hw1 : (∀ k ∈ y.1.weights P t, k ≤ M) → len * P.bytesOf L.t ≤ M ∧ ∀ i, i < len → ∀ k ∈ (D i).weights P L.t, k ≤ M := by
        intro hw
        rw [hy] at hw
        simp only [DataW.weights, ht] at hw
        have h1 := hw _ (List.mem_cons_self ..)
        simp only [List.length_map, List.length_range] at h1
        refine ⟨Nat.le_trans (Nat.mul_le_mul_right _ (by omega)) h1, fun i hi k hk => hw k (List.mem_cons_of_mem _ (List.mem_append_left _ (weightsAll_in (d := D i) ?_ k hk)))⟩
        exact List.mem_map.2 ⟨i, List.mem_range.2 hi, rfl⟩
      have hel : ∀ i, i < len → ∃ (x : α) (cs : List Value), cs.length = L.n ∧ (∀ k, k < L.n → w.cell? ((a.add (i * L.n)).add k) = cs[k]?) ∧ L.At w w.heap.size cs x ∧ ((∀ k ∈ (D i).weights P L.t, k ≤ M) → s x) := by
        intro i hil
        obtain ⟨cs', hc', htr⟩ := hi i (by omega)
        obtain ⟨_, hcl, hat⟩ := World.cells?_some hc'
        obtain ⟨x, hx, hk⟩ := hL.op htr
        exact ⟨x, cs', hcl, hat, hx, hk⟩
      rcases Nat.eq_zero_or_pos len with rfl | hpos
      · exact ⟨[], ⟨some a, cap, rfl, Nat.zero_le _, hm, (fun h => by cases h), fun h => absurd h (by simp)⟩, fun _ => ⟨by simp, fun x hx => by cases hx⟩⟩
      obtain ⟨x0, _⟩ := hel 0 hpos
      obtain ⟨f, hf⟩ : ∃ f : Nat → α, ∀ i, i < len → ∃ cs : List Value, cs.length = L.n ∧ (∀ k, k < L.n → w.cell? ((a.add (i * L.n)).add k) = cs[k]?) ∧ L.At w w.heap.size cs (f i) ∧ ((∀ k ∈ (D i).weights P L.t, k ≤ M) → s (f i)) :=
        ⟨fun i => if h : i < len then Classical.choose (hel i h) else x0, fun i h => by simp only [dif_pos h]; exact Classical.choose_spec (hel i h)⟩
      clear hel
      have hll : ((List.range len).map f).length = len := by simp
      refine ⟨(List.range len).map f, ⟨some a, cap, by rw [hll], by omega, hm, (fun h => by cases h), fun _ => ?_⟩, fun hw => ⟨by rw [hll]; exact (hw1 hw).1, fun x hx => ?_⟩⟩
      · obtain ⟨c0, q0, q1, _⟩ := hf 0 hpos
        have hcell := q1 0 hn
        rw [List.getElem?_eq_getElem (by omega)] at hcell
        obtain ⟨b, off, sp'⟩ := a
        cases sp' with
        | some q =>
          have h2 : w.cell? ⟨b, off, some q⟩ = some c0[0] := by simpa [Addr.add] using hcell
          rw [cell_spot] at h2
          cases h2
        | none =>
          have h2 : w.cell? ⟨b, off, none⟩ = some c0[0] := by simpa [Addr.add] using hcell
          refine ⟨b, off, rfl, World.block_lt_of_cell? w _ h2, fun j x hj => ?_⟩
          obtain ⟨hj1, hj2⟩ := List.getElem?_eq_some_iff.1 hj
          rw [hll] at hj1
          have hj3 : f j = x := by simpa using hj2
          obtain ⟨cs, k1, k2, k3, _⟩ := hf j hj1
          rw [hj3] at k3
          refine ⟨cs, fun k v hk => ?_, k3⟩
          have hkn : k < L.n := by
            have := (List.getElem?_eq_some_iff.1 hk).1
            omega
          have := k2 k hkn
          rw [add_plain, add_plain, hk] at this
          exact this
      · obtain ⟨i, hi2, rfl⟩ := List.mem_map.1 hx
        have hil := List.mem_range.1 hi2
        obtain ⟨_, _, _, _, k4⟩ := hf i hil
        exact k4 ((hw1 hw).2 i hil)
end Go.Proofs.Ytfppddnfdinipaa
end
section
namespace Go.Proofs.Ytfppddnfdinipaa
open Go Go.RowKit Go.Maps
set_option maxRecDepth 100000
/-- no row of a case is longer than memory -/
structure LightC (c : CaseP) : Prop where
  f : c.fixed.length ≤ 140737488355328
  o : c.of.length ≤ 140737488355328
  k : c.cls.length ≤ 140737488355328
  r : c.opts.length ≤ 140737488355328
  i : ∀ os ∈ c.opts, os.length ≤ 140737488355328 ∧ ∀ x ∈ os, x.2.length ≤ 140737488355328
theorem caseLay_opensW : caseLay.OpensW Try.prog reachBytes LightC where
  cells := caseLay_opens.cells
  op := fun {H enc w sp hd fuel cs y} h => by
    have hp := fun (M : Nat) => opensW_slice (t := 24) (pathLay_opens.w M) (by decide) Try.underlying24 (by kernel_rfl)
    have ho := fun (M : Nat) => opensW_struct (t := 55) (f := fun o : Opt => (o.1, o.2, ())) (fun b => (b.1, b.2.1)) (fun _ => rfl) (opensW_cons (pathLay_opens.w M) (opensW_cons (hp M) opensW_nil)) Try.underlying55 (by kernel_rfl) (by kernel_rfl)
    have hr := fun (M : Nat) => opensW_slice (t := 26) (opensW_slice (t := 57) (ho M) (by decide) Try.underlying57 (by kernel_rfl)) (by decide) Try.underlying26 (by kernel_rfl)
    have hh := fun (M : Nat) => opensW_slice (t := 25) (hashLay_opens.w M) (by decide) Try.underlying25 (by kernel_rfl)
    have hm := fun (M : Nat) => opensW_slice (t := 27) (madeLay_opens.w M) (by decide) Try.underlying27 (by kernel_rfl)
    have hc := opensW_struct (t := 29) (f := fun c : CaseP => (c.own, c.fixed, c.cls, c.opts, c.of, ())) (fun b => ⟨b.1, b.2.1, b.2.2.1, b.2.2.2.1, b.2.2.2.2.1⟩) (fun _ => rfl) (opensW_cons (hashLay_opens.w reachBytes) (opensW_cons (hp reachBytes) (opensW_cons (hh reachBytes) (opensW_cons (hr reachBytes) (opensW_cons (hm reachBytes) opensW_nil))))) Try.underlying29 (by kernel_rfl) (by kernel_rfl)
    obtain ⟨x, hx, hk⟩ := hc.op h
    refine ⟨x, hx, fun hw => ?_⟩
    obtain ⟨_, ⟨h1, _⟩, ⟨h2, _⟩, ⟨h3, h4⟩, ⟨h5, _⟩, _⟩ := hk hw
    have e1 : Try.prog.bytesOf pathLay.t = 40 := by kernel_rfl
    have e2 : Try.prog.bytesOf hashLay.t = 20 := by kernel_rfl
    have e3 : Try.prog.bytesOf (Lay.slice 57 optLay).t = 24 := by kernel_rfl
    have e4 : Try.prog.bytesOf madeLay.t = 64 := by kernel_rfl
    have e5 : Try.prog.bytesOf optLay.t = 64 := by kernel_rfl
    have hR : reachBytes ≤ 140737488355328 := by decide
    have h1 : x.fixed.length * Try.prog.bytesOf pathLay.t ≤ reachBytes := h1
    have h2 : x.cls.length * Try.prog.bytesOf hashLay.t ≤ reachBytes := h2
    have h5 : x.of.length * Try.prog.bytesOf madeLay.t ≤ reachBytes := h5
    rw [e1] at h1
    rw [e2] at h2
    have h3 : x.opts.length * Try.prog.bytesOf (Lay.slice 57 optLay).t ≤ reachBytes := h3
    rw [e3] at h3
    rw [e4] at h5
    refine ⟨by omega, by omega, by omega, by omega, fun os hos => ?_⟩
    obtain ⟨h6, h7⟩ := h4 os hos
    have h6 : os.length * Try.prog.bytesOf optLay.t ≤ reachBytes := h6
    rw [e5] at h6
    refine ⟨by omega, fun o hoo => ?_⟩
    obtain ⟨_, ⟨h8, _⟩, _⟩ := h7 o hoo
    have h8 : o.2.length * Try.prog.bytesOf pathLay.t ≤ reachBytes := h8
    rw [e1] at h8
    omega
def rowS (os : List Opt) : Nat := (os.map fun x => 1 + x.2.length).sum
def CaseP.base (c : CaseP) : Nat := c.fixed.length + c.of.length + c.cls.length + c.opts.length
def CaseP.upto (c : CaseP) (i : Nat) : Nat := c.base + ((c.opts.take i).map rowS).sum
theorem upto_next {c : CaseP} {i : Nat} {os : List Opt} (h : c.opts[i]? = some os) : c.upto (i + 1) = c.upto i + rowS os := by
  unfold CaseP.upto
  rw [List.take_add_one, h, List.map_append, List.sum_append]
  simp
  omega
theorem upto_all (c : CaseP) : c.upto c.opts.length = c.size := by
  unfold CaseP.upto
  rw [List.take_length]
  rfl
theorem sum_take_le (f : List Opt → Nat) (l : List (List Opt)) (i : Nat) : ((l.take i).map f).sum ≤ (l.map f).sum := by
  have : (l.map f).sum = ((l.take i).map f).sum + ((l.drop i).map f).sum := by rw [← List.sum_append, ← List.map_append, List.take_append_drop]
  omega
theorem upto_le (c : CaseP) (i : Nat) : c.upto i ≤ c.size := by
  have := sum_take_le rowS c.opts i
  unfold CaseP.upto
  show c.base + _ ≤ c.base + (c.opts.map rowS).sum
  omega
theorem rowS_next {os : List Opt} {k : Nat} {x : Opt} (h : os[k]? = some x) : rowS (os.take (k + 1)) = rowS (os.take k) + (1 + x.2.length) := by
  unfold rowS
  rw [List.take_add_one, h, List.map_append, List.sum_append]
  simp
theorem rowS_le (os : List Opt) (k : Nat) : rowS (os.take k) ≤ rowS os := by
  have : rowS os = rowS (os.take k) + rowS (os.drop k) := by
    unfold rowS
    rw [← List.sum_append, ← List.map_append, List.take_append_drop]
  omega
set_option maxHeartbeats 4000000 in
theorem great_any (w : World) (v : Cvs) (c : CaseP) (hl : LightC c) (hC : CaseAt w.heap.size w v c) :
    Calls Try.prog 10 #[.agg (caseC v).toArray] w fun e w' => e = .returned (.bool (decide (120 < c.size))) ∧ Below w.heap.size w w' := by
  obtain ⟨w1, hw1⟩ : ∃ w1, w1 = w.alloc (.cells (caseC v).toArray 29) := ⟨_, rfl⟩
  have hb1 : Below w.heap.size w w1 := by rw [hw1]; exact (Below.refl _ w).alloc (Nat.le_refl _) _
  have hk1 : Blk w1 w.heap.size 29 (caseC v).toArray := by rw [hw1]; exact Blk.new _ _ _
  have hC1 : CaseAt w.heap.size w1 v c := hC.alike fun k hk => hb1.block k hk
  have ho : okH v.own := by rw [hC.own]; exact hC.okO
  obtain ⟨Ao, capo, hvo, _, _, _, hAo⟩ := slice_open hC1.atO
  obtain ⟨Ac, capc, hvc, _, _, _, _⟩ := slice_open hC1.atC
  obtain ⟨Af, capf, hvf, _, _, _, _⟩ := slice_open hC1.atF
  obtain ⟨Am, capm, hvm, _, _, _, _⟩ := slice_open hC1.atM
  have hcells := case_cells ho hk1
  rw [hvo, hvc, hvf, hvm] at hcells
  obtain ⟨c20, c21, c22, c23⟩ := hcells
  have H1 := hide (And.intro hb1 (And.intro hAo (And.intro hl.i c20)))
  have HW := hide hw1
  have l1 : (c.fixed.length : Int) ≤ 140737488355328 := by have := hl.f; omega
  have l2 : (c.of.length : Int) ≤ 140737488355328 := by have := hl.o; omega
  have l3 : (c.cls.length : Int) ≤ 140737488355328 := by have := hl.k; omega
  have l4 : (c.opts.length : Int) ≤ 140737488355328 := by have := hl.r; omega
  clear hb1 hk1 hC1 hC hvo hvc hvf hvm hAo hl c20 hw1
  have hbase : (c.fixed.length : Int) + (c.of.length : Int) + (c.cls.length : Int) + (c.opts.length : Int) = (c.base : Int) := by unfold CaseP.base; omega
  have HB := hide hbase
  clear hbase
  go_enter Try.func10, Try.ntmps10
  go_wp2_with (first | (refine wpList_value (o := ⟨some 7, _, _, _, _, _⟩) rfl (.slice Af c.fixed.length capf) w1 (by rw [← HW.out]; exact exec_load_cell (o := ⟨some 7, _, _, _, _, _⟩) 24 (.tmp 6) rfl ⟨w.heap.size, 20, none⟩ rfl _ _ w1 Try.underlying24 rfl H1.out.2.2.2) ?_))
  go_loopw [3, 4] (fun n x wr => ∃ (i n' : Nat), i ≤ c.opts.length ∧ x = .int .i64 ((i : Nat) : Int) ∧ n = .int .i64 ((n' : Nat) : Int) ∧ wr = w1 ∧ n' ≤ c.upto i ∧ (n' ≤ 120 → n' = c.upto i) ∧ n' ≤ 1000000000000000) (fun _ x _ => c.opts.length - (intOf x).toNat)
  case atStart => exact ⟨0, c.base, by omega, rfl, by rw [HB.out], rfl, by unfold CaseP.upto; simp, fun _ => by unfold CaseP.upto; simp, by have := HB.out; omega⟩
  case round =>
    obtain ⟨i, n, hi, rfl, rfl, rfl, hn1, hn2, hn3⟩ := hrel
    have i0 : (0 : Int) ≤ (i : Int) := by omega
    have n9 : (n : Int) ≤ 1000000000000000 := by omega
    by_cases hi2 : i < c.opts.length
    · have i1 : (i : Int) < (c.opts.length : Int) := by omega
      by_cases hn : n ≤ 120
      · have hni : (n : Int) ≤ 120 := by omega
        obtain ⟨os, hos⟩ : ∃ os, c.opts[i]? = some os := ⟨_, List.getElem?_eq_getElem hi2⟩
        obtain ⟨bo, offo, rfl, hlo, hEo⟩ := H1.out.2.1 (by omega)
        obtain ⟨cs1, hr1, hat1⟩ := hEo i os hos
        obtain ⟨vr, rfl, hat1⟩ := rowLay_at hat1
        obtain ⟨Ar, capr, rfl, _, _, _, hAr⟩ := slice_open hat1
        have hr4 : wr.cell? ⟨bo, offo + i, none⟩ = some (.slice Ar os.length capr) := by
          have h9 : wr.cell? ⟨bo, offo + i * 1 + 0, none⟩ = some (.slice Ar os.length capr) := hr1 0 _ rfl
          rwa [Nat.mul_one, Nat.add_zero] at h9
        obtain ⟨os9, hx9⟩ := H1.out.2.2.1 os (List.mem_of_getElem? hos)
        have os9 : (os.length : Int) ≤ 140737488355328 := by omega
        have H2 := hide (And.intro hos (And.intro hAr (And.intro hx9 (And.intro hn2 hn1))))
        clear hos hAr hx9 hEo hr1 hat1 hn1 hn2
        go_wp2_with fail
        go_loopw [3, 5] (fun m x w2 => ∃ (k m' : Nat), k ≤ os.length ∧ x = .int .i64 ((k : Nat) : Int) ∧ m = .int .i64 ((m' : Nat) : Int) ∧ w2 = wr ∧ m' ≤ c.upto i + rowS (os.take k) ∧ (m' ≤ 120 → m' = c.upto i + rowS (os.take k)) ∧ m' ≤ 1000000000000000) (fun _ x _ => os.length - (intOf x).toNat)
        case atStart => exact ⟨0, n, by omega, rfl, rfl, rfl, by have := H2.out.2.2.2.2; omega, fun h => by have := H2.out.2.2.2.1 h; rw [List.take_zero]; exact this, by omega⟩
        case round =>
          obtain ⟨k, m, hk, rfl, rfl, rfl, hm1, hm2, hm3⟩ := hrel
          have k0 : (0 : Int) ≤ (k : Int) := by omega
          have m9 : (m : Int) ≤ 1000000000000000 := by omega
          by_cases hk2 : k < os.length
          · have k1 : (k : Int) < (os.length : Int) := by omega
            by_cases hm : m ≤ 120
            · have hmi : (m : Int) ≤ 120 := by omega
              obtain ⟨x, hx⟩ : ∃ x, os[k]? = some x := ⟨_, List.getElem?_eq_getElem hk2⟩
              obtain ⟨br, offr, rfl, hlr, hEr⟩ := H2.out.2.1 (by omega)
              obtain ⟨cs2, hr2, hat2⟩ := hEr k x hx
              obtain ⟨vx, rfl, hpx, hvx⟩ := optLay_at hat2
              obtain ⟨Ax, capx, rfl, _, _, _, _⟩ := slice_open hvx
              have hcx : wr.cell? ⟨br, offr + k * 22 + 21, none⟩ = some (.slice Ax x.2.length capx) := hr2 21 _ (by simp [pC_len hpx])
              have hx9 := H2.out.2.2.1 x (List.mem_of_getElem? hx)
              have x9 : (x.2.length : Int) ≤ 140737488355328 := by omega
              have H3 := hide (And.intro hx (And.intro hm2 hm1))
              clear hx hEr hr2 hat2 hvx hm1 hm2
              go_wp2_with (first | (refine wpList_value (o := ⟨some 54, _, _, _, _, _⟩) rfl (.pointer (some ⟨br, offr + (k : Int).toNat * 22, none⟩)) wr (exec_index_off (o := ⟨some 54, _, _, _, _, _⟩) 57 55 (.tmp 52) (.tmp 53) rfl br offr os.length capr (k : Int) .i64 rfl rfl ⟨k0, k1⟩ 22 Try.underlying57 sz_opt wr) ?_; rw [show offr + (k : Int).toNat * 22 = offr + k * 22 by omega]))
              go_roundw
              case rel =>
                refine ⟨k + 1, m + (1 + x.2.length), by omega, by go_num, by congr 1; omega, trivial, ?_, fun _ => ?_, by omega⟩
                · rw [rowS_next H3.out.1]; have := H3.out.2.2; omega
                · rw [rowS_next H3.out.1]; have := H3.out.2.1 hm; omega
              case measure => simp [intOf]; omega
            · have hmi : ¬ (m : Int) ≤ 120 := by omega
              have H3 := hide hm1
              clear hm1 hm2
              go_wp2_with fail
              go_roundw
              case rel => exact ⟨i + 1, m, by omega, by go_num, rfl, trivial, by rw [upto_next H2.out.1]; have := rowS_le os k; have := H3.out; omega, fun h => absurd h hm, hm3⟩
              case measure => simp [intOf]; omega
          · obtain rfl : k = os.length := by omega
            rw [List.take_length, ← upto_next H2.out.1] at hm1 hm2
            have H3 := hide (And.intro hm1 hm2)
            clear hm1 hm2
            go_wp2_with fail
            go_roundw
            case rel => exact ⟨i + 1, m, by omega, by go_num, rfl, trivial, H3.out.1, H3.out.2, hm3⟩
            case measure => simp [intOf]; omega
      · have hni : ¬ (n : Int) ≤ 120 := by omega
        have hd : decide (120 < c.size) = true := decide_eq_true (by have := upto_le c i; omega)
        have HD := hide hd
        clear hd
        go_wp2_with fail
        go_ret
        rw [HD.out]
        exact ⟨rfl, H1.out.1⟩
    · obtain rfl : i = c.opts.length := by omega
      rw [upto_all] at hn1 hn2
      have hd : decide (120 < c.size) = decide (120 < (n : Int)) := by
        by_cases h : n ≤ 120
        · rw [← hn2 h, decide_eq_false (by omega), decide_eq_false (by omega)]
        · rw [decide_eq_true (by omega), decide_eq_true (by omega)]
      have HD := hide hd
      clear hd hn1 hn2
      go_wp2_with fail
      go_ret
      refine ⟨?_, H1.out.1⟩
      rw [HD.out]
      rfl
end Go.Proofs.Ytfppddnfdinipaa
end
section
namespace Go.Proofs.Ytfppddnfdinipaa
open Go Go.ChangeShapes Go.WideShapes Go.ChangeAt Go.RowKit
theorem Try.ownPF : ownKnob Try.prog.godebug = none := by kernel_rfl
set_option maxRecDepth 100000
theorem open_case {H : Type} {enc : TypeId × Value → H} {w : World} {r : Reach} {b0 : Nat} {hd : Bool} {u : Value} {d : DataW H} {ps : List MemPlace}
    (hval : Value.okWide Try.prog w r b0 29 u) (h : DataW.Trod enc Try.prog w 0 (fun _ => true) hd 29 u d ps) (hsz : ∀ n ∈ d.weights Try.prog 29, n ≤ reachBytes) :
    ∃ (v : Cvs) (c : CaseP), u = .agg (caseC v).toArray ∧ CaseAt w.heap.size w v c ∧ LightC c := by
  obtain ⟨cs, rfl, _⟩ := okWide_struct Try.underlying29 hval
  obtain ⟨fuel, hf⟩ := h
  obtain ⟨c, hc, hk⟩ := caseLay_opensW.op hf
  obtain ⟨v, e, hat⟩ := caseLay_at hc
  refine ⟨v, c, ?_, hat, hk hsz⟩
  congr 1
  rw [← e]
  rfl
theorem open_ints {H : Type} {enc : TypeId × Value → H} {w : World} {r : Reach} {b0 : Nat} {hd : Bool} {u : Value} {d : DataW H} {ps : List MemPlace}
    (hval : Value.okWide Try.prog w r b0 33 u) (h : DataW.Trod enc Try.prog w 0 (fun _ => true) hd 33 u d ps) : ∃ ks : List Int, intLay.At w w.heap.size [u] ks := by
  obtain ⟨a0, len, cap, rfl⟩ := okWide_slice Try.underlying33 hval
  obtain ⟨fuel, hf⟩ := h
  obtain ⟨ks, hk⟩ := intLay_opens.op hf
  exact ⟨ks, hk⟩
theorem open_int64 {H : Type} {enc : TypeId × Value → H} {w : World} {r : Reach} {b0 : Nat} {hd : Bool} {u : Value} {d : DataW H} {ps : List MemPlace}
    (hval : Value.okWide Try.prog w r b0 3 u) (h : DataW.Trod enc Try.prog w 0 (fun _ => true) hd 3 u d ps) : ∃ f : Int, u = .int .i64 f ∧ -9223372036854775808 ≤ f ∧ f ≤ 9223372036854775807 := by
  obtain ⟨z, rfl⟩ := okWide_int Try.underlying3 hval
  obtain ⟨fu, hfu⟩ := h
  obtain ⟨z', e, _, hw⟩ := DataW.trod_int Try.underlying3 hfu
  simp [Value.cells] at e
  subst e
  refine ⟨_, rfl, ?_⟩
  simp [Lit.wf, IntKind.min, IntKind.max, IntKind.signed, IntKind.bits] at hw
  omega
end Go.Proofs.Ytfppddnfdinipaa
end
section
namespace Go.Proofs.Ytfppddnfdinipaa
open Go Go.RowKit
/-- a source of m things of n cells -/
structure SrcN (w : World) (n : Nat) (A : Option Addr) (m c : Nat) (news : List Value) : Prop where
  len : news.length = m * n
  none_ : A = none → m = 0 ∧ c = 0
  one : ∀ u ∈ news, u.oneCell' = true
  cells : ∀ ad, A = some ad → ∀ j u, news[j]? = some u → w.cell? (ad.add j) = some u
theorem SrcN.below {w w' : World} {n m c : Nat} {A : Option Addr} {news : List Value} (h : SrcN w n A m c news) (hb : Below w.heap.size w w') : SrcN w' n A m c news :=
  ⟨h.len, h.none_, h.one, fun ad had j u hu => by
    have h1 := h.cells ad had j u hu
    rw [World.cell?_of_block (w' := w') (hb.block _ (World.block_lt_of_cell? w _ h1))]
    exact h1⟩
section
variable {P : Program} {w : World} {ops : Array Oper} {rest : List Oper} {o : Oper} {a : Act} {Q : Exit → Act → World → Prop}
theorem run_appS (base : Nat) (t ty e : TypeId) (i : TypeInfo) (z : Value) (size bytes : Nat) (ht : P.underlying t = some (.slice e)) (hi : P.info? e = some i) (hz : i.zero = some z)
    (hsize : i.size = size) (hby : i.bytes = bytes) (hzs : z.cells.size = size) (hsz : 0 < size) (v : Value) (n : Nat) (xs : List Value) (hown : w.ownsRow base e size v n xs)
    (A : Option Addr) (m c : Nat) (news : List Value) (hs : SrcN w size A m c news) (h63 : n + m ≤ maxLen) (hbytes : (n + m) * bytes ≤ 140737488355328) (hbase : base ≤ w.heap.size) :
    ∃ v' w', (Builtin.append_ #[t, t] ty #[v, .slice A m c]).run P w = .ok v' w' ∧ w'.ownsRow base e size v' (n + m) (xs ++ news) ∧ w.grownBy w' v.ownBlock ∧
      (v'.ownBlock = v.ownBlock ∨ v'.ownBlock = some w.heap.size) ∧ (v' = .slice none 0 0 → v = .slice none 0 0) := by
  rcases A with _ | ad
  · obtain ⟨rfl, rfl⟩ := hs.none_ rfl
    have hn : news = [] := List.eq_nil_of_length_eq_zero (by rw [hs.len]; omega)
    subst hn
    exact ⟨v, w, run_append_owned_none (P := P) (w := w) base t ty e i size ht hi v n xs hown, by simpa using hown, World.grownBy.refl w _, .inl rfl, id⟩
  · obtain ⟨v', w', h1, h2, h3, h4, h5⟩ := run_append_own_at (P := P) w base t ty e i z size bytes ht hi hz hsize hby hzs hsz v n xs hown ad m c news hs.len (hs.cells ad rfl) hs.one h63 hbytes hbase
    exact ⟨v', w', h1, h2, h3, h5, fun h => (h4.1 h).1⟩
theorem wpList_appS (hgd : o.guard = none) (s x : Operand) (t : TypeId)
    (ho : o.op = .call { callee := .builtin .append, args := #[s, x], argTypes := #[t, t] })
    (base : Nat) (e : TypeId) (i : TypeInfo) (z : Value) (size bytes : Nat) (ht : P.underlying t = some (.slice e)) (hi : P.info? e = some i) (hz : i.zero = some z)
    (hsize : i.size = size) (hby : i.bytes = bytes) (hzs : z.cells.size = size) (hsz : 0 < size) (v : Value) (n : Nat) (xs : List Value) (hown : w.ownsRow base e size v n xs)
    (A : Option Addr) (m c : Nat) (news : List Value) (hsrc : SrcN w size A m c news) (h63 : n + m ≤ maxLen) (hbytes : (n + m) * bytes ≤ 140737488355328) (hbase : base ≤ w.heap.size)
    (hs : a.eval s = v) (hx : a.eval x = .slice A m c)
    (h : ∀ v' w', w'.ownsRow base e size v' (n + m) (xs ++ news) → w.grownBy w' v.ownBlock → (v'.ownBlock = v.ownBlock ∨ v'.ownBlock = some w.heap.size) → wpList P ops Q rest (a.put o.dst v') w') :
    wpList P ops Q (o :: rest) a w := by
  refine wpList_plain hgd fun K hK => ?_
  obtain ⟨v', w', hr, h2, h3, h4, _⟩ := run_appS (P := P) (w := w) base t o.type e i z size bytes ht hi hz hsize hby hzs hsz v n xs hown A m c news hsrc h63 hbytes hbase
  unfold Oper.wp execOp
  simp only [ho, resolve, invoke, builtin, Sem.run_bind, Sem.run_pure, Result.andThen_ok, List.map_toArray, List.map_cons, List.map_nil, hs, hx, hr]
  exact hK _ _ (h v' w' h2 h3 h4)
end
/-- what is made apart from some own block stays below -/
theorem Below.grownOwn {w0 w w' : World} {v : Value} {base n s : Nat} {e : TypeId} {xs : List Value} (h : Below w0.heap.size w0 w) (hown : w.ownsRow base e s v n xs) (hb : w0.heap.size ≤ base) (hg : w.grownBy w' v.ownBlock) : Below w0.heap.size w0 w' :=
  h.grown hg h.size fun _ hk => Nat.le_trans hb (owned_ltN hown hk).1
section
variable {α : Type} {f : α → List Value} {n : Nat}
theorem flatC_length : ∀ (l : List α), (∀ x ∈ l, (f x).length = n) → (l.flatMap f).length = l.length * n
  | [], _ => by simp
  | x :: l, h => by
    rw [List.flatMap_cons, List.length_append, h x (by simp), flatC_length l fun y hy => h y (by simp [hy]), List.length_cons, Nat.add_mul]
    omega
theorem flatC_get (h0 : 0 < n) : ∀ (l : List α), (∀ x ∈ l, (f x).length = n) → ∀ (j : Nat) (u : Value), (l.flatMap f)[j]? = some u → ∃ x, l[j / n]? = some x ∧ (f x)[j % n]? = some u
  | [], _, j, u, hu => by simp at hu
  | x :: l, h, j, u, hu => by
    have hx := h x (by simp)
    rw [List.flatMap_cons, List.getElem?_append] at hu
    by_cases hj : j < n
    · rw [if_pos (by omega)] at hu
      rw [Nat.div_eq_of_lt hj, Nat.mod_eq_of_lt hj]
      exact ⟨x, rfl, hu⟩
    · rw [if_neg (by omega), hx] at hu
      obtain ⟨y, h1, h2⟩ := flatC_get h0 l (fun y hy => h y (by simp [hy])) (j - n) u hu
      have e1 : j / n = (j - n) / n + 1 := by
        rw [show j = (j - n) + n by omega, Nat.add_div_right _ h0]
        simp
      have e2 : j % n = (j - n) % n := by
        rw [Nat.mod_eq_sub_mod (by omega)]
      exact ⟨y, by rw [e1, List.getElem?_cons_succ]; exact h1, by rw [e2]; exact h2⟩
theorem flatC_at (h0 : 0 < n) : ∀ (l : List α), (∀ x ∈ l, (f x).length = n) → ∀ (k : Nat) (x : α), l[k]? = some x → ∀ j u, (f x)[j]? = some u → (l.flatMap f)[k * n + j]? = some u
  | [], _, k, x, hk, _, _, _ => by simp at hk
  | y :: l, h, k, x, hk, j, u, hu => by
    have hy := h y (by simp)
    rw [List.flatMap_cons]
    cases k with
    | zero =>
      simp only [List.getElem?_cons_zero, Option.some.injEq] at hk
      subst hk
      rw [Nat.zero_mul, Nat.zero_add, List.getElem?_append_left (List.getElem?_eq_some_iff.1 hu).1]
      exact hu
    | succ k =>
      rw [List.getElem?_cons_succ] at hk
      have := flatC_at h0 l (fun y hy => h y (by simp [hy])) k x hk j u hu
      rw [List.getElem?_append_right (by rw [hy, Nat.add_mul]; omega), hy, show (k + 1) * n + j - n = k * n + j by rw [Nat.add_mul]; omega]
      exact this
theorem flatC_one (h : ∀ x : α, ∀ u ∈ f x, u.oneCell' = true) (l : List α) : ∀ u ∈ l.flatMap f, u.oneCell' = true := by
  intro u hu
  obtain ⟨x, _, hx⟩ := List.mem_flatMap.1 hu
  exact h x u hx
/-- a row that is read is a source -/
theorem slice_src {t : TypeId} {L : Lay α} (h0 : 0 < L.n) (hf : ∀ {w B cs x}, L.At w B cs x → cs = f x) (h1 : ∀ x : α, ∀ u ∈ f x, u.oneCell' = true) {w : World} {B len cap : Nat} {A : Option Addr} {l : List α} (h : (Lay.slice t L).At w B [.slice A len cap] l) : len = l.length ∧ SrcN w L.n A l.length cap (l.flatMap f) := by
  obtain ⟨A', cap', e, h2, h3, h4, h5⟩ := h
  simp only [List.cons.injEq, Value.slice.injEq, and_true] at e
  obtain ⟨rfl, rfl, rfl⟩ := e
  have hlen : ∀ x ∈ l, (f x).length = L.n := fun x hx => by
    obtain ⟨i, hi⟩ := List.getElem?_of_mem hx
    obtain ⟨b, off, _, _, hE⟩ := h5 (by have := (List.getElem?_eq_some_iff.1 hi).1; omega)
    obtain ⟨cs, _, h6⟩ := hE i x hi
    rw [← hf h6]
    exact L.len h6
  refine ⟨rfl, flatC_length l hlen, fun hA => by have := h4 hA; omega, flatC_one h1 l, fun ad had j u hu => ?_⟩
  obtain ⟨x, h6, h7⟩ := flatC_get h0 l hlen j u hu
  obtain ⟨b, off, e, hb, hE⟩ := h5 (Nat.lt_of_le_of_lt (Nat.zero_le _) (List.getElem?_eq_some_iff.1 h6).1)
  rw [e] at had
  injection had with had
  subst had
  obtain ⟨cs, h8, h9⟩ := hE _ x h6
  rw [hf h9] at h8
  have := h8 _ u h7
  rw [Addr.add_mid]
  rw [Nat.add_assoc, show j / L.n * L.n + j % L.n = j by rw [Nat.mul_comm]; exact Nat.div_add_mod j L.n] at this
  exact this
/-- one thing in a box is a source -/
theorem box_src {w : World} {g : Nat} {t : TypeId} {cs : List Value} (hb : Blk w g t cs.toArray) (h1 : ∀ u ∈ cs, u.oneCell' = true) : SrcN w cs.length (some ⟨g, 0, none⟩) 1 1 cs :=
  ⟨by omega, (fun h => by cases h), h1, fun ad had j u hu => by
    injection had with had
    subst had
    rw [Addr.add_mid, Nat.zero_add, hb.cell]
    simpa using hu⟩
/-- a row of one's own, of things whose cells are known, is read -/
theorem own_slice {t e : TypeId} {L : Lay α} (h0 : 0 < L.n) {w : World} {R : Nat} {v : Value} {l : List α} (hown : w.ownsRow R e L.n v l.length (l.flatMap f)) (B : Nat) (hB : w.heap.size ≤ B) (hat : ∀ x ∈ l, L.At w B (f x) x) : (Lay.slice t L).At w B [v] l := by
  have hlen : ∀ x ∈ l, (f x).length = L.n := fun x hx => L.len (hat x hx)
  rcases owned_formN hown with ⟨rfl, hl, _⟩ | ⟨g, cap, cur, rfl, hbg, hnc, hcm, hg, hcs, htake, _⟩
  · obtain rfl := List.eq_nil_of_length_eq_zero hl
    exact ⟨none, 0, rfl, Nat.le_refl _, Nat.zero_le _, (fun _ => rfl), fun h => absurd h (by simp)⟩
  · refine ⟨_, cap, rfl, hnc, hcm, (fun h => by cases h), fun _ => ⟨g, 0, rfl, by have := hg.lt; omega, fun j x hj => ⟨f x, fun i u hu => ?_, hat x (List.mem_of_getElem? hj)⟩⟩⟩
    have h2 := flatC_at h0 l hlen j x hj i u hu
    rw [hg.cell, ← Array.getElem?_toList, Nat.zero_add]
    rw [← htake] at h2
    have hlt : j * L.n + i < l.length * L.n := by
      have := (List.getElem?_eq_some_iff.1 h2).1
      rw [List.length_take] at this
      omega
    rwa [List.getElem?_take_of_lt hlt] at h2
end
end Go.Proofs.Ytfppddnfdinipaa
end
section
namespace Go.Proofs.Ytfppddnfdinipaa
open Go Go.RowKit
/-- all stays, but that cells of rows behind B, of a type, may become those that are told for it -/
structure GrowF (B : Nat) (N : TypeId → Nat) (F : TypeId → List Value) (w w' : World) : Prop where
  os : w'.os = w.os
  tape : w'.tape = w.tape
  output : w'.output = w.output
  size : w.heap.size ≤ w'.heap.size
  block : ∀ k, k < w.heap.size → w'.heap[k]? = w.heap[k]? ∨ (B ≤ k ∧ ∃ cs cs' e, w.heap[k]? = some (.cells cs e (0, 0)) ∧ w'.heap[k]? = some (.cells cs' e (0, 0)) ∧ cs'.size = cs.size ∧ ∀ j, j < cs.size → cs'[j]? = cs[j]? ∨ (N e ≤ j ∧ j < (F e).length ∧ cs'[j]? = (F e)[j]?))
variable {B : Nat} {N : TypeId → Nat} {F : TypeId → List Value}
theorem GrowF.of_below {w w' : World} (h : Below w.heap.size w w') : GrowF B N F w w' := ⟨h.os, h.tape, h.output, h.size, fun k hk => .inl (h.block k hk)⟩
instance : Fre.RelOk (GrowF B N F) where
  refl w := .of_below (Below.refl _ w)
  drew w := .of_below ((Below.refl _ w).drew)
  trans a b c h1 h2 := by
    refine ⟨h2.os.trans h1.os, h2.tape.trans h1.tape, h2.output.trans h1.output, Nat.le_trans h1.size h2.size, fun k hk => ?_⟩
    rcases h1.block k hk with e1 | ⟨hB, cs, cs', e, q1, q2, q3, q4⟩
    · rcases h2.block k (Nat.lt_of_lt_of_le hk h1.size) with e2 | ⟨hB, cs, cs', e, q1, q2, q3, q4⟩
      · exact .inl (e2.trans e1)
      · exact .inr ⟨hB, cs, cs', e, e1.symm.trans q1, q2, q3, q4⟩
    · rcases h2.block k (Nat.lt_of_lt_of_le hk h1.size) with e2 | ⟨_, ds, ds', e', r1, r2, r3, r4⟩
      · exact .inr ⟨hB, cs, cs', e, q1, e2.trans q2, q3, q4⟩
      · rw [q2] at r1
        injection r1 with r1
        injection r1 with r1 r1'
        subst r1 r1'
        refine .inr ⟨hB, cs, ds', e, q1, r2, r3.trans q3, fun j hj => ?_⟩
        rcases r4 j (by omega) with e2 | e2
        · rcases q4 j hj with e1 | e1
          · exact .inl (e2.trans e1)
          · exact .inr ⟨e1.1, e1.2.1, e2.trans e1.2.2⟩
        · exact .inr e2
theorem GrowF.below {w w' : World} (h : GrowF B N F w w') (hB : B ≤ w.heap.size) : Below B w w' :=
  ⟨h.os, h.tape, h.output, h.size, fun k hk => (h.block k (by omega)).elim id fun h => absurd h.1 (by omega)⟩
/-- a block whose cells are those that are told -/
theorem GrowF.blk2 {w w' : World} (h : GrowF B N F w w') {k : Nat} {t : TypeId} {cs : Array Value} (hb : Blk w k t cs) (hF : ∀ j, j < cs.size → N t ≤ j → j < (F t).length → cs[j]? = (F t)[j]?) : Blk w' k t cs := by
  rcases h.block k hb.lt with e | ⟨_, ds, ds', e, q1, q2, q3, q4⟩
  · exact e.trans hb
  · have hb' : w.heap[k]? = some (.cells cs t (0, 0)) := hb
    rw [hb'] at q1
    injection q1 with q1
    injection q1 with q1 q1'
    subst q1 q1'
    have : ds' = cs := by
      apply Array.ext_getElem?
      intro j
      by_cases hj : j < cs.size
      · rcases q4 j hj with e | ⟨e1, e2, e3⟩
        · exact e
        · rw [e3, hF j hj e1 e2]
      · rw [Array.getElem?_eq_none (by omega), Array.getElem?_eq_none (by omega)]
    subst this
    exact q2
/-- a block of a type that does not grow -/
theorem GrowF.blk {w w' : World} (h : GrowF B N F w w') {k : Nat} {t : TypeId} {cs : Array Value} (hb : Blk w k t cs) (hF : F t = []) : Blk w' k t cs :=
  h.blk2 hb fun j _ _ h => by rw [hF] at h; simp at h
/-- a row that is a beginning of what its type's rows become -/
theorem GrowF.own {w w' : World} (h : GrowF B N F w w') {u : Value} {n z base : Nat} {ty : TypeId} {xs : List Value} (ho : w.ownsRow base ty z u n xs) (hx : xs <+: F ty) : w'.ownsRow base ty z u n xs := by
  obtain ⟨hl, ho⟩ := ho
  rcases ho with ⟨rfl, rfl⟩ | ⟨g, cap, cur, rfl, hg, hb, hn, hm, hs, ht⟩
  · exact ⟨hl, .inl ⟨rfl, rfl⟩⟩
  · have hlt : g < w.heap.size := (Array.getElem?_eq_some_iff.1 hb).1
    rcases h.block g hlt with e | ⟨_, cs, cs', e, q1, q2, q3, q4⟩
    · exact ⟨hl, .inr ⟨g, cap, cur, rfl, hg, e.trans hb, hn, hm, hs, ht⟩⟩
    · rw [hb] at q1
      injection q1 with q1
      injection q1 with q1 q1'
      subst q1 q1'
      refine ⟨hl, .inr ⟨g, cap, cs', rfl, hg, q2, hn, hm, by rw [q3]; exact hs, ?_⟩⟩
      rw [← ht]
      apply List.ext_getElem?
      intro j
      by_cases hj : j < n * z
      · have hjc : j < cur.size := by
          have h2 := congrArg List.length ht
          rw [List.length_take, hl] at h2
          simp at h2
          omega
        rw [List.getElem?_take_of_lt hj, List.getElem?_take_of_lt hj, Array.getElem?_toList, Array.getElem?_toList]
        rcases q4 j hjc with e | ⟨_, e1, e2⟩
        · exact e
        · obtain ⟨ys, hys⟩ := hx
          rw [e2, ← hys, List.getElem?_append_left (by omega), ← ht, List.getElem?_take_of_lt hj, Array.getElem?_toList]
      · rw [List.getElem?_eq_none (by rw [List.length_take]; omega), List.getElem?_eq_none (by rw [List.length_take]; omega)]
theorem GrowF.range {w w' : World} (h : GrowF B N F w w') {b o : Nat} {cs : List Value} (hr : w.rangeAt b o cs) (hb : b < B) (hB : B ≤ w.heap.size) : w'.rangeAt b o cs := fun j v hv => by
  have h1 := hr j v hv
  rw [World.cell?_of_block (w' := w') ((h.below hB).block b hb)]
  exact h1
/-- an append that makes a row grow -/
theorem GrowF.app {P : Program} {w : World} (t ty e : TypeId) (i : TypeInfo) (z : Value) (size bytes : Nat) (ht : P.underlying t = some (.slice e)) (hi : P.info? e = some i) (hz : i.zero = some z)
    (hsize : i.size = size) (hby : i.bytes = bytes) (hzs : z.cells.size = size) (hsz : 0 < size) (v : Value) (n : Nat) (xs : List Value) (hown : w.ownsRow B e size v n xs)
    (A : Option Addr) (m c : Nat) (news : List Value) (hs : SrcN w size A m c news) (h63 : n + m ≤ maxLen) (hbytes : (n + m) * bytes ≤ 140737488355328) (hbase : B ≤ w.heap.size) (hF : xs ++ news <+: F e) (hN : N e ≤ xs.length) :
    ∃ v' w', (Builtin.append_ #[t, t] ty #[v, .slice A m c]).run P w = .ok v' w' ∧ GrowF B N F w w' ∧ w'.ownsRow B e size v' (n + m) (xs ++ news) ∧ (v'.ownBlock = v.ownBlock ∨ v'.ownBlock = some w.heap.size) := by
  obtain ⟨v', w', hr, h2, h3, h4, _⟩ := run_appS (P := P) (w := w) B t ty e i z size bytes ht hi hz hsize hby hzs hsz v n xs hown A m c news hs h63 hbytes hbase
  refine ⟨v', w', hr, ?_, h2, h4⟩
  have hbel : (∀ k, v.ownBlock = some k → k < w.heap.size → w'.heap[k]? = w.heap[k]?) → GrowF B N F w w' := fun hk => ⟨h3.os, h3.tape, h3.output, h3.size, fun k hkl => .inl (by
    by_cases hkv : v.ownBlock = some k
    · exact hk k hkv hkl
    · exact h3.block k hkl fun e => hkv e.symm)⟩
  rcases owned_formN hown with ⟨rfl, rfl, rfl⟩ | ⟨g, cap, cur, rfl, hbg, hnc, hcm, hg, hcs, htake, _⟩
  · exact hbel fun k hk => by cases hk
  · rcases A with _ | ad
    · obtain ⟨rfl, rfl⟩ := hs.none_ rfl
      have h := run_append_owned_none (P := P) (w := w) B t ty e i size ht hi _ n xs hown
      rw [hr] at h
      injection h with k4 k5
      subst k5
      exact hbel fun k _ _ => rfl
    · by_cases hroom : n + m ≤ cap
      · have hcap : (n + m) * size ≤ cap * size := Nat.mul_le_mul_right _ hroom
        have hms : (n + m) * size = n * size + m * size := Nat.add_mul ..
        have hxl : xs.length = n * size := hown.1
        have hnl : news.length = m * size := hs.len
        have h := run_append_room (P := P) w t ty e i ht hi g n cap cur hg ad m c news (by rw [hsize]; exact hs.len) (hs.cells ad rfl) hs.one hroom (by rw [hs.len, hsize, hcs]; omega)
        rw [hr] at h
        injection h with k4 k5
        rw [hsize, hnl] at k5
        refine ⟨h3.os, h3.tape, h3.output, h3.size, fun k hkl => ?_⟩
        by_cases hkg : k = g
        · subst hkg
          refine .inr ⟨hbg, cur, (cur.toList.take (n * size) ++ news ++ cur.toList.drop (n * size + m * size)).toArray, e, hg, ?_, ?_, ?_⟩
          · have hg' : w.heap[k]? = some (.cells cur e (0, 0)) := hg
            rw [k5]
            unfold World.setRow
            show (w.heap.modify k _)[k]? = _
            rw [Array.getElem?_modify, if_pos rfl, hg']
            rfl
          · have : cur.toList.length = cur.size := by simp
            simp only [List.size_toArray, List.length_append, List.length_take, List.length_drop]
            omega
          · intro j hj
            have hcl : cur.toList.length = cur.size := by simp
            rw [List.getElem?_toArray]
            by_cases h1 : j < n * size
            · left
              rw [List.append_assoc, List.getElem?_append_left (by rw [List.length_take]; omega), List.getElem?_take_of_lt h1, Array.getElem?_toList]
            · by_cases h2' : j < n * size + m * size
              · right
                obtain ⟨ys, hys⟩ := hF
                refine ⟨by omega, by rw [← hys, List.length_append, List.length_append]; omega, ?_⟩
                rw [← hys, htake]
                rw [List.getElem?_append_left (l₁ := xs ++ news) (by rw [List.length_append]; omega), List.getElem?_append_left (l₁ := xs ++ news) (by rw [List.length_append]; omega)]
              · left
                rw [List.getElem?_append_right (by rw [List.length_append, List.length_take]; omega), List.length_append, List.length_take, List.getElem?_drop, ← Array.getElem?_toList]
                congr 1
                omega
        · exact .inl (h3.block k hkl (fun e => hkg (Option.some.inj e)))
      · have holds : ∀ j u, xs[j]? = some u → w.cell? ((⟨g, 0, none⟩ : Addr).add j) = some u := by
          intro j u hu
          rw [Addr.add_mid, Nat.zero_add, hg.cell, ← Array.getElem?_toList]
          rw [← htake] at hu
          have hj : j < n * size := by
            have := (List.getElem?_eq_some_iff.1 hu).1
            rw [List.length_take] at this
            omega
          rwa [List.getElem?_take_of_lt hj] at hu
        have h := run_append_grow (P := P) w t ty e i z ht hi hz ⟨g, 0, none⟩ n cap xs (by rw [hsize]; exact hown.1) holds ad m c news (by rw [hsize]; exact hs.len) (hs.cells ad rfl) (by omega) (by simp only [maxLen] at h63; omega) (growslice_fits (by omega) (by rw [hby]; exact hbytes))
        rw [hr] at h
        injection h with k4 k5
        subst k5
        exact .of_below (((Below.refl _ _).drew).alloc (Nat.le_refl _) _)
theorem GrowF.src {w w' : World} (h : GrowF B N F w w') {n m c : Nat} {A : Option Addr} {news : List Value} (hs : SrcN w n A m c news) (hA : ∀ ad, A = some ad → ad.block < B) (hB : B ≤ w.heap.size) : SrcN w' n A m c news :=
  ⟨hs.len, hs.none_, hs.one, fun ad had j u hu => by
    have h1 := hs.cells ad had j u hu
    have h2 : (ad.add j).block = ad.block := by cases ad; simp [Addr.add]; split <;> rfl
    rw [World.cell?_of_block (w' := w') ((h.below hB).block _ (by rw [h2]; exact hA ad had))]
    exact h1⟩
end Go.Proofs.Ytfppddnfdinipaa
end
