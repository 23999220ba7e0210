/- pick.Case in memory, as an argument; the document's, too. -/
import Derived.Test.YtfppddnfdinipaaPickLaw
import Derived.Test.YtfppddnfdinipaaPickQ
namespace Go.Proofs.Ytfppddnfdinipaa
open Go Go.RowKit Go.Maps
set_option maxRecDepth 100000
def madeLay : Lay Mde := Lay.struct 60 (.cons hashLay (.cons pathLay .nil)) fun m => (m.1, m.2, ())
def madesLay : Lay (List Mde) := Lay.slice 27 madeLay
def caseLay : Lay CaseP := Lay.struct 29 (.cons hashLay (.cons pathsLay (.cons hashesLay (.cons rowsLay (.cons madesLay .nil))))) fun c => (c.own, c.fixed, c.cls, c.opts, c.of, ())
theorem madeLay_opens : madeLay.Opens Try.prog := opens_struct (fun b => (b.1, b.2.1)) (fun _ => rfl) (opens_cons hashLay_opens (opens_cons pathLay_opens opens_nil)) Try.underlying60 (by kernel_rfl) (by kernel_rfl)
theorem madesLay_opens : madesLay.Opens Try.prog := opens_slice madeLay_opens (by decide) Try.underlying27 (by kernel_rfl)
theorem optLay_opens : optLay.Opens Try.prog := opens_struct (fun b => (b.1, b.2.1)) (fun _ => rfl) (opens_cons pathLay_opens (opens_cons pathsLay_opens opens_nil)) Try.underlying55 (by kernel_rfl) (by kernel_rfl)
theorem rowLay_opens : rowLay.Opens Try.prog := opens_slice optLay_opens (by decide) Try.underlying57 (by kernel_rfl)
theorem rowsLay_opens : rowsLay.Opens Try.prog := opens_slice rowLay_opens (by decide) Try.underlying26 (by kernel_rfl)
theorem caseLay_opens : caseLay.Opens Try.prog := opens_struct (fun b => ⟨b.1, b.2.1, b.2.2.1, b.2.2.2.1, b.2.2.2.2.1⟩) (fun _ => rfl) (opens_cons hashLay_opens (opens_cons pathsLay_opens (opens_cons hashesLay_opens (opens_cons rowsLay_opens (opens_cons madesLay_opens opens_nil))))) Try.underlying29 (by kernel_rfl) (by kernel_rfl)
theorem madeLay_at {w : World} {B : Nat} {cs : List Value} {m : Mde} : madeLay.At w B cs m ↔ cs = mC m.1 m.2 ∧ okH m.1 ∧ okP m.2 := by
  constructor
  · rintro ⟨c1, c2, rfl, ⟨rfl, h1⟩, c3, c4, rfl, h2, h3⟩
    have h3 : c4 = [] := h3
    subst h3
    obtain ⟨e, h4⟩ := pathLay_at.1 h2
    subst e
    exact ⟨by simp [mC], h1, h4⟩
  · rintro ⟨rfl, h1, h2⟩
    exact ⟨bv m.1, pC m.2, rfl, ⟨rfl, h1⟩, pC m.2, [], by simp, pathLay_at.2 ⟨rfl, h2⟩, rfl⟩
theorem slice1 {α : Type} {t : TypeId} {L : Lay α} {w : World} {B : Nat} {cs : List Value} {l : List α} (h : (Lay.slice t L).At w B cs l) : ∃ v, cs = [v] := by
  obtain ⟨A, cap, e, _⟩ := h
  exact ⟨_, e⟩
/-- a case in memory: its cells -/
structure CaseAt (B : Nat) (w : World) (v : Cvs) (c : CaseP) : Prop where
  own : v.own = c.own
  okO : okH c.own
  atF : pathsLay.At w B [v.fixed] c.fixed
  atC : hashesLay.At w B [v.classes] c.cls
  atO : rowsLay.At w B [v.opts] c.opts
  atM : madesLay.At w B [v.of] c.of
theorem caseLay_at {w : World} {B : Nat} {cs : List Value} {c : CaseP} (h : caseLay.At w B cs c) : ∃ v, cs = caseC v ∧ CaseAt B w v c := by
  obtain ⟨c0, d0, rfl, ⟨rfl, h0⟩, c1, d1, rfl, h1, c2, d2, rfl, h2, c3, d3, rfl, h3, c4, d4, rfl, h4, h5⟩ := h
  have h5 : d4 = [] := h5
  subst h5
  obtain ⟨v1, rfl⟩ := slice1 h1
  obtain ⟨v2, rfl⟩ := slice1 h2
  obtain ⟨v3, rfl⟩ := slice1 h3
  obtain ⟨v4, rfl⟩ := slice1 h4
  exact ⟨⟨c.own, v1, v2, v3, v4⟩, by simp [caseC], rfl, h0, h1, h2, h3, h4⟩
theorem CaseAt.alike {B : Nat} {w w' : World} {v : Cvs} {c : CaseP} (h : CaseAt B w v c) (ha : Alike B w w') : CaseAt B w' v c :=
  ⟨h.own, h.okO, pathsLay.alike h.atF ha, hashesLay.alike h.atC ha, rowsLay.alike h.atO ha, madesLay.alike h.atM ha⟩
theorem CaseAt.widen {B B' : Nat} {w : World} {v : Cvs} {c : CaseP} (h : CaseAt B w v c) (hB : B ≤ B') : CaseAt B' w v c :=
  ⟨h.own, h.okO, pathsLay.widen h.atF hB, hashesLay.widen h.atC hB, rowsLay.widen h.atO hB, madesLay.widen h.atM hB⟩
/-- what all elements of a row in memory are -/
theorem slice_all {α : Type} {t : TypeId} {L : Lay α} {w : World} {B : Nat} {v : Value} {l : List α} (h : (Lay.slice t L).At w B [v] l) {x : α} (hx : x ∈ l) : ∃ cs, L.At w B cs x := by
  obtain ⟨A, cap, _, _, _, _, h4⟩ := h
  obtain ⟨i, hi⟩ := List.getElem?_of_mem hx
  obtain ⟨b, off, _, _, hE⟩ := h4 (by have := (List.getElem?_eq_some_iff.1 hi).1; omega)
  obtain ⟨cs, _, h5⟩ := hE i x hi
  exact ⟨cs, h5⟩
theorem CaseAt.oks {B : Nat} {w : World} {v : Cvs} {c : CaseP} (h : CaseAt B w v c) : (∀ p ∈ c.fixed, okP p) ∧ (∀ x ∈ c.cls, okH x) ∧ (∀ m ∈ c.of, okH m.1 ∧ okP m.2) ∧ ∀ os ∈ c.opts, ∀ x ∈ os, okP x.1 ∧ ∀ q ∈ x.2, okP q := by
  refine ⟨fun p hp => ?_, fun x hx => ?_, fun m hm => ?_, fun os hos x hx => ?_⟩
  · obtain ⟨cs, h1⟩ := slice_all h.atF hp
    exact (pathLay_at.1 h1).2
  · obtain ⟨cs, h1⟩ := slice_all h.atC hx
    exact h1.2
  · obtain ⟨cs, h1⟩ := slice_all h.atM hm
    exact (madeLay_at.1 h1).2
  · obtain ⟨cs, h1⟩ := slice_all h.atO hos
    obtain ⟨vr, rfl, h1⟩ := rowLay_at h1
    obtain ⟨cs, h2⟩ := slice_all h1 hx
    obtain ⟨vx, rfl, h3, h4⟩ := optLay_at h2
    refine ⟨h3, fun q hq => ?_⟩
    obtain ⟨cs, h5⟩ := slice_all h4 hq
    exact (pathLay_at.1 h5).2
/-! all classes, all paths of a case -/
def dd : List Hsh → List Hsh
  | [] => []
  | x :: l => if x ∈ dd l then dd l else x :: dd l
theorem mem_dd {x : Hsh} : ∀ {l : List Hsh}, x ∈ dd l ↔ x ∈ l
  | [] => Iff.rfl
  | y :: l => by
    unfold dd
    split
    · rename_i h
      rw [mem_dd, List.mem_cons]
      refine ⟨.inr, fun h1 => h1.elim ?_ id⟩
      rintro rfl
      exact mem_dd.1 h
    · rw [List.mem_cons, List.mem_cons, mem_dd]
theorem nodup_dd : ∀ l : List Hsh, (dd l).Nodup
  | [] => List.nodup_nil
  | y :: l => by
    unfold dd
    split
    · exact nodup_dd l
    · rename_i h
      exact List.nodup_cons.2 ⟨h, nodup_dd l⟩
theorem dd_len : ∀ l : List Hsh, (dd l).length ≤ l.length
  | [] => Nat.le_refl _
  | y :: l => by
    have := dd_len l
    unfold dd
    split <;> simp only [List.length_cons] <;> omega
def CaseP.U (c : CaseP) : List Hsh := dd (c.cls ++ c.of.map (·.1))
def CaseP.V (c : CaseP) : List Pth := c.fixed ++ (c.of.map (·.2) ++ c.opts.flatMap fun os => os.flatMap fun x => x.1 :: x.2)
/-- how great a case is -/
def CaseP.size (c : CaseP) : Nat := c.fixed.length + c.of.length + c.cls.length + c.opts.length + (c.opts.map fun os => (os.map fun x => 1 + x.2.length).sum).sum
theorem sum_mem {α : Type} (f : α → Nat) : ∀ {l : List α} {x : α}, x ∈ l → f x ≤ (l.map f).sum
  | y :: l, x, h => by
    rw [List.map_cons, List.sum_cons]
    rcases List.mem_cons.1 h with rfl | h
    · omega
    · have := sum_mem f h
      omega
theorem flatO_len (os : List Opt) : (os.flatMap fun x => x.1 :: x.2).length = (os.map fun x => 1 + x.2.length).sum := by
  induction os with
  | nil => rfl
  | cons x os ih =>
    rw [List.flatMap_cons, List.length_append, ih, List.map_cons, List.sum_cons, List.length_cons]
    omega
theorem len_sum (os : List Opt) : os.length ≤ (os.map fun x => 1 + x.2.length).sum := by
  induction os with
  | nil => exact Nat.le_refl _
  | cons x os ih =>
    rw [List.map_cons, List.sum_cons, List.length_cons]
    omega
theorem V_len (c : CaseP) : c.V.length ≤ c.size := by
  have h : ∀ l : List (List Opt), (l.flatMap fun os => os.flatMap fun x => x.1 :: x.2).length = (l.map fun os => (os.map fun x => 1 + x.2.length).sum).sum := by
    intro l
    induction l with
    | nil => rfl
    | cons os l ih => rw [List.flatMap_cons, List.length_append, ih, flatO_len, List.map_cons, List.sum_cons]
  unfold CaseP.V CaseP.size
  rw [List.length_append, List.length_append, h, List.length_map]
  omega
theorem CaseP.bounds {c : CaseP} (hc : c.size ≤ 120) : c.U.length ≤ 120 ∧ c.V.length ≤ 120 ∧ c.fixed.length ≤ 120 ∧ c.of.length ≤ 120 ∧ c.cls.length ≤ 120 ∧ c.opts.length ≤ 120 ∧ ∀ os ∈ c.opts, os.length ≤ 120 ∧ ∀ x ∈ os, x.2.length ≤ 119 := by
  have hV := V_len c
  have hU := dd_len (c.cls ++ c.of.map (·.1))
  rw [List.length_append, List.length_map] at hU
  have hs : c.size = c.fixed.length + c.of.length + c.cls.length + c.opts.length + (c.opts.map fun os => (os.map fun x => 1 + x.2.length).sum).sum := rfl
  refine ⟨by show (dd _).length ≤ 120; omega, by omega, by omega, by omega, by omega, by omega, fun os hos => ?_⟩
  have h1 := sum_mem (fun os : List Opt => (os.map fun x => 1 + x.2.length).sum) hos
  have h2 := len_sum os
  refine ⟨by omega, fun x hx => ?_⟩
  have h3 := sum_mem (fun x : Opt => 1 + x.2.length) hx
  omega
theorem CaseAt.ok {B : Nat} {w : World} {v : Cvs} {c : CaseP} (h : CaseAt B w v c) (hc : c.size ≤ 120) (hl : c.opts.length = c.cls.length) : CaseOk B w v c.cls c.opts c.U c.V := by
  obtain ⟨_, _, _, _, _, h6, h7⟩ := CaseP.bounds hc
  refine ⟨h.atC, h.atO, hl.symm, by omega, fun x hx => mem_dd.2 (List.mem_append_left _ hx), fun os hos => ⟨by have := (h7 os hos).1; omega, fun x hx => ⟨?_, by have := (h7 os hos).2 x hx; omega, fun q hq => ?_⟩⟩⟩
  · exact List.mem_append_right _ (List.mem_append_right _ (List.mem_flatMap.2 ⟨os, hos, List.mem_flatMap.2 ⟨x, hx, by simp⟩⟩))
  · exact List.mem_append_right _ (List.mem_append_right _ (List.mem_flatMap.2 ⟨os, hos, List.mem_flatMap.2 ⟨x, hx, by simp [hq]⟩⟩))
theorem CaseAt.okU {B : Nat} {w : World} {v : Cvs} {c : CaseP} (h : CaseAt B w v c) : ∀ x ∈ c.U, okH x := by
  intro x hx
  rcases List.mem_append.1 (mem_dd.1 hx) with h1 | h1
  · exact h.oks.2.1 x h1
  · obtain ⟨m, hm, rfl⟩ := List.mem_map.1 h1
    exact (h.oks.2.2.1 m hm).1
end Go.Proofs.Ytfppddnfdinipaa
