/- api.Hash, api.Path: in memory, as keys of maps. -/
import Derived.Test.YtidiepbmbbflhaaLay
import Derived.Test.YtidiepbmbbflhaaMapM
import Derived.DeepKeys4
namespace Go.Proofs.Ytidiepbmbbflhaa
open Go Go.RowKit Go.Maps
set_option maxRecDepth 100000
abbrev Hsh := List UInt8
abbrev Pth := List UInt8 × ByteArray
def okH (h : Hsh) : Prop := h.length = 20
def okP (p : Pth) : Prop := p.1.length = 20 ∧ p.2.size ≤ maxLen
def pC (p : Pth) : List Value := bv p.1 ++ [.string p.2]
def hV (h : Hsh) : Value := .agg (bv h).toArray
def pV (p : Pth) : Value := .agg (pC p).toArray
theorem bv_inj {a b : List UInt8} (h : bv a = bv b) : a = b := by
  induction a generalizing b with
  | nil =>
    cases b with
    | nil => rfl
    | cons x b => simp [bv] at h
  | cons x a ih =>
    cases b with
    | nil => simp [bv] at h
    | cons y b =>
      simp only [bv, List.map_cons, List.cons.injEq, Value.int.injEq, true_and] at h
      have h1 : x = y := UInt8.toNat_inj.1 (by omega)
      rw [h1, ih h.2]
theorem hV_inj {a b : Hsh} (h : hV a = hV b) : a = b := by
  unfold hV at h
  injection h with h
  exact bv_inj (by simpa using congrArg Array.toList h)
theorem pC_len {p : Pth} (h : okP p) : (pC p).length = 21 := by simp [pC, bvL, h.1]
theorem pC_inj {a b : Pth} (h : pC a = pC b) : a = b := by
  unfold pC at h
  have h2 := List.append_inj' h rfl
  have h3 : a.2 = b.2 := by simpa using h2.2
  exact Prod.ext (bv_inj h2.1) h3
theorem pV_inj {a b : Pth} (h : pV a = pV b) : a = b := by
  unfold pV at h
  injection h with h
  exact pC_inj (by simpa using congrArg Array.toList h)
theorem pC_one (p : Pth) : ∀ v ∈ pC p, v.oneCell' = true := by
  intro v hv
  rcases List.mem_append.1 hv with hv | hv
  · exact bv1 _ v hv
  · rw [List.mem_singleton.1 hv]; rfl
/-! what they read as -/
theorem mapM_range {α : Type} (n : Nat) (f : Nat → Option α) (g : Nat → α) (h : ∀ i, i < n → f i = some (g i)) : (List.range n).mapM f = some ((List.range n).map g) := by
  have : ∀ l : List Nat, (∀ i ∈ l, i < n) → l.mapM f = some (l.map g) := by
    intro l
    induction l with
    | nil => intro _; rfl
    | cons x l ih =>
      intro hl
      rw [List.mapM_cons, h x (hl x (by simp)), ih (fun i hi => hl i (by simp [hi]))]
      rfl
  exact this _ fun i hi => List.mem_range.1 hi
theorem keyLits_u8s {P : Program} {t e : TypeId} {n : Nat} (d : Nat) (ht : P.underlying t = some (.array n e)) (he : P.underlying e = some (.int .u8)) (hc : P.cellsOf t = n) (h1 : P.cellsOf e = 1) {h : List UInt8} (hl : h.length = n) :
    ∃ L, P.keyLits (d + 2) t (bv h) = some L := by
  have hm : ((List.range n).mapM fun i => P.keyLits (d + 1) e (((bv h).drop (i * P.cellsOf e)).take (P.cellsOf e))) = some ((List.range n).map fun i => [Lit.int .u8 ((h.getD i 0).toNat : Int)]) := by
    refine mapM_range n _ _ fun i hi => ?_
    rw [h1, Nat.mul_one]
    have e1 : ((bv h).drop i).take 1 = [.int .u8 ((h.getD i 0).toNat : Int)] := by
      rw [List.take_one]
      simp [bv, List.getD, hl, hi]
    rw [e1]
    generalize h.getD i 0 = x
    have hw : (Lit.int .u8 (x.toNat : Int)).wf = true := by
      have := UInt8.toNat_lt x
      simp [Lit.wf, IntKind.min, IntKind.max, IntKind.signed, IntKind.bits]
      omega
    unfold Program.keyLits
    simp [he, hw]
  unfold Program.keyLits
  rw [ht]
  have hlen : (bv h).length = P.cellsOf t := by rw [hc, bvL]; exact hl
  generalize bv h = cs at hm hlen
  cases cs with
  | nil =>
    simp only []
    rw [if_pos hlen, hm]
    exact ⟨_, rfl⟩
  | cons x h =>
    simp only []
    rw [if_pos hlen, hm]
    exact ⟨_, rfl⟩
theorem cells_hash : Try.prog.cellsOf 27 = 20 := by kernel_rfl
theorem cells_u8 : Try.prog.cellsOf 5 = 1 := by kernel_rfl
theorem cells_path : Try.prog.cellsOf 68 = 21 := by kernel_rfl
theorem cells_str : Try.prog.cellsOf 9 = 1 := by kernel_rfl
theorem hash_enc : KeyEnc Try.prog 27 hV okH where
  law := Keyed.of_law (deep_law_laid laidOut (m := 2) (by omega) (of_decide_eq_true (by kernel_rfl)) (by kernel_rfl) (by kernel_rfl))
  key := fun h hh => by
    obtain ⟨L, hL⟩ := keyLits_u8s (P := Try.prog) (Try.prog.types.size - 1) Try.underlying27 Try.underlying5 cells_hash cells_u8 hh
    have hs : Try.prog.types.size - 1 + 2 = Try.prog.types.size + 1 := by
      have : 0 < Try.prog.types.size := of_decide_eq_true (by kernel_rfl)
      omega
    rw [hs] at hL
    have hk : Try.prog.keyType 27 = true := by kernel_rfl
    have hf : (hV h).formed Try.prog 27 = true := by
      simp [hV, Value.formed, Try.underlying27, cells_hash, bvL]
      exact hh
    unfold keyOf
    rw [Try.underlying27]
    simp only [hk, hf, Bool.and_self, if_true]
    rw [show (hV h).cells.toList = bv h by simp [hV, Value.cells], hL]
    exact ⟨_, rfl⟩
  inj := fun _ _ _ _ h => hV_inj h
theorem path_enc : KeyEnc Try.prog 68 pV okP where
  law := Keyed.of_law (deep_law_laid laidOut (m := 3) (by omega) (of_decide_eq_true (by kernel_rfl)) (by kernel_rfl) (by kernel_rfl))
  key := fun p hp => by
    obtain ⟨L, hL⟩ := keyLits_u8s (P := Try.prog) (Try.prog.types.size - 2) Try.underlying27 Try.underlying5 cells_hash cells_u8 hp.1
    have h0 : 2 < Try.prog.types.size := of_decide_eq_true (by kernel_rfl)
    have hs : Try.prog.types.size - 2 + 2 = Try.prog.types.size := by omega
    rw [hs] at hL
    have hk : Try.prog.keyType 68 = true := by kernel_rfl
    have hf : (pV p).formed Try.prog 68 = true := by
      simp [pV, Value.formed, Try.underlying68, cells_path, pC_len hp]
    have hst : Try.prog.keyLits Try.prog.types.size 9 [.string p.2] = some [.string p.2.data.toList] := by
      obtain ⟨d, hd⟩ : ∃ d, Try.prog.types.size = d + 1 := ⟨Try.prog.types.size - 1, by omega⟩
      rw [hd]
      unfold Program.keyLits
      simp [Try.underlying9, hp.2]
    have e1 : ((pC p).drop 0).take (Try.prog.cellsOf 27) = bv p.1 := by
      rw [cells_hash, List.drop_zero, pC, List.take_left' (by rw [bvL]; exact hp.1)]
    have e2 : ((pC p).drop 20).take (Try.prog.cellsOf 9) = [.string p.2] := by
      rw [cells_str, pC, List.drop_left' (by rw [bvL]; exact hp.1)]
      rfl
    have hpk : ∃ L, Try.prog.keyLits (Try.prog.types.size + 1) 68 (pC p) = some L := by
      unfold Program.keyLits
      rw [Try.underlying68]
      simp only [cells_path, pC_len hp]
      rw [if_pos ⟨trivial, by kernel_rfl⟩]
      simp only [List.mapM_cons, List.mapM_nil, e1, e2, hL, hst]
      exact ⟨_, rfl⟩
    obtain ⟨L2, hL2⟩ := hpk
    unfold keyOf
    rw [Try.underlying68]
    simp only [hk, hf, Bool.and_self, if_true]
    rw [show (pV p).cells.toList = pC p by simp [pV, Value.cells], hL2]
    exact ⟨_, rfl⟩
  inj := fun _ _ _ _ h => pV_inj h
/-! readers -/
def hashLay : Lay Hsh := Lay.u8s 27 20
def pathLay : Lay Pth := Lay.struct 68 (.cons hashLay (.cons (Lay.str 9) .nil)) fun p => (p.1, p.2, ())
theorem hashLay_opens : hashLay.Opens Try.prog := opens_u8s Try.underlying27 Try.underlying5 cells_hash cells_u8
theorem pathLay_opens : pathLay.Opens Try.prog := opens_struct (fun b => (b.1, b.2.1)) (fun b => rfl) (opens_cons hashLay_opens (opens_cons (opens_str Try.underlying9 cells_str) opens_nil)) Try.underlying68 (by kernel_rfl) (by kernel_rfl)
theorem hashLay_at {w : World} {B : Nat} {cs : List Value} {h : Hsh} : hashLay.At w B cs h ↔ cs = bv h ∧ okH h := Iff.rfl
theorem pathLay_at {w : World} {B : Nat} {cs : List Value} {p : Pth} : pathLay.At w B cs p ↔ cs = pC p ∧ okP p := by
  constructor
  · rintro ⟨c1, c2, rfl, ⟨rfl, h1⟩, c3, c4, rfl, ⟨rfl, h2⟩, h3⟩
    have h3 : c4 = [] := h3
    subst h3
    exact ⟨by simp [pC], h1, h2⟩
  · rintro ⟨rfl, h1, h2⟩
    exact ⟨bv p.1, [.string p.2], rfl, ⟨rfl, h1⟩, [.string p.2], [], by simp, ⟨rfl, h2⟩, rfl⟩
def hashesLay : Lay (List Hsh) := Lay.slice 45 hashLay
theorem hashesLay_opens : hashesLay.Opens Try.prog := opens_slice hashLay_opens (by decide) Try.underlying45 (by kernel_rfl)
/-- the same path? the same hash? -/
theorem eq_hash (a b : Hsh) (ha : okH a) (hb : okH b) (w : World) : (Op.equal 27 (hV a) (hV b)).run Try.prog w = .ok (decide (a = b)) w := by
  obtain ⟨la, h1⟩ := hash_enc.key a ha
  obtain ⟨lb, h2⟩ := hash_enc.key b hb
  obtain ⟨r, h3, h4⟩ := run_equal_deep (P := Try.prog) w (m := 2) (by omega) (by kernel_rfl) (by kernel_rfl) h1 h2
  have : r = decide (a = b) := by
    rw [Bool.eq_iff_iff, h4, decide_eq_true_iff]
    constructor
    · intro e
      subst e
      exact hV_inj (hash_enc.law.inj h1 h2)
    · intro e
      subst e
      rw [h1] at h2
      injection h2
  rw [← this]
  exact h3
theorem eq_path (a b : Pth) (ha : okP a) (hb : okP b) (w : World) : (Op.equal 68 (pV a) (pV b)).run Try.prog w = .ok (decide (a = b)) w := by
  obtain ⟨la, h1⟩ := path_enc.key a ha
  obtain ⟨lb, h2⟩ := path_enc.key b hb
  obtain ⟨r, h3, h4⟩ := run_equal_deep (P := Try.prog) w (m := 3) (by omega) (by kernel_rfl) (by kernel_rfl) h1 h2
  have : r = decide (a = b) := by
    rw [Bool.eq_iff_iff, h4, decide_eq_true_iff]
    constructor
    · intro e
      subst e
      exact pV_inj (path_enc.law.inj h1 h2)
    · intro e
      subst e
      rw [h1] at h2
      injection h2
  rw [← this]
  exact h3
/-- as an operation of the program tells it -/
theorem bin_eq_hash (a b : Hsh) (ha : okH a) (hb : okH b) (w : World) : (binOp .eql 27 (hV a) (hV b)).run Try.prog w = .ok (.bool (decide (a = b))) w := by
  have h := eq_hash a b ha hb w
  unfold hV at h ⊢
  simp only [binOp, Sem.run_bind, h, Result.andThen_ok, Sem.run_pure]
theorem bin_eq_path (a b : Pth) (ha : okP a) (hb : okP b) (w : World) : (binOp .eql 68 (pV a) (pV b)).run Try.prog w = .ok (.bool (decide (a = b))) w := by
  have h := eq_path a b ha hb w
  unfold pV at h ⊢
  simp only [binOp, Sem.run_bind, h, Result.andThen_ok, Sem.run_pure]
theorem bin_ne_path (a b : Pth) (ha : okP a) (hb : okP b) (w : World) : (binOp .neq 68 (pV a) (pV b)).run Try.prog w = .ok (.bool (!decide (a = b))) w := by
  have h := eq_path a b ha hb w
  unfold pV at h ⊢
  simp only [binOp, Sem.run_bind, h, Result.andThen_ok, Sem.run_pure]
end Go.Proofs.Ytidiepbmbbflhaa
