/- rows of paths and of mades that grow; what is there by a choice, in memory. -/
import Derived.Test.YtfppddnfdinipaaMX2
namespace Go.Proofs.Ytfppddnfdinipaa
open Go Go.RowKit Go.Maps
set_option maxRecDepth 100000
def flP (ps : List Pth) : List Value := ps.flatMap pC
def flM (of : List Mde) : List Value := of.flatMap fun m => mC m.1 m.2
def FPM (ps : List Pth) (of : List Mde) : TypeId → List Value := fun t => if t = 53 then flP ps else if t = 60 then flM of else []
def NPM (ps : List Pth) (of : List Mde) : TypeId → Nat := fun t => if t = 53 then (flP ps).length else if t = 60 then (flM of).length else 0
theorem info_pathI : (Try.prog.info? 53).map (fun i => (i.zero, i.size, i.bytes)) = some (some (.agg zcP), 21, 40) := by kernel_rfl
theorem info_madeI : (Try.prog.info? 60).map (fun i => (i.zero, i.size, i.bytes)) = some (some (.agg zcM), 41, 64) := by kernel_rfl
/-- rows of one's own -/
def OwnP (R : Nat) (w : World) (v : Value) (ps : List Pth) : Prop := w.ownsRow R 53 21 v ps.length (flP ps) ∧ ∀ p ∈ ps, okP p
def OwnM (R : Nat) (w : World) (v : Value) (of : List Mde) : Prop := w.ownsRow R 60 41 v of.length (flM of) ∧ ∀ m ∈ of, okH m.1 ∧ okP m.2
theorem OwnP.at_ {R : Nat} {w : World} {v : Value} {ps : List Pth} (h : OwnP R w v ps) : pathsLay.At w w.heap.size [v] ps :=
  own_slice (L := pathLay) (f := pC) (by decide) h.1 _ (Nat.le_refl _) fun p hp => pathLay_at.2 ⟨rfl, h.2 p hp⟩
theorem OwnM.at_ {R : Nat} {w : World} {v : Value} {of : List Mde} (h : OwnM R w v of) : madesLay.At w w.heap.size [v] of :=
  own_slice (L := madeLay) (f := fun m : Mde => mC m.1 m.2) (by decide) h.1 _ (Nat.le_refl _) fun m hm => madeLay_at.2 ⟨rfl, h.2 m hm⟩
theorem paths_src {w : World} {B len cap : Nat} {A : Option Addr} {ps : List Pth} (h : pathsLay.At w B [.slice A len cap] ps) : len = ps.length ∧ SrcN w 21 A ps.length cap (flP ps) :=
  slice_src (L := pathLay) (f := pC) (by decide) (fun h => (pathLay_at.1 h).1) pC_one h
theorem mades_src {w : World} {B len cap : Nat} {A : Option Addr} {of : List Mde} (h : madesLay.At w B [.slice A len cap] of) : len = of.length ∧ SrcN w 41 A of.length cap (flM of) :=
  slice_src (L := madeLay) (f := fun m : Mde => mC m.1 m.2) (by decide) (fun h => (madeLay_at.1 h).1) (fun m => mC_one m.1 m.2) h
theorem own_new (w : World) (e s : Nat) : (w.alloc (.cells #[] e)).ownsRow w.heap.size e s (.slice (some ⟨w.heap.size, 0, none⟩) 0 0) 0 [] :=
  ⟨by simp, .inr ⟨w.heap.size, 0, #[], rfl, Nat.le_refl _, heap_alloc_new w _, Nat.le_refl _, Nat.zero_le _, by simp, by simp⟩⟩
/-- a row of one path, of one made -/
def OnePth (B : Nat) (p : Pth) (u : Value) (w : World) : Prop := ∃ r, u = .slice (some ⟨r, 0, none⟩) 1 1 ∧ B ≤ r ∧ Blk w r 53 (pC p).toArray
def OneMde (B : Nat) (m : Mde) (u : Value) (w : World) : Prop := ∃ r, u = .slice (some ⟨r, 0, none⟩) 1 1 ∧ B ≤ r ∧ Blk w r 60 (mC m.1 m.2).toArray
theorem head_flat {α : Type} {f : α → List Value} {n : Nat} (l r : List α) (x : α) (hx : (f x).length = n) (hl : ∀ y ∈ l, (f y).length = n) (_h0 : 0 < n) (j : Nat) (hj : j < n) (hN : (l.flatMap f).length ≤ j) : (f x)[j]? = ((l ++ x :: r).flatMap f)[j]? := by
  cases l with
  | nil =>
    rw [List.nil_append, List.flatMap_cons, List.getElem?_append_left (by omega)]
  | cons y l =>
    have h1 := hl y (by simp)
    rw [List.flatMap_cons, List.length_append] at hN
    omega
theorem onePth_stays {B : Nat} {ps r : List Pth} {p : Pth} {M N : List Mde} (hp : okP p) (hps : ∀ q ∈ ps, okP q) {u : Value} {w w' : World} (h : OnePth B p u w) (hx : GrowF B (NPM ps M) (FPM (ps ++ p :: r) N) w w') : OnePth B p u w' := by
  obtain ⟨g, rfl, hg, hb⟩ := h
  refine ⟨g, rfl, hg, hx.blk2 hb fun j hj hN _ => ?_⟩
  have e := head_flat ps r p (pC_len hp) (fun q hq => pC_len (hps q hq)) (by decide) j (by simpa [pC_len hp] using hj) hN
  rw [List.getElem?_toArray]
  exact e
theorem oneMde_stays {B : Nat} {of r : List Mde} {m : Mde} {M N : List Pth} (hm : okH m.1 ∧ okP m.2) (hof : ∀ q ∈ of, okH q.1 ∧ okP q.2) {u : Value} {w w' : World} (h : OneMde B m u w) (hx : GrowF B (NPM M of) (FPM N (of ++ m :: r)) w w') : OneMde B m u w' := by
  obtain ⟨g, rfl, hg, hb⟩ := h
  refine ⟨g, rfl, hg, hx.blk2 hb fun j hj hN _ => ?_⟩
  have e := head_flat (f := fun m : Mde => mC m.1 m.2) of r m (mC_len hm.1 hm.2) (fun q hq => mC_len (hof q hq).1 (hof q hq).2) (by decide) j (by simpa [mC_len hm.1 hm.2] using hj) hN
  rw [List.getElem?_toArray]
  exact e
theorem flP_app (a b : List Pth) : flP (a ++ b) = flP a ++ flP b := by simp [flP]
theorem flM_app (a b : List Mde) : flM (a ++ b) = flM a ++ flM b := by simp [flM]
theorem pre_app {a b c : List Value} : a ++ b <+: a ++ b ++ c := List.prefix_append _ _
/-- paths are put behind a row -/
theorem app_paths {B : Nat} {ps qs r : List Pth} {M N : List Mde} {v : Value} {w : World} (h : OwnP B w v ps) (hq : ∀ q ∈ qs, okP q) (hB : B ≤ w.heap.size) (A : Option Addr) (cap : Nat) (hs : SrcN w 21 A qs.length cap (flP qs)) (hl : ps.length + qs.length ≤ 1000000) {p0 : List Pth} (hp0 : (flP p0).length ≤ (flP ps).length) :
    ∃ v' w', (Builtin.append_ #[24, 24] 24 #[v, .slice A qs.length cap]).run Try.prog w = .ok v' w' ∧ GrowF B (NPM p0 M) (FPM (ps ++ qs ++ r) N) w w' ∧ OwnP B w' v' (ps ++ qs) := by
  obtain ⟨i, hi, hz0, hz1, hz2⟩ := info_parts info_pathI
  obtain ⟨v', w', h1, h2, h3, _⟩ := GrowF.app (P := Try.prog) (N := NPM p0 M) (F := FPM (ps ++ qs ++ r) N) 24 24 53 i _ 21 40 Try.underlying24 hi hz0 hz1 hz2 rfl (by decide) v ps.length (flP ps) h.1 A qs.length cap (flP qs) hs (by simp only [maxLen]; omega) (by omega) hB
    (by show flP ps ++ flP qs <+: flP (ps ++ qs ++ r); rw [flP_app, flP_app]; exact pre_app) hp0
  refine ⟨v', w', h1, h2, ?_, fun q hq' => (List.mem_append.1 hq').elim (h.2 q) (hq q)⟩
  rw [List.length_append, flP_app]
  exact h3
theorem app_mades {B : Nat} {of qs r : List Mde} {M N : List Pth} {v : Value} {w : World} (h : OwnM B w v of) (hq : ∀ q ∈ qs, okH q.1 ∧ okP q.2) (hB : B ≤ w.heap.size) (A : Option Addr) (cap : Nat) (hs : SrcN w 41 A qs.length cap (flM qs)) (hl : of.length + qs.length ≤ 1000000) {p0 : List Mde} (hp0 : (flM p0).length ≤ (flM of).length) :
    ∃ v' w', (Builtin.append_ #[27, 27] 27 #[v, .slice A qs.length cap]).run Try.prog w = .ok v' w' ∧ GrowF B (NPM M p0) (FPM N (of ++ qs ++ r)) w w' ∧ OwnM B w' v' (of ++ qs) := by
  obtain ⟨i, hi, hz0, hz1, hz2⟩ := info_parts info_madeI
  obtain ⟨v', w', h1, h2, h3, _⟩ := GrowF.app (P := Try.prog) (N := NPM M p0) (F := FPM N (of ++ qs ++ r)) 27 27 60 i _ 41 64 Try.underlying27 hi hz0 hz1 hz2 rfl (by decide) v of.length (flM of) h.1 A qs.length cap (flM qs) hs (by simp only [maxLen]; omega) (by omega) hB
    (by show flM of ++ flM qs <+: flM (of ++ qs ++ r); rw [flM_app, flM_app]; exact pre_app) hp0
  refine ⟨v', w', h1, h2, ?_, fun q hq' => (List.mem_append.1 hq').elim (h.2 q) (hq q)⟩
  rw [List.length_append, flM_app]
  exact h3
theorem OwnP.grow {B R : Nat} {ps ps' : List Pth} {of : List Mde} {N : TypeId → Nat} {v : Value} {w w' : World} (h : OwnP R w v ps) (hx : GrowF B N (FPM (ps ++ ps') of) w w') : OwnP R w' v ps :=
  ⟨hx.own h.1 (by show flP ps <+: flP (ps ++ ps'); rw [flP_app]; exact List.prefix_append _ _), h.2⟩
theorem OwnM.grow {B R : Nat} {of of' : List Mde} {ps : List Pth} {N : TypeId → Nat} {v : Value} {w w' : World} (h : OwnM R w v of) (hx : GrowF B N (FPM ps (of ++ of')) w w') : OwnM R w' v of :=
  ⟨hx.own h.1 (by show flM of <+: flM (of ++ of'); rw [flM_app]; exact List.prefix_append _ _), h.2⟩
theorem OwnP.below {R : Nat} {ps : List Pth} {v : Value} {w w' : World} (h : OwnP R w v ps) (hb : Below w.heap.size w w') : OwnP R w' v ps := ⟨owned_keepN h.1 fun g _ hl => hb.block g hl, h.2⟩
theorem OwnM.below {R : Nat} {of : List Mde} {v : Value} {w w' : World} (h : OwnM R w v of) (hb : Below w.heap.size w w') : OwnM R w' v of := ⟨owned_keepN h.1 fun g _ hl => hb.block g hl, h.2⟩
/-- what is there by the first n places -/
def thereL (c : CaseP) (l : List Nat) (n : Nat) : List Pth × List Mde := foldT (c.cls.zip c.opts) (l.take n) c.fixed c.of
theorem thereL_zero (c : CaseP) (l : List Nat) : thereL c l 0 = (c.fixed, c.of) := by
  unfold thereL
  rw [List.take_zero, foldT_nil]
theorem thereL_next {c : CaseP} {l : List Nat} {n : Nat} {h : Hsh} {os : List Opt} {k : Nat} {x : Opt} (hin : ∀ (i : Nat) os k, c.opts[i]? = some os → l[i]? = some k → k < os.length) (hc : c.cls[n]? = some h) (ho : c.opts[n]? = some os) (hk : l[n]? = some k) (hx : os[k]? = some x) :
    thereL c l (n + 1) = ((thereL c l n).1 ++ x.1 :: x.2, (thereL c l n).2 ++ [(h, x.1)]) := by
  have hnl := (List.getElem?_eq_some_iff.1 hk).1
  have hl : (l.take n).length = n := by rw [List.length_take]; omega
  unfold thereL
  rw [List.take_add_one, hk]
  refine foldT_snoc _ _ _ _ h os k x ?_ hx ?_
  · rw [hl, List.getElem?_zip_eq_some]
    exact ⟨hc, ho⟩
  · intro i r j h1 h2
    obtain ⟨r1, r2⟩ := r
    rw [List.getElem?_zip_eq_some] at h1
    have hi : i < n := by
      have := (List.getElem?_eq_some_iff.1 h2).1
      omega
    rw [List.getElem?_take_of_lt hi] at h2
    exact hin i r2 j h1.2 h2
def zcO : Array Value := (bv (List.replicate 20 0) ++ [Value.string ByteArray.empty, Value.slice none 0 0]).toArray
theorem oC_one (p : Pth) (A : Option Addr) (n cap : Nat) : ∀ u ∈ oC p (.slice A n cap), u.oneCell' = true := by
  intro u hu
  rcases List.mem_append.1 hu with hu | hu
  · exact pC_one p u hu
  · rw [List.mem_singleton.1 hu]; rfl
theorem opt_pT {w : World} {g : Nat} {t : TypeId} {p : Pth} {v : Value} (hb : Blk w g t (oC p v).toArray) : w.rangeAt g 0 (pC p) := by
  have := rangeAt_blk hb
  exact rangeAt_left (c2 := [v]) (by simpa using this)
theorem case_cellsT {w : World} {g : Nat} {t : TypeId} {v : Cvs} (ho : okH v.own) (h : Blk w g t (caseC v).toArray) : w.cell? ⟨g, 20, none⟩ = some v.fixed ∧ w.cell? ⟨g, 21, none⟩ = some v.classes ∧ w.cell? ⟨g, 22, none⟩ = some v.opts ∧ w.cell? ⟨g, 23, none⟩ = some v.of := by
  have hc : ∀ i, w.cell? ⟨g, i, none⟩ = (caseC v)[i]? := fun i => by rw [h.cell]; simp
  simp only [hc]
  exact caseC_at ho
def badP (own : Hsh) (ps : List Pth) (m k : Mde) : Bool := (hasK ps m.2 && hasK ps k.2) && (decide (m.1 = own) || (decide (m.1 = k.1) && !decide (m.2 = k.2)))
theorem bad_clean {own : Hsh} {ps : List Pth} {of : List Mde} {m k : Mde} (hm : m ∈ of) (hk : k ∈ of) (h : badP own ps m k = true) : cleanB own ps of = false := by
  unfold badP at h
  simp only [Bool.and_eq_true, Bool.or_eq_true, decide_eq_true_eq, Bool.not_eq_true', decide_eq_false_iff_not, hasK_mem] at h
  obtain ⟨⟨h1, h2⟩, h3⟩ := h
  exact cleanB_iff.2 ⟨m, hm, h1, h3.imp id fun ⟨e1, e2⟩ => ⟨k, hk, e1.symm, fun e => e2 e.symm, h2⟩⟩
theorem clean_bad {own : Hsh} {ps : List Pth} {of : List Mde} (h : ∀ m ∈ of, ∀ k ∈ of, badP own ps m k = false) : cleanB own ps of = true := by
  cases e : cleanB own ps of with
  | true => rfl
  | false =>
    obtain ⟨m, hm, h1, h2⟩ := cleanB_iff.1 e
    have hp : hasK ps m.2 = true := hasK_mem.2 h1
    rcases h2 with h2 | ⟨k, hk, e1, e2, e3⟩
    · have := h m hm m hm
      unfold badP at this
      rw [hp, decide_eq_true h2] at this
      cases this
    · have := h m hm k hk
      unfold badP at this
      rw [hp, hasK_mem.2 e3, decide_eq_true e1.symm, decide_eq_false (p := m.2 = k.2) (fun e => e2 e.symm)] at this
      simp at this
set_option maxHeartbeats 8000000 in
theorem plain_any (w : World) (v : Cvs) (c : CaseP) (hc : c.size ≤ 120) (hC : CaseAt w.heap.size w v c) (hne : c.opts.length = c.cls.length) (l : List Nat) (HLEN : l.length = c.opts.length) (hin : ∀ (i : Nat) os k, c.opts[i]? = some os → l[i]? = some k → k < os.length) (vk : Value) (hK : IntsAt w w.heap.size vk (l.map fun k => ((k : Nat) : Int))) :
    Calls Try.prog 27 #[.agg (caseC v).toArray, vk] w fun e w' => e = .returned (.bool (clean1 c.own (c.cls.zip c.opts) c.fixed c.of l)) ∧ Below w.heap.size w w' := by
  have HNE := hide hne
  clear hne
  obtain ⟨b1, b2, b3, b4, b5, b6, b7⟩ := CaseP.bounds hc
  obtain ⟨w1, hw1⟩ : ∃ w1, w1 = w.alloc (.cells (caseC v).toArray 29) := ⟨_, rfl⟩
  have hb1 : Below w.heap.size w w1 := by rw [hw1]; exact (Below.refl _ w).alloc (Nat.le_refl _) _
  have hk1 : Blk w1 w.heap.size 29 (caseC v).toArray := by rw [hw1]; exact Blk.new _ _ _
  have hz1 : w1.heap.size = w.heap.size + 1 := by rw [hw1, size_alloc]
  have hC1 : CaseAt w.heap.size w1 v c := hC.alike fun k hk => hb1.block k hk
  have hK1 : IntsAt w1 w.heap.size vk (l.map fun k => ((k : Nat) : Int)) := hK.alike fun k hk => hb1.block k hk
  have ho : okH v.own := by rw [hC.own]; exact hC.okO
  obtain ⟨Ao, capo, hvo, _, _, _, hAo⟩ := slice_open hC1.atO
  obtain ⟨Ac, capc, hvc, _, _, _, hAc⟩ := slice_open hC1.atC
  obtain ⟨Af, capf, hvf, _, _, _, _⟩ := slice_open hC1.atF
  obtain ⟨Am, capm, hvm, _, _, _, _⟩ := slice_open hC1.atM
  obtain ⟨Ak, capk, rfl, hKs⟩ := hK1
  rw [List.length_map, HLEN]
  have hcells := case_cellsT ho hk1
  rw [hvo, hvc, hvf, hvm] at hcells
  have hoks := hC1.oks
  have hsf : SrcN w1 21 Af c.fixed.length capf (flP c.fixed) := (paths_src (by have := hC1.atF; rw [hvf] at this; exact this)).2
  have hsm : SrcN w1 41 Am c.of.length capm (flM c.of) := (mades_src (by have := hC1.atM; rw [hvm] at this; exact this)).2
  obtain ⟨w2, hw2⟩ : ∃ w2, w2 = w1.alloc (.cells #[] 53) := ⟨_, rfl⟩
  have hb2 : Below w1.heap.size w1 w2 := by rw [hw2]; exact (Below.refl _ w1).alloc (Nat.le_refl _) _
  have hown2 : w2.ownsRow w1.heap.size 53 21 (.slice (some ⟨w1.heap.size, 0, none⟩) 0 0) 0 [] := by rw [hw2]; exact own_new w1 _ _
  obtain ⟨ip, hi, hp0, hp1, hp2⟩ := info_parts info_pathI
  obtain ⟨im, hm, hm0, hm1, hm2⟩ := info_parts info_madeI
  have c20 : w2.cell? ⟨w.heap.size, 20, none⟩ = some (.slice Af c.fixed.length capf) := (World.cell?_of_block (hb2.block w.heap.size (by omega))).trans hcells.1
  have H1 := hide (And.intro hb1 hz1)
  have HBX := hide hk1
  have HOW := hide hC1.own
  have HI := hide (And.intro hi (And.intro hp0 (And.intro hp1 hp2)))
  have HJ := hide (And.intro hm (And.intro hm0 (And.intro hm1 hm2)))
  have H2 := hide (And.intro c20 (And.intro hown2 (And.intro hb2 (And.intro (hsf.below hb2) (And.intro hcells (And.intro hsm (And.intro hoks hz1)))))))
  have H3 := hide (And.intro hC1 (And.intro hKs (And.intro hAo (And.intro hAc (And.intro hvo hvc)))))
  rw [hz1] at hown2
  have HW : Hid (w2 = (w.alloc (.cells (caseC v).toArray 29)).alloc (.cells #[] 53)) := by have h := hw2; rw [hw1] at h; exact hide h
  have HOWN := hide hown2
  clear hb1 hk1 hC1 hC hvo hvc hvf hvm hw1 hK hKs hAo hAc hcells hoks hsf hsm hw2 hb2 hown2 hi hp0 hp1 hp2 hm hm0 hm1 hm2 c20 hz1
  have o9 : (c.opts.length : Int) ≤ 120 := by omega
  go_enter Try.func27, Try.ntmps27
  go_wp2_with (first | (refine wpList_value (o := ⟨some 14, _, _, _, _, _⟩) rfl (.slice Af c.fixed.length capf) w2 (by rw [← HW.out]; exact exec_load_cell (o := ⟨some 14, _, _, _, _, _⟩) 24 (.tmp 13) rfl ⟨w.heap.size, 20, none⟩ rfl _ _ w2 Try.underlying24 rfl H2.out.1) ?_) | (at_builtin; (refine wpList_appS (o := ⟨some 15, _, _, _, _, _⟩) rfl _ _ 24 rfl (w.heap.size + 1) 53 ip _ 21 40 Try.underlying24 HI.out.1 HI.out.2.1 HI.out.2.2.1 HI.out.2.2.2 rfl (by decide) _ 0 [] HOWN.out Af c.fixed.length capf (flP c.fixed) H2.out.2.2.2.1 ?hm1 ?hb1 ?hz1 rfl rfl ?_)))
  case hm1 => simp only [maxLen]; omega
  case hb1 => omega
  case hz1 => have := H2.out.2.2.1.size; have := H1.out.2; omega
  intro y5 w3 own3 gr3 _
  rw [← H1.out.2] at own3
  have hb3 : Below w1.heap.size w1 w3 := Below.grownOwn H2.out.2.2.1 H2.out.2.1 (Nat.le_refl _) (by rw [H1.out.2]; exact gr3)
  obtain ⟨w4, hw4⟩ : ∃ w4, w4 = w3.alloc (.cells #[] 60) := ⟨_, rfl⟩
  have hb4 : Below w3.heap.size w3 w4 := by rw [hw4]; exact (Below.refl _ w3).alloc (Nat.le_refl _) _
  have hown4 : w4.ownsRow w3.heap.size 60 41 (.slice (some ⟨w3.heap.size, 0, none⟩) 0 0) 0 [] := by rw [hw4]; exact own_new w3 _ _
  have hb14 : Below w1.heap.size w1 w4 := hb3.trans (Below.mono hb4 hb3.size)
  have c23 : w4.cell? ⟨w.heap.size, 23, none⟩ = some (.slice Am c.of.length capm) := (World.cell?_of_block (hb14.block w.heap.size (by have := H1.out.2; omega))).trans H2.out.2.2.2.2.1.2.2.2
  have H4 := hide (And.intro c23 (And.intro hown4 (And.intro hb14 (And.intro (And.intro own3 hb3) hb4))))
  have HW4 := hide hw4
  clear hw4 hown4 hb14 c23 own3 hb3 gr3 hb4
  go_wp2_with (first | (refine wpList_value (o := ⟨some 18, _, _, _, _, _⟩) rfl (.slice Am c.of.length capm) w4 (by rw [← HW4.out]; exact exec_load_cell (o := ⟨some 18, _, _, _, _, _⟩) 27 (.tmp 17) rfl ⟨w.heap.size, 23, none⟩ rfl _ _ w4 Try.underlying27 rfl H4.out.1) ?_) | (at_builtin; (refine wpList_appS (o := ⟨some 19, _, _, _, _, _⟩) rfl _ _ 27 rfl w3.heap.size 60 im _ 41 64 Try.underlying27 HJ.out.1 HJ.out.2.1 HJ.out.2.2.1 HJ.out.2.2.2 rfl (by decide) _ 0 [] H4.out.2.1 Am c.of.length capm (flM c.of) ?hs2 ?hm2 ?hb2 ?hz2 rfl rfl ?_)))
  case hs2 => exact H2.out.2.2.2.2.2.1.below H4.out.2.2.1
  case hm2 => simp only [maxLen]; omega
  case hb2 => omega
  case hz2 => have := H4.out.2.2.2.2.size; omega
  intro y6 w5 own5 gr5 _
  have hb5 : Below w3.heap.size w3 w5 := Below.grownOwn H4.out.2.2.2.2 H4.out.2.1 (Nat.le_refl _) gr5
  have hp5 : OwnP w1.heap.size w5 y5 c.fixed := OwnP.below ⟨H4.out.2.2.2.1.1, H2.out.2.2.2.2.2.2.1.1⟩ hb5
  have hm5 : OwnM w1.heap.size w5 y6 c.of := ⟨owned_baseN own5 fun g hg => by have := (owned_ltN own5 hg).1; have := H4.out.2.2.2.1.2.size; omega, H2.out.2.2.2.2.2.2.1.2.2.1⟩
  have hb15 : Below w1.heap.size w1 w5 := H4.out.2.2.2.1.2.trans (Below.mono hb5 H4.out.2.2.2.1.2.size)
  have H5 := hide (And.intro hp5 (And.intro hm5 hb15))
  clear hp5 hm5 hb5 hb15 own5 gr5
  go_wp2_with fail
  go_loopw [5, 6, 7] (fun y5 y6 x wr => ∃ i, i ≤ c.opts.length ∧ x = .int .i64 ((i : Nat) : Int) ∧ OwnP w1.heap.size wr y5 (thereL c l i).1 ∧ OwnM w1.heap.size wr y6 (thereL c l i).2 ∧ Below w1.heap.size w1 wr ∧ (thereL c l i).1.length ≤ 120 + 120 * i ∧ (thereL c l i).2.length ≤ 120 + i) (fun _ _ x _ => c.opts.length - (intOf x).toNat)
  case atStart => exact ⟨0, by omega, rfl, by rw [thereL_zero]; exact H5.out.1, by rw [thereL_zero]; exact H5.out.2.1, H5.out.2.2, by rw [thereL_zero]; exact b3, by rw [thereL_zero]; exact b4⟩
  case round =>
    clear H4 H5
    obtain ⟨wo, rfl⟩ : ∃ wo, wo = wr := ⟨_, rfl⟩
    obtain ⟨i, hi, rfl, hp4, hm4, hb4, hl4, hl5⟩ := hrel
    have H4 := hide (And.intro hp4 (And.intro hm4 (And.intro hb4 (And.intro hl4 hl5))))
    clear hp4 hm4 hb4 hl4 hl5
    have i0 : (0 : Int) ≤ (i : Int) := by omega
    by_cases hi2 : i < c.opts.length
    · have i1 : (i : Int) < (c.opts.length : Int) := by omega
      obtain ⟨os, hos⟩ : ∃ os, c.opts[i]? = some os := ⟨_, List.getElem?_eq_getElem hi2⟩
      obtain ⟨h, hh⟩ : ∃ h, c.cls[i]? = some h := ⟨_, List.getElem?_eq_getElem (by have := HNE.out; omega)⟩
      obtain ⟨j, hj⟩ : ∃ j, l[i]? = some j := ⟨_, List.getElem?_eq_getElem (by omega)⟩
      have hjl := hin i os j hos hj
      obtain ⟨x, hx⟩ : ∃ x, os[j]? = some x := ⟨_, List.getElem?_eq_getElem hjl⟩
      have hnx := thereL_next hin hh hos hj hx
      have HN := hide (show (thereL c l (i + 1)).1 = (thereL c l i).1 ++ x.1 :: x.2 ∧ (thereL c l (i + 1)).2 = (thereL c l i).2 ++ [(h, x.1)] from by rw [hnx]; exact ⟨rfl, rfl⟩)
      obtain ⟨bk, offk, rfl, hbk, hjc⟩ := H3.out.2.1 i (j : Int) (by rw [List.getElem?_map, hj]; rfl)
      obtain ⟨bo, offo, rfl, hlo, hEo⟩ := H3.out.2.2.1 (by omega)
      obtain ⟨bc, offc, rfl, hlc, hEc⟩ := H3.out.2.2.2.1 (by have := HNE.out; omega)
      obtain ⟨csh, hrh, hath⟩ := hEc i h hh
      obtain ⟨rfl, hho⟩ := hashLay_at.1 hath
      obtain ⟨cs1, hr1, hat1⟩ := hEo i os hos
      obtain ⟨vr, rfl, hat1⟩ := rowLay_at hat1
      obtain ⟨Ar, capr, rfl, _, _, _, hAr⟩ := slice_open hat1
      obtain ⟨br, offr, rfl, hlr, hEr⟩ := hAr (by omega)
      obtain ⟨cs2, hr2, hat2⟩ := hEr j x hx
      obtain ⟨vx, rfl, hpx, hvx⟩ := optLay_at hat2
      obtain ⟨Ax, capx, rfl, _, _, _, _⟩ := slice_open hvx
      have hsame : ∀ b, b < w.heap.size + 1 → wo.heap[b]? = w1.heap[b]? := fun b hb9 => H4.out.2.2.1.block b (by have := H1.out.2; omega)
      have e22 : wo.cell? ⟨w.heap.size, 22, none⟩ = some (.slice (some ⟨bo, offo, none⟩) c.opts.length capo) := (World.cell?_of_block (hsame w.heap.size (by omega))).trans H2.out.2.2.2.2.1.2.2.1
      have e21 : w1.cell? ⟨w.heap.size, 21, none⟩ = some (.slice (some ⟨bc, offc, none⟩) c.opts.length capc) := by have := H2.out.2.2.2.2.1.2.1; rwa [← HNE.out] at this
      have er : wo.cell? ⟨bo, offo + i, none⟩ = some (.slice (some ⟨br, offr, none⟩) os.length capr) := by
        have h9 : w1.cell? ⟨bo, offo + i * 1 + 0, none⟩ = some (.slice (some ⟨br, offr, none⟩) os.length capr) := hr1 0 _ rfl
        rw [Nat.mul_one, Nat.add_zero] at h9
        exact (World.cell?_of_block (hsame bo (by omega))).trans h9
      have ej : wo.cell? ⟨bk, offk + i, none⟩ = some (.int .i64 (j : Int)) := (World.cell?_of_block (hsame bk (by omega))).trans hjc
      have ex : wo.rangeAt br (offr + j * 22) (oC x.1 (.slice Ax x.2.length capx)) := rangeAt_same hr2 (hsame br (by omega))
      have hbr : br < wo.heap.size := by have := H4.out.2.2.1.size; have := H1.out.2; omega
      have hxok : ∀ q ∈ x.2, okP q := (H2.out.2.2.2.2.2.2.1.2.2.2 os (List.mem_of_getElem? hos) x (List.mem_of_getElem? hx)).2
      have hx9 := (b7 os (List.mem_of_getElem? hos)).2 x (List.mem_of_getElem? hx)
      have hxo : (Try.prog.info? 55).map (·.size) = some (oC x.1 (.slice Ax x.2.length capx)).length := by rw [sz_opt]; simp [pC_len hpx]
      have H5 := hide (And.intro e22 (And.intro er (And.intro ej (And.intro ex (And.intro hbr (And.intro hxok hvx))))))
      have HC21 := hide e21
      have HH := hide (And.intro hrh hlc)
      have j0 : (0 : Int) ≤ (j : Int) := by omega
      have j1 : (j : Int) < (os.length : Int) := by omega
      have os9 : (os.length : Int) ≤ 120 := by have := (b7 os (List.mem_of_getElem? hos)).1; omega
      clear hos hh hj hjl hx hnx hjc hEo hEc hrh hath hr1 hat1 hAr hEr hr2 hat2 hvx hsame e22 e21 er ej ex hbr hxok
      go_wp2_with fail
      refine Fre.wp_made (X := Blw) 12 [(8, OneBox wo.heap.size 55 zcO)] (by kernel_rfl) (by kernel_rfl) (by simp only [List.forall_mem_cons]; exact ⟨oneBox_ok, fun p hp => by cases hp⟩) (by simp) (by simp) ?_
      simp only [List.take_succ_cons, List.take_zero, List.drop_succ_cons, List.drop_zero]
      refine Fre.made_val (.pointer (some ⟨w.heap.size, 22, none⟩)) (by kernel_rfl) (by kernel_rfl) (by kernel_rfl) (fun _ _ => by kernel_rfl) ?_
      simp only [Act.put, List.setIfInBounds_toArray, List.set_cons_zero, List.set_cons_succ]
      refine Fre.made_val (.slice (some ⟨bo, offo, none⟩) c.opts.length capo) (by kernel_rfl) (by kernel_rfl) (by kernel_rfl) (fun W9 hW9 => exec_load_cell (o := ⟨some 27, _, _, _, _, _⟩) 26 (.tmp 26) rfl ⟨w.heap.size, 22, none⟩ rfl _ _ W9 Try.underlying26 rfl (by rw [World.cell?_of_block ((blw hW9).block w.heap.size (World.block_lt_of_cell? wo _ H5.out.1))]; exact H5.out.1)) ?_
      simp only [Act.put, List.setIfInBounds_toArray, List.set_cons_zero, List.set_cons_succ]
      refine Fre.made_val (.int .i64 (i : Int)) (by kernel_rfl) (by kernel_rfl) (by kernel_rfl) (fun _ _ => by kernel_rfl) ?_
      simp only [Act.put, List.setIfInBounds_toArray, List.set_cons_zero, List.set_cons_succ]
      refine Fre.made_val (.pointer (some ⟨bo, offo + (i : Int).toNat * 1, none⟩)) (by kernel_rfl) (by kernel_rfl) (by kernel_rfl) (fun W9 _ => exec_index_off (o := ⟨some 29, _, _, _, _, _⟩) 26 57 (.tmp 27) (.tmp 28) rfl bo offo c.opts.length capo (i : Int) .i64 rfl rfl ⟨i0, i1⟩ 1 Try.underlying26 sz_row W9) ?_
      simp only [Act.put, List.setIfInBounds_toArray, List.set_cons_zero, List.set_cons_succ]
      rw [show offo + (i : Int).toNat * 1 = offo + i by omega]
      refine Fre.made_val (.slice (some ⟨br, offr, none⟩) os.length capr) (by kernel_rfl) (by kernel_rfl) (by kernel_rfl) (fun W9 hW9 => exec_load_cell (o := ⟨some 30, _, _, _, _, _⟩) 57 (.tmp 29) rfl ⟨bo, offo + i, none⟩ rfl _ _ W9 Try.underlying57 rfl (by rw [World.cell?_of_block ((blw hW9).block bo (World.block_lt_of_cell? wo _ H5.out.2.1))]; exact H5.out.2.1)) ?_
      simp only [Act.put, List.setIfInBounds_toArray, List.set_cons_zero, List.set_cons_succ]
      refine Fre.made_val (.slice (some ⟨bk, offk, none⟩) c.opts.length capk) (by kernel_rfl) (by kernel_rfl) (by kernel_rfl) (fun _ _ => by kernel_rfl) ?_
      simp only [Act.put, List.setIfInBounds_toArray, List.set_cons_zero, List.set_cons_succ]
      refine Fre.made_val (.int .i64 (i : Int)) (by kernel_rfl) (by kernel_rfl) (by kernel_rfl) (fun _ _ => by kernel_rfl) ?_
      simp only [Act.put, List.setIfInBounds_toArray, List.set_cons_zero, List.set_cons_succ]
      refine Fre.made_val (.pointer (some ⟨bk, offk + (i : Int).toNat * 1, none⟩)) (by kernel_rfl) (by kernel_rfl) (by kernel_rfl) (fun W9 _ => exec_index_off (o := ⟨some 33, _, _, _, _, _⟩) 33 3 (.tmp 31) (.tmp 32) rfl bk offk c.opts.length capk (i : Int) .i64 rfl rfl ⟨i0, i1⟩ 1 Try.underlying33 (by kernel_rfl) W9) ?_
      simp only [Act.put, List.setIfInBounds_toArray, List.set_cons_zero, List.set_cons_succ]
      rw [show offk + (i : Int).toNat * 1 = offk + i by omega]
      refine Fre.made_val (.int .i64 (j : Int)) (by kernel_rfl) (by kernel_rfl) (by kernel_rfl) (fun W9 hW9 => exec_load_cell (o := ⟨some 34, _, _, _, _, _⟩) 3 (.tmp 33) rfl ⟨bk, offk + i, none⟩ rfl _ _ W9 Try.underlying3 rfl (by rw [World.cell?_of_block ((blw hW9).block bk (World.block_lt_of_cell? wo _ H5.out.2.2.1))]; exact H5.out.2.2.1)) ?_
      simp only [Act.put, List.setIfInBounds_toArray, List.set_cons_zero, List.set_cons_succ]
      refine Fre.made_val (.pointer (some ⟨br, offr + (j : Int).toNat * 22, none⟩)) (by kernel_rfl) (by kernel_rfl) (by kernel_rfl) (fun W9 _ => exec_index_off (o := ⟨some 35, _, _, _, _, _⟩) 57 55 (.tmp 30) (.tmp 34) rfl br offr os.length capr (j : Int) .i64 rfl rfl ⟨j0, j1⟩ 22 Try.underlying57 sz_opt W9) ?_
      simp only [Act.put, List.setIfInBounds_toArray, List.set_cons_zero, List.set_cons_succ]
      rw [show offr + (j : Int).toNat * 22 = offr + j * 22 by omega]
      refine Fre.made_val (.agg (oC x.1 (.slice Ax x.2.length capx)).toArray) (by kernel_rfl) (by kernel_rfl) (by kernel_rfl) (fun W9 hW9 => exec_load_mid (o := ⟨some 36, _, _, _, _, _⟩) 55 (.tmp 35) rfl br (offr + j * 22) rfl (oC x.1 (.slice Ax x.2.length capx)) _ W9 (rangeAt_same H5.out.2.2.2.1 ((blw hW9).block br H5.out.2.2.2.2.1)) Try.underlying55 rfl hxo) ?_
      simp only [Act.put, List.setIfInBounds_toArray, List.set_cons_zero, List.set_cons_succ]
      refine Fre.made_new 8 _ (by kernel_rfl) (by kernel_rfl) rfl rfl (fun W9 hW9 => ⟨.pointer (some ⟨W9.heap.size, 0, none⟩), W9.alloc (.cells zcO 55), by kernel_rfl, (Below.refl _ W9).alloc (Nat.le_refl _) _, W9.heap.size, rfl, (blw hW9).size, Blk.new _ _ _⟩) ?_
      simp only [Act.put, List.setIfInBounds_toArray, List.set_cons_zero, List.set_cons_succ]
      show ∀ w', _ → _
      intro w3 hb3
      simp only [Fre.ended]
      have hb3 : Below wo.heap.size wo w3 := hb3
      rintro ux ⟨bx, rfl, hxa, hxb⟩
      simp only [Act.put, List.setIfInBounds_toArray, List.set_cons_zero, List.set_cons_succ]
      refine wpList_store_blkA (o := ⟨none, _, _, _, _, _⟩) rfl 55 (.tmp 8) (.tmp 36) rfl bx zcO (oC x.1 (.slice Ax x.2.length capx)).toArray 55 hxb ?_ ?_ ?_ rfl rfl ?_
      · rw [List.size_toArray]; exact hxo
      · have e : (oC x.1 (.slice Ax x.2.length capx)).toArray.size = 22 := by simp [pC_len hpx]
        rw [e]
        rfl
      · exact all_oneCell_toArray (oC_one _ _ _ _)
      intro w4 hm4 hg4
      have hb4 : Below wo.heap.size wo w4 := hb3.grown hg4 hb3.size (fun k hk => by injection hk with hk; omega)
      have hop4 := H4.out.1.below hb4
      have hom4 := H4.out.2.1.below hb4
      have hwb4 : Below w1.heap.size w1 w4 := H4.out.2.2.1.trans (Below.mono hb4 H4.out.2.2.1.size)
      have hsx : SrcN w4 21 Ax x.2.length capx (flP x.2) := (paths_src (pathsLay.alike H5.out.2.2.2.2.2.2 (fun g hg => hwb4.block g (by have := H1.out.1.size; omega)))).2
      have hxbl : ∀ ad, Ax = some ad → ad.block < w1.heap.size ∨ x.2.length = 0 := by
        intro ad had
        obtain ⟨A', c', e, _, _, _, hA'⟩ := slice_open H5.out.2.2.2.2.2.2
        injection e with e1 _ e3
        subst e1 e3
        rcases Nat.eq_zero_or_pos x.2.length with h0 | h0
        · exact .inr h0
        · obtain ⟨b, off, e, hb, _⟩ := hA' h0
          rw [e] at had; injection had with had; subst had
          exact .inl (by have := H1.out.1.size; show b < w1.heap.size; omega)
      have hr4 : w4.rangeAt bx 0 (pC x.1) := opt_pT hm4
      have hc4 : w4.cell? ⟨bx, 21, none⟩ = some (.slice Ax x.2.length capx) := by rw [hm4.cell]; simp [pC_len hpx]
      have hbl4 : w1.heap.size ≤ bx := by have := H4.out.2.2.1.size; omega
      have H6 := hide (And.intro hm4 (And.intro hop4 (And.intro hom4 (And.intro hwb4 (And.intro hsx (And.intro hxbl (And.intro hr4 (And.intro hc4 hbl4))))))))
      clear hb3 hxa hxb hm4 hg4 hb4 hop4 hom4 hwb4 hsx hxbl hr4 hc4 hbl4
      go_wp2_with fail
      have hpsok := H6.out.2.1.2
      have hxok : ∀ q ∈ x.2, okP q := H5.out.2.2.2.2.2.1
      have hL : ∀ p ∈ ([(40, OnePth w1.heap.size x.1), (41, fun u W => OwnP w1.heap.size W u ((thereL c l i).1 ++ [x.1])), (44, fun u W => OwnP w1.heap.size W u ((thereL c l i).1 ++ x.1 :: x.2))] : Fre.MadeL), Fre.MadeOk (GrowF w1.heap.size (NPM (thereL c l i).1 (thereL c l i).2) (FPM ((thereL c l i).1 ++ x.1 :: x.2) (thereL c l i).2)) p.2 := by
        intro p hp
        simp only [List.mem_cons, List.not_mem_nil, or_false] at hp
        rcases hp with rfl | rfl | rfl
        · exact ⟨fun u W W' h hx => onePth_stays hpx hpsok h hx⟩
        · exact ⟨fun u W W' h hx => OwnP.grow (ps' := x.2) h (by have hx : GrowF _ _ _ W W' := hx; rwa [show (thereL c l i).1 ++ x.1 :: x.2 = (thereL c l i).1 ++ [x.1] ++ x.2 by simp] at hx)⟩
        · exact ⟨fun u W W' h hx => OwnP.grow (ps' := []) h (by have hx : GrowF _ _ _ W W' := hx; rwa [List.append_nil])⟩
      refine Fre.wp_made (X := (GrowF w1.heap.size (NPM (thereL c l i).1 (thereL c l i).2) (FPM ((thereL c l i).1 ++ x.1 :: x.2) (thereL c l i).2))) 8 [(40, OnePth w1.heap.size x.1), (41, fun u W => OwnP w1.heap.size W u ((thereL c l i).1 ++ [x.1])), (44, fun u W => OwnP w1.heap.size W u ((thereL c l i).1 ++ x.1 :: x.2))] (by kernel_rfl) (by kernel_rfl) hL (by simp) (by simp only [List.map_cons, List.map_nil, List.forall_mem_cons]; exact ⟨Nat.le_of_ble_eq_true (by kernel_rfl), Nat.le_of_ble_eq_true (by kernel_rfl), Nat.le_of_ble_eq_true (by kernel_rfl), fun _ h => by cases h⟩) ?_
      simp only [List.take_succ_cons, List.take_zero, List.drop_succ_cons, List.drop_zero]
      refine Fre.made_val (u5) (by kernel_rfl) (by kernel_rfl) (by kernel_rfl) (fun _ _ => by kernel_rfl) ?_
      simp only [Act.put, List.setIfInBounds_toArray, List.set_cons_zero, List.set_cons_succ]
      refine Fre.made_val (.pointer (some ⟨bx, 0, none⟩)) (by kernel_rfl) (by kernel_rfl) (by kernel_rfl) (fun _ _ => by kernel_rfl) ?_
      simp only [Act.put, List.setIfInBounds_toArray, List.set_cons_zero, List.set_cons_succ]
      refine Fre.made_val (.agg (pC x.1).toArray) (by kernel_rfl) (by kernel_rfl) (by kernel_rfl) (fun W9 hW9 => exec_load_mid (o := ⟨some 39, _, _, _, _, _⟩) 53 (.tmp 38) rfl bx 0 rfl (pC x.1) _ W9 (opt_pT (GrowF.blk hW9 H6.out.1 (by rfl))) Try.underlying53 rfl (by have := psz hpx; simpa using this)) ?_
      simp only [Act.put, List.setIfInBounds_toArray, List.set_cons_zero, List.set_cons_succ]
      refine Fre.made_new 40 _ (by kernel_rfl) (by kernel_rfl) rfl rfl (fun W9 hW9 => ⟨.slice (some ⟨W9.heap.size, 0, none⟩) 1 1, W9.alloc (.cells (pC x.1).toArray 53), exec_buildSliceP (o := ⟨some 40, _, _, _, _, _⟩) (v := .agg (pC x.1).toArray) 24 (.tmp 39) rfl rfl Try.underlying24 sz_path (by omega) (by omega) (z := .agg zcP) (fun w => by kernel_rfl) (by simp [Value.cells, pC_len hpx]) W9, GrowF.of_below ((Below.refl _ W9).alloc (Nat.le_refl _) _), W9.heap.size, rfl, by have h9 : GrowF _ _ _ w4 W9 := hW9; have := h9.size; have := H6.out.2.2.2.1.size; omega, Blk.new _ _ _⟩) ?_
      simp only [Act.put, List.setIfInBounds_toArray, List.set_cons_zero, List.set_cons_succ]
      refine Fre.made_new1 40 _ 41 _ (by kernel_rfl) rfl (by kernel_rfl) rfl rfl (fun u W9 hW9 hu => ?hone) ?_
      case hone =>
        obtain ⟨r, rfl, hrB, hrb⟩ := hu
        have h9 : GrowF _ _ _ w4 W9 := hW9
        have hsz : w1.heap.size ≤ W9.heap.size := by have := h9.size; have := H6.out.2.2.2.1.size; omega
        have hsrc : SrcN W9 21 (some ⟨r, 0, none⟩) ([x.1] : List Pth).length 1 (flP [x.1]) := by have h := box_src hrb (pC_one x.1); rw [pC_len hpx] at h; simpa [flP] using h
        obtain ⟨v', w', h1, h2, h3⟩ := app_paths (r := x.2) (M := (thereL c l i).2) (N := (thereL c l i).2) (H6.out.2.1.grow h9) (qs := [x.1]) (fun q hq => by rw [List.mem_singleton.1 hq]; exact hpx) hsz (some ⟨r, 0, none⟩) 1 hsrc (by have := H4.out.2.2.2.1; simp; omega) (p0 := (thereL c l i).1) (Nat.le_refl _)
        exact ⟨v', w', exec_append (o := ⟨some 41, _, _, _, _, _⟩) (.tmp 37) (.tmp 40) 24 rfl u5 (.slice (some ⟨r, 0, none⟩) 1 1) _ _ _ (by kernel_rfl) (by kernel_rfl) h1, (by rw [show (thereL c l i).1 ++ x.1 :: x.2 = (thereL c l i).1 ++ [x.1] ++ x.2 by simp]; exact h2), h3⟩
      simp only [Act.put, List.setIfInBounds_toArray, List.set_cons_zero, List.set_cons_succ]
      refine Fre.made_val (.pointer (some ⟨bx, 21, none⟩)) (by kernel_rfl) (by kernel_rfl) (by kernel_rfl) (fun _ _ => by kernel_rfl) ?_
      simp only [Act.put, List.setIfInBounds_toArray, List.set_cons_zero, List.set_cons_succ]
      refine Fre.made_val (.slice Ax x.2.length capx) (by kernel_rfl) (by kernel_rfl) (by kernel_rfl) (fun W9 hW9 => exec_load_cell (o := ⟨some 43, _, _, _, _, _⟩) 24 (.tmp 42) rfl ⟨bx, 21, none⟩ rfl _ _ W9 Try.underlying24 rfl (by have h9 := GrowF.blk hW9 H6.out.1 (by rfl); rw [h9.cell]; simp [pC_len hpx])) ?_
      simp only [Act.put, List.setIfInBounds_toArray, List.set_cons_zero, List.set_cons_succ]
      refine Fre.made_new1 41 _ 44 _ (by kernel_rfl) rfl (by kernel_rfl) rfl rfl (fun u W9 hW9 hu => ?hall) ?_
      case hall =>
        have h9 : GrowF _ _ _ w4 W9 := hW9
        have hsz : w1.heap.size ≤ W9.heap.size := by have := h9.size; have := H6.out.2.2.2.1.size; omega
        have hsrc : SrcN W9 21 Ax x.2.length capx (flP x.2) := by
          refine ⟨H6.out.2.2.2.2.1.len, H6.out.2.2.2.2.1.none_, H6.out.2.2.2.2.1.one, fun ad had j u hu => ?_⟩
          rcases H6.out.2.2.2.2.2.1 ad had with hlt | h0
          · have h1 := H6.out.2.2.2.2.1.cells ad had j u hu
            have h2 : (ad.add j).block = ad.block := by cases ad; simp [Addr.add]; split <;> rfl
            rw [World.cell?_of_block (w' := W9) ((h9.below (by have := H6.out.2.2.2.1.size; omega)).block _ (by rw [h2]; exact hlt))]
            exact h1
          · have h1 := H6.out.2.2.2.2.1.len
            rw [h0, Nat.zero_mul] at h1
            have := (List.getElem?_eq_some_iff.1 hu).1
            omega
        obtain ⟨v', w', h1, h2, h3⟩ := app_paths (r := []) (M := (thereL c l i).2) (N := (thereL c l i).2) hu (qs := x.2) hxok hsz Ax capx hsrc (by have := H4.out.2.2.2.1; simp; omega) (p0 := (thereL c l i).1) (by rw [flP_app, List.length_append]; omega)
        rw [show (thereL c l i).1 ++ [x.1] ++ x.2 = (thereL c l i).1 ++ x.1 :: x.2 by simp, List.append_nil] at h2
        rw [show (thereL c l i).1 ++ [x.1] ++ x.2 = (thereL c l i).1 ++ x.1 :: x.2 by simp] at h3
        exact ⟨v', w', exec_append (o := ⟨some 44, _, _, _, _, _⟩) (.tmp 41) (.tmp 43) 24 rfl u (.slice Ax x.2.length capx) _ _ _ (by kernel_rfl) (by kernel_rfl) h1, h2, h3⟩
      simp only [Act.put, List.setIfInBounds_toArray, List.set_cons_zero, List.set_cons_succ]
      show ∀ w', _ → _
      intro w5 hx5
      simp only [Fre.ended]
      have hx5 : GrowF _ _ _ w4 w5 := hx5
      intro u40 _ u41 _ y5' hy5
      simp only [Act.put, List.setIfInBounds_toArray, List.set_cons_zero, List.set_cons_succ]
      have hom5 := OwnM.grow (of' := []) H6.out.2.2.1 (by rw [List.append_nil]; exact hx5)
      have hb5 : Below w1.heap.size w1 w5 := H6.out.2.2.2.1.trans (hx5.below H6.out.2.2.2.1.size)
      have H7 := hide (And.intro hy5 (And.intro hom5 (And.intro hb5 (hx5.blk H6.out.1 (by rfl)))))
      clear hy5 hom5 hb5 hx5 hL
      go_wp2_with fail
      have hofok := H7.out.2.1.2
      have hL : ∀ p ∈ ([(54, OneMde w1.heap.size (h, x.1)), (55, fun u W => OwnM w1.heap.size W u ((thereL c l i).2 ++ [(h, x.1)]))] : Fre.MadeL), Fre.MadeOk (GrowF w1.heap.size (NPM (thereL c l (i + 1)).1 (thereL c l i).2) (FPM (thereL c l (i + 1)).1 ((thereL c l i).2 ++ [(h, x.1)]))) p.2 := by
        intro p hp
        simp only [List.mem_cons, List.not_mem_nil, or_false] at hp
        rcases hp with rfl | rfl
        · exact ⟨fun u W W' h hx => oneMde_stays (r := []) ⟨hho, hpx⟩ hofok h hx⟩
        · exact ⟨fun u W W' h hx => OwnM.grow (of' := []) h (by have hx : GrowF _ _ _ W W' := hx; rwa [List.append_nil])⟩
      refine Fre.wp_made (X := (GrowF w1.heap.size (NPM (thereL c l (i + 1)).1 (thereL c l i).2) (FPM (thereL c l (i + 1)).1 ((thereL c l i).2 ++ [(h, x.1)])))) 11 [(54, OneMde w1.heap.size (h, x.1)), (55, fun u W => OwnM w1.heap.size W u ((thereL c l i).2 ++ [(h, x.1)]))] (by kernel_rfl) (by kernel_rfl) hL (by simp) (by simp only [List.map_cons, List.map_nil, List.forall_mem_cons]; exact ⟨Nat.le_of_ble_eq_true (by kernel_rfl), Nat.le_of_ble_eq_true (by kernel_rfl), fun _ h => by cases h⟩) ?_
      simp only [List.take_succ_cons, List.take_zero, List.drop_succ_cons, List.drop_zero]
      refine Fre.made_val (u6) (by kernel_rfl) (by kernel_rfl) (by kernel_rfl) (fun _ _ => by kernel_rfl) ?_
      simp only [Act.put, List.setIfInBounds_toArray, List.set_cons_zero, List.set_cons_succ]
      refine Fre.made_val (.pointer (some ⟨w.heap.size, 21, none⟩)) (by kernel_rfl) (by kernel_rfl) (by kernel_rfl) (fun _ _ => by kernel_rfl) ?_
      simp only [Act.put, List.setIfInBounds_toArray, List.set_cons_zero, List.set_cons_succ]
      refine Fre.made_val (.slice (some ⟨bc, offc, none⟩) c.opts.length capc) (by kernel_rfl) (by kernel_rfl) (by kernel_rfl) (fun W9 hW9 => exec_load_cell (o := ⟨some 47, _, _, _, _, _⟩) 25 (.tmp 46) rfl ⟨w.heap.size, 21, none⟩ rfl _ _ W9 Try.underlying25 rfl (by rw [World.cell?_of_block ((GrowF.below hW9 H7.out.2.2.1.size).block w.heap.size (by have := H1.out.2; omega))]; rw [World.cell?_of_block (H7.out.2.2.1.block w.heap.size (by have := H1.out.2; omega))]; exact HC21.out)) ?_
      simp only [Act.put, List.setIfInBounds_toArray, List.set_cons_zero, List.set_cons_succ]
      refine Fre.made_val (.int .i64 (i : Int)) (by kernel_rfl) (by kernel_rfl) (by kernel_rfl) (fun _ _ => by kernel_rfl) ?_
      simp only [Act.put, List.setIfInBounds_toArray, List.set_cons_zero, List.set_cons_succ]
      refine Fre.made_val (.pointer (some ⟨bc, offc + (i : Int).toNat * 20, none⟩)) (by kernel_rfl) (by kernel_rfl) (by kernel_rfl) (fun W9 _ => exec_index_off (o := ⟨some 49, _, _, _, _, _⟩) 25 23 (.tmp 47) (.tmp 48) rfl bc offc c.opts.length capc (i : Int) .i64 rfl rfl ⟨i0, i1⟩ 20 Try.underlying25 sz_hash W9) ?_
      simp only [Act.put, List.setIfInBounds_toArray, List.set_cons_zero, List.set_cons_succ]
      rw [show offc + (i : Int).toNat * 20 = offc + i * 20 by omega]
      refine Fre.made_val (.agg (bv h).toArray) (by kernel_rfl) (by kernel_rfl) (by kernel_rfl) (fun W9 hW9 => exec_load_mid (o := ⟨some 50, _, _, _, _, _⟩) 23 (.tmp 49) rfl bc (offc + i * 20) rfl (bv h) _ W9 (rangeAt_same HH.out.1 (((GrowF.below hW9 H7.out.2.2.1.size).block bc (by have := H1.out.1.size; have := HH.out.2; omega)).trans (H7.out.2.2.1.block bc (by have := H1.out.1.size; have := HH.out.2; omega)))) Try.underlying23 rfl (by have := hsz hho; simpa using this)) ?_
      simp only [Act.put, List.setIfInBounds_toArray, List.set_cons_zero, List.set_cons_succ]
      refine Fre.made_val (.pointer (some ⟨bx, 0, none⟩)) (by kernel_rfl) (by kernel_rfl) (by kernel_rfl) (fun _ _ => by kernel_rfl) ?_
      simp only [Act.put, List.setIfInBounds_toArray, List.set_cons_zero, List.set_cons_succ]
      refine Fre.made_val (.agg (pC x.1).toArray) (by kernel_rfl) (by kernel_rfl) (by kernel_rfl) (fun W9 hW9 => exec_load_mid (o := ⟨some 52, _, _, _, _, _⟩) 53 (.tmp 51) rfl bx 0 rfl (pC x.1) _ W9 (opt_pT (GrowF.blk hW9 H7.out.2.2.2 (by rfl))) Try.underlying53 rfl (by have := psz hpx; simpa using this)) ?_
      simp only [Act.put, List.setIfInBounds_toArray, List.set_cons_zero, List.set_cons_succ]
      refine Fre.made_val (.agg (mC h x.1).toArray) (by kernel_rfl) (by kernel_rfl) (by kernel_rfl) (fun W9 hW9 => ?hbuild) ?_
      case hbuild =>
        have e9 : (Value.agg (bv h).toArray).cells ++ (Value.agg (pC x.1).toArray).cells = (mC h x.1).toArray := by simp [Value.cells]
        refine Eq.trans (exec_build2 (o := ⟨some 53, _, _, _, _, _⟩) 60 (.tmp 50) (.tmp 52) rfl (n1 := 20) (n2 := 21) (z := .agg zcM) (v1 := .agg (bv h).toArray) (v2 := .agg (pC x.1).toArray) rfl rfl Try.underlying60 (fun w => by kernel_rfl) (by kernel_rfl) (fun w => by kernel_rfl) (by simp [Value.cells, bvL]; exact hho) (by simp [Value.cells, pC_len hpx]) W9) ?_
        rw [e9]
      simp only [Act.put, List.setIfInBounds_toArray, List.set_cons_zero, List.set_cons_succ]
      refine Fre.made_new 54 _ (by kernel_rfl) (by kernel_rfl) rfl rfl (fun W9 hW9 => ⟨.slice (some ⟨W9.heap.size, 0, none⟩) 1 1, W9.alloc (.cells (mC h x.1).toArray 60), exec_buildSliceP (o := ⟨some 54, _, _, _, _, _⟩) (v := .agg (mC h x.1).toArray) 27 (.tmp 53) rfl rfl Try.underlying27 sz_made (by omega) (by omega) (z := .agg zcM) (fun w => by kernel_rfl) (by rw [Value.cells, List.size_toArray, mC_len hho hpx]) W9, GrowF.of_below ((Below.refl _ W9).alloc (Nat.le_refl _) _), W9.heap.size, rfl, by have h9 : GrowF _ _ _ w5 W9 := hW9; have := h9.size; have := H7.out.2.2.1.size; omega, Blk.new _ _ _⟩) ?_
      simp only [Act.put, List.setIfInBounds_toArray, List.set_cons_zero, List.set_cons_succ]
      refine Fre.made_new1 54 _ 55 _ (by kernel_rfl) rfl (by kernel_rfl) rfl rfl (fun u W9 hW9 hu => ?honem) ?_
      case honem =>
        obtain ⟨r, rfl, hrB, hrb⟩ := hu
        have h9 : GrowF _ _ _ w5 W9 := hW9
        have hsz : w1.heap.size ≤ W9.heap.size := by have := h9.size; have := H7.out.2.2.1.size; omega
        have hsrc : SrcN W9 41 (some ⟨r, 0, none⟩) ([(h, x.1)] : List Mde).length 1 (flM [(h, x.1)]) := by have hq := box_src hrb (mC_one h x.1); rw [mC_len hho hpx] at hq; simpa [flM] using hq
        obtain ⟨v', w', h1, h2, h3⟩ := app_mades (r := []) (M := (thereL c l (i + 1)).1) (N := (thereL c l (i + 1)).1) (H7.out.2.1.grow h9) (qs := [(h, x.1)]) (fun q hq => by rw [List.mem_singleton.1 hq]; exact ⟨hho, hpx⟩) hsz (some ⟨r, 0, none⟩) 1 hsrc (by have := H4.out.2.2.2.2; simp; omega) (p0 := (thereL c l i).2) (Nat.le_refl _)
        rw [List.append_nil] at h2
        exact ⟨v', w', exec_append (o := ⟨some 55, _, _, _, _, _⟩) (.tmp 45) (.tmp 54) 27 rfl u6 (.slice (some ⟨r, 0, none⟩) 1 1) _ _ _ (by kernel_rfl) (by kernel_rfl) h1, h2, h3⟩
      simp only [Act.put, List.setIfInBounds_toArray, List.set_cons_zero, List.set_cons_succ]
      show ∀ w', _ → _
      intro w6 hx6
      simp only [Fre.ended]
      have hx6 : GrowF _ _ _ w5 w6 := hx6
      intro u54 _ y6' hy6
      simp only [Act.put, List.setIfInBounds_toArray, List.set_cons_zero, List.set_cons_succ]
      have hop6 := OwnP.grow (ps' := []) (by have := H7.out.1; rw [← HN.out.1] at this; exact this) (by rw [List.append_nil]; exact hx6)
      have hb6 : Below w1.heap.size w1 w6 := H7.out.2.2.1.trans (hx6.below H7.out.2.2.1.size)
      have hy6 : OwnM w1.heap.size w6 y6' (thereL c l (i + 1)).2 := by rw [HN.out.2]; exact hy6
      have H8 := hide (And.intro hop6 (And.intro hy6 hb6))
      clear hop6 hy6 hb6 hx6 hL
      go_wp2_with fail
      go_roundw
      case rel => exact ⟨i + 1, by omega, by go_num, H8.out.1, H8.out.2.1, H8.out.2.2, by rw [HN.out.1, List.length_append, List.length_cons]; have := H4.out.2.2.2.1; omega, by rw [HN.out.2, List.length_append]; have := H4.out.2.2.2.2; simp; omega⟩
      case measure => simp [intOf]; omega
    · obtain rfl : i = c.opts.length := by omega
      obtain ⟨PS, hPS⟩ : ∃ PS, PS = (thereL c l c.opts.length).1 := ⟨_, rfl⟩
      obtain ⟨OF, hOF⟩ : ∃ OF, OF = (thereL c l c.opts.length).2 := ⟨_, rfl⟩
      have hcl : clean1 c.own (c.cls.zip c.opts) c.fixed c.of l = cleanB c.own PS OF := by
        rw [hPS, hOF]
        unfold thereL clean1
        rw [List.take_of_length_le (by omega)]
      have HCL := hide hcl
      have hp := H4.out.1.at_
      have hm := H4.out.2.1.at_
      have hl1 := H4.out.2.2.2.1
      have hl2 := H4.out.2.2.2.2
      have hmok := H4.out.2.1.2
      have hpok := H4.out.1.2
      rw [← hPS] at hp hl1 hpok
      rw [← hOF] at hm hl2 hmok
      obtain ⟨A6, cap6, rfl, _, _, _, hA6⟩ := slice_open hm
      have hB : Below w.heap.size w wo := H1.out.1.trans (Below.mono H4.out.2.2.1 (by have := H1.out.2; omega))
      have hbx : w.heap.size < wo.heap.size := by have := H4.out.2.2.1.size; have := H1.out.2; omega
      have hown : wo.rangeAt w.heap.size 0 (bv v.own) := rangeAt_same (rangeAt_left (c2 := [v.fixed, v.classes, v.opts, v.of]) (by have := rangeAt_blk HBX.out; simpa [caseC] using this)) (H4.out.2.2.1.block w.heap.size (by have := H1.out.2; omega))
      have HB := hide hB
      have H5 := hide (And.intro hp (And.intro hA6 (And.intro hmok (And.intro hbx (And.intro hown hpok)))))
      have of9 : (OF.length : Int) ≤ 100000 := by omega
      have ps9 : PS.length ≤ 100000 := by omega
      clear hcl hp hm hl1 hl2 hmok hpok hA6 hB hbx hown hPS hOF H4
      go_wp2_with fail
      go_loopw [9] (fun x wr => ∃ i, i ≤ OF.length ∧ x = .int .i64 ((i : Nat) : Int) ∧ Below wo.heap.size wo wr ∧ ∀ (a : Nat) m, a < i → OF[a]? = some m → ∀ (b : Nat) k, OF[b]? = some k → badP c.own PS m k = false) (fun x _ => OF.length - (intOf x).toNat)
      case atStart => exact ⟨0, by omega, rfl, Below.refl _ _, fun a m h => absurd h (by omega)⟩
      case round =>
        obtain ⟨i, hi, rfl, hb6, hno⟩ := hrel
        have H6 := hide (And.intro hb6 hno)
        clear hb6 hno
        have i0 : (0 : Int) ≤ (i : Int) := by omega
        by_cases hi2 : i < OF.length
        · have i1 : (i : Int) < (OF.length : Int) := by omega
          obtain ⟨m, hm⟩ : ∃ m, OF[i]? = some m := ⟨_, List.getElem?_eq_getElem hi2⟩
          have HMM := hide hm
          clear hm
          go_wp2_with fail
          go_loopw [10] (fun x wr => ∃ k, k ≤ OF.length ∧ x = .int .i64 ((k : Nat) : Int) ∧ Below wo.heap.size wo wr ∧ ∀ (a : Nat) k', a < k → OF[a]? = some k' → badP c.own PS m k' = false) (fun x _ => OF.length - (intOf x).toNat)
          case atStart => exact ⟨0, by omega, rfl, H6.out.1, fun a m h => absurd h (by omega)⟩
          case round =>
            obtain ⟨wi, rfl⟩ : ∃ wi, wi = wr := ⟨_, rfl⟩
            obtain ⟨k, hk, rfl, hb7, hno⟩ := hrel
            have H7 := hide (And.intro hb7 hno)
            clear hb7 hno
            have k0 : (0 : Int) ≤ (k : Int) := by omega
            by_cases hk2 : k < OF.length
            · have k1 : (k : Int) < (OF.length : Int) := by omega
              obtain ⟨kk, hkk⟩ : ∃ m, OF[k]? = some m := ⟨_, List.getElem?_eq_getElem hk2⟩
              have HKK := hide hkk
              clear hkk
              obtain ⟨b6, o6, rfl, hlb6, hE6⟩ := H5.out.2.1 (by omega)
              obtain ⟨cs1, hr1, hat1⟩ := hE6 i m HMM.out
              obtain ⟨rfl, hm1, hm2⟩ := madeLay_at.1 hat1
              obtain ⟨cs2, hr2, hat2⟩ := hE6 k kk HKK.out
              obtain ⟨rfl, hk1, hk2'⟩ := madeLay_at.1 hat2
              have hr1a : wo.rangeAt b6 (o6 + i * 41) (bv m.1) := rangeAt_left hr1
              have hr1b : wo.rangeAt b6 (o6 + i * 41 + 20) (pC m.2) := by have := rangeAt_right hr1; rwa [bvL, show m.1.length = 20 from hm1] at this
              have hr2a : wo.rangeAt b6 (o6 + k * 41) (bv kk.1) := rangeAt_left hr2
              have hr2b : wo.rangeAt b6 (o6 + k * 41 + 20) (pC kk.2) := by have := rangeAt_right hr2; rwa [bvL, show kk.1.length = 20 from hk1] at this
              have HM0 := hide (And.intro hr1a (And.intro hr1b (And.intro hm1 hm2)))
              have HK0 := hide (And.intro hr2a (And.intro hr2b (And.intro hk1 hk2')))
              have HE := hide hlb6
              clear hr1 hat1 hr2 hat2 hE6 hr1a hr1b hr2a hr2b hm1 hm2 hk1 hk2' hlb6
              have hsz1 : (Try.prog.info? 53).map (·.size) = some (pC m.2).length := by have := psz HM0.out.2.2.2; simpa using this
              have hsz2 : (Try.prog.info? 53).map (·.size) = some (pC kk.2).length := by have := psz HK0.out.2.2.2; simpa using this
              go_wp2_with (first | (refine wpList_value (o := ⟨some 71, _, _, _, _, _⟩) rfl (.pointer (some ⟨b6, o6 + (i : Int).toNat * 41, none⟩)) wi (exec_index_off (o := ⟨some 71, _, _, _, _, _⟩) 27 60 (.tmp 69) (.tmp 70) rfl b6 o6 OF.length cap6 (i : Int) .i64 rfl rfl ⟨i0, i1⟩ 41 Try.underlying27 sz_made wi) ?_; rw [show o6 + (i : Int).toNat * 41 = o6 + i * 41 by omega]) | (refine wpList_value (o := ⟨some 73, _, _, _, _, _⟩) rfl (.agg (pC m.2).toArray) wi (exec_load_mid (o := ⟨some 73, _, _, _, _, _⟩) 53 (.tmp 72) rfl b6 (o6 + i * 41 + 20) rfl (pC m.2) _ wi (rangeAt_same HM0.out.2.1 (H7.out.1.block b6 HE.out)) Try.underlying53 rfl hsz1) ?_; simp only [Act.put, List.setIfInBounds_toArray, List.set_cons_zero, List.set_cons_succ]))
              refine (among_any PS (by omega) m.2 HM0.out.2.2.2 _ wi (pathsLay.widen (pathsLay.alike H5.out.1 fun g hg => H7.out.1.block g hg) H7.out.1.size)).mono ?_
              rintro e w7 ⟨rfl, hb8⟩
              have H8a := hide (H7.out.1.trans (Below.mono hb8 H7.out.1.size))
              clear hb8
              dsimp only
              cases hkm : hasK PS m.2 with
              | false =>
                have HKM := hide hkm
                clear hkm
                obtain ⟨w8, hw8⟩ : ∃ w8, w8 = w7 := ⟨_, rfl⟩
                rw [← hw8]
                have H8 := H8a
                rw [← hw8] at H8
                clear hw8 H8a
                go_wp2_with fail
                refine Fre.wp_made (X := Blw) 36 [] (by kernel_rfl) (by kernel_rfl) (by simp) (by simp) (by simp) ?_
                simp only [List.take_succ_cons, List.take_zero, List.drop_succ_cons, List.drop_zero]
                refine Fre.made_val (.bool false) (by kernel_rfl) (by kernel_rfl) (by kernel_rfl) (fun _ _ => by kernel_rfl) ?_
                simp only [Act.put, List.setIfInBounds_toArray, List.set_cons_zero, List.set_cons_succ]
                refine Fre.made_val (.bool false) (by kernel_rfl) (by kernel_rfl) (by kernel_rfl) (fun _ _ => by kernel_rfl) ?_
                simp only [Act.put, List.setIfInBounds_toArray, List.set_cons_zero, List.set_cons_succ]
                refine Fre.made_skip (by kernel_rfl) (by kernel_rfl) (by kernel_rfl) ?_
                refine Fre.made_skip (by kernel_rfl) (by kernel_rfl) (by kernel_rfl) ?_
                refine Fre.made_skip (by kernel_rfl) (by kernel_rfl) (by kernel_rfl) ?_
                refine Fre.made_skip (by kernel_rfl) (by kernel_rfl) (by kernel_rfl) ?_
                refine Fre.made_skip (by kernel_rfl) (by kernel_rfl) (by kernel_rfl) ?_
                refine Fre.made_skip (by kernel_rfl) (by kernel_rfl) (by kernel_rfl) ?_
                refine Fre.made_skip (by kernel_rfl) (by kernel_rfl) (by kernel_rfl) ?_
                refine Fre.made_skip (by kernel_rfl) (by kernel_rfl) (by kernel_rfl) ?_
                refine Fre.made_skip (by kernel_rfl) (by kernel_rfl) (by kernel_rfl) ?_
                refine Fre.made_skip (by kernel_rfl) (by kernel_rfl) (by kernel_rfl) ?_
                refine Fre.made_skip (by kernel_rfl) (by kernel_rfl) (by kernel_rfl) ?_
                refine Fre.made_skip (by kernel_rfl) (by kernel_rfl) (by kernel_rfl) ?_
                refine Fre.made_skip (by kernel_rfl) (by kernel_rfl) (by kernel_rfl) ?_
                refine Fre.made_skip (by kernel_rfl) (by kernel_rfl) (by kernel_rfl) ?_
                refine Fre.made_skip (by kernel_rfl) (by kernel_rfl) (by kernel_rfl) ?_
                refine Fre.made_skip (by kernel_rfl) (by kernel_rfl) (by kernel_rfl) ?_
                refine Fre.made_skip (by kernel_rfl) (by kernel_rfl) (by kernel_rfl) ?_
                refine Fre.made_skip (by kernel_rfl) (by kernel_rfl) (by kernel_rfl) ?_
                refine Fre.made_skip (by kernel_rfl) (by kernel_rfl) (by kernel_rfl) ?_
                refine Fre.made_skip (by kernel_rfl) (by kernel_rfl) (by kernel_rfl) ?_
                refine Fre.made_skip (by kernel_rfl) (by kernel_rfl) (by kernel_rfl) ?_
                refine Fre.made_skip (by kernel_rfl) (by kernel_rfl) (by kernel_rfl) ?_
                refine Fre.made_skip (by kernel_rfl) (by kernel_rfl) (by kernel_rfl) ?_
                refine Fre.made_skip (by kernel_rfl) (by kernel_rfl) (by kernel_rfl) ?_
                refine Fre.made_skip (by kernel_rfl) (by kernel_rfl) (by kernel_rfl) ?_
                refine Fre.made_skip (by kernel_rfl) (by kernel_rfl) (by kernel_rfl) ?_
                refine Fre.made_skip (by kernel_rfl) (by kernel_rfl) (by kernel_rfl) ?_
                refine Fre.made_skip (by kernel_rfl) (by kernel_rfl) (by kernel_rfl) ?_
                refine Fre.made_skip (by kernel_rfl) (by kernel_rfl) (by kernel_rfl) ?_
                refine Fre.made_skip (by kernel_rfl) (by kernel_rfl) (by kernel_rfl) ?_
                refine Fre.made_skip (by kernel_rfl) (by kernel_rfl) (by kernel_rfl) ?_
                refine Fre.made_skip (by kernel_rfl) (by kernel_rfl) (by kernel_rfl) ?_
                refine Fre.made_skip (by kernel_rfl) (by kernel_rfl) (by kernel_rfl) ?_
                refine Fre.made_skip (by kernel_rfl) (by kernel_rfl) (by kernel_rfl) ?_
                show ∀ w', _ → _
                intro w9 hb9
                simp only [Fre.ended]
                have hb9 : Below w8.heap.size w8 w9 := hb9
                have H10 := hide (H8.out.trans (Below.mono hb9 H8.out.size))
                clear hb9
                go_wp2_with fail
                go_roundw
                case rel =>
                  refine ⟨k + 1, by omega, by go_num, H10.out, fun a k' ha hk' => ?_⟩
                  by_cases hak : a < k
                  · exact H7.out.2 a k' hak hk'
                  · obtain rfl : a = k := by omega
                    rw [HKK.out] at hk'
                    injection hk' with hk'
                    subst hk'
                    unfold badP; rw [HKM.out]; rfl
                case measure => simp [intOf]; omega
              | true =>
                have HKM := hide hkm
                clear hkm
                go_wp2_with (first | (refine wpList_value_w (o := ⟨some 79, _, _, _, _, _⟩) (by kernel_rfl) (.pointer (some ⟨b6, o6 + (k : Int).toNat * 41, none⟩)) w7 (exec_index_off (o := ⟨some 79, _, _, _, _, _⟩) 27 60 (.tmp 77) (.tmp 78) rfl b6 o6 OF.length cap6 (k : Int) .i64 rfl rfl ⟨k0, k1⟩ 41 Try.underlying27 sz_made w7) ?_; rw [show o6 + (k : Int).toNat * 41 = o6 + k * 41 by omega]) | (refine wpList_value_w (o := ⟨some 81, _, _, _, _, _⟩) (by kernel_rfl) (.agg (pC kk.2).toArray) w7 (exec_load_mid (o := ⟨some 81, _, _, _, _, _⟩) 53 (.tmp 80) rfl b6 (o6 + k * 41 + 20) rfl (pC kk.2) _ w7 (rangeAt_same HK0.out.2.1 (H8a.out.block b6 HE.out)) Try.underlying53 rfl hsz2) ?_; simp only [Act.put, List.setIfInBounds_toArray, List.set_cons_zero, List.set_cons_succ]))
                refine (among_any PS (by omega) kk.2 HK0.out.2.2.2 _ w7 (pathsLay.widen (pathsLay.alike H5.out.1 fun g hg => H8a.out.block g hg) H8a.out.size)).mono ?_
                rintro e w8 ⟨rfl, hb8⟩
                have H8 := hide (H8a.out.trans (Below.mono hb8 H8a.out.size))
                clear hb8
                dsimp only
                have H9 := hide (show b6 < w8.heap.size ∧ w.heap.size < w8.heap.size ∧ w8.rangeAt w.heap.size 0 (bv v.own) from ⟨by have := H8.out.size; have := HE.out; omega, by have := H8.out.size; have := H5.out.2.2.2.1; omega, rangeAt_same H5.out.2.2.2.2.1 (H8.out.block _ H5.out.2.2.2.1)⟩)
                have HM := hide (show w8.rangeAt b6 (o6 + i * 41) (bv m.1) ∧ w8.rangeAt b6 (o6 + i * 41 + 20) (pC m.2) ∧ okH m.1 ∧ okP m.2 from ⟨rangeAt_same HM0.out.1 (H8.out.block _ HE.out), rangeAt_same HM0.out.2.1 (H8.out.block _ HE.out), HM0.out.2.2⟩)
                have HK := hide (show w8.rangeAt b6 (o6 + k * 41) (bv kk.1) ∧ w8.rangeAt b6 (o6 + k * 41 + 20) (pC kk.2) ∧ okH kk.1 ∧ okP kk.2 from ⟨rangeAt_same HK0.out.1 (H8.out.block _ HE.out), rangeAt_same HK0.out.2.1 (H8.out.block _ HE.out), HK0.out.2.2⟩)
                cases hkn : hasK PS kk.2 with
                | false =>
                  have HKN := hide hkn
                  clear hkn
                  go_wp2_with fail
                  refine Fre.wp_made (X := Blw) 36 [] (by kernel_rfl) (by kernel_rfl) (by simp) (by simp) (by simp) ?_
                  simp only [List.take_succ_cons, List.take_zero, List.drop_succ_cons, List.drop_zero]
                  refine Fre.made_val (.bool false) (by kernel_rfl) (by kernel_rfl) (by kernel_rfl) (fun _ _ => by kernel_rfl) ?_
                  simp only [Act.put, List.setIfInBounds_toArray, List.set_cons_zero, List.set_cons_succ]
                  refine Fre.made_val (.bool false) (by kernel_rfl) (by kernel_rfl) (by kernel_rfl) (fun _ _ => by kernel_rfl) ?_
                  simp only [Act.put, List.setIfInBounds_toArray, List.set_cons_zero, List.set_cons_succ]
                  refine Fre.made_skip (by kernel_rfl) (by kernel_rfl) (by kernel_rfl) ?_
                  refine Fre.made_skip (by kernel_rfl) (by kernel_rfl) (by kernel_rfl) ?_
                  refine Fre.made_skip (by kernel_rfl) (by kernel_rfl) (by kernel_rfl) ?_
                  refine Fre.made_skip (by kernel_rfl) (by kernel_rfl) (by kernel_rfl) ?_
                  refine Fre.made_skip (by kernel_rfl) (by kernel_rfl) (by kernel_rfl) ?_
                  refine Fre.made_skip (by kernel_rfl) (by kernel_rfl) (by kernel_rfl) ?_
                  refine Fre.made_skip (by kernel_rfl) (by kernel_rfl) (by kernel_rfl) ?_
                  refine Fre.made_skip (by kernel_rfl) (by kernel_rfl) (by kernel_rfl) ?_
                  refine Fre.made_skip (by kernel_rfl) (by kernel_rfl) (by kernel_rfl) ?_
                  refine Fre.made_skip (by kernel_rfl) (by kernel_rfl) (by kernel_rfl) ?_
                  refine Fre.made_skip (by kernel_rfl) (by kernel_rfl) (by kernel_rfl) ?_
                  refine Fre.made_skip (by kernel_rfl) (by kernel_rfl) (by kernel_rfl) ?_
                  refine Fre.made_skip (by kernel_rfl) (by kernel_rfl) (by kernel_rfl) ?_
                  refine Fre.made_skip (by kernel_rfl) (by kernel_rfl) (by kernel_rfl) ?_
                  refine Fre.made_skip (by kernel_rfl) (by kernel_rfl) (by kernel_rfl) ?_
                  refine Fre.made_skip (by kernel_rfl) (by kernel_rfl) (by kernel_rfl) ?_
                  refine Fre.made_skip (by kernel_rfl) (by kernel_rfl) (by kernel_rfl) ?_
                  refine Fre.made_skip (by kernel_rfl) (by kernel_rfl) (by kernel_rfl) ?_
                  refine Fre.made_skip (by kernel_rfl) (by kernel_rfl) (by kernel_rfl) ?_
                  refine Fre.made_skip (by kernel_rfl) (by kernel_rfl) (by kernel_rfl) ?_
                  refine Fre.made_skip (by kernel_rfl) (by kernel_rfl) (by kernel_rfl) ?_
                  refine Fre.made_skip (by kernel_rfl) (by kernel_rfl) (by kernel_rfl) ?_
                  refine Fre.made_skip (by kernel_rfl) (by kernel_rfl) (by kernel_rfl) ?_
                  refine Fre.made_skip (by kernel_rfl) (by kernel_rfl) (by kernel_rfl) ?_
                  refine Fre.made_skip (by kernel_rfl) (by kernel_rfl) (by kernel_rfl) ?_
                  refine Fre.made_skip (by kernel_rfl) (by kernel_rfl) (by kernel_rfl) ?_
                  refine Fre.made_skip (by kernel_rfl) (by kernel_rfl) (by kernel_rfl) ?_
                  refine Fre.made_skip (by kernel_rfl) (by kernel_rfl) (by kernel_rfl) ?_
                  refine Fre.made_skip (by kernel_rfl) (by kernel_rfl) (by kernel_rfl) ?_
                  refine Fre.made_skip (by kernel_rfl) (by kernel_rfl) (by kernel_rfl) ?_
                  refine Fre.made_skip (by kernel_rfl) (by kernel_rfl) (by kernel_rfl) ?_
                  refine Fre.made_skip (by kernel_rfl) (by kernel_rfl) (by kernel_rfl) ?_
                  refine Fre.made_skip (by kernel_rfl) (by kernel_rfl) (by kernel_rfl) ?_
                  refine Fre.made_skip (by kernel_rfl) (by kernel_rfl) (by kernel_rfl) ?_
                  show ∀ w', _ → _
                  intro w9 hb9
                  simp only [Fre.ended]
                  have hb9 : Below w8.heap.size w8 w9 := hb9
                  have H10 := hide (H8.out.trans (Below.mono hb9 H8.out.size))
                  clear hb9
                  go_wp2_with fail
                  go_roundw
                  case rel =>
                    refine ⟨k + 1, by omega, by go_num, H10.out, fun a k' ha hk' => ?_⟩
                    by_cases hak : a < k
                    · exact H7.out.2 a k' hak hk'
                    · obtain rfl : a = k := by omega
                      rw [HKK.out] at hk'
                      injection hk' with hk'
                      subst hk'
                      unfold badP; rw [HKM.out, HKN.out]; rfl
                  case measure => simp [intOf]; omega
                | true =>
                  have HKN := hide hkn
                  clear hkn
                  by_cases h1 : m.1 = v.own
                  · have hd1 : decide (m.1 = v.own) = true := by simp [h1]
                    have HH1 := hide h1
                    clear h1
                    go_wp2_with fail
                    refine Fre.wp_made (X := Blw) 36 [] (by kernel_rfl) (by kernel_rfl) (by simp) (by simp) (by simp) ?_
                    simp only [List.take_succ_cons, List.take_zero, List.drop_succ_cons, List.drop_zero]
                    refine Fre.made_val (.bool true) (by kernel_rfl) (by kernel_rfl) (by kernel_rfl) (fun _ _ => by kernel_rfl) ?_
                    simp only [Act.put, List.setIfInBounds_toArray, List.set_cons_zero, List.set_cons_succ]
                    refine Fre.made_val (.bool true) (by kernel_rfl) (by kernel_rfl) (by kernel_rfl) (fun _ _ => by kernel_rfl) ?_
                    simp only [Act.put, List.setIfInBounds_toArray, List.set_cons_zero, List.set_cons_succ]
                    refine Fre.made_val (.slice (some ⟨b6, o6, none⟩) OF.length cap6) (by kernel_rfl) (by kernel_rfl) (by kernel_rfl) (fun _ _ => by kernel_rfl) ?_
                    simp only [Act.put, List.setIfInBounds_toArray, List.set_cons_zero, List.set_cons_succ]
                    refine Fre.made_val (.int .i64 (i : Int)) (by kernel_rfl) (by kernel_rfl) (by kernel_rfl) (fun _ _ => by kernel_rfl) ?_
                    simp only [Act.put, List.setIfInBounds_toArray, List.set_cons_zero, List.set_cons_succ]
                    refine Fre.made_val (.pointer (some ⟨b6, o6 + (i : Int).toNat * 41, none⟩)) (by kernel_rfl) (by kernel_rfl) (by kernel_rfl) (fun W9 _ => exec_index_off (o := ⟨some 88, _, _, _, _, _⟩) 27 60 (.tmp 86) (.tmp 87) rfl b6 o6 OF.length cap6 (i : Int) .i64 rfl rfl ⟨i0, i1⟩ 41 Try.underlying27 sz_made W9) ?_
                    simp only [Act.put, List.setIfInBounds_toArray, List.set_cons_zero, List.set_cons_succ]
                    rw [show o6 + (i : Int).toNat * 41 = o6 + i * 41 by omega]
                    refine Fre.made_val (.pointer (some ⟨b6, o6 + i * 41, none⟩)) (by kernel_rfl) (by kernel_rfl) (by kernel_rfl) (fun _ _ => by kernel_rfl) ?_
                    simp only [Act.put, List.setIfInBounds_toArray, List.set_cons_zero, List.set_cons_succ]
                    refine Fre.made_val (.agg (bv m.1).toArray) (by kernel_rfl) (by kernel_rfl) (by kernel_rfl) (fun W9 hW9 => exec_load_mid (o := ⟨some 90, _, _, _, _, _⟩) 23 (.tmp 89) rfl b6 (o6 + i * 41) rfl (bv m.1) _ W9 (rangeAt_same HM.out.1 ((blw hW9).block b6 H9.out.1)) Try.underlying23 rfl (by have := hsz HM.out.2.2.1; simpa using this)) ?_
                    simp only [Act.put, List.setIfInBounds_toArray, List.set_cons_zero, List.set_cons_succ]
                    refine Fre.made_val (.pointer (some ⟨w.heap.size, 0, none⟩)) (by kernel_rfl) (by kernel_rfl) (by kernel_rfl) (fun _ _ => by kernel_rfl) ?_
                    simp only [Act.put, List.setIfInBounds_toArray, List.set_cons_zero, List.set_cons_succ]
                    refine Fre.made_val (.agg (bv v.own).toArray) (by kernel_rfl) (by kernel_rfl) (by kernel_rfl) (fun W9 hW9 => exec_load_mid (o := ⟨some 92, _, _, _, _, _⟩) 23 (.tmp 91) rfl w.heap.size 0 rfl (bv v.own) _ W9 (rangeAt_same H9.out.2.2 ((blw hW9).block w.heap.size H9.out.2.1)) Try.underlying23 rfl (by have := hsz ho; simpa using this)) ?_
                    simp only [Act.put, List.setIfInBounds_toArray, List.set_cons_zero, List.set_cons_succ]
                    refine Fre.made_val (.bool true) (by kernel_rfl) (by kernel_rfl) (by kernel_rfl) (fun W9 hW9 => exec_binop_agg (o := ⟨some 93, _, _, _, _, _⟩) .eql 23 (.tmp 90) (.tmp 92) _ rfl (bv m.1).toArray (bv v.own).toArray rfl rfl (by kernel_rfl) _ (fun W => by have := bin_eq_hash m.1 v.own HM.out.2.2.1 ho W; rw [hd1] at this; exact this) W9) ?_
                    simp only [Act.put, List.setIfInBounds_toArray, List.set_cons_zero, List.set_cons_succ]
                    refine Fre.made_val (.bool true) (by kernel_rfl) (by kernel_rfl) (by kernel_rfl) (fun _ _ => by kernel_rfl) ?_
                    simp only [Act.put, List.setIfInBounds_toArray, List.set_cons_zero, List.set_cons_succ]
                    refine Fre.made_skip (by kernel_rfl) (by kernel_rfl) (by kernel_rfl) ?_
                    refine Fre.made_skip (by kernel_rfl) (by kernel_rfl) (by kernel_rfl) ?_
                    refine Fre.made_skip (by kernel_rfl) (by kernel_rfl) (by kernel_rfl) ?_
                    refine Fre.made_skip (by kernel_rfl) (by kernel_rfl) (by kernel_rfl) ?_
                    refine Fre.made_skip (by kernel_rfl) (by kernel_rfl) (by kernel_rfl) ?_
                    refine Fre.made_skip (by kernel_rfl) (by kernel_rfl) (by kernel_rfl) ?_
                    refine Fre.made_skip (by kernel_rfl) (by kernel_rfl) (by kernel_rfl) ?_
                    refine Fre.made_skip (by kernel_rfl) (by kernel_rfl) (by kernel_rfl) ?_
                    refine Fre.made_skip (by kernel_rfl) (by kernel_rfl) (by kernel_rfl) ?_
                    refine Fre.made_skip (by kernel_rfl) (by kernel_rfl) (by kernel_rfl) ?_
                    refine Fre.made_skip (by kernel_rfl) (by kernel_rfl) (by kernel_rfl) ?_
                    refine Fre.made_skip (by kernel_rfl) (by kernel_rfl) (by kernel_rfl) ?_
                    refine Fre.made_skip (by kernel_rfl) (by kernel_rfl) (by kernel_rfl) ?_
                    refine Fre.made_skip (by kernel_rfl) (by kernel_rfl) (by kernel_rfl) ?_
                    refine Fre.made_skip (by kernel_rfl) (by kernel_rfl) (by kernel_rfl) ?_
                    refine Fre.made_skip (by kernel_rfl) (by kernel_rfl) (by kernel_rfl) ?_
                    refine Fre.made_skip (by kernel_rfl) (by kernel_rfl) (by kernel_rfl) ?_
                    refine Fre.made_skip (by kernel_rfl) (by kernel_rfl) (by kernel_rfl) ?_
                    refine Fre.made_skip (by kernel_rfl) (by kernel_rfl) (by kernel_rfl) ?_
                    refine Fre.made_skip (by kernel_rfl) (by kernel_rfl) (by kernel_rfl) ?_
                    refine Fre.made_skip (by kernel_rfl) (by kernel_rfl) (by kernel_rfl) ?_
                    refine Fre.made_skip (by kernel_rfl) (by kernel_rfl) (by kernel_rfl) ?_
                    refine Fre.made_skip (by kernel_rfl) (by kernel_rfl) (by kernel_rfl) ?_
                    refine Fre.made_skip (by kernel_rfl) (by kernel_rfl) (by kernel_rfl) ?_
                    refine Fre.made_val (.bool true) (by kernel_rfl) (by kernel_rfl) (by kernel_rfl) (fun _ _ => by kernel_rfl) ?_
                    simp only [Act.put, List.setIfInBounds_toArray, List.set_cons_zero, List.set_cons_succ]
                    show ∀ w', _ → _
                    intro w9 hb9
                    simp only [Fre.ended]
                    have hb9 : Below w8.heap.size w8 w9 := hb9
                    have H10 := hide (H8.out.trans (Below.mono hb9 H8.out.size))
                    clear hb9
                    go_wp2_with fail
                    go_ret
                    have e : clean1 c.own (c.cls.zip c.opts) c.fixed c.of l = false := by rw [HCL.out]; exact bad_clean (List.mem_of_getElem? HMM.out) (List.mem_of_getElem? HKK.out) (by unfold badP; rw [HKM.out, HKN.out, ← HOW.out, hd1]; rfl)
                    rw [e]
                    exact ⟨rfl, HB.out.trans (Below.mono H10.out HB.out.size)⟩
                  · have hd1 : decide (m.1 = v.own) = false := by simp [h1]
                    have HH1 := hide h1
                    clear h1
                    by_cases h2 : m.1 = kk.1
                    · have hd2 : decide (m.1 = kk.1) = true := by simp [h2]
                      have HH2 := hide h2
                      clear h2
                      go_wp2_with fail
                      refine Fre.wp_made (X := Blw) 36 [] (by kernel_rfl) (by kernel_rfl) (by simp) (by simp) (by simp) ?_
                      simp only [List.take_succ_cons, List.take_zero, List.drop_succ_cons, List.drop_zero]
                      refine Fre.made_val (.bool true) (by kernel_rfl) (by kernel_rfl) (by kernel_rfl) (fun _ _ => by kernel_rfl) ?_
                      simp only [Act.put, List.setIfInBounds_toArray, List.set_cons_zero, List.set_cons_succ]
                      refine Fre.made_val (.bool true) (by kernel_rfl) (by kernel_rfl) (by kernel_rfl) (fun _ _ => by kernel_rfl) ?_
                      simp only [Act.put, List.setIfInBounds_toArray, List.set_cons_zero, List.set_cons_succ]
                      refine Fre.made_val (.slice (some ⟨b6, o6, none⟩) OF.length cap6) (by kernel_rfl) (by kernel_rfl) (by kernel_rfl) (fun _ _ => by kernel_rfl) ?_
                      simp only [Act.put, List.setIfInBounds_toArray, List.set_cons_zero, List.set_cons_succ]
                      refine Fre.made_val (.int .i64 (i : Int)) (by kernel_rfl) (by kernel_rfl) (by kernel_rfl) (fun _ _ => by kernel_rfl) ?_
                      simp only [Act.put, List.setIfInBounds_toArray, List.set_cons_zero, List.set_cons_succ]
                      refine Fre.made_val (.pointer (some ⟨b6, o6 + (i : Int).toNat * 41, none⟩)) (by kernel_rfl) (by kernel_rfl) (by kernel_rfl) (fun W9 _ => exec_index_off (o := ⟨some 88, _, _, _, _, _⟩) 27 60 (.tmp 86) (.tmp 87) rfl b6 o6 OF.length cap6 (i : Int) .i64 rfl rfl ⟨i0, i1⟩ 41 Try.underlying27 sz_made W9) ?_
                      simp only [Act.put, List.setIfInBounds_toArray, List.set_cons_zero, List.set_cons_succ]
                      rw [show o6 + (i : Int).toNat * 41 = o6 + i * 41 by omega]
                      refine Fre.made_val (.pointer (some ⟨b6, o6 + i * 41, none⟩)) (by kernel_rfl) (by kernel_rfl) (by kernel_rfl) (fun _ _ => by kernel_rfl) ?_
                      simp only [Act.put, List.setIfInBounds_toArray, List.set_cons_zero, List.set_cons_succ]
                      refine Fre.made_val (.agg (bv m.1).toArray) (by kernel_rfl) (by kernel_rfl) (by kernel_rfl) (fun W9 hW9 => exec_load_mid (o := ⟨some 90, _, _, _, _, _⟩) 23 (.tmp 89) rfl b6 (o6 + i * 41) rfl (bv m.1) _ W9 (rangeAt_same HM.out.1 ((blw hW9).block b6 H9.out.1)) Try.underlying23 rfl (by have := hsz HM.out.2.2.1; simpa using this)) ?_
                      simp only [Act.put, List.setIfInBounds_toArray, List.set_cons_zero, List.set_cons_succ]
                      refine Fre.made_val (.pointer (some ⟨w.heap.size, 0, none⟩)) (by kernel_rfl) (by kernel_rfl) (by kernel_rfl) (fun _ _ => by kernel_rfl) ?_
                      simp only [Act.put, List.setIfInBounds_toArray, List.set_cons_zero, List.set_cons_succ]
                      refine Fre.made_val (.agg (bv v.own).toArray) (by kernel_rfl) (by kernel_rfl) (by kernel_rfl) (fun W9 hW9 => exec_load_mid (o := ⟨some 92, _, _, _, _, _⟩) 23 (.tmp 91) rfl w.heap.size 0 rfl (bv v.own) _ W9 (rangeAt_same H9.out.2.2 ((blw hW9).block w.heap.size H9.out.2.1)) Try.underlying23 rfl (by have := hsz ho; simpa using this)) ?_
                      simp only [Act.put, List.setIfInBounds_toArray, List.set_cons_zero, List.set_cons_succ]
                      refine Fre.made_val (.bool false) (by kernel_rfl) (by kernel_rfl) (by kernel_rfl) (fun W9 hW9 => exec_binop_agg (o := ⟨some 93, _, _, _, _, _⟩) .eql 23 (.tmp 90) (.tmp 92) _ rfl (bv m.1).toArray (bv v.own).toArray rfl rfl (by kernel_rfl) _ (fun W => by have := bin_eq_hash m.1 v.own HM.out.2.2.1 ho W; rw [hd1] at this; exact this) W9) ?_
                      simp only [Act.put, List.setIfInBounds_toArray, List.set_cons_zero, List.set_cons_succ]
                      refine Fre.made_val (.bool false) (by kernel_rfl) (by kernel_rfl) (by kernel_rfl) (fun _ _ => by kernel_rfl) ?_
                      simp only [Act.put, List.setIfInBounds_toArray, List.set_cons_zero, List.set_cons_succ]
                      refine Fre.made_val (.slice (some ⟨b6, o6, none⟩) OF.length cap6) (by kernel_rfl) (by kernel_rfl) (by kernel_rfl) (fun _ _ => by kernel_rfl) ?_
                      simp only [Act.put, List.setIfInBounds_toArray, List.set_cons_zero, List.set_cons_succ]
                      refine Fre.made_val (.int .i64 (i : Int)) (by kernel_rfl) (by kernel_rfl) (by kernel_rfl) (fun _ _ => by kernel_rfl) ?_
                      simp only [Act.put, List.setIfInBounds_toArray, List.set_cons_zero, List.set_cons_succ]
                      refine Fre.made_val (.pointer (some ⟨b6, o6 + (i : Int).toNat * 41, none⟩)) (by kernel_rfl) (by kernel_rfl) (by kernel_rfl) (fun W9 _ => exec_index_off (o := ⟨some 97, _, _, _, _, _⟩) 27 60 (.tmp 95) (.tmp 96) rfl b6 o6 OF.length cap6 (i : Int) .i64 rfl rfl ⟨i0, i1⟩ 41 Try.underlying27 sz_made W9) ?_
                      simp only [Act.put, List.setIfInBounds_toArray, List.set_cons_zero, List.set_cons_succ]
                      rw [show o6 + (i : Int).toNat * 41 = o6 + i * 41 by omega]
                      refine Fre.made_val (.pointer (some ⟨b6, o6 + i * 41, none⟩)) (by kernel_rfl) (by kernel_rfl) (by kernel_rfl) (fun _ _ => by kernel_rfl) ?_
                      simp only [Act.put, List.setIfInBounds_toArray, List.set_cons_zero, List.set_cons_succ]
                      refine Fre.made_val (.agg (bv m.1).toArray) (by kernel_rfl) (by kernel_rfl) (by kernel_rfl) (fun W9 hW9 => exec_load_mid (o := ⟨some 99, _, _, _, _, _⟩) 23 (.tmp 98) rfl b6 (o6 + i * 41) rfl (bv m.1) _ W9 (rangeAt_same HM.out.1 ((blw hW9).block b6 H9.out.1)) Try.underlying23 rfl (by have := hsz HM.out.2.2.1; simpa using this)) ?_
                      simp only [Act.put, List.setIfInBounds_toArray, List.set_cons_zero, List.set_cons_succ]
                      refine Fre.made_val (.slice (some ⟨b6, o6, none⟩) OF.length cap6) (by kernel_rfl) (by kernel_rfl) (by kernel_rfl) (fun _ _ => by kernel_rfl) ?_
                      simp only [Act.put, List.setIfInBounds_toArray, List.set_cons_zero, List.set_cons_succ]
                      refine Fre.made_val (.int .i64 (k : Int)) (by kernel_rfl) (by kernel_rfl) (by kernel_rfl) (fun _ _ => by kernel_rfl) ?_
                      simp only [Act.put, List.setIfInBounds_toArray, List.set_cons_zero, List.set_cons_succ]
                      refine Fre.made_val (.pointer (some ⟨b6, o6 + (k : Int).toNat * 41, none⟩)) (by kernel_rfl) (by kernel_rfl) (by kernel_rfl) (fun W9 _ => exec_index_off (o := ⟨some 102, _, _, _, _, _⟩) 27 60 (.tmp 100) (.tmp 101) rfl b6 o6 OF.length cap6 (k : Int) .i64 rfl rfl ⟨k0, k1⟩ 41 Try.underlying27 sz_made W9) ?_
                      simp only [Act.put, List.setIfInBounds_toArray, List.set_cons_zero, List.set_cons_succ]
                      rw [show o6 + (k : Int).toNat * 41 = o6 + k * 41 by omega]
                      refine Fre.made_val (.pointer (some ⟨b6, o6 + k * 41, none⟩)) (by kernel_rfl) (by kernel_rfl) (by kernel_rfl) (fun _ _ => by kernel_rfl) ?_
                      simp only [Act.put, List.setIfInBounds_toArray, List.set_cons_zero, List.set_cons_succ]
                      refine Fre.made_val (.agg (bv kk.1).toArray) (by kernel_rfl) (by kernel_rfl) (by kernel_rfl) (fun W9 hW9 => exec_load_mid (o := ⟨some 104, _, _, _, _, _⟩) 23 (.tmp 103) rfl b6 (o6 + k * 41) rfl (bv kk.1) _ W9 (rangeAt_same HK.out.1 ((blw hW9).block b6 H9.out.1)) Try.underlying23 rfl (by have := hsz HK.out.2.2.1; simpa using this)) ?_
                      simp only [Act.put, List.setIfInBounds_toArray, List.set_cons_zero, List.set_cons_succ]
                      refine Fre.made_val (.bool true) (by kernel_rfl) (by kernel_rfl) (by kernel_rfl) (fun W9 hW9 => exec_binop_agg (o := ⟨some 105, _, _, _, _, _⟩) .eql 23 (.tmp 99) (.tmp 104) _ rfl (bv m.1).toArray (bv kk.1).toArray rfl rfl (by kernel_rfl) _ (fun W => by have := bin_eq_hash m.1 kk.1 HM.out.2.2.1 HK.out.2.2.1 W; rw [hd2] at this; exact this) W9) ?_
                      simp only [Act.put, List.setIfInBounds_toArray, List.set_cons_zero, List.set_cons_succ]
                      refine Fre.made_val (.bool true) (by kernel_rfl) (by kernel_rfl) (by kernel_rfl) (fun _ _ => by kernel_rfl) ?_
                      simp only [Act.put, List.setIfInBounds_toArray, List.set_cons_zero, List.set_cons_succ]
                      refine Fre.made_val (.slice (some ⟨b6, o6, none⟩) OF.length cap6) (by kernel_rfl) (by kernel_rfl) (by kernel_rfl) (fun _ _ => by kernel_rfl) ?_
                      simp only [Act.put, List.setIfInBounds_toArray, List.set_cons_zero, List.set_cons_succ]
                      refine Fre.made_val (.int .i64 (i : Int)) (by kernel_rfl) (by kernel_rfl) (by kernel_rfl) (fun _ _ => by kernel_rfl) ?_
                      simp only [Act.put, List.setIfInBounds_toArray, List.set_cons_zero, List.set_cons_succ]
                      refine Fre.made_val (.pointer (some ⟨b6, o6 + (i : Int).toNat * 41, none⟩)) (by kernel_rfl) (by kernel_rfl) (by kernel_rfl) (fun W9 _ => exec_index_off (o := ⟨some 109, _, _, _, _, _⟩) 27 60 (.tmp 107) (.tmp 108) rfl b6 o6 OF.length cap6 (i : Int) .i64 rfl rfl ⟨i0, i1⟩ 41 Try.underlying27 sz_made W9) ?_
                      simp only [Act.put, List.setIfInBounds_toArray, List.set_cons_zero, List.set_cons_succ]
                      rw [show o6 + (i : Int).toNat * 41 = o6 + i * 41 by omega]
                      refine Fre.made_val (.pointer (some ⟨b6, o6 + i * 41 + 20, none⟩)) (by kernel_rfl) (by kernel_rfl) (by kernel_rfl) (fun _ _ => by kernel_rfl) ?_
                      simp only [Act.put, List.setIfInBounds_toArray, List.set_cons_zero, List.set_cons_succ]
                      refine Fre.made_val (.agg (pC m.2).toArray) (by kernel_rfl) (by kernel_rfl) (by kernel_rfl) (fun W9 hW9 => exec_load_mid (o := ⟨some 111, _, _, _, _, _⟩) 53 (.tmp 110) rfl b6 (o6 + i * 41 + 20) rfl (pC m.2) _ W9 (rangeAt_same HM.out.2.1 ((blw hW9).block b6 H9.out.1)) Try.underlying53 rfl (by have := psz HM.out.2.2.2; simpa using this)) ?_
                      simp only [Act.put, List.setIfInBounds_toArray, List.set_cons_zero, List.set_cons_succ]
                      refine Fre.made_val (.slice (some ⟨b6, o6, none⟩) OF.length cap6) (by kernel_rfl) (by kernel_rfl) (by kernel_rfl) (fun _ _ => by kernel_rfl) ?_
                      simp only [Act.put, List.setIfInBounds_toArray, List.set_cons_zero, List.set_cons_succ]
                      refine Fre.made_val (.int .i64 (k : Int)) (by kernel_rfl) (by kernel_rfl) (by kernel_rfl) (fun _ _ => by kernel_rfl) ?_
                      simp only [Act.put, List.setIfInBounds_toArray, List.set_cons_zero, List.set_cons_succ]
                      refine Fre.made_val (.pointer (some ⟨b6, o6 + (k : Int).toNat * 41, none⟩)) (by kernel_rfl) (by kernel_rfl) (by kernel_rfl) (fun W9 _ => exec_index_off (o := ⟨some 114, _, _, _, _, _⟩) 27 60 (.tmp 112) (.tmp 113) rfl b6 o6 OF.length cap6 (k : Int) .i64 rfl rfl ⟨k0, k1⟩ 41 Try.underlying27 sz_made W9) ?_
                      simp only [Act.put, List.setIfInBounds_toArray, List.set_cons_zero, List.set_cons_succ]
                      rw [show o6 + (k : Int).toNat * 41 = o6 + k * 41 by omega]
                      refine Fre.made_val (.pointer (some ⟨b6, o6 + k * 41 + 20, none⟩)) (by kernel_rfl) (by kernel_rfl) (by kernel_rfl) (fun _ _ => by kernel_rfl) ?_
                      simp only [Act.put, List.setIfInBounds_toArray, List.set_cons_zero, List.set_cons_succ]
                      refine Fre.made_val (.agg (pC kk.2).toArray) (by kernel_rfl) (by kernel_rfl) (by kernel_rfl) (fun W9 hW9 => exec_load_mid (o := ⟨some 116, _, _, _, _, _⟩) 53 (.tmp 115) rfl b6 (o6 + k * 41 + 20) rfl (pC kk.2) _ W9 (rangeAt_same HK.out.2.1 ((blw hW9).block b6 H9.out.1)) Try.underlying53 rfl (by have := psz HK.out.2.2.2; simpa using this)) ?_
                      simp only [Act.put, List.setIfInBounds_toArray, List.set_cons_zero, List.set_cons_succ]
                      refine Fre.made_val (.bool (!decide (m.2 = kk.2))) (by kernel_rfl) (by kernel_rfl) (by kernel_rfl) (fun W9 hW9 => exec_binop_agg (o := ⟨some 117, _, _, _, _, _⟩) .neq 53 (.tmp 111) (.tmp 116) _ rfl (pC m.2).toArray (pC kk.2).toArray rfl rfl (by kernel_rfl) _ (fun W => bin_ne_path m.2 kk.2 HM.out.2.2.2 HK.out.2.2.2 W) W9) ?_
                      simp only [Act.put, List.setIfInBounds_toArray, List.set_cons_zero, List.set_cons_succ]
                      refine Fre.made_val (.bool (!decide (m.2 = kk.2))) (by kernel_rfl) (by kernel_rfl) (by kernel_rfl) (fun _ _ => by kernel_rfl) ?_
                      simp only [Act.put, List.setIfInBounds_toArray, List.set_cons_zero, List.set_cons_succ]
                      refine Fre.made_val (.bool (!decide (m.2 = kk.2))) (by kernel_rfl) (by kernel_rfl) (by kernel_rfl) (fun _ _ => by kernel_rfl) ?_
                      simp only [Act.put, List.setIfInBounds_toArray, List.set_cons_zero, List.set_cons_succ]
                      show ∀ w', _ → _
                      intro w9 hb9
                      simp only [Fre.ended]
                      have hb9 : Below w8.heap.size w8 w9 := hb9
                      have H10 := hide (H8.out.trans (Below.mono hb9 H8.out.size))
                      clear hb9
                      by_cases h3 : m.2 = kk.2
                      · have hd3 : (!decide (m.2 = kk.2)) = false := by simp [h3]
                        rw [hd3]
                        have HH3 := hide h3
                        clear h3
                        go_wp2_with fail
                        go_roundw
                        case rel =>
                          refine ⟨k + 1, by omega, by go_num, H10.out, fun a k' ha hk' => ?_⟩
                          by_cases hak : a < k
                          · exact H7.out.2 a k' hak hk'
                          · obtain rfl : a = k := by omega
                            rw [HKK.out] at hk'
                            injection hk' with hk'
                            subst hk'
                            unfold badP; rw [HKM.out, HKN.out, ← HOW.out, hd1, hd2, hd3]; rfl
                        case measure => simp [intOf]; omega
                      · have hd3 : (!decide (m.2 = kk.2)) = true := by simp [h3]
                        rw [hd3]
                        have HH3 := hide h3
                        clear h3
                        go_wp2_with fail
                        go_ret
                        have e : clean1 c.own (c.cls.zip c.opts) c.fixed c.of l = false := by rw [HCL.out]; exact bad_clean (List.mem_of_getElem? HMM.out) (List.mem_of_getElem? HKK.out) (by unfold badP; rw [HKM.out, HKN.out, ← HOW.out, hd1, hd2, hd3]; rfl)
                        rw [e]
                        exact ⟨rfl, HB.out.trans (Below.mono H10.out HB.out.size)⟩
                    · have hd2 : decide (m.1 = kk.1) = false := by simp [h2]
                      have HH2 := hide h2
                      clear h2
                      go_wp2_with fail
                      refine Fre.wp_made (X := Blw) 36 [] (by kernel_rfl) (by kernel_rfl) (by simp) (by simp) (by simp) ?_
                      simp only [List.take_succ_cons, List.take_zero, List.drop_succ_cons, List.drop_zero]
                      refine Fre.made_val (.bool true) (by kernel_rfl) (by kernel_rfl) (by kernel_rfl) (fun _ _ => by kernel_rfl) ?_
                      simp only [Act.put, List.setIfInBounds_toArray, List.set_cons_zero, List.set_cons_succ]
                      refine Fre.made_val (.bool true) (by kernel_rfl) (by kernel_rfl) (by kernel_rfl) (fun _ _ => by kernel_rfl) ?_
                      simp only [Act.put, List.setIfInBounds_toArray, List.set_cons_zero, List.set_cons_succ]
                      refine Fre.made_val (.slice (some ⟨b6, o6, none⟩) OF.length cap6) (by kernel_rfl) (by kernel_rfl) (by kernel_rfl) (fun _ _ => by kernel_rfl) ?_
                      simp only [Act.put, List.setIfInBounds_toArray, List.set_cons_zero, List.set_cons_succ]
                      refine Fre.made_val (.int .i64 (i : Int)) (by kernel_rfl) (by kernel_rfl) (by kernel_rfl) (fun _ _ => by kernel_rfl) ?_
                      simp only [Act.put, List.setIfInBounds_toArray, List.set_cons_zero, List.set_cons_succ]
                      refine Fre.made_val (.pointer (some ⟨b6, o6 + (i : Int).toNat * 41, none⟩)) (by kernel_rfl) (by kernel_rfl) (by kernel_rfl) (fun W9 _ => exec_index_off (o := ⟨some 88, _, _, _, _, _⟩) 27 60 (.tmp 86) (.tmp 87) rfl b6 o6 OF.length cap6 (i : Int) .i64 rfl rfl ⟨i0, i1⟩ 41 Try.underlying27 sz_made W9) ?_
                      simp only [Act.put, List.setIfInBounds_toArray, List.set_cons_zero, List.set_cons_succ]
                      rw [show o6 + (i : Int).toNat * 41 = o6 + i * 41 by omega]
                      refine Fre.made_val (.pointer (some ⟨b6, o6 + i * 41, none⟩)) (by kernel_rfl) (by kernel_rfl) (by kernel_rfl) (fun _ _ => by kernel_rfl) ?_
                      simp only [Act.put, List.setIfInBounds_toArray, List.set_cons_zero, List.set_cons_succ]
                      refine Fre.made_val (.agg (bv m.1).toArray) (by kernel_rfl) (by kernel_rfl) (by kernel_rfl) (fun W9 hW9 => exec_load_mid (o := ⟨some 90, _, _, _, _, _⟩) 23 (.tmp 89) rfl b6 (o6 + i * 41) rfl (bv m.1) _ W9 (rangeAt_same HM.out.1 ((blw hW9).block b6 H9.out.1)) Try.underlying23 rfl (by have := hsz HM.out.2.2.1; simpa using this)) ?_
                      simp only [Act.put, List.setIfInBounds_toArray, List.set_cons_zero, List.set_cons_succ]
                      refine Fre.made_val (.pointer (some ⟨w.heap.size, 0, none⟩)) (by kernel_rfl) (by kernel_rfl) (by kernel_rfl) (fun _ _ => by kernel_rfl) ?_
                      simp only [Act.put, List.setIfInBounds_toArray, List.set_cons_zero, List.set_cons_succ]
                      refine Fre.made_val (.agg (bv v.own).toArray) (by kernel_rfl) (by kernel_rfl) (by kernel_rfl) (fun W9 hW9 => exec_load_mid (o := ⟨some 92, _, _, _, _, _⟩) 23 (.tmp 91) rfl w.heap.size 0 rfl (bv v.own) _ W9 (rangeAt_same H9.out.2.2 ((blw hW9).block w.heap.size H9.out.2.1)) Try.underlying23 rfl (by have := hsz ho; simpa using this)) ?_
                      simp only [Act.put, List.setIfInBounds_toArray, List.set_cons_zero, List.set_cons_succ]
                      refine Fre.made_val (.bool false) (by kernel_rfl) (by kernel_rfl) (by kernel_rfl) (fun W9 hW9 => exec_binop_agg (o := ⟨some 93, _, _, _, _, _⟩) .eql 23 (.tmp 90) (.tmp 92) _ rfl (bv m.1).toArray (bv v.own).toArray rfl rfl (by kernel_rfl) _ (fun W => by have := bin_eq_hash m.1 v.own HM.out.2.2.1 ho W; rw [hd1] at this; exact this) W9) ?_
                      simp only [Act.put, List.setIfInBounds_toArray, List.set_cons_zero, List.set_cons_succ]
                      refine Fre.made_val (.bool false) (by kernel_rfl) (by kernel_rfl) (by kernel_rfl) (fun _ _ => by kernel_rfl) ?_
                      simp only [Act.put, List.setIfInBounds_toArray, List.set_cons_zero, List.set_cons_succ]
                      refine Fre.made_val (.slice (some ⟨b6, o6, none⟩) OF.length cap6) (by kernel_rfl) (by kernel_rfl) (by kernel_rfl) (fun _ _ => by kernel_rfl) ?_
                      simp only [Act.put, List.setIfInBounds_toArray, List.set_cons_zero, List.set_cons_succ]
                      refine Fre.made_val (.int .i64 (i : Int)) (by kernel_rfl) (by kernel_rfl) (by kernel_rfl) (fun _ _ => by kernel_rfl) ?_
                      simp only [Act.put, List.setIfInBounds_toArray, List.set_cons_zero, List.set_cons_succ]
                      refine Fre.made_val (.pointer (some ⟨b6, o6 + (i : Int).toNat * 41, none⟩)) (by kernel_rfl) (by kernel_rfl) (by kernel_rfl) (fun W9 _ => exec_index_off (o := ⟨some 97, _, _, _, _, _⟩) 27 60 (.tmp 95) (.tmp 96) rfl b6 o6 OF.length cap6 (i : Int) .i64 rfl rfl ⟨i0, i1⟩ 41 Try.underlying27 sz_made W9) ?_
                      simp only [Act.put, List.setIfInBounds_toArray, List.set_cons_zero, List.set_cons_succ]
                      rw [show o6 + (i : Int).toNat * 41 = o6 + i * 41 by omega]
                      refine Fre.made_val (.pointer (some ⟨b6, o6 + i * 41, none⟩)) (by kernel_rfl) (by kernel_rfl) (by kernel_rfl) (fun _ _ => by kernel_rfl) ?_
                      simp only [Act.put, List.setIfInBounds_toArray, List.set_cons_zero, List.set_cons_succ]
                      refine Fre.made_val (.agg (bv m.1).toArray) (by kernel_rfl) (by kernel_rfl) (by kernel_rfl) (fun W9 hW9 => exec_load_mid (o := ⟨some 99, _, _, _, _, _⟩) 23 (.tmp 98) rfl b6 (o6 + i * 41) rfl (bv m.1) _ W9 (rangeAt_same HM.out.1 ((blw hW9).block b6 H9.out.1)) Try.underlying23 rfl (by have := hsz HM.out.2.2.1; simpa using this)) ?_
                      simp only [Act.put, List.setIfInBounds_toArray, List.set_cons_zero, List.set_cons_succ]
                      refine Fre.made_val (.slice (some ⟨b6, o6, none⟩) OF.length cap6) (by kernel_rfl) (by kernel_rfl) (by kernel_rfl) (fun _ _ => by kernel_rfl) ?_
                      simp only [Act.put, List.setIfInBounds_toArray, List.set_cons_zero, List.set_cons_succ]
                      refine Fre.made_val (.int .i64 (k : Int)) (by kernel_rfl) (by kernel_rfl) (by kernel_rfl) (fun _ _ => by kernel_rfl) ?_
                      simp only [Act.put, List.setIfInBounds_toArray, List.set_cons_zero, List.set_cons_succ]
                      refine Fre.made_val (.pointer (some ⟨b6, o6 + (k : Int).toNat * 41, none⟩)) (by kernel_rfl) (by kernel_rfl) (by kernel_rfl) (fun W9 _ => exec_index_off (o := ⟨some 102, _, _, _, _, _⟩) 27 60 (.tmp 100) (.tmp 101) rfl b6 o6 OF.length cap6 (k : Int) .i64 rfl rfl ⟨k0, k1⟩ 41 Try.underlying27 sz_made W9) ?_
                      simp only [Act.put, List.setIfInBounds_toArray, List.set_cons_zero, List.set_cons_succ]
                      rw [show o6 + (k : Int).toNat * 41 = o6 + k * 41 by omega]
                      refine Fre.made_val (.pointer (some ⟨b6, o6 + k * 41, none⟩)) (by kernel_rfl) (by kernel_rfl) (by kernel_rfl) (fun _ _ => by kernel_rfl) ?_
                      simp only [Act.put, List.setIfInBounds_toArray, List.set_cons_zero, List.set_cons_succ]
                      refine Fre.made_val (.agg (bv kk.1).toArray) (by kernel_rfl) (by kernel_rfl) (by kernel_rfl) (fun W9 hW9 => exec_load_mid (o := ⟨some 104, _, _, _, _, _⟩) 23 (.tmp 103) rfl b6 (o6 + k * 41) rfl (bv kk.1) _ W9 (rangeAt_same HK.out.1 ((blw hW9).block b6 H9.out.1)) Try.underlying23 rfl (by have := hsz HK.out.2.2.1; simpa using this)) ?_
                      simp only [Act.put, List.setIfInBounds_toArray, List.set_cons_zero, List.set_cons_succ]
                      refine Fre.made_val (.bool false) (by kernel_rfl) (by kernel_rfl) (by kernel_rfl) (fun W9 hW9 => exec_binop_agg (o := ⟨some 105, _, _, _, _, _⟩) .eql 23 (.tmp 99) (.tmp 104) _ rfl (bv m.1).toArray (bv kk.1).toArray rfl rfl (by kernel_rfl) _ (fun W => by have := bin_eq_hash m.1 kk.1 HM.out.2.2.1 HK.out.2.2.1 W; rw [hd2] at this; exact this) W9) ?_
                      simp only [Act.put, List.setIfInBounds_toArray, List.set_cons_zero, List.set_cons_succ]
                      refine Fre.made_val (.bool false) (by kernel_rfl) (by kernel_rfl) (by kernel_rfl) (fun _ _ => by kernel_rfl) ?_
                      simp only [Act.put, List.setIfInBounds_toArray, List.set_cons_zero, List.set_cons_succ]
                      refine Fre.made_skip (by kernel_rfl) (by kernel_rfl) (by kernel_rfl) ?_
                      refine Fre.made_skip (by kernel_rfl) (by kernel_rfl) (by kernel_rfl) ?_
                      refine Fre.made_skip (by kernel_rfl) (by kernel_rfl) (by kernel_rfl) ?_
                      refine Fre.made_skip (by kernel_rfl) (by kernel_rfl) (by kernel_rfl) ?_
                      refine Fre.made_skip (by kernel_rfl) (by kernel_rfl) (by kernel_rfl) ?_
                      refine Fre.made_skip (by kernel_rfl) (by kernel_rfl) (by kernel_rfl) ?_
                      refine Fre.made_skip (by kernel_rfl) (by kernel_rfl) (by kernel_rfl) ?_
                      refine Fre.made_skip (by kernel_rfl) (by kernel_rfl) (by kernel_rfl) ?_
                      refine Fre.made_skip (by kernel_rfl) (by kernel_rfl) (by kernel_rfl) ?_
                      refine Fre.made_skip (by kernel_rfl) (by kernel_rfl) (by kernel_rfl) ?_
                      refine Fre.made_skip (by kernel_rfl) (by kernel_rfl) (by kernel_rfl) ?_
                      refine Fre.made_val (.bool false) (by kernel_rfl) (by kernel_rfl) (by kernel_rfl) (fun _ _ => by kernel_rfl) ?_
                      simp only [Act.put, List.setIfInBounds_toArray, List.set_cons_zero, List.set_cons_succ]
                      refine Fre.made_val (.bool false) (by kernel_rfl) (by kernel_rfl) (by kernel_rfl) (fun _ _ => by kernel_rfl) ?_
                      simp only [Act.put, List.setIfInBounds_toArray, List.set_cons_zero, List.set_cons_succ]
                      show ∀ w', _ → _
                      intro w9 hb9
                      simp only [Fre.ended]
                      have hb9 : Below w8.heap.size w8 w9 := hb9
                      have H10 := hide (H8.out.trans (Below.mono hb9 H8.out.size))
                      clear hb9
                      go_wp2_with fail
                      go_roundw
                      case rel =>
                        refine ⟨k + 1, by omega, by go_num, H10.out, fun a k' ha hk' => ?_⟩
                        by_cases hak : a < k
                        · exact H7.out.2 a k' hak hk'
                        · obtain rfl : a = k := by omega
                          rw [HKK.out] at hk'
                          injection hk' with hk'
                          subst hk'
                          unfold badP; rw [HKM.out, HKN.out, ← HOW.out, hd1, hd2]; rfl
                      case measure => simp [intOf]; omega
            · obtain rfl : k = OF.length := by omega
              have HN7 := hide H7.out.2
              go_wp2_with fail
              go_roundw
              case rel =>
                refine ⟨i + 1, by omega, by go_num, H7.out.1, fun a m' ha hm' b k hk => ?_⟩
                by_cases hai : a < i
                · exact H6.out.2 a m' hai hm' b k hk
                · obtain rfl : a = i := by omega
                  rw [HMM.out] at hm'
                  injection hm' with hm'
                  subst hm'
                  exact H7.out.2 b k (List.getElem?_eq_some_iff.1 hk).1 hk
              case measure => simp [intOf]; omega
        · obtain rfl : i = OF.length := by omega
          have e : clean1 c.own (c.cls.zip c.opts) c.fixed c.of l = true := by rw [HCL.out]; exact clean_bad fun m hm k hk => by obtain ⟨a, ha⟩ := List.getElem?_of_mem hm; obtain ⟨b, hb⟩ := List.getElem?_of_mem hk; exact H6.out.2 a m (List.getElem?_eq_some_iff.1 ha).1 ha b k hb
          have HF := hide e
          clear e
          go_wp2_with fail
          go_ret
          rw [HF.out]
          exact ⟨rfl, HB.out.trans (Below.mono H6.out.1 HB.out.size)⟩
end Go.Proofs.Ytfppddnfdinipaa
