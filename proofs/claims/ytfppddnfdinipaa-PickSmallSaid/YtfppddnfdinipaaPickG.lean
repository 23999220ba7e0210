/- package pick: what holds of a search, in plain words. -/
import Derived.Test.YtfppddnfdinipaaPickF
namespace Go.Proofs.Ytfppddnfdinipaa
open Go Go.RowKit Go.Maps
/-- how many of some classes conflict -/
def badU (own : Hsh) (U : List Hsh) (S : Sst) : Int := (U.map fun h => one (confB own h (hk S h).length)).sum
/-- cnt: how often paths are there; M: which classes they are of; R: which path of which class counts as there; U, V: all classes, all paths -/
structure InvP (own : Hsh) (U : List Hsh) (V : List Pth) (S : Sst) (cnt : Pth → Nat) (M : Pth → List Hsh) (R : Hsh → Pth → Prop) : Prop where
  tm : ∀ p, tmN S p = (cnt p : Int)
  cls : ∀ p, clsL S p = M p
  nod : ∀ h, (hk S h).Nodup
  mem : ∀ h p, p ∈ hk S h ↔ R h p
  mnod : ∀ p, (M p).Nodup
  mU : ∀ p h, h ∈ M p → h ∈ U
  rV : ∀ h p, R h p → p ∈ V
  unod : U.Nodup
  bad : S.bad = badU own U S
def there (cnt : Pth → Nat) (M : Pth → List Hsh) (h : Hsh) (p : Pth) : Prop := h ∈ M p ∧ 0 < cnt p
theorem hasK_mem {l : List Pth} {p : Pth} : hasK l p = true ↔ p ∈ l := by
  unfold hasK
  simp only [List.any_eq_true, decide_eq_true_eq]
  constructor
  · rintro ⟨x, hx, rfl⟩; exact hx
  · intro hx; exact ⟨p, hx, rfl⟩
theorem mem_insK {l : List Pth} {p q : Pth} : q ∈ insK l p ↔ q ∈ l ∨ q = p := by
  unfold insK
  split
  · rename_i h
    constructor
    · exact .inl
    · rintro (h1 | rfl)
      · exact h1
      · exact hasK_mem.1 h
  · simp
theorem mem_delK {l : List Pth} {p q : Pth} : q ∈ delK l p ↔ q ∈ l ∧ q ≠ p := by
  unfold delK
  simp
theorem nodup_insK {l : List Pth} (h : l.Nodup) (p : Pth) : (insK l p).Nodup := by
  unfold insK
  split
  · exact h
  · rename_i hn
    rw [List.nodup_append]
    refine ⟨h, by simp, fun a ha b hb e => ?_⟩
    rw [List.mem_singleton.1 hb] at e
    subst e
    exact hn (hasK_mem.2 ha)
theorem nodup_delK {l : List Pth} (h : l.Nodup) (p : Pth) : (delK l p).Nodup := List.Pairwise.filter _ h
theorem nodup_lenP : ∀ {a b : List Pth}, a.Nodup → (∀ x ∈ a, x ∈ b) → a.length ≤ b.length
  | [], _, _, _ => Nat.zero_le _
  | x :: a, b, h, hs => by
    have h1 := List.nodup_cons.1 h
    obtain ⟨b1, b2, rfl⟩ := List.append_of_mem (hs x (by simp))
    have h2 := nodup_lenP (a := a) (b := b1 ++ b2) h1.2 fun y hy => by
      have := hs y (by simp [hy])
      rcases List.mem_append.1 this with h | h
      · exact List.mem_append_left _ h
      · rcases List.mem_cons.1 h with rfl | h
        · exact absurd hy h1.1
        · exact List.mem_append_right _ h
    simp at h2 ⊢
    omega
theorem nodup_lenH : ∀ {a b : List Hsh}, a.Nodup → (∀ x ∈ a, x ∈ b) → a.length ≤ b.length
  | [], _, _, _ => Nat.zero_le _
  | x :: a, b, h, hs => by
    have h1 := List.nodup_cons.1 h
    obtain ⟨b1, b2, rfl⟩ := List.append_of_mem (hs x (by simp))
    have h2 := nodup_lenH (a := a) (b := b1 ++ b2) h1.2 fun y hy => by
      have := hs y (by simp [hy])
      rcases List.mem_append.1 this with h | h
      · exact List.mem_append_left _ h
      · rcases List.mem_cons.1 h with rfl | h
        · exact absurd hy h1.1
        · exact List.mem_append_right _ h
    simp at h2 ⊢
    omega
theorem sum_one (f g : Hsh → Int) (h : Hsh) : ∀ (U : List Hsh), U.Nodup → h ∈ U → (∀ x ∈ U, x ≠ h → g x = f x) → (U.map g).sum = (U.map f).sum + g h - f h
  | [], _, hm, _ => by cases hm
  | x :: U, hn, hm, he => by
    have h1 := List.nodup_cons.1 hn
    simp only [List.map_cons, List.sum_cons]
    by_cases hx : x = h
    · subst hx
      have : U.map g = U.map f := List.map_congr_left fun y hy => he y (by simp [hy]) fun e => h1.1 (by rw [← e]; exact hy)
      rw [this]
      omega
    · have h2 := sum_one f g h U h1.2 ((List.mem_cons.1 hm).resolve_left fun e => hx e.symm) fun y hy => he y (by simp [hy])
      rw [h2, he x (by simp) hx]
      omega
section
variable {own : Hsh} {U : List Hsh} {V : List Pth} {S S' : Sst} {cnt : Pth → Nat} {M : Pth → List Hsh} {R : Hsh → Pth → Prop}
theorem badU_bound (own : Hsh) (S : Sst) : ∀ U : List Hsh, 0 ≤ badU own U S ∧ badU own U S ≤ (U.length : Int)
  | [] => by simp [badU]
  | h :: U => by
    have ih := badU_bound own S U
    unfold badU at ih ⊢
    simp only [List.map_cons, List.sum_cons, List.length_cons]
    have : 0 ≤ one (confB own h (hk S h).length) ∧ one (confB own h (hk S h).length) ≤ 1 := by
      unfold one
      split <;> omega
    omega
theorem InvP.lens (h : InvP own U V S cnt M R) (hU : U.length ≤ 100000) (hV : V.length ≤ 100000) : (∀ x, (hereL S x).length ≤ 100000) ∧ (∀ p, (clsL S p).length ≤ 100000) ∧ (0 ≤ S.bad ∧ S.bad ≤ 100000) := by
  refine ⟨fun x => ?_, fun p => ?_, ?_⟩
  · have := nodup_lenP (h.nod x) fun p hp => h.rV x p ((h.mem x p).1 hp)
    rw [hk_len] at this
    omega
  · rw [h.cls]
    have := nodup_lenH (h.mnod p) fun x hx => h.mU p x hx
    omega
  · rw [h.bad]
    have := badU_bound own S U
    omega
theorem InvP.turned (h : InvP own U V S cnt M R) {x : Hsh} {p : Pth} {is : Bool} (hx : x ∈ U) (hp : is = true → p ∈ V) (hq : TurnQ own S S' x p is) : InvP own U V S' cnt M (fun y q => if y = x ∧ q = p then is = true else R y q) := by
  have hbad : badU own U S' = badU own U S + one (confB own x (hk S' x).length) - one (confB own x (hk S x).length) := by
    unfold badU
    refine sum_one _ _ x U h.unod hx fun y _ hy => ?_
    rw [hq.keys, if_neg hy]
  refine ⟨fun q => by rw [tmN, hq.tm]; exact h.tm q, fun q => by rw [clsL, hq.cm]; exact h.cls q, fun y => ?_, fun y q => ?_, h.mnod, h.mU, fun y q hr => ?_, h.unod, ?_⟩
  · rw [hq.keys]
    split
    · rename_i e
      subst e
      unfold turnK
      split
      · exact nodup_insK (h.nod _) p
      · exact nodup_delK (h.nod _) p
    · exact h.nod y
  · rw [hq.keys]
    by_cases e : y = x
    · subst e
      rw [if_pos rfl]
      unfold turnK
      cases is with
      | true =>
        simp only [if_true]
        rw [mem_insK, h.mem]
        by_cases e2 : q = p <;> simp [e2]
      | false =>
        simp only [Bool.false_eq_true, if_false]
        rw [mem_delK, h.mem]
        by_cases e2 : q = p <;> simp [e2]
    · rw [if_neg e, h.mem]
      simp [e]
  · split at hr
    · rename_i e
      rw [e.2]
      exact hp hr
    · exact h.rV y q hr
  · rw [hq.bad, hbad, h.bad]
    have := hq.keys x
    rw [if_pos rfl] at this
    rw [this]
/-- only R is said otherwise -/
theorem InvP.say (h : InvP own U V S cnt M R) {R' : Hsh → Pth → Prop} (he : ∀ x p, R x p ↔ R' x p) : InvP own U V S cnt M R' :=
  ⟨h.tm, h.cls, h.nod, fun x p => (h.mem x p).trans (he x p), h.mnod, h.mU, fun x p hr => h.rV x p ((he x p).2 hr), h.unod, h.bad⟩
def upd {α : Type} (f : Pth → α) (p : Pth) (v : α) : Pth → α := fun q => if q = p then v else f q
theorem clsL_add (S : Sst) (p q : Pth) (l : List Hsh) (u : Value) : clsL (S.add p l u) q = if q = p then l else clsL S q := by
  unfold clsL Sst.add
  dsimp only
  rw [mget_mput]
  split <;> rfl
/-- a path gets one class more -/
theorem InvP.added (h : InvP own U V S cnt M R) (p : Pth) (x : Hsh) (u : Value) (hx : x ∈ U) (hno : x ∉ M p) : InvP own U V (S.add p (M p ++ [x]) u) cnt (upd M p (M p ++ [x])) R := by
  refine ⟨h.tm, fun q => ?_, h.nod, h.mem, fun q => ?_, fun q y hy => ?_, h.rV, h.unod, h.bad⟩
  · rw [clsL_add]
    unfold upd
    split
    · rfl
    · exact h.cls q
  · unfold upd
    split
    · rw [List.nodup_append]
      refine ⟨h.mnod p, by simp, fun a ha b hb e => ?_⟩
      rw [List.mem_singleton.1 hb] at e
      subst e
      exact hno ha
    · exact h.mnod q
  · unfold upd at hy
    split at hy
    · rcases List.mem_append.1 hy with hy | hy
      · exact h.mU p y hy
      · rw [List.mem_singleton.1 hy]; exact hx
    · exact h.mU q y hy
/-- .. one less -/
theorem InvP.dropped (h : InvP own U V S cnt M R) (p : Pth) (u : Value) : InvP own U V (S.add p (M p).dropLast u) cnt (upd M p (M p).dropLast) R := by
  refine ⟨h.tm, fun q => ?_, h.nod, h.mem, fun q => ?_, fun q y hy => ?_, h.rV, h.unod, h.bad⟩
  · rw [clsL_add]
    unfold upd
    split
    · rfl
    · exact h.cls q
  · unfold upd
    split
    · exact (h.mnod p).sublist (List.dropLast_sublist _)
    · exact h.mnod q
  · unfold upd at hy
    split at hy
    · exact h.mU p y (List.dropLast_subset _ hy)
    · exact h.mU q y hy
end
theorem hasH_mem {l : List Hsh} {h : Hsh} : hasH l h = true ↔ h ∈ l := by
  unfold hasH
  simp only [List.any_eq_true, decide_eq_true_eq]
  constructor
  · rintro ⟨x, hx, rfl⟩; exact hx
  · intro hx; exact ⟨h, hx, rfl⟩
/-- the classes of paths behind a name -/
def nameM (M : Pth → List Hsh) (p : Pth) (h : Hsh) : Pth → List Hsh := if hasH (M p) h then M else upd M p (M p ++ [h])
theorem inv_name {own : Hsh} {U : List Hsh} {V : List Pth} {S S' : Sst} {cnt : Pth → Nat} {M : Pth → List Hsh} {h : Hsh} {p : Pth} (hI : InvP own U V S cnt M (there cnt M)) (hU : h ∈ U) (hV : p ∈ V) (hq : NameQ own S S' h p) : InvP own U V S' cnt (nameM M p h) (there cnt (nameM M p h)) := by
  rw [NameQ, hI.cls] at hq
  unfold nameM
  rcases hq with ⟨h1, rfl⟩ | ⟨h1, u, hq⟩
  · rw [if_pos h1]
    exact hI
  · rw [if_neg (by rw [h1]; simp)]
    have hno : h ∉ M p := fun hm => by rw [hasH_mem.2 hm] at h1; cases h1
    have hA := hI.added p h u hU hno
    have hmu : ∀ (x : Hsh) (q : Pth), x ∈ upd M p (M p ++ [h]) q ↔ x ∈ M q ∨ (x = h ∧ q = p) := by
      intro x q
      unfold upd
      by_cases e : q = p
      · subst e; simp
      · simp [e]
    have htm := hI.tm p
    rcases hq with ⟨h2, hq⟩ | ⟨h2, rfl⟩
    · refine (hA.turned hU (fun _ => hV) hq).say fun x q => ?_
      unfold there
      rw [hmu]
      by_cases e : x = h ∧ q = p
      · obtain ⟨rfl, rfl⟩ := e
        simp
        omega
      · simp [e]
    · refine hA.say fun x q => ?_
      unfold there
      rw [hmu]
      by_cases e : x = h ∧ q = p
      · obtain ⟨rfl, rfl⟩ := e
        constructor
        · exact fun h => ⟨.inl h.1, h.2⟩
        · rintro ⟨_, h3⟩
          omega
      · simp [e]
theorem inv_unname {own : Hsh} {U : List Hsh} {V : List Pth} {S S' : Sst} {cnt : Pth → Nat} {M : Pth → List Hsh} {h : Hsh} {p : Pth} {l : List Hsh} (hI : InvP own U V S cnt M (there cnt M)) (hl : M p = l ++ [h]) (hq : UnnameQ own S S' h p) : InvP own U V S' cnt (upd M p l) (there cnt (upd M p l)) := by
  obtain ⟨S1, u, hc, rfl⟩ := hq
  have hcl : clsL S p = M p := hI.cls p
  have hdl : (M p).dropLast = l := by rw [hl]; simp
  have hnod := hI.mnod p
  rw [hl, List.nodup_append] at hnod
  have hno : h ∉ l := fun hm => hnod.2.2 h hm h (by simp) rfl
  have hmu : ∀ (x : Hsh) (q : Pth), x ∈ upd M p l q ↔ x ∈ M q ∧ ¬ (x = h ∧ q = p) := by
    intro x q
    unfold upd
    by_cases e : q = p
    · subst e
      rw [if_pos rfl, hl]
      by_cases e2 : x = h
      · subst e2; simp [hno]
      · simp [e2]
    · simp [e]
  have htm := hI.tm p
  rw [hcl]
  rcases hc with ⟨h2, hq⟩ | ⟨h2, rfl⟩
  · have h3 := (hI.turned (hI.mU p h (by rw [hl]; simp)) (fun e => by cases e) hq).dropped p u
    rw [hdl] at h3 ⊢
    refine h3.say fun x q => ?_
    unfold there
    rw [hmu]
    by_cases e : x = h ∧ q = p
    · simp [e]
    · simp [e]
  · have h3 := hI.dropped p u
    rw [hdl] at h3 ⊢
    refine h3.say fun x q => ?_
    unfold there
    rw [hmu]
    by_cases e : x = h ∧ q = p
    · obtain ⟨rfl, rfl⟩ := e
      constructor
      · rintro ⟨_, h4⟩
        omega
      · rintro ⟨⟨_, h4⟩, _⟩
        exact absurd ⟨rfl, rfl⟩ h4
    · simp [e]
end Go.Proofs.Ytfppddnfdinipaa
