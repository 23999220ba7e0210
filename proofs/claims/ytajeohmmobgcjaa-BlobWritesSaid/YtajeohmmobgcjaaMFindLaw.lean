/- package blob: which sectors are free, which are found: plain. package blob: Need, Apart, Free. package blob: Find. -/
import Derived.Test.YtajeohmmobgcjaaMShape
import Derived.Test.YtajeohmmobgcjaaMFieldB
import Derived.Test.YtajeohmmobgcjaaMDevD
section
namespace Go.Proofs.Ytajeohmmobgcjaa
open Go Go.RowKit
/-- the free sectors ahead of one -/
def freeTo (rs : List Run) (k : Nat) : List Nat := (List.range k).filter fun x => !(pos rs).contains x
theorem freeTo_zero (rs : List Run) : freeTo rs 0 = [] := rfl
theorem freeTo_succ (rs : List Run) (k : Nat) : freeTo rs (k + 1) = freeTo rs k ++ (if (pos rs).contains k then [] else [k]) := by
  unfold freeTo
  rw [List.range_succ, List.filter_append]
  cases h : (pos rs).contains k <;> simp only [List.filter_cons, List.filter_nil, h, Bool.not_true, Bool.not_false, if_true, if_false, Bool.false_eq_true]
theorem freeTo_more (rs : List Run) (k : Nat) : ∀ j, ∃ t, freeTo rs (k + j) = freeTo rs k ++ t
  | 0 => ⟨[], by simp⟩
  | j + 1 => by
    obtain ⟨t, ht⟩ := freeTo_more rs k j
    refine ⟨t ++ (if (pos rs).contains (k + j) then [] else [k + j]), ?_⟩
    rw [← Nat.add_assoc, freeTo_succ, ht, List.append_assoc]
theorem freeTo_take {rs : List Run} {k d : Nat} (h : k ≤ d) : (freeTo rs d).take (freeTo rs k).length = freeTo rs k := by
  obtain ⟨t, ht⟩ := freeTo_more rs k (d - k)
  rw [show k + (d - k) = d by omega] at ht
  rw [ht, List.take_left']
  rfl
theorem freeTo_len_le {rs : List Run} {k d : Nat} (h : k ≤ d) : (freeTo rs k).length ≤ (freeTo rs d).length := by
  obtain ⟨t, ht⟩ := freeTo_more rs k (d - k)
  rw [show k + (d - k) = d by omega] at ht
  rw [ht, List.length_append]
  omega
theorem freeTo_len (rs : List Run) (k : Nat) : (freeTo rs k).length ≤ k := by
  have := List.length_filter_le (fun x => !(pos rs).contains x) (List.range k)
  rwa [List.length_range] at this
theorem mem_freeTo {rs : List Run} {k x : Nat} : x ∈ freeTo rs k ↔ x < k ∧ x ∉ pos rs := by
  unfold freeTo
  simp [List.mem_filter, List.mem_range]
theorem nodup_freeTo (rs : List Run) (k : Nat) : (freeTo rs k).Nodup := List.Pairwise.filter _ List.nodup_range
theorem nodup_sub : ∀ {a b : List Nat}, a.Nodup → (∀ x ∈ a, x ∈ b) → a.length ≤ b.length
  | [], b, _, _ => Nat.zero_le _
  | x :: a, b, h, hs => by
    obtain ⟨h1, h2⟩ := List.nodup_cons.1 h
    have hx : x ∈ b := hs x (by simp)
    have h3 := nodup_sub (a := a) (b := b.erase x) h2 fun y hy => by
      have hne : y ≠ x := fun e => h1 (e ▸ hy)
      exact (List.mem_erase_of_ne hne).2 (hs y (by simp [hy]))
    have h4 := List.length_erase_of_mem hx
    have h5 : 0 < b.length := List.length_pos_of_mem hx
    rw [List.length_cons]
    omega
/-- how many are free -/
theorem free_count {rs : List Run} {d : Nat} (hn : (pos rs).Nodup) (hl : ∀ x ∈ pos rs, x < d) : (freeTo rs d).length + (pos rs).length = d := by
  have h1 : (freeTo rs d ++ pos rs).Nodup := by
    rw [List.nodup_append]
    refine ⟨nodup_freeTo rs d, hn, fun a ha b hb e => ?_⟩
    subst e
    exact (mem_freeTo.1 ha).2 hb
  have h2 := nodup_sub (b := List.range d) h1 fun x hx => by
    rw [List.mem_range]
    rcases List.mem_append.1 hx with h | h
    · exact (mem_freeTo.1 h).1
    · exact hl x h
  have h3 := nodup_sub (a := List.range d) (b := freeTo rs d ++ pos rs) List.nodup_range fun x hx => by
    rw [List.mem_range] at hx
    rw [List.mem_append, mem_freeTo]
    by_cases h : x ∈ pos rs
    · exact .inr h
    · exact .inl ⟨hx, h⟩
  rw [List.length_range, List.length_append] at h2 h3
  omega
def lastR (l : List Run) : Run := l.getLast?.getD (0, 0)
theorem lastR_app (l : List Run) (r : Run) : lastR (l ++ [r]) = r := by simp [lastR]
theorem lastR_nil : lastR [] = (0, 0) := rfl
/-- one more sector that is found -/
def grp (l : List Run) (x : Nat) : List Run :=
  if 0 < (lastR l).2 ∧ (lastR l).1 + (lastR l).2 = (x : Int) then l.dropLast ++ [((lastR l).1, (lastR l).2 + 1)] else l ++ [((x : Int), 1)]
def grps (t : List Nat) : List Run := t.foldl grp []
theorem grps_app (t : List Nat) (x : Nat) : grps (t ++ [x]) = grp (grps t) x := by simp [grps]
theorem pos_app (a b : List Run) : pos (a ++ b) = pos a ++ pos b := by simp [pos]
structure GOk (l : List Run) (k : Nat) (t : List Nat) : Prop where
  each : ∀ r ∈ l, 0 ≤ r.1 ∧ 1 ≤ r.2 ∧ r.1 + r.2 ≤ (k : Int)
  len : l.length ≤ k
  apart : l.Pairwise fun a b => a.1 + a.2 < b.1
  pos : pos l = t
theorem GOk.nil (k : Nat) : GOk [] k [] := ⟨(fun r hr => by cases hr), Nat.zero_le _, List.Pairwise.nil, rfl⟩
theorem GOk.up {l : List Run} {k : Nat} {t : List Nat} (h : GOk l k t) : GOk l (k + 1) t :=
  ⟨fun r hr => by have := h.each r hr; omega, by have := h.len; omega, h.apart, h.pos⟩
theorem posR_one (x : Nat) : posR ((x : Int), 1) = [x] := by simp [posR]
theorem posR_more (a m : Int) (ha : 0 ≤ a) (hm : 1 ≤ m) : posR (a, m + 1) = posR (a, m) ++ [(a + m).toNat] := by
  have e : (m + 1).toNat = m.toNat + 1 := by omega
  have e2 : (a + m).toNat = a.toNat + m.toNat := by omega
  simp only [posR, e, e2, List.range_succ, List.map_append, List.map_cons, List.map_nil]
theorem GOk.grp {l : List Run} {k : Nat} {t : List Nat} (h : GOk l k t) : GOk (grp l k) (k + 1) (t ++ [k]) := by
  rcases List.eq_nil_or_concat l with rfl | ⟨i, r, hl⟩
  · have ht : t = [] := h.pos.symm
    subst ht
    show GOk [((k : Int), 1)] (k + 1) [k]
    refine ⟨fun r hr => ?_, by simp, List.pairwise_singleton _ _, ?_⟩
    · obtain rfl := List.mem_singleton.1 hr
      exact ⟨by omega, by omega, by omega⟩
    · simp [Go.Proofs.Ytajeohmmobgcjaa.pos, posR_one]
  · rw [List.concat_eq_append] at hl
    subst hl
    have hr := h.each r (by simp)
    have hp := List.pairwise_append.1 h.apart
    have hpp := h.pos
    rw [pos_app] at hpp
    have hr1 : Go.Proofs.Ytajeohmmobgcjaa.pos [r] = posR r := by simp [Go.Proofs.Ytajeohmmobgcjaa.pos]
    rw [hr1] at hpp
    unfold Go.Proofs.Ytajeohmmobgcjaa.grp
    rw [lastR_app, List.dropLast_concat]
    by_cases hc : 0 < r.2 ∧ r.1 + r.2 = (k : Int)
    · rw [if_pos hc]
      refine ⟨fun q hq => ?_, ?_, ?_, ?_⟩
      · rcases List.mem_append.1 hq with hq | hq
        · have := h.each q (by simp [hq])
          omega
        · obtain rfl := List.mem_singleton.1 hq
          show 0 ≤ r.1 ∧ 1 ≤ r.2 + 1 ∧ r.1 + (r.2 + 1) ≤ ((k + 1 : Nat) : Int)
          omega
      · have := h.len
        simp only [List.length_append, List.length_singleton] at this ⊢
        omega
      · rw [List.pairwise_append]
        refine ⟨hp.1, List.pairwise_singleton _ _, fun a ha b hb => ?_⟩
        obtain rfl := List.mem_singleton.1 hb
        exact hp.2.2 a ha r (by simp)
      · have e := posR_more r.1 r.2 hr.1 hr.2.1
        rw [pos_app, show Go.Proofs.Ytajeohmmobgcjaa.pos [(r.1, r.2 + 1)] = posR (r.1, r.2 + 1) by simp [Go.Proofs.Ytajeohmmobgcjaa.pos], e, hc.2, ← List.append_assoc, Int.toNat_natCast]
        exact congrArg (· ++ [k]) hpp
    · rw [if_neg hc]
      have hlt : r.1 + r.2 < (k : Int) := by omega
      refine ⟨fun q hq => ?_, ?_, ?_, ?_⟩
      · rcases List.mem_append.1 hq with hq | hq
        · have := h.each q hq
          omega
        · obtain rfl := List.mem_singleton.1 hq
          show 0 ≤ (k : Int) ∧ 1 ≤ (1 : Int) ∧ (k : Int) + 1 ≤ ((k + 1 : Nat) : Int)
          omega
      · have := h.len
        simp only [List.length_append, List.length_singleton] at this ⊢
        omega
      · rw [List.pairwise_append]
        refine ⟨h.apart, List.pairwise_singleton _ _, fun a ha b hb => ?_⟩
        obtain rfl := List.mem_singleton.1 hb
        rcases List.mem_append.1 ha with ha | ha
        · have h1 := hp.2.2 a ha r (by simp)
          show a.1 + a.2 < (k : Int)
          omega
        · obtain rfl := List.mem_singleton.1 ha
          exact hlt
      · rw [pos_app, h.pos, show Go.Proofs.Ytajeohmmobgcjaa.pos [((k : Int), (1 : Int))] = posR ((k : Int), 1) by simp [Go.Proofs.Ytajeohmmobgcjaa.pos], posR_one]
theorem gok (rs : List Run) : ∀ k, GOk (grps (freeTo rs k)) k (freeTo rs k)
  | 0 => GOk.nil 0
  | k + 1 => by
    rw [freeTo_succ]
    cases h : (pos rs).contains k with
    | true =>
      rw [if_pos rfl, List.append_nil]
      exact (gok rs k).up
    | false =>
      rw [if_neg (by simp), grps_app]
      exact (gok rs k).grp
/-- what is found -/
def findP (rs : List Run) (d n : Nat) : List Run := grps ((freeTo rs d).take n)
theorem findP_at {rs : List Run} {k d n : Nat} (h : k ≤ d) (hn : (freeTo rs k).length = n) : findP rs d n = grps (freeTo rs k) := by
  unfold findP
  rw [← hn, freeTo_take h]
/-- there is a place where all are found -/
theorem findP_where {rs : List Run} {n : Nat} : ∀ d, n ≤ (freeTo rs d).length → ∃ k, k ≤ d ∧ (freeTo rs k).length = n
  | 0, h => ⟨0, Nat.le_refl _, by rw [freeTo_zero] at h ⊢; simp at h ⊢; omega⟩
  | d + 1, h => by
    by_cases h2 : n ≤ (freeTo rs d).length
    · obtain ⟨k, hk, he⟩ := findP_where d h2
      exact ⟨k, by omega, he⟩
    · refine ⟨d + 1, Nat.le_refl _, ?_⟩
      rw [freeTo_succ, List.length_append] at h ⊢
      cases hc : (pos rs).contains d <;> simp only [hc, if_true, if_false, Bool.false_eq_true, List.length_nil, List.length_singleton] at h ⊢ <;> omega
end Go.Proofs.Ytajeohmmobgcjaa
end
section
namespace Go.Proofs.Ytajeohmmobgcjaa
open Go Go.RowKit
set_option maxRecDepth 100000
def needP (n : Int) : Int := if n ≤ 0 then 0 else (n - 1) / 64 + 1
theorem need_any (n : Int) (hn : -9223372036854775808 ≤ n ∧ n ≤ 9223372036854775807) (w : World) : Calls Try.prog 18 #[.int .i64 n] w fun e w' => e = .returned (.int .i64 (needP n)) ∧ w' = w := by
  by_cases h : n ≤ 0
  · rw [needP, if_pos h]
    go_enter Try.func18, Try.ntmps18
    go_wp2
    go_ret
    exact ⟨rfl, rfl⟩
  · rw [needP, if_neg h]
    have u := u64_pos (n - 1) (by omega) (by omega)
    have q1 : 0 ≤ (n - 1) / 64 := by omega
    have q2 : (n - 1) / 64 < 9223372036854775807 := by omega
    go_enter Try.func18, Try.ntmps18
    go_wp2
    go_ret
    exact ⟨rfl, rfl⟩
theorem RunsM.below {w w' : World} {v : Value} {l : List Run} (h : RunsM w w.heap.size v l) (hb : Below w.heap.size w w') : RunsM w' w'.heap.size v l := (h.alike fun k hk => hb.block k hk).widen hb.size
theorem lapart_any (l a d : Int) (h64 : rightP l a d → d ≤ 64) (v : Value) (rs : List Run) (hlen : rs.length ≤ 1000000) (w : World) (hrs : RunsM w w.heap.size v rs) :
    Calls Try.prog 20 #[.agg #[.int .i64 l, .int .i64 a, .int .i64 d], v] w fun e w' => e = .returned (.bool (decide (apartP l a d rs))) ∧ Below w.heap.size w w' := by
  have hal := hrs.below ((Below.refl _ w).alloc (Nat.le_refl _) (.cells #[.int .i64 l, .int .i64 a, .int .i64 d] 23))
  clear hrs
  go_enter Try.func20, Try.ntmps20
  go_wp2_with fail
  refine (made_all l a d h64 v rs hlen _ hal).mono ?_
  rintro e w1 ⟨hb, h⟩
  have hb' : Below w.heap.size w w1 := ((Below.refl _ w).alloc (Nat.le_refl _) _).next hb
  have HB := hide hb'
  clear hb hb'
  rcases h with ⟨g, b, m, rfl, _, _, _, _, hap⟩ | ⟨rfl, hap⟩
  · dsimp only
    go_wp2_with fail
    go_ret
    rw [decide_eq_true hap]
    exact ⟨rfl, HB.out⟩
  · dsimp only
    go_wp2_with fail
    go_ret
    rw [decide_eq_false hap]
    exact ⟨rfl, HB.out⟩
def freeN (l a d : Int) (rs : List Run) : Int := if apartP l a d rs then ((freeTo rs d.toNat).length : Int) else 0
def freeE (l a d : Int) (rs : List Run) : Int := if apartP l a d rs then 0 else 2
theorem apart_count {l a d : Int} {rs : List Run} (h : apartP l a d rs) : (freeTo rs d.toNat).length + (pos rs).length = d.toNat :=
  free_count h.2.2 fun x hx => by have := pos_lt h.2.1 x hx; omega
theorem apart_d {l a d : Int} {rs : List Run} (h : apartP l a d rs) : 1 ≤ d ∧ d ≤ 8192 := h.1.2.2.1
theorem lfree_any (l a d : Int) (h64 : rightP l a d → d ≤ 64) (v : Value) (rs : List Run) (hlen : rs.length ≤ 1000000) (w : World) (hrs : RunsM w w.heap.size v rs) :
    Calls Try.prog 16 #[.agg #[.int .i64 l, .int .i64 a, .int .i64 d], v] w fun e w' => e = .returned (.tuple #[.int .i64 (freeN l a d rs), .int .i64 (freeE l a d rs)]) ∧ Below w.heap.size w w' := by
  have hal := hrs.below ((Below.refl _ w).alloc (Nat.le_refl _) (.cells #[.int .i64 l, .int .i64 a, .int .i64 d] 23))
  clear hrs
  go_enter Try.func16, Try.ntmps16
  go_wp2_with fail
  refine (made_all l a d h64 v rs hlen _ hal).mono ?_
  rintro e w1 ⟨hb, h⟩
  have hb' : Below w.heap.size w w1 := ((Below.refl _ w).alloc (Nat.le_refl _) _).next hb
  have HB := hide hb'
  clear hb hb'
  rcases h with ⟨g, b, m, rfl, _, _, hF, _, hap⟩ | ⟨rfl, hap⟩
  · have hN : freeN l a d rs = (d.toNat : Int) - ((pos rs).length : Int) := by
      have := apart_count hap
      rw [freeN, if_pos hap]
      omega
    have hE : freeE l a d rs = 0 := if_pos hap
    have c1 := hF.blk.cell 1
    have c2 := hF.blk.cell 2
    have hlt := hF.blk.lt
    have hc := apart_count hap
    have hd := apart_d hap
    have n1 : (0 : Int) ≤ (d.toNat : Int) := by omega
    have n2 : (d.toNat : Int) ≤ 8192 := by omega
    have n3 : (0 : Int) ≤ ((pos rs).length : Int) := by omega
    have n4 : ((pos rs).length : Int) ≤ 8192 := by omega
    clear hF hap hc hd
    dsimp only
    go_wp2_with fail
    go_quiet (fail)
    go_wp2_with fail
    refine bodyPost_ret (v := .tuple #[.int .i64 ((d.toNat : Int) - ((pos rs).length : Int)), .int .i64 0]) (by simp [results, Try.f16, go_sem]) rfl ?_
    rw [hN, hE]
    exact ⟨rfl, below_drewN HB.out _⟩
  · have hN : freeN l a d rs = 0 := if_neg hap
    have hE : freeE l a d rs = 2 := if_neg hap
    dsimp only
    go_wp2_with fail
    refine bodyPost_ret (v := .tuple #[.int .i64 0, .int .i64 2]) (by simp [results, Try.f16, go_sem]) rfl ?_
    rw [hN, hE]
    exact ⟨rfl, HB.out⟩
end Go.Proofs.Ytajeohmmobgcjaa
end
section
namespace Go.Proofs.Ytajeohmmobgcjaa
open Go Go.RowKit
set_option maxRecDepth 100000
theorem lastR_ok {l : List Run} {k : Nat} {t : List Nat} (h : GOk l k t) : 0 ≤ (lastR l).1 ∧ 0 ≤ (lastR l).2 ∧ (lastR l).1 + (lastR l).2 ≤ (k : Int) := by
  rcases List.eq_nil_or_concat l with rfl | ⟨i, r, hl⟩
  · rw [lastR_nil]
    exact ⟨by simp, by simp, by simp⟩
  · rw [List.concat_eq_append] at hl
    subst hl
    rw [lastR_app]
    have := h.each r (by simp)
    omega
theorem Bits.has {x : Nat} {l : List Nat} (h : Bits x l) (k : Nat) (hk : k < 64) : x.testBit k = l.contains k := h.2 k hk
/-- what Find is in the loop -/
structure FindAt (w0 w : World) (B L g b : Nat) (D : Nat) (rs : List Run) (m : Option Nat) (n : Nat) (k : Nat) (M O : Value) : Prop where
  kd : k ≤ D
  len : (freeTo rs k).length ≤ n
  many : M = .int .i64 ((n : Int) - ((freeTo rs k).length : Int))
  own : OwnRuns B w O (grps (freeTo rs k))
  last : Blk w L 40 #[.int .i64 (lastR (grps (freeTo rs k))).1, .int .i64 (lastR (grps (freeTo rs k))).2]
  field : FieldAt w g b D (pos rs).length m
  sz : B ≤ w.heap.size
  lt : L < B ∧ g < L ∧ b < L
  below : Below w0.heap.size w0 w
  w0 : w0.heap.size ≤ L
theorem FindAt.next {w0 w W : World} {B L g b D n k : Nat} {rs : List Run} {m : Option Nat} {M O O' : Value} (h : FindAt w0 w B L g b D rs m n k M O) (hk : k < D) (hn : (freeTo rs k).length ≠ n) (hs : freeTo rs (k + 1) = freeTo rs k ++ [k])
    (own : OwnRuns B W O' (grp (grps (freeTo rs k)) k)) (last : Blk W L 40 #[.int .i64 (lastR (grp (grps (freeTo rs k)) k)).1, .int .i64 (lastR (grp (grps (freeTo rs k)) k)).2])
    (hg : W.heap[g]? = w.heap[g]?) (hb : W.heap[b]? = w.heap[b]?) (sz : B ≤ W.heap.size) (below : Below w0.heap.size w0 W) : FindAt w0 W B L g b D rs m n (k + 1) (.int .i64 ((n : Int) - ((freeTo rs k).length : Int) - 1)) O' := by
  have hl : (freeTo rs (k + 1)).length = (freeTo rs k).length + 1 := by rw [hs, List.length_append]; rfl
  have hgr : grps (freeTo rs (k + 1)) = grp (grps (freeTo rs k)) k := by rw [hs, grps_app]
  have := h.len
  exact ⟨by omega, by omega, by rw [hl]; congr 1; omega, by rw [hgr]; exact own, by rw [hgr]; exact last, h.field.up hg hb, sz, h.lt, below, h.w0⟩
set_option maxHeartbeats 2000000 in
theorem lfind_ok (l a d : Int) (h64 : d ≤ 64) (v : Value) (rs : List Run) (hlen : rs.length ≤ 1000000) (hap : apartP l a d rs) (n : Nat) (hn : n ≤ (freeTo rs d.toNat).length) (w : World) (hrs : RunsM w w.heap.size v rs) :
    Calls Try.prog 14 #[.agg #[.int .i64 l, .int .i64 a, .int .i64 d], .int .i64 (n : Int), v] w fun e w' => ∃ o, e = .returned (.tuple #[o, .int .i64 0]) ∧ OwnRuns w.heap.size w' o (findP rs d.toNat n) ∧ Below w.heap.size w w' := by
  obtain ⟨D, rfl⟩ : ∃ D : Nat, d = (D : Int) := ⟨d.toNat, by have := apart_d hap; omega⟩
  rw [Int.toNat_natCast] at hn ⊢
  have hal := hrs.below ((Below.refl _ w).alloc (Nat.le_refl _) (.cells #[.int .i64 l, .int .i64 a, .int .i64 (D : Int)] 23))
  have hcnt := apart_count hap
  have hdd := apart_d hap
  rw [Int.toNat_natCast] at hcnt
  clear hrs
  go_enter Try.func14, Try.ntmps14
  go_wp2_with fail
  refine (made_all l a D (fun _ => h64) v rs hlen _ hal).mono ?_
  rintro e w1 ⟨hb, h⟩
  have hb' : Below w.heap.size w w1 := ((Below.refl _ w).alloc (Nat.le_refl _) _).next hb
  rcases h with ⟨g, b, m, rfl, hg0, hb0, hF, hBt, hap⟩ | ⟨rfl, hno⟩
  · rw [Int.toNat_natCast] at hF
    have c1 := hF.blk.cell 1
    have c2 := hF.blk.cell 2
    have hlt := hF.blk.lt
    have n1 : (0 : Int) ≤ (D : Int) := by omega
    have n2 : (D : Int) ≤ 64 := by omega
    have n3 : (0 : Int) ≤ ((pos rs).length : Int) := by omega
    have n4 : ((pos rs).length : Int) ≤ 64 := by omega
    have n5 : ¬ ((D : Int) - ((pos rs).length : Int) < (n : Int)) := by omega
    have n6 : (0 : Int) ≤ (n : Int) := by omega
    have HB := hide hb'
    have HF := hide (And.intro hF (And.intro hBt (And.intro hap (And.intro hg0 hb0))))
    have HN := hide (And.intro hn (And.intro hcnt hdd))
    clear hb hb' hF hBt hap hcnt hdd hal hn hg0 hb0
    dsimp only
    go_wp2_with fail
    go_quiet (fail)
    go_wp2_with fail
    have hL : Blk ((w1.drewN nq).alloc (.cells #[.int .i64 0, .int .i64 0] 40)) w1.heap.size 40 #[.int .i64 0, .int .i64 0] := Blk.new _ _ _
    have hb1 : Below w1.heap.size w1 ((w1.drewN nq).alloc (.cells #[.int .i64 0, .int .i64 0] 40)) := (below_drewN (Below.refl _ w1) nq).alloc (Nat.le_refl _) _
    have hs1 : ((w1.drewN nq).alloc (.cells #[.int .i64 0, .int .i64 0] 40)).heap.size = w1.heap.size + 1 := size_alloc _ _
    have ho1 : OwnRuns (w1.heap.size + 1) ((w1.drewN nq).alloc (.cells #[.int .i64 0, .int .i64 0] 40)) (.slice none 0 0) [] := ⟨World.ownsRow_nil _ _ _ _, fun r hr => by cases hr⟩
    have hAt : FindAt w ((w1.drewN nq).alloc (.cells #[.int .i64 0, .int .i64 0] 40)) (w1.heap.size + 1) w1.heap.size g b D rs m n 0 (.int .i64 (n : Int)) (.slice none 0 0) :=
      ⟨by omega, by simp [freeTo_zero], by simp [freeTo_zero], ho1, hL, HF.out.1.below hb1, by rw [hs1]; omega, ⟨by omega, by have := HF.out.1.lt; omega, by have := HF.out.1.lt; omega⟩, HB.out.next hb1, HB.out.size⟩
    generalize (w1.drewN nq).alloc (.cells #[.int .i64 0, .int .i64 0] 40) = W1 at hAt ⊢
    generalize w1.heap.size = L at hAt ⊢
    have HA := hide hAt
    clear hAt hL hb1 hs1 ho1 c1 c2 hlt
    go_loopw [1, 6, 10] (fun M O i wr => ∃ k : Nat, i = .int .i64 (k : Int) ∧ FindAt w wr (L + 1) L g b D rs m n k M O) (fun _ _ i _ => D - (intOf i).toNat)
    case atStart => exact ⟨0, rfl, HA.out⟩
    case round =>
      obtain ⟨k, rfl, hat⟩ := hrel
      have hG := gok rs k
      have HG := hide hG
      obtain ⟨l1, l2, l3⟩ := lastR_ok hG
      have hM := hat.many
      subst hM
      have hF := hat.field
      have hlt := hF.blk.lt
      have cL0 := hat.last.cell 0
      have cL1 := hat.last.cell 1
      have fL0 := hat.last.frozen 0
      have fL1 := hat.last.frozen 1
      have ltL := hat.last.lt
      have hkd := hat.kd
      have hlen2 := hat.len
      have HR := hide hat
      clear hat hG
      by_cases hfull : (freeTo rs k).length = n
      · have e0 : (n : Int) - ((freeTo rs k).length : Int) = 0 := by omega
        rw [e0]
        go_wp2_with fail
        refine bodyPost_ret (v := .tuple #[u6, .int .i64 0]) (by simp [results, Try.f14, go_sem]) rfl ⟨u6, rfl, ?_, HR.out.below⟩
        rw [findP_at HR.out.kd hfull]
        exact ⟨owned_baseN HR.out.own.1 fun h hh => by have := (owned_ltN HR.out.own.1 hh).1; have := HR.out.w0; omega, HR.out.own.2⟩
      · have hkD : k < D := by
          rcases Nat.lt_or_ge k D with h | h
          · exact h
          · obtain rfl : k = D := by omega
            have := HN.out.1
            omega
        have q1 : (0 : Int) < (n : Int) - ((freeTo rs k).length : Int) := by omega
        have q2 : (n : Int) - ((freeTo rs k).length : Int) ≤ 64 := by have := HN.out; omega
        have q3 : (k : Int) < 64 := by omega
        have q4 : (0 : Int) ≤ (k : Int) := by omega
        generalize hrem : (n : Int) - ((freeTo rs k).length : Int) = rem at q1 q2 ⊢
        have HREM := hide hrem
        clear hrem
        go_wp2_with fail
        refine (fhas_any k (by omega) wr HR.out.field HF.out.2.1.1).mono ?_
        rintro e w2 ⟨rfl, rfl⟩
        rw [HF.out.2.1.has k (by omega)]
        have hsucc := freeTo_succ rs k
        cases hc : (pos rs).contains k with
        | true =>
          rw [hc, if_pos rfl, List.append_nil] at hsucc
          dsimp only
          go_wp2_with fail
          have hr := HR.out
          refine ⟨⟨k + 1, by go_num, by omega, by rw [hsucc]; exact hr.len, by rw [hsucc, HREM.out], by rw [hsucc]; exact hr.own, by rw [hsucc]; exact hr.last, hr.field, hr.sz, hr.lt, hr.below, hr.w0⟩, by simp [intOf]; omega⟩
        | false =>
          rw [hc, if_neg (by simp)] at hsucc
          have hstep := grps_app (freeTo rs k) k
          rw [← hsucc] at hstep
          have hlen3 : (freeTo rs (k + 1)).length = (freeTo rs k).length + 1 := by rw [hsucc, List.length_append]; rfl
          by_cases pp : 0 < (lastR (grps (freeTo rs k))).2 ∧ (lastR (grps (freeTo rs k))).1 + (lastR (grps (freeTo rs k))).2 = (k : Int)
          · obtain ⟨p1, p2⟩ := pp
            · rw [grp, if_pos ⟨p1, p2⟩] at hstep
              obtain ⟨ini, r, hini⟩ : ∃ ini r, grps (freeTo rs k) = ini ++ [r] := by
                rcases List.eq_nil_or_concat (grps (freeTo rs k)) with h | ⟨i, r, h⟩
                · rw [h, lastR_nil] at p1
                  exact absurd p1 (by simp)
                · exact ⟨i, r, by rw [h, List.concat_eq_append]⟩
              have hown := HR.out.own
              rw [hini] at hown hstep
              rw [hini, lastR_app] at p1 p2 cL0 cL1 l1 l2 l3
              rw [lastR_app, List.dropLast_concat] at hstep
              obtain ⟨h, cap, rfl⟩ := owned_placeN hown.1 (by simp)
              have hth := own_there hown.1 (ini.length * 2) 2 (by simp; omega)
              have hh := owned_ltN hown.1 (g := h) rfl
              have hrng := own_range hown.1 (ini.length * 2) 2 [.int .i64 r.1, .int .i64 r.2] (by rw [runCells_app, List.drop_left' (runCells_len _)]; rfl)
              have d0 := hrng 0 _ rfl
              have d1 := hrng 1 _ rfl
              have hll : (ini ++ [r]).length = ini.length + 1 := by simp
              have hne : h ≠ L := by omega
              have hne2 : L ≠ h := by omega
              have hgl := HG.out.len
              rw [hini, hll] at hgl
              have HOWN := hide hown
              clear hown
              simp only [hll]
              have i1 : (0 : Int) ≤ (ini.length : Int) := by omega
              have i2 : (ini.length : Int) ≤ 64 := by omega
              have i3 : r.2 ≤ 64 := by omega
              have z1 := hth 0 (by omega)
              have z2 := hth 1 (by omega)
              have z3 := z1.2
              have z4 := z2.2
              rw [Nat.add_zero] at z3 d0
              clear z1 z2 hth hrng
              go_wp2_with fail
              have hr := HR.out
              have hown := HOWN.out
              have ho1 : OwnRuns (L + 1) (w2.setCell ⟨L, 1, none⟩ (.int .i64 (r.2 + 1))) (.slice (some ⟨h, 0, none⟩) (ini ++ [r]).length cap) (ini ++ [r]) := by
                refine ⟨?_, hown.2⟩
                refine owned_keepN hown.1 fun j hj _ => Below.heap_setCell _ _ _ _ ?_
                have hj : some h = some j := hj
                injection hj with hj
                show j ≠ L
                omega
              have ho1' := ho1.1
              rw [hll] at ho1'
              have ho2 := own_setCells ho1' (ini.length * 2) [.int .i64 r.1, .int .i64 (r.2 + 1)] (by simp; omega)
              rw [runCells_app, List.take_left' (runCells_len _), List.drop_eq_nil_of_le (by rw [List.length_append, runCells_len, runCells_len]; simp), List.append_nil] at ho2
              refine ⟨⟨k + 1, by go_num, ?_⟩, by simp [intOf]; omega⟩
              have hgrp : grp (grps (freeTo rs k)) k = ini ++ [(r.1, r.2 + 1)] := by rw [← grps_app, ← hsucc]; exact hstep
              rw [← HREM.out]
              refine hr.next hkD hfull hsucc ?_ ?_ ?_ ?_ ?_ ?_
              · rw [hgrp]
                refine ⟨?_, ?_⟩
                · rw [runCells_app, List.length_append]
                  exact ho2
                · intro q hq
                  rcases List.mem_append.1 hq with hq | hq
                  · exact hown.2 q (by simp [hq])
                  · obtain rfl := List.mem_singleton.1 hq
                    show (_ ∧ _) ∧ (_ ∧ _)
                    omega
              · rw [hgrp, lastR_app]
                have hbl := hr.last
                rw [hini, lastR_app] at hbl
                exact ((hbl.set_ 1 (.int .i64 (r.2 + 1))).far (by show L ≠ h; omega) _).far (by show L ≠ h; omega) _
              · have := hr.lt
                exact (Below.heap_setCell _ _ _ _ (by show g ≠ h; omega)).trans ((Below.heap_setCell _ _ _ _ (by show g ≠ h; omega)).trans (Below.heap_setCell _ _ _ _ (by show g ≠ L; omega)))
              · have := hr.lt
                exact (Below.heap_setCell _ _ _ _ (by show b ≠ h; omega)).trans ((Below.heap_setCell _ _ _ _ (by show b ≠ h; omega)).trans (Below.heap_setCell _ _ _ _ (by show b ≠ L; omega)))
              · simpa using hr.sz
              · have := hr.w0
                exact ((hr.below.setCell (by show w.heap.size ≤ L; omega) _).setCell (by show w.heap.size ≤ h; omega) _).setCell (by show w.heap.size ≤ h; omega) _
          · have hgrp : grp (grps (freeTo rs k)) k = grps (freeTo rs k) ++ [((k : Int), 1)] := if_neg pp
            have hr := HR.out
            have own1 : OwnRuns (L + 1) ((w2.setCell ⟨L, 0, none⟩ (.int .i64 (k : Int))).setCell ⟨L, 1, none⟩ (.int .i64 1)) u6 (grps (freeTo rs k)) := by
              refine ⟨owned_keepN hr.own.1 fun j hj _ => ?_, hr.own.2⟩
              have := (owned_ltN hr.own.1 hj).1
              exact (Below.heap_setCell _ _ _ _ (by show j ≠ L; omega)).trans (Below.heap_setCell _ _ _ _ (by show j ≠ L; omega))
            have hbl1 := (hr.last.set_ 0 (.int .i64 (k : Int))).set_ 1 (.int .i64 1)
            have hsz1 : ((w2.setCell ⟨L, 0, none⟩ (.int .i64 (k : Int))).setCell ⟨L, 1, none⟩ (.int .i64 1)).heap.size = w2.heap.size := by simp
            have hbe1 := (hr.below.setCell (p := ⟨L, 0, none⟩) (by have := hr.w0; exact this) (.int .i64 (k : Int))).setCell (p := ⟨L, 1, none⟩) (by have := hr.w0; exact this) (.int .i64 1)
            have hoth : ∀ j, j ≠ L → ((w2.setCell ⟨L, 0, none⟩ (.int .i64 (k : Int))).setCell ⟨L, 1, none⟩ (.int .i64 1)).heap[j]? = w2.heap[j]? := fun j hj =>
              (Below.heap_setCell _ _ _ _ hj).trans (Below.heap_setCell _ _ _ _ hj)
            have hgl := HG.out.len
            have hcells : ∀ j r, [((k : Int), (1 : Int))][j]? = some r → (((w2.setCell ⟨L, 0, none⟩ (.int .i64 (k : Int))).setCell ⟨L, 1, none⟩ (.int .i64 1)).alloc (.cells #[.int .i64 (k : Int), .int .i64 1] 40)).cell? ⟨w2.heap.size, 0 + j * 2, none⟩ = some (.int .i64 r.1) ∧ (((w2.setCell ⟨L, 0, none⟩ (.int .i64 (k : Int))).setCell ⟨L, 1, none⟩ (.int .i64 1)).alloc (.cells #[.int .i64 (k : Int), .int .i64 1] 40)).cell? ⟨w2.heap.size, 0 + j * 2 + 1, none⟩ = some (.int .i64 r.2) := by
              intro j r hj
              have hb := Blk.new ((w2.setCell ⟨L, 0, none⟩ (.int .i64 (k : Int))).setCell ⟨L, 1, none⟩ (.int .i64 1)) 40 #[.int .i64 (k : Int), .int .i64 1]
              rw [hsz1] at hb
              cases j with
              | zero =>
                injection hj with hj
                subst hj
                exact ⟨hb.cell 0, hb.cell 1⟩
              | succ j => simp at hj
            obtain ⟨v', w', happ, hown', hgr', hbe'⟩ := own1.app (news := [((k : Int), 1)]) (by rw [hsz1]; exact hr.sz) ((Below.refl _ _).alloc (Nat.le_refl _) (.cells #[.int .i64 (k : Int), .int .i64 1] 40)) (by simp) (by simp; omega) w2.heap.size 0 hcells (by
              intro r hr'
              obtain rfl := List.mem_singleton.1 hr'
              show (_ ∧ _) ∧ (_ ∧ _)
              omega) 1
            have hfin : FindAt w w' (L + 1) L g b D rs m n (k + 1) (.int .i64 (rem - 1)) v' := by
              rw [← HREM.out]
              have := hr.lt
              refine hr.next hkD hfull hsucc ?_ ?_ ?_ ?_ ?_ ?_
              · rw [hgrp]
                exact hown'
              · rw [hgrp, lastR_app]
                exact (hbe'.block L (by omega)).trans hbl1
              · exact (hbe'.block g (by omega)).trans (hoth g (by omega))
              · exact (hbe'.block b (by omega)).trans (hoth b (by omega))
              · have := hbe'.size
                have := hr.sz
                omega
              · have := hr.w0
                exact hbe1.trans (hbe'.mono (by omega))
            have HFIN := hide (And.intro hfin happ)
            clear hfin happ hown' hgr' hbe' own1 hbl1 hsz1 hbe1 hoth hgl hcells hr hF hgrp hstep hlen3
            dsimp only
            by_cases p1 : 0 < (lastR (grps (freeTo rs k))).2
            · have p2 : ¬ (lastR (grps (freeTo rs k))).1 + (lastR (grps (freeTo rs k))).2 = (k : Int) := fun h => pp ⟨p1, h⟩
              clear pp
              go_wp2_with (at_builtin; refine wpList_value (o := ⟨some 67, _, _, _, _, _⟩) rfl v' w' (exec_append (o := ⟨some 67, _, _, _, _, _⟩) (.tmp 64) (.tmp 66) 24 rfl u6 (.slice (some ⟨w2.heap.size, 0, none⟩) 1 1) _ _ _ rfl rfl HFIN.out.2) ?_)
              exact ⟨⟨k + 1, by go_num, HFIN.out.1⟩, by simp [intOf]; omega⟩
            · clear pp
              go_wp2_with (at_builtin; refine wpList_value (o := ⟨some 67, _, _, _, _, _⟩) rfl v' w' (exec_append (o := ⟨some 67, _, _, _, _, _⟩) (.tmp 64) (.tmp 66) 24 rfl u6 (.slice (some ⟨w2.heap.size, 0, none⟩) 1 1) _ _ _ rfl rfl HFIN.out.2) ?_)
              exact ⟨⟨k + 1, by go_num, HFIN.out.1⟩, by simp [intOf]; omega⟩
  · exact absurd hap hno
def findE (l a d : Int) (rs : List Run) (n : Int) : Int := if apartP l a d rs ∧ 0 ≤ n then (if ((freeTo rs d.toNat).length : Int) < n then 7 else 0) else 2
def findR (l a d : Int) (rs : List Run) (n : Int) : List Run := if findE l a d rs n = 0 then findP rs d.toNat n.toNat else []
theorem ownRuns_nil (B : Nat) (w : World) : OwnRuns B w (.slice none 0 0) [] := ⟨World.ownsRow_nil _ _ _ _, fun r hr => by cases hr⟩
theorem lfind_any (l a d : Int) (h64 : rightP l a d → d ≤ 64) (v : Value) (rs : List Run) (hlen : rs.length ≤ 1000000) (n : Int) (w : World) (hrs : RunsM w w.heap.size v rs) :
    Calls Try.prog 14 #[.agg #[.int .i64 l, .int .i64 a, .int .i64 d], .int .i64 n, v] w fun e w' => ∃ o, e = .returned (.tuple #[o, .int .i64 (findE l a d rs n)]) ∧ OwnRuns w.heap.size w' o (findR l a d rs n) ∧ Below w.heap.size w w' := by
  by_cases hap : apartP l a d rs
  · by_cases hn : 0 ≤ n
    · by_cases hf : ((freeTo rs d.toNat).length : Int) < n
      · have hE : findE l a d rs n = 7 := by rw [findE, if_pos ⟨hap, hn⟩, if_pos hf]
        have hR : findR l a d rs n = [] := by rw [findR, hE]; rfl
        rw [hE, hR]
        have hal := hrs.below ((Below.refl _ w).alloc (Nat.le_refl _) (.cells #[.int .i64 l, .int .i64 a, .int .i64 d] 23))
        have hcnt := apart_count hap
        have hdd := apart_d hap
        clear hrs hE hR
        go_enter Try.func14, Try.ntmps14
        go_wp2_with fail
        refine (made_all l a d h64 v rs hlen _ hal).mono ?_
        rintro e w1 ⟨hb, h⟩
        have hb' : Below w.heap.size w w1 := ((Below.refl _ w).alloc (Nat.le_refl _) _).next hb
        rcases h with ⟨g, b, m, rfl, hg0, hb0, hF, hBt, _⟩ | ⟨rfl, hno⟩
        · have c1 := hF.blk.cell 1
          have c2 := hF.blk.cell 2
          have hlt := hF.blk.lt
          have n1 : (0 : Int) ≤ (d.toNat : Int) := by omega
          have n2 : (d.toNat : Int) ≤ 8192 := by omega
          have n3 : (0 : Int) ≤ ((pos rs).length : Int) := by omega
          have n4 : ((pos rs).length : Int) ≤ 8192 := by omega
          have n5 : (d.toNat : Int) - ((pos rs).length : Int) < n := by omega
          have HB := hide hb'
          generalize (d.toNat : Int) = D at c1 n1 n2 n5
          clear hb hb' hF hBt hap hcnt hdd hal hf hg0 hb0
          dsimp only
          go_wp2_with fail
          go_quiet (fail)
          go_wp2_with fail
          refine bodyPost_ret (v := .tuple #[.slice none 0 0, .int .i64 7]) (by simp [results, Try.f14, go_sem]) rfl ⟨_, rfl, ownRuns_nil _ _, below_drewN HB.out _⟩
        · exact absurd hap hno
      · have hE : findE l a d rs n = 0 := by rw [findE, if_pos ⟨hap, hn⟩, if_neg hf]
        have hR : findR l a d rs n = findP rs d.toNat n.toNat := by rw [findR, hE]; rfl
        rw [hE, hR]
        have h := lfind_ok l a d (h64 hap.1) v rs hlen hap n.toNat (by omega) w hrs
        rwa [Int.toNat_of_nonneg hn] at h
    · have hE : findE l a d rs n = 2 := by rw [findE, if_neg (fun h => hn h.2)]
      have hR : findR l a d rs n = [] := by rw [findR, hE]; rfl
      rw [hE, hR]
      have hal := hrs.below ((Below.refl _ w).alloc (Nat.le_refl _) (.cells #[.int .i64 l, .int .i64 a, .int .i64 d] 23))
      clear hrs hE hR
      go_enter Try.func14, Try.ntmps14
      go_wp2_with fail
      refine (made_all l a d h64 v rs hlen _ hal).mono ?_
      rintro e w1 ⟨hb, h⟩
      have HB : Hid (Below w.heap.size w w1) := hide (((Below.refl _ w).alloc (Nat.le_refl _) _).next hb)
      rcases h with ⟨g, b, m, rfl, _⟩ | ⟨rfl, hno⟩
      · clear hb hal hap
        dsimp only
        go_wp2_with fail
        refine bodyPost_ret (v := .tuple #[.slice none 0 0, .int .i64 2]) (by simp [results, Try.f14, go_sem]) rfl ⟨_, rfl, ownRuns_nil _ _, HB.out⟩
      · exact absurd hap hno
  · have hE : findE l a d rs n = 2 := by rw [findE, if_neg (fun h => hap h.1)]
    have hR : findR l a d rs n = [] := by rw [findR, hE]; rfl
    rw [hE, hR]
    have hal := hrs.below ((Below.refl _ w).alloc (Nat.le_refl _) (.cells #[.int .i64 l, .int .i64 a, .int .i64 d] 23))
    clear hrs hE hR
    go_enter Try.func14, Try.ntmps14
    go_wp2_with fail
    refine (made_all l a d h64 v rs hlen _ hal).mono ?_
    rintro e w1 ⟨hb, h⟩
    have HB : Hid (Below w.heap.size w w1) := hide (((Below.refl _ w).alloc (Nat.le_refl _) _).next hb)
    rcases h with ⟨g, b, m, rfl, _, _, _, _, h⟩ | ⟨rfl, hno⟩
    · exact absurd h hap
    · clear hb hal hap
      dsimp only
      go_wp2_with fail
      refine bodyPost_ret (v := .tuple #[.slice none 0 0, .int .i64 2]) (by simp [results, Try.f14, go_sem]) rfl ⟨_, rfl, ownRuns_nil _ _, HB.out⟩
end Go.Proofs.Ytajeohmmobgcjaa
end
