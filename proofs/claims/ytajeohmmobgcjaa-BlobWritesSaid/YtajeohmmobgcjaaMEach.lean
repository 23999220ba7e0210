/- package blob: the iterator over the sectors of runs. -/
import Derived.Test.YtajeohmmobgcjaaMFieldA
import Derived.RangeFuncNested
import Derived.RangeFuncBound
import Derived.RangeFuncCalls
import Derived.RangeFuncLeaves
import Derived.Shelf.Abstract
import Derived.OwnWalkIn
import Derived.TacticsInMore
import Derived.LoopNIn
import Derived.LoopIn
namespace Go.Proofs.Ytajeohmmobgcjaa
open Go Go.RowKit Go.Shelf
attribute [local go_sem] Oper.semAt_some
/-- what a round leaves alone: what lay ahead, but for S; what the iterator has made -/
structure KeepsI (S : Nat → Prop) (n₀ : Nat) (W W' : World) : Prop where
  size : W.heap.size ≤ W'.heap.size
  old : ∀ k o, k < n₀ → ¬ S k → W.heap[k]? = some o → o.isCells = true → W'.heap[k]? = some o
  run : ∀ k cs fr, n₀ ≤ k → W.heap[k]? = some (.cells cs 40 fr) → W'.heap[k]? = some (.cells cs 40 fr)
variable {S : Nat → Prop} {n₀ : Nat}
theorem KeepsI.refl (W : World) : KeepsI S n₀ W W := ⟨Nat.le_refl _, fun _ _ _ _ h _ => h, fun _ _ _ _ h => h⟩
theorem KeepsI.trans {A B C : World} (h : KeepsI S n₀ A B) (k : KeepsI S n₀ B C) : KeepsI S n₀ A C :=
  ⟨Nat.le_trans h.size k.size, fun i o h1 h2 h3 h4 => k.old i o h1 h2 (h.old i o h1 h2 h3 h4) h4, fun i cs fr h1 h2 => k.run i cs fr h1 (h.run i cs fr h1 h2)⟩
theorem KeepsI.alloc (W : World) (o : Obj) : KeepsI S n₀ W (W.alloc o) :=
  ⟨by simp, fun k _ _ _ h _ => (Below.heap_alloc W o k (Array.getElem?_eq_some_iff.1 h).1).trans h, fun k _ _ _ h => (Below.heap_alloc W o k (Array.getElem?_eq_some_iff.1 h).1).trans h⟩
theorem KeepsI.below {W W' : World} (h : Below W.heap.size W W') : KeepsI S n₀ W W' :=
  ⟨h.size, fun k _ _ _ hk _ => (h.block k (Array.getElem?_eq_some_iff.1 hk).1).trans hk, fun k _ _ _ hk => (h.block k (Array.getElem?_eq_some_iff.1 hk).1).trans hk⟩
theorem KeepsI.putObj {w : World} (hn : n₀ ≤ w.heap.size) (W : World) (l : Nat) (o o' : Obj) (hl : w.heap.size ≤ l) (h : W.heap[l]? = some o) (hc : o.isCells = false) (_ : o.isWalk = false) : KeepsI S n₀ W (W.putObj l o') :=
  ⟨by simp, fun k _ h1 _ hk _ => (World.putObj_heap_other (by omega)).trans hk, fun k cs fr _ hk => (World.putObj_heap_other (fun e => by
    subst e
    rw [h] at hk
    injection hk with hk
    subst hk
    cases hc)).trans hk⟩
theorem KeepsI.cell {W W' : World} (h : KeepsI S n₀ W W') {b i : Nat} {v : Value} (hb : b < n₀) (hs : ¬ S b) (hc : W.cell? ⟨b, i, none⟩ = some v) : W'.cell? ⟨b, i, none⟩ = some v := by
  have hlt := World.block_lt_of_cell? W _ hc
  have ho : W.heap[b]? = some W.heap[b] := Array.getElem?_eq_getElem hlt
  have h2 : W'.heap[b]? = W.heap[b]? := by
    rw [ho]
    refine h.old b _ hb hs ho ?_
    cases hob : W.heap[b] with
    | cells => rfl
    | _ => (rw [World.cell?] at hc; simp only [ho, hob] at hc; cases hc)
  exact (World.cell?_of_block h2).trans hc
theorem KeepsI.blk {W W' : World} (h : KeepsI S n₀ W W') {g : Nat} {cs : Array Value} (hg : n₀ ≤ g) (hb : Blk W g 40 cs) : Blk W' g 40 cs := h.run g cs (0, 0) hg hb
theorem pos_at : ∀ (rs : List Run) (i : Nat) (r : Run) (k : Nat), rs[i]? = some r → k < r.2.toNat → (pos rs)[(pos (rs.take i)).length + k]? = some (r.1.toNat + k)
  | [], i, r, k, h, _ => by simp at h
  | q :: rs, 0, r, k, h, hk => by
    simp only [List.getElem?_cons_zero, Option.some.injEq] at h
    subst h
    show (posR q ++ pos rs)[0 + k]? = _
    rw [Nat.zero_add, List.getElem?_append_left (by simpa [posR] using hk)]
    simp [posR, hk]
  | q :: rs, i + 1, r, k, h, hk => by
    show (posR q ++ pos rs)[(posR q ++ pos (rs.take i)).length + k]? = _
    rw [List.length_append, List.getElem?_append_right (by omega), show (posR q).length + (pos (rs.take i)).length + k - (posR q).length = (pos (rs.take i)).length + k by omega]
    exact pos_at rs i r k (by simpa using h) hk
theorem pos_take (rs : List Run) (i : Nat) (r : Run) (h : rs[i]? = some r) : (pos (rs.take (i + 1))).length = (pos (rs.take i)).length + r.2.toNat := by
  obtain ⟨hi, he⟩ := List.getElem?_eq_some_iff.1 h
  rw [List.take_succ_eq_append_getElem hi, he]
  simp [pos, posR]
theorem pos_take_le (rs : List Run) (i : Nat) : (pos (rs.take i)).length ≤ (pos rs).length := by
  have : pos rs = pos (rs.take i) ++ pos (rs.drop i) := by
    unfold pos
    rw [← List.flatMap_append, List.take_append_drop]
  rw [this, List.length_append]
  omega
def posE (rs : List Run) (x : Nat) : Array Value := #[.int .i64 (((pos rs).getD x 0 : Nat) : Int)]
set_option maxRecDepth 100000 in
set_option maxHeartbeats 2000000 in
theorem each1_in (F : Fence) (n : Nat) (h1 : F.fn 84) (hro : F.round = none) (hn : 1 ≤ n) (l Bd cp : Nat) (A : Option Addr) (rs : List Run) (hlen : rs.length ≤ 1000000) (hd : ∀ r ∈ rs, 0 ≤ r.1 ∧ 0 ≤ r.2 ∧ r.1 + r.2 ≤ 1000000) (J Jx : List Nat → World → Prop)
    (hJ : ∀ s W o, J s W → n₀ ≤ W.heap.size → J s (W.alloc o))
    (hY : ∀ pre x W, J pre W → pre.length < (pos rs).length → YieldAt F (n - 1) Try.prog l (posE rs x) W fun e W' =>
      (e = .returned (.bool true) ∧ J (pre ++ [x]) W' ∧ KeepsI S n₀ W W') ∨ (e = .returned (.bool false) ∧ Jx (pre ++ [x]) W'))
    (W : World) (hW : n₀ ≤ W.heap.size) (hb : W.cell? ⟨Bd, 0, none⟩ = some (.slice A rs.length cp)) (hr : 0 < rs.length → ∃ b off, A = some ⟨b, off, none⟩ ∧ b < n₀ ∧ ¬ S b ∧ ∀ j r, rs[j]? = some r → W.cell? ⟨b, off + j * 2, none⟩ = some (.int .i64 r.1) ∧ W.cell? ⟨b, off + j * 2 + 1, none⟩ = some (.int .i64 r.2)) (h0 : J [] W) :
    CallsIn F n Try.prog 84 #[.func (.yield l) #[] #[], .pointer (some ⟨Bd, 0, none⟩)] W fun e W' => (∃ v, e = .returned v) ∧
      ((∃ ys, ys = List.range (pos rs).length ∧ J ys W') ∨ (∃ pre, (∃ k, k < (pos rs).length ∧ pre = List.range (k + 1)) ∧ Jx pre W')) := by
  have HR := hide hr
  have HY := hide hY
  have HD := hide hd
  have HJ := hide hJ
  clear hr hY hd hJ
  refine callsIn_of_wp Try.func84 rfl h1 ?_ hro
  simp only [Try.ntmps84, List.size_toArray, List.length_cons, List.length_nil, Nat.reduceAdd, Nat.reduceSub, Array.replicate_succ, Array.replicate_zero, List.push_toArray, List.append_toArray, List.nil_append, List.cons_append]
  gi_wp2
  gi_loopw [8] (fun i wr => ∃ k : Nat, k ≤ rs.length ∧ i = .int .i64 (k : Int) ∧ J (List.range (pos (rs.take k)).length) wr ∧ KeepsI S n₀ W wr)
    (fun i _ => rs.length - (intOf i).toNat)
  case atStart => exact ⟨0, by omega, rfl, h0, KeepsI.refl _⟩
  case round =>
    obtain ⟨k, hk, rfl, hJs, hnx⟩ := hrel
    have HJs := hide hJs
    have HN := hide hnx
    clear hJs hnx
    by_cases hk2 : k < rs.length
    · obtain ⟨r, hrk⟩ : ∃ r, rs[k]? = some r := ⟨_, List.getElem?_eq_getElem hk2⟩
      obtain ⟨b, off, hA, hbn, hSb, hcs⟩ := HR.out (by omega)
      subst hA
      have c1 := HN.out.cell hbn hSb (hcs k r hrk).1
      have c2 := HN.out.cell hbn hSb (hcs k r hrk).2
      have n1 : (k : Int) < (rs.length : Int) := by omega
      have n2 : (0 : Int) ≤ (k : Int) := by omega
      have hpt := pos_take rs k r hrk
      have hrl := HD.out r (List.mem_of_getElem? hrk)
      obtain ⟨d1, d2, d3⟩ := hrl
      obtain ⟨q, hq⟩ : ∃ q, q = (pos (rs.take k)).length := ⟨_, rfl⟩
      have hJ0 := HJs.out
      rw [← hq] at hpt hJ0
      have HQ := hide (And.intro hpt (And.intro hq hrk))
      clear hpt hq hrk HJs hcs
      gi_wp2
      have hwn : n₀ ≤ wr.heap.size := Nat.le_trans hW HN.out.size
      have hJ1 := HJ.out _ wr (.cells #[.int .i64 r.1, .int .i64 r.2] 40) hJ0 hwn
      have hK1 := HN.out.trans (KeepsI.alloc wr (.cells #[.int .i64 r.1, .int .i64 r.2] 40))
      have hb1 := Blk.new wr 40 #[.int .i64 r.1, .int .i64 r.2]
      generalize wr.alloc (.cells #[.int .i64 r.1, .int .i64 r.2] 40) = w1 at hJ1 hK1 hb1 ⊢
      generalize wr.heap.size = g1 at hwn hb1 ⊢
      have H1 := hide (And.intro hJ1 (And.intro hK1 (And.intro hb1 hwn)))
      clear hJ0 hJ1 hK1 hb1 hwn HN c1 c2
      gi_loopw [5] (fun v w2 => ∃ j : Nat, j ≤ r.2.toNat ∧ v = .int .i64 (r.1 + (j : Int)) ∧ J (List.range (q + j)) w2 ∧ KeepsI S n₀ w1 w2) (fun v _ => r.2.toNat - (intOf v - r.1).toNat)
      case atStart => exact ⟨0, by omega, by simp, H1.out.1, KeepsI.refl _⟩
      case round =>
        obtain ⟨j, hj, rfl, hJs, hnx⟩ := hrel
        have hb2 := hnx.blk H1.out.2.2.2 H1.out.2.2.1
        have c1 := hb2.cell 0
        have c2 := hb2.cell 1
        have hlt2 := hb2.lt
        have HJs := hide hJs
        have HN := hide hnx
        clear hJs hnx hb2
        by_cases hj2 : j < r.2.toNat
        · have n3 : r.1 + (j : Int) < r.1 + r.2 := by omega
          have hle := pos_take_le rs (k + 1)
          have hpe : posE rs (q + j) = #[.int .i64 (r.1 + (j : Int))] := by
            unfold posE
            have h := pos_at rs k r j HQ.out.2.2 hj2
            rw [← HQ.out.2.1] at h
            rw [List.getD, h]
            show #[Value.int .i64 ((r.1.toNat + j : Nat) : Int)] = _
            rw [show ((r.1.toNat + j : Nat) : Int) = r.1 + (j : Int) by omega]
          obtain ⟨fn, tmps, assign, body, hy, hR⟩ := HY.out (List.range (q + j)) (q + j) wr HJs.out (by rw [List.length_range]; have := HQ.out.1; omega)
          rw [hpe] at hy
          gi_wp2
          refine hR.mono ?_
          rintro e W3 (⟨rfl, hJ3, hk3⟩ | ⟨rfl, hJx3⟩)
          · have H3 := hide (And.intro hJ3 hk3)
            clear hJ3 hk3
            gi_wp2
            exact ⟨⟨j + 1, by omega, by go_num, by rw [← Nat.add_assoc, List.range_succ]; exact H3.out.1, HN.out.trans H3.out.2⟩, by simp [intOf]; omega⟩
          · have H3 := hide hJx3
            clear hJx3
            gi_wp2
            refine bodyPost_ret (results_none rfl _ _ _) rfl ?_
            exact ⟨⟨_, rfl⟩, .inr ⟨_, ⟨q + j, by have := HQ.out.1; omega, (List.range_succ).symm⟩, H3.out⟩⟩
        · have n3 : ¬ (r.1 + (j : Int) < r.1 + r.2) := by omega
          obtain rfl : j = r.2.toNat := by omega
          gi_wp2
          refine ⟨⟨k + 1, by omega, by go_num, ?_, H1.out.2.1.trans HN.out⟩, by simp [intOf]; omega⟩
          rw [HQ.out.1]
          exact HJs.out
    · obtain rfl : k = rs.length := by omega
      have hJs := HJs.out
      rw [List.take_length] at hJs
      have HJ2 := hide hJs
      clear hJs
      gi_wp2
      go_end0
      exact ⟨⟨_, rfl⟩, .inl ⟨_, rfl, HJ2.out⟩⟩
theorem each_any (A : Option Addr) (n cp : Nat) (w : World) : Calls Try.prog 74 #[.slice A n cp] w fun e w' => e = .returned (.func (.func 84) #[] #[.pointer (some ⟨w.heap.size, 0, none⟩)]) ∧ w' = w.alloc (.cells #[.slice A n cp] 24) := by
  go_enter Try.func74, Try.ntmps74
  go_wp2
  go_ret
  exact ⟨rfl, rfl⟩
/-- the sectors of runs, as a loop is owed them -/
theorem each_stops (F : Fence) (n : Nat) (h1 : F.fn 84) (hro : F.round = none) (hn : 1 ≤ n) (Bd cp : Nat) (A : Option Addr) (rs : List Run) (hlen : rs.length ≤ 1000000) (hd : ∀ r ∈ rs, 0 ≤ r.1 ∧ 0 ≤ r.2 ∧ r.1 + r.2 ≤ 1000000) (w : World) (hw : n₀ ≤ w.heap.size) (hBd : Bd < w.heap.size)
    (hb : w.cell? ⟨Bd, 0, none⟩ = some (.slice A rs.length cp)) (hr : 0 < rs.length → ∃ b off, A = some ⟨b, off, none⟩ ∧ b < n₀ ∧ ¬ S b ∧ ∀ j r, rs[j]? = some r → w.cell? ⟨b, off + j * 2, none⟩ = some (.int .i64 r.1) ∧ w.cell? ⟨b, off + j * 2 + 1, none⟩ = some (.int .i64 r.2)) :
    SeqStopsK F n Try.prog 84 #[.pointer (some ⟨Bd, 0, none⟩)] (posE rs) (KeepsI S n₀) (fun ys => ys = List.range (pos rs).length) (fun pre => ∃ k, k < (pos rs).length ∧ pre = List.range (k + 1)) (pos rs).length w := fun l J Jx W hW hJ _ hY h0 =>
  each1_in F n h1 hro hn l Bd cp A rs hlen hd J Jx (fun s W1 o hs _ => hJ s W1 _ none hs (World.grownBy_alloc W1 o none) (fun r e => by cases e)) hY W (Nat.le_trans hw hW.size) ((hW.cell (p := ⟨Bd, 0, none⟩) hBd).trans hb) (fun h => by
    obtain ⟨b, off, e1, e2, e3, e4⟩ := hr h
    exact ⟨b, off, e1, e2, e3, fun j r hj => ⟨(hW.cell (p := ⟨b, off + j * 2, none⟩) (by show b < _; omega)).trans (e4 j r hj).1, (hW.cell (p := ⟨b, off + j * 2 + 1, none⟩) (by show b < _; omega)).trans (e4 j r hj).2⟩⟩) h0
end Go.Proofs.Ytajeohmmobgcjaa
