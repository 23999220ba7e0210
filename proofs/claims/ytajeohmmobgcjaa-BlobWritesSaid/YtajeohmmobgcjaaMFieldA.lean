/- package blob: a field's map. -/
import Derived.Test.YtajeohmmobgcjaaMShape
import Derived.RangeFuncNested
import Derived.Test.YtajeohmmobgcjaaMRDevA
namespace Go.Proofs.Ytajeohmmobgcjaa
open Go Go.RowKit
set_option maxRecDepth 100000
def mapObj : Option Nat → Obj
  | none => .map #[] 0
  | some x => .map #[⟨.int .i64 0, .int .u64 (x : Int), 0⟩] 1
theorem look0 {w : World} {b : Nat} {m : Option Nat} (h : w.heap[b]? = some (mapObj m)) : (Instr.lookup 86 (.map (some b)) (.int .i64 0) false).run Try.prog w = .ok (.int .u64 ((m.getD 0 : Nat) : Int)) w := by
  have hu := Try.underlying86
  cases m with
  | none =>
    have hg : (getObj b).run Try.prog w = .ok (.map #[] 0) w := by
      simp [getObj, Sem.run, show w.heap[b]? = some (.map #[] 0) from h]
    have hc : (Instr.checkKey true 10000 3 (.int .i64 0)).run Try.prog w = .ok () w := by kernel_rfl
    have hf : (Instr.findKey 3 (.int .i64 0) []).run Try.prog w = .ok none w := by kernel_rfl
    have hz : (zeroValue 113).run Try.prog w = .ok (.int .u64 0) w := by kernel_rfl
    unfold Instr.lookup
    go_simp
  | some x =>
    have hg : (getObj b).run Try.prog w = .ok (.map #[⟨.int .i64 0, .int .u64 (x : Int), 0⟩] 1) w := by
      simp [getObj, Sem.run, show w.heap[b]? = some (.map #[⟨.int .i64 0, .int .u64 (x : Int), 0⟩] 1) from h]
    have hc : (Instr.checkKey false 10000 3 (.int .i64 0)).run Try.prog w = .ok () w := by kernel_rfl
    have hf : (Instr.findKey 3 (.int .i64 0) [⟨.int .i64 0, .int .u64 (x : Int), 0⟩]).run Try.prog w = .ok (some (0, .int .u64 (x : Int))) w := by kernel_rfl
    unfold Instr.lookup
    go_simp
theorem upd0 {w : World} {b : Nat} {m : Option Nat} (h : w.heap[b]? = some (mapObj m)) (y : Nat) : (Instr.mapUpdate 86 (.map (some b)) (.int .i64 0) (.int .u64 (y : Int))).run Try.prog w = .ok () (w.putObj b (mapObj (some y))) := by
  have hu := Try.underlying86
  have hc : (Instr.checkKey false 10000 3 (.int .i64 0)).run Try.prog w = .ok () w := by kernel_rfl
  cases m with
  | none =>
    have hg : (getObj b).run Try.prog w = .ok (.map #[] 0) w := by
      simp [getObj, Sem.run, show w.heap[b]? = some (.map #[] 0) from h]
    have hf : (Instr.findKey 3 (.int .i64 0) []).run Try.prog w = .ok none w := by kernel_rfl
    have hs : (setObj b (.map #[⟨.int .i64 0, .int .u64 (y : Int), 0⟩] 1)).run Try.prog w = .ok () (w.putObj b (mapObj (some y))) := by
      simp [setObj, Sem.run, show w.heap[b]? = some (.map #[] 0) from h, World.putObj]
      rfl
    unfold Instr.mapUpdate
    go_simp
  | some x =>
    have hg : (getObj b).run Try.prog w = .ok (.map #[⟨.int .i64 0, .int .u64 (x : Int), 0⟩] 1) w := by
      simp [getObj, Sem.run, show w.heap[b]? = some (.map #[⟨.int .i64 0, .int .u64 (x : Int), 0⟩] 1) from h]
    have hf : (Instr.findKey 3 (.int .i64 0) [⟨.int .i64 0, .int .u64 (x : Int), 0⟩]).run Try.prog w = .ok (some (0, .int .u64 (x : Int))) w := by kernel_rfl
    have hk : (Instr.keyThatStays (.int .i64 0) (.int .i64 0)).run Try.prog w = .ok (.int .i64 0) w := by kernel_rfl
    have hs : (setObj b (.map #[⟨.int .i64 0, .int .u64 (y : Int), 0⟩] 1)).run Try.prog w = .ok () (w.putObj b (mapObj (some y))) := by
      simp [setObj, Sem.run, show w.heap[b]? = some (.map #[⟨.int .i64 0, .int .u64 (x : Int), 0⟩] 1) from h, World.putObj]
      rfl
    unfold Instr.mapUpdate
    go_simp
/-- a field of sectors that are held: m: the map's only word, if it has one -/
structure FieldAt (w : World) (g b : Nat) (many held : Nat) (m : Option Nat) : Prop where
  blk : Blk w g 88 #[.map (some b), .int .i64 (many : Int), .int .i64 (held : Int)]
  map : w.heap[b]? = some (mapObj m)
theorem bits_and63 (a : Nat) (h : a < 64) : bits .and .i64 (a : Int) 63 = (a : Int) := by
  have key : ∀ a : Fin 64, bits .and .i64 ((a : Nat) : Int) 63 = ((a : Nat) : Int) := by decide +kernel
  exact key ⟨a, h⟩
theorem natu (X : Nat) (h : X < 18446744073709551616) : (BitVec.ofInt 64 (X : Int)).toNat = X := by
  rw [BitVec.toNat_ofInt, show ((2 ^ 64 : Nat) : Int) = 18446744073709551616 by decide]
  omega
theorem bits_and_u64 (X Y : Nat) (hX : X < 18446744073709551616) (hY : Y < 18446744073709551616) : bits .and .u64 (X : Int) (Y : Int) = ((X &&& Y : Nat) : Int) := by
  show IntKind.u64.wrap ((BitVec.ofInt 64 (X : Int) &&& BitVec.ofInt 64 (Y : Int)).toNat : Int) = _
  rw [BitVec.toNat_and, natu X hX, natu Y hY]
  have h : X &&& Y < 18446744073709551616 := Nat.lt_of_le_of_lt Nat.and_le_left hX
  generalize X &&& Y = t at h
  simp [IntKind.wrap, IntKind.signed, IntKind.bits]
  omega
theorem bits_or_u64 (X Y : Nat) (hX : X < 18446744073709551616) (hY : Y < 18446744073709551616) : bits .or .u64 (X : Int) (Y : Int) = ((X ||| Y : Nat) : Int) := by
  show IntKind.u64.wrap ((BitVec.ofInt 64 (X : Int) ||| BitVec.ofInt 64 (Y : Int)).toNat : Int) = _
  rw [BitVec.toNat_or, natu X hX, natu Y hY]
  have h : X ||| Y < 18446744073709551616 := Nat.or_lt_two_pow (n := 64) hX hY
  generalize X ||| Y = t at h
  simp [IntKind.wrap, IntKind.signed, IntKind.bits]
  omega
theorem has_law (x a : Nat) (hx : x < 18446744073709551616) : (bits .and .u64 ((x : Int) / 2 ^ a) 1 == 1) = x.testBit a := by
  have e : (x : Int) / 2 ^ a = ((x / 2 ^ a : Nat) : Int) := by
    rw [Int.natCast_ediv]
    simp
  have h := bits_and_u64 (x / 2 ^ a) 1 (Nat.lt_of_le_of_lt (Nat.div_le_self _ _) hx) (by omega)
  have h' : bits .and .u64 ((x : Int) / 2 ^ a) 1 = ((x / 2 ^ a &&& 1 : Nat) : Int) := by rw [e]; exact h
  rw [h', Nat.and_one_is_mod, Nat.testBit_eq_decide_div_mod_eq, Bool.eq_iff_iff, beq_iff_eq, decide_eq_true_iff]
  omega
theorem fhas_any (a : Nat) (ha : a < 64) {g b many held : Nat} {m : Option Nat} (w : World) (h : FieldAt w g b many held m) (hm : m.getD 0 < 18446744073709551616) :
    Calls Try.prog 53 #[.pointer (some ⟨g, 0, none⟩), .int .i64 (a : Int)] w fun e w' => e = .returned (.bool ((m.getD 0).testBit a)) ∧ w' = w := by
  have c0 := h.blk.cell 0
  have hl := look0 h.map
  have hlt := h.blk.lt
  have hd : (a : Int) / 64 = 0 := by omega
  have h63 := bits_and63 a ha
  have n1 : (0 : Int) ≤ (a : Int) := by omega
  have n2 : (a : Int) < 64 := by omega
  obtain ⟨x, hx⟩ : ∃ x, x = m.getD 0 := ⟨_, rfl⟩
  rw [← hx] at hl hm ⊢
  clear h hx
  go_enter Try.func53, Try.ntmps53
  go_wp2_with fail
  rw [has_law x a hm]
  go_ret
  exact ⟨rfl, rfl⟩
/-- two blocks at most are turned, and new ones made -/
def setBit (x a : Nat) : Nat := x ||| 2 ^ a
theorem or_law (x a : Nat) (hx : x < 18446744073709551616) (ha : a < 64) : bits .or .u64 (x : Int) (IntKind.u64.wrap (2 ^ a)) = ((setBit x a : Nat) : Int) := by
  have hp : 2 ^ a < 18446744073709551616 := by
    have : 2 ^ a < 2 ^ 64 := Nat.pow_lt_pow_right (by omega) ha
    exact this
  have e : IntKind.u64.wrap ((2 : Int) ^ a) = ((2 ^ a : Nat) : Int) := by
    rw [show ((2 : Int) ^ a) = ((2 ^ a : Nat) : Int) by simp]
    generalize 2 ^ a = t at hp
    simp [IntKind.wrap, IntKind.signed, IntKind.bits]
    omega
  rw [e, bits_or_u64 x (2 ^ a) hx hp]
  rfl
theorem setBit_lt (x a : Nat) (hx : x < 18446744073709551616) (ha : a < 64) : setBit x a < 18446744073709551616 := Nat.or_lt_two_pow (n := 64) hx (Nat.pow_lt_pow_right (by omega) ha)
theorem wpList_upd0 {ops : Array Oper} {rest : List Oper} {o : Oper} {a : Act} {Q : Exit → Act → World → Prop} {w : World} (hg : o.guard = none) (m x v : Operand) (hop : o.op = Op.mapUpdate 86 m x v) (b : Nat) (mm : Option Nat) (h : w.heap[b]? = some (mapObj mm)) (y : Nat)
    (hm : a.eval m = .map (some b)) (hx : a.eval x = .int .i64 0) (hv : a.eval v = .int .u64 (y : Int)) (hK : wpList Try.prog ops Q rest (a.put o.dst undef) (w.putObj b (mapObj (some y)))) : wpList Try.prog ops Q (o :: rest) a w := by
  refine wpList_plain hg fun K' hK' => ?_
  have hrun := upd0 h y
  unfold Oper.wp
  simp [execOp, hop, hm, hx, hv, hrun, Result.andThen]
  exact hK' _ _ hK
theorem FieldAt.ne {w : World} {g b many held : Nat} {m : Option Nat} (h : FieldAt w g b many held m) : g ≠ b := by
  rintro rfl
  have h1 : w.heap[g]? = some (.cells #[.map (some g), .int .i64 (many : Int), .int .i64 (held : Int)] 88 (0, 0)) := h.blk
  rw [h.map] at h1
  cases m <;> cases h1
theorem hold_yes (a : Nat) (ha : a < 64) {g b many held : Nat} {m : Option Nat} (w : World) (h : FieldAt w g b many held m) (hm : m.getD 0 < 18446744073709551616) (hh : held < 1000000) (ht : (m.getD 0).testBit a = false) :
    Calls Try.prog 79 #[.pointer (some ⟨g, 0, none⟩), .int .i64 (a : Int)] w fun e w' => e = .returned (.bool true) ∧ FieldAt w' g b many (held + 1) (some (setBit (m.getD 0) a)) ∧ w'.heap.size = w.heap.size ∧ (∀ k, k ≠ g → k ≠ b → w'.heap[k]? = w.heap[k]?) ∧ Below 0 w w' := by
  have HF := hide (And.intro h hm)
  have c0 := h.blk.cell 0
  have c2 := h.blk.cell 2
  have hl2 : ∀ n, (Instr.lookup 86 (.map (some b)) (.int .i64 0) false).run Try.prog (w.drewN n) = .ok (.int .u64 ((m.getD 0 : Nat) : Int)) (w.drewN n) := fun n => look0 (w := w.drewN n) h.map
  have hlt := h.blk.lt
  have hd : (a : Int) / 64 = 0 := by omega
  have h63 := bits_and63 a ha
  have n1 : (0 : Int) ≤ (a : Int) := by omega
  have n2 : (a : Int) < 64 := by omega
  clear h hm
  go_enter Try.func79, Try.ntmps79
  go_wp2_with fail
  refine (fhas_any a ha w HF.out.1 HF.out.2).mono ?_
  rintro e w' ⟨rfl, rfl⟩
  rw [ht]
  dsimp only
  go_wp2_with fail
  refine wp_quiet_tail_drewN 11 (by kernel_rfl) (by kernel_rfl) ?_
  simp only [List.take_succ_cons, List.take_zero, List.drop_succ_cons, List.drop_zero]
  repeat (go_big_quiet_step (fail))
  refine wpQuiet_nil ?_
  intro nq
  rw [or_law _ a HF.out.2 ha]
  refine wpList_upd0 (o := ⟨none, _, _, _, _, _⟩) rfl _ _ _ rfl b m (show (w'.drewN nq).heap[b]? = _ from HF.out.1.map) (setBit (m.getD 0) a) rfl rfl rfl ?_
  obtain ⟨w1, hw1⟩ : ∃ w1, w1 = (w'.drewN nq).putObj b (mapObj (some (setBit (m.getD 0) a))) := ⟨_, rfl⟩
  have hne := HF.out.1.ne
  have hb1 : Blk w1 g 88 #[.map (some b), .int .i64 (many : Int), .int .i64 (held : Int)] := by
    rw [hw1]
    exact (World.putObj_heap_other hne).trans HF.out.1.blk
  have hlb : b < w'.heap.size := (Array.getElem?_eq_some_iff.1 HF.out.1.map).1
  have hm1 : w1.heap[b]? = some (mapObj (some (setBit (m.getD 0) a))) := by
    rw [hw1]
    exact World.putObj_heap_same hlb
  have hs1 : w1.heap.size = w'.heap.size := by rw [hw1, World.putObj_size]; rfl
  have ho1 : ∀ k, k ≠ b → w1.heap[k]? = w'.heap[k]? := fun k hk => by rw [hw1]; exact World.putObj_heap_other hk
  have hbel : Below 0 w' w1 := by
    refine ⟨?_, ?_, ?_, by omega, fun k hk => absurd hk (by omega)⟩ <;> rw [hw1] <;> rfl
  rw [← hw1]
  have H1 := hide (And.intro hb1 (And.intro hm1 (And.intro hs1 (And.intro ho1 hbel))))
  have c2 := hb1.cell 2
  have f2 := hb1.frozen 2
  have hlt1 := hb1.lt
  have n3 : (held : Int) < 1000000 := by omega
  clear hw1 hb1 hm1 hs1 ho1 c0 hl2 hlb hbel
  simp only [Act.put]
  go_wp2_with fail
  go_ret
  obtain ⟨hb1, hm1, hs1, ho1, hbel⟩ := H1.out
  have hset := hb1.set_ 2 (.int .i64 ((held : Int) + 1))
  have hsz : (w1.setCell ⟨g, 2, none⟩ (.int .i64 ((held : Int) + 1))).heap.size = w1.heap.size := by simp
  refine ⟨rfl, ⟨?_, (Below.heap_setCell w1 ⟨g, 2, none⟩ _ b (fun e => hne e.symm)).trans hm1⟩, hsz.trans hs1, (fun k hk hk2 => (Below.heap_setCell w1 ⟨g, 2, none⟩ _ k hk).trans (ho1 k hk2)), hbel.setCell (by omega) _⟩
  rw [show ((held + 1 : Nat) : Int) = (held : Int) + 1 by omega]
  exact hset
theorem hold_no (a : Nat) (ha : a < 64) {g b many held : Nat} {m : Option Nat} (w : World) (h : FieldAt w g b many held m) (hm : m.getD 0 < 18446744073709551616) (ht : (m.getD 0).testBit a = true) :
    Calls Try.prog 79 #[.pointer (some ⟨g, 0, none⟩), .int .i64 (a : Int)] w fun e w' => e = .returned (.bool false) ∧ w' = w := by
  go_enter Try.func79, Try.ntmps79
  go_wp2_with fail
  refine (fhas_any a ha w h hm).mono ?_
  rintro e w' ⟨rfl, rfl⟩
  rw [ht]
  dsimp only
  go_wp2_with fail
  go_ret
  exact ⟨rfl, rfl⟩
/-- a set of sectors, as the word's bits -/
def Bits (x : Nat) (l : List Nat) : Prop := x < 18446744073709551616 ∧ ∀ a, a < 64 → x.testBit a = l.contains a
theorem Bits.nil : Bits 0 [] := ⟨by omega, fun a _ => by simp⟩
theorem Bits.add {x a : Nat} {l : List Nat} (h : Bits x l) (ha : a < 64) : Bits (setBit x a) (l ++ [a]) := by
  refine ⟨setBit_lt x a h.1 ha, fun k hk => ?_⟩
  unfold setBit
  rw [Nat.testBit_or, h.2 k hk, Nat.testBit_two_pow, Bool.eq_iff_iff]
  simp only [Bool.or_eq_true, List.contains_iff_mem, decide_eq_true_iff, List.mem_append, List.mem_singleton]
  constructor
  · rintro (h | h)
    · exact .inl h
    · exact .inr h.symm
  · rintro (h | h)
    · exact .inl h
    · exact .inr h.symm
end Go.Proofs.Ytajeohmmobgcjaa
