/- class.owned. Derivations and items: the sizes of their cells, their parts, rows of one's own. class.copied. FreTail's law, where what an operation may do to the world is told by the slot that it writes. Printed by gen/two.py. FreMade's law, where what an operation may do to the world is told by the slot that it writes. Printed by gen/two.py. What class.add needs: bytes.Equal; the class of a text; what adding tells, plain, case for case. -/
import Derived.Test.YtidiepbmbbflhaaMK4
import Derived.Test.YtidiepbmbbflhaaSep2
import Derived.Test.YtidiepbmbbflhaaAt
import Derived.Test.YtidiepbmbbflhaaQuietTail
import Derived.Below
import Derived.Test.YtidiepbmbbflhaaBase3
import Derived.Test.YtidiepbmbbflhaaGrow
section
namespace Go.Proofs.Ytidiepbmbbflhaa
open Go Go.RowKit Go.Maps
set_option maxRecDepth 100000
/-- a row of one's own, from a block on -/
def OwnR (B : Nat) (t : TypeId) (n k : Nat) (xs : List Value) (u : Value) (w : World) : Prop := w.ownsRow B t n u k xs
theorem ownR_ok (B : Nat) (t : TypeId) (n k : Nat) (xs : List Value) : Fre.MadeOk Bel (OwnR B t n k xs) := ⟨fun u w w' h hx => owned_keepN h fun g _ hl => Below.block hx g hl⟩
theorem DrvAt.okb9 {w : World} {B : Nat} {d : Drv} {v1 v2 : Value} (h : DrvAt w B d v1 v2) : ∀ x ∈ d.2.2, (Lit.int .u8 x).wf = true := fun x hx => by
  obtain ⟨A, cap, rfl, _, _, _, hA⟩ := slice_open h.rcp
  obtain ⟨j, hj⟩ := List.getElem?_of_mem hx
  obtain ⟨b, off, _, _, hE⟩ := hA (by have := (List.getElem?_eq_some_iff.1 hj).1; omega)
  obtain ⟨cs, _, hat⟩ := hE j x hj
  exact hat.2
set_option maxHeartbeats 1000000 in
theorem ownedC_any (w : World) (d : Drv) (v1 v2 : Value) (h : DrvAt w w.heap.size d v1 v2) (hl : d.2.1.length ≤ 1000000 ∧ d.2.2.length ≤ 1000000) :
    Calls Try.prog 40 #[.agg (dC d v1 v2).toArray] w fun e w' => ∃ u1 u2, e = .returned (.agg (dC d u1 u2).toArray) ∧ OwnDrv w' w.heap.size d u1 u2 ∧ Below w.heap.size w w' := by
  have HD := hide h
  clear h
  go_enter Try.func40, Try.ntmps40
  go_wp2_with (first | ((with_reducible refine at_slot 1 ?_); (refine wpList_boxA (o := ⟨some 1, _, _, _, _, _⟩) rfl 34 (.tmp 0) rfl (dC d v1 v2).toArray rfl ?_); intro w1 hn; have H1 := hide hn; clear hn; simp only [Act.put, List.setIfInBounds_toArray, List.set_cons_zero, List.set_cons_succ]) | ((with_reducible refine at_slot 2 ?_); (refine wpList_newZ (o := ⟨some 2, _, _, _, _, _⟩) rfl 34 zcD (by kernel_rfl) ?_); intro w2 hn; have H2 := hide (And.intro (H1.out.blk.below hn.below H1.out.blk.lt) (And.intro hn.blk (And.intro (H1.out.below.trans (Below.mono hn.below H1.out.below.size)) (And.intro (show w1.heap.size = w.heap.size + 1 from H1.out.size) (show w2.heap.size = w1.heap.size + 1 from hn.size))))); clear hn; simp only [Act.put, List.setIfInBounds_toArray, List.set_cons_zero, List.set_cons_succ]))
  refine Fre.wp_made (X := Bel) 7 [(5, OwnR w2.heap.size 72 43 d.2.1.length (d.2.1.flatMap nC)), (8, OwnR w2.heap.size 5 1 d.2.2.length (d.2.2.flatMap ib))] (by kernel_rfl) (by kernel_rfl) (by intro p hp; simp only [List.mem_cons, List.not_mem_nil, or_false] at hp; rcases hp with rfl | rfl <;> exact ownR_ok _ _ _ _ _) (by simp) (by simp) ?_
  simp only [List.take_succ_cons, List.take_zero, List.drop_succ_cons, List.drop_zero]
  refine Fre.made_val (.pointer (some ⟨w.heap.size, 1, none⟩)) (by kernel_rfl) (by kernel_rfl) (by kernel_rfl) (fun _ _ => by kernel_rfl) ?_
  simp only [Act.put, List.setIfInBounds_toArray, List.set_cons_zero, List.set_cons_succ]
  refine Fre.made_val (v1) (by kernel_rfl) (by kernel_rfl) (by kernel_rfl) (fun W9 hW9 => exec_load_cell (o := ⟨some 4, _, _, _, _, _⟩) 31 (.tmp 3) rfl ⟨w.heap.size, 1, none⟩ rfl _ _ W9 Try.underlying31 rfl ((H2.out.1.below hW9 H2.out.1.lt).cell 1)) ?_
  simp only [Act.put, List.setIfInBounds_toArray, List.set_cons_zero, List.set_cons_succ]
  refine Fre.made_newcall 5 _ 49 #[v1] (by kernel_rfl) (by kernel_rfl) rfl rfl (fun W => by kernel_rfl) (fun W hW => (cloneN_any W d.2.1 v1 (HD.out.alike9 (H2.out.2.2.1.trans (Below.mono hW H2.out.2.2.1.size))).ins hl.1).mono (fun e w' ⟨u, h1, h2, h3⟩ => ⟨u, h1, h3, owned_baseN h2 (fun g hg => Nat.le_trans (Below.size hW) (owned_ltN h2 hg).1)⟩)) ?_
  simp only [Act.put, List.setIfInBounds_toArray, List.set_cons_zero, List.set_cons_succ]
  refine Fre.made_val (.pointer (some ⟨w.heap.size, 2, none⟩)) (by kernel_rfl) (by kernel_rfl) (by kernel_rfl) (fun _ _ => by kernel_rfl) ?_
  simp only [Act.put, List.setIfInBounds_toArray, List.set_cons_zero, List.set_cons_succ]
  refine Fre.made_val (v2) (by kernel_rfl) (by kernel_rfl) (by kernel_rfl) (fun W9 hW9 => exec_load_cell (o := ⟨some 7, _, _, _, _, _⟩) 32 (.tmp 6) rfl ⟨w.heap.size, 2, none⟩ rfl _ _ W9 Try.underlying32 rfl ((H2.out.1.below hW9 H2.out.1.lt).cell 2)) ?_
  simp only [Act.put, List.setIfInBounds_toArray, List.set_cons_zero, List.set_cons_succ]
  refine Fre.made_newcall 8 _ 50 #[v2] (by kernel_rfl) (by kernel_rfl) rfl rfl (fun W => by kernel_rfl) (fun W hW => (cloneB_any W d.2.2 v2 (HD.out.alike9 (H2.out.2.2.1.trans (Below.mono hW H2.out.2.2.1.size))).rcp hl.2).mono (fun e w' ⟨u, h1, h2, h3⟩ => ⟨u, h1, h3, owned_baseN h2 (fun g hg => Nat.le_trans (Below.size hW) (owned_ltN h2 hg).1)⟩)) ?_
  simp only [Act.put, List.setIfInBounds_toArray, List.set_cons_zero, List.set_cons_succ]
  refine Fre.made_val (.pointer (some ⟨w.heap.size, 1, none⟩)) (by kernel_rfl) (by kernel_rfl) (by kernel_rfl) (fun _ _ => by kernel_rfl) ?_
  simp only [Act.put, List.setIfInBounds_toArray, List.set_cons_zero, List.set_cons_succ]
  intro w3 hx
  dsimp only [Fre.ended, List.drop]
  rintro u5 h5 u8 h8
  have hu5 : u5.oneCell' = true := by obtain ⟨A7, c7, rfl⟩ := own_form9 h5; rfl
  have hu8 : u8.oneCell' = true := by obtain ⟨A7, c7, rfl⟩ := own_form9 h8; rfl
  have H3 := hide (And.intro (H2.out.1.below hx H2.out.1.lt) (And.intro (H2.out.2.1.below hx H2.out.2.1.lt) (And.intro (H2.out.2.2.1.trans (Below.mono hx H2.out.2.2.1.size)) (And.intro (show w3.ownsRow _ _ _ _ _ _ from h5) (show w3.ownsRow _ _ _ _ _ _ from h8)))))
  clear h5 h8 hx
  go_wp2_with (first | ((with_reducible refine at_store 9 5 ?_); (refine wpList_store1 (o := ⟨none, _, _, _, _, _⟩) rfl 31 (.tmp 9) (.tmp 5) rfl w.heap.size (1) 34 (dC d v1 v2).toArray H3.out.1 (by show 1 < 3; omega) (by kernel_rfl) (u5) hu5 rfl rfl ?_); intro w4 hk hg hz; have o1 := owned_keepN H3.out.2.2.2.1 (fun q hq hl9 => hg.block q hl9 (fun e => by have := (owned_ltN H3.out.2.2.2.1 hq).1; have := Option.some.inj e; have := H2.out.2.2.2; omega)); have o2 := owned_keepN H3.out.2.2.2.2 (fun q hq hl9 => hg.block q hl9 (fun e => by have := (owned_ltN H3.out.2.2.2.2 hq).1; have := Option.some.inj e; have := H2.out.2.2.2; omega)); have H4 := hide (And.intro hk (And.intro (show Blk w4 w1.heap.size 34 zcD from (hg.block _ (Blk.lt H3.out.2.1) (fun e => by have := Option.some.inj e; have := H2.out.2.2.2; omega)).trans H3.out.2.1) (And.intro (H3.out.2.2.1.grown hg H3.out.2.2.1.size (fun q hq => by have := Option.some.inj hq; omega)) (And.intro o1 o2)))); clear hk hg hz o1 o2; simp only [Act.put, List.setIfInBounds_toArray, List.set_cons_zero, List.set_cons_succ]) | ((with_reducible refine at_store 10 8 ?_); (refine wpList_store1 (o := ⟨none, _, _, _, _, _⟩) rfl 32 (.tmp 10) (.tmp 8) rfl w.heap.size (2) 34 (dC d u5 v2).toArray H4.out.1 (by show 2 < 3; omega) (by kernel_rfl) (u8) hu8 rfl rfl ?_); intro w5 hk hg hz; have o1 := owned_keepN H4.out.2.2.2.1 (fun q hq hl9 => hg.block q hl9 (fun e => by have := (owned_ltN H4.out.2.2.2.1 hq).1; have := Option.some.inj e; have := H2.out.2.2.2; omega)); have o2 := owned_keepN H4.out.2.2.2.2 (fun q hq hl9 => hg.block q hl9 (fun e => by have := (owned_ltN H4.out.2.2.2.2 hq).1; have := Option.some.inj e; have := H2.out.2.2.2; omega)); have H5 := hide (And.intro hk (And.intro (show Blk w5 w1.heap.size 34 zcD from (hg.block _ (Blk.lt H4.out.2.1) (fun e => by have := Option.some.inj e; have := H2.out.2.2.2; omega)).trans H4.out.2.1) (And.intro (H4.out.2.2.1.grown hg H4.out.2.2.1.size (fun q hq => by have := Option.some.inj hq; omega)) (And.intro o1 o2)))); clear hk hg hz o1 o2; simp only [Act.put, List.setIfInBounds_toArray, List.set_cons_zero, List.set_cons_succ]) | ((with_reducible refine at_slot 11 ?_); (refine wpList_value (o := ⟨some 11, _, _, _, _, _⟩) rfl (.agg ((dC d u5 u8).toArray)) w5 (exec_load_blk (o := ⟨some 11, _, _, _, _, _⟩) 34 (.tmp 1) rfl w.heap.size rfl 34 _ _ w5 H5.out.1 Try.underlying34 rfl (by kernel_rfl)) ?_)) | ((with_reducible refine at_store 2 11 ?_); (with_reducible refine wpList_store_blkA (o := ⟨none, _, _, _, _, _⟩) rfl 34 (.tmp 2) (.tmp 11) rfl w1.heap.size zcD (dC d u5 u8).toArray 34 H5.out.2.1 ?_ ?_ ?_ ?_ ?_ ?_); kernel_rfl; rfl; (exact all_oneCell_toArray (fun v hv => by simp only [dC, List.mem_cons, List.not_mem_nil, or_false] at hv; rcases hv with rfl | rfl | rfl; rfl; exact hu5; exact hu8)); rfl; rfl; intro w9 hk9 hg9; have o1 := owned_keepN H5.out.2.2.2.1 (fun q hq hl9 => hg9.block q hl9 (fun e => by have := (owned_ltN H5.out.2.2.2.1 hq).1; have := Option.some.inj e; have := H2.out.2.2.2; omega)); have o2 := owned_keepN H5.out.2.2.2.2 (fun q hq hl9 => hg9.block q hl9 (fun e => by have := (owned_ltN H5.out.2.2.2.2 hq).1; have := Option.some.inj e; have := H2.out.2.2.2; omega)); have H9 := hide (And.intro hk9 (And.intro (H5.out.2.2.1.grown hg9 H5.out.2.2.1.size (fun q hq => by have := Option.some.inj hq; have := H2.out.2.2.2; omega)) (And.intro o1 o2))); clear hk9 hg9 o1 o2; simp only [Act.put, List.setIfInBounds_toArray, List.set_cons_zero, List.set_cons_succ]))
  refine bodyPost_ret (results_cell_row rfl _ _ w1.heap.size 34 (dC d u5 u8).toArray (0, 0) _ rfl H9.out.1 Try.underlying34 rfl (by kernel_rfl)) rfl ⟨u5, u8, rfl, ⟨HD.out.name, HD.out.okn, HD.out.okb9, owned_baseN H9.out.2.2.1 (fun g hg => by have := (owned_ltN H9.out.2.2.1 hg).1; have := H2.out.2.2.2; omega), owned_baseN H9.out.2.2.2 (fun g hg => by have := (owned_ltN H9.out.2.2.2 hg).1; have := H2.out.2.2.2; omega)⟩, H9.out.2.1⟩
end Go.Proofs.Ytidiepbmbbflhaa
end
section
namespace Go.Proofs.Ytidiepbmbbflhaa
open Go Go.RowKit Go.Maps
set_option maxRecDepth 100000
theorem hszL {h : Hsh} (hh : okH h) : (Try.prog.info? 27).map (·.size) = some (bv h).length := by have := hszD hh; simpa using this
theorem bv_1 (h : Hsh) : (bv h).toArray.all (·.oneCell') = true := all_oneCell_toArray (bv1 _)
theorem zcH_sz : (Try.prog.info? 27).map (·.size) = some zcH.size := by kernel_rfl
theorem zcD_sz : (Try.prog.info? 34).map (·.size) = some zcD.size := by kernel_rfl
theorem zcT_sz : (Try.prog.info? 43).map (·.size) = some zcT.size := by kernel_rfl
theorem dC_sz (d : Drv) (v1 v2 : Value) : (Try.prog.info? 34).map (·.size) = some (dC d v1 v2).toArray.size := by kernel_rfl
theorem dC_szl (d : Drv) (v1 v2 : Value) : (Try.prog.info? 34).map (·.size) = some (dC d v1 v2).length := by kernel_rfl
theorem dC_1 (d : Drv) {v1 v2 : Value} (h1 : v1.oneCell' = true) (h2 : v2.oneCell' = true) : (dC d v1 v2).toArray.all (·.oneCell') = true := all_oneCell_toArray fun v hv => by
  simp only [dC, List.mem_cons, List.not_mem_nil, or_false] at hv
  rcases hv with rfl | rfl | rfl
  · rfl
  · exact h1
  · exact h2
theorem tC_szl {x : Itm} {v1 v2 : Value} (h : okH x.1) : (Try.prog.info? 43).map (·.size) = some (tC x v1 v2).length := by rw [tC_len h]; kernel_rfl
theorem tC_sz {x : Itm} {v1 v2 : Value} (h : okH x.1) : (Try.prog.info? 43).map (·.size) = some (tC x v1 v2).toArray.size := by rw [List.size_toArray]; exact tC_szl h
theorem tC_1 (x : Itm) {v1 v2 : Value} (h1 : v1.oneCell' = true) (h2 : v2.oneCell' = true) : (tC x v1 v2).toArray.all (·.oneCell') = true := all_oneCell_toArray (tC_one x h1 h2)
theorem dC_ins {w : World} {b o : Nat} {d : Drv} {v1 v2 : Value} (h : w.rangeAt b o (dC d v1 v2)) : w.rangeAt b (o + 1) [v1] := range_mid (pre := [.string d.1]) (post := [v2]) h rfl rfl
theorem dC_rcp {w : World} {b o : Nat} {d : Drv} {v1 v2 : Value} (h : w.rangeAt b o (dC d v1 v2)) : w.rangeAt b (o + 2) [v2] := range_mid (pre := [.string d.1, v1]) (post := []) h rfl rfl
theorem dC_name {w : World} {b o : Nat} {d : Drv} {v1 v2 : Value} (h : w.rangeAt b o (dC d v1 v2)) : w.rangeAt b o [.string d.1] := rangeAt_left (c2 := [v1, v2]) h
theorem DrvAt.ones {w : World} {B : Nat} {d : Drv} {v1 v2 : Value} (h : DrvAt w B d v1 v2) : v1.oneCell' = true ∧ v2.oneCell' = true := by
  obtain ⟨A, cap, rfl, _⟩ := slice_open h.ins
  obtain ⟨A2, cap2, rfl, _⟩ := slice_open h.rcp
  exact ⟨rfl, rfl⟩
theorem OwnDrv.ones {w : World} {B : Nat} {d : Drv} {v1 v2 : Value} (h : OwnDrv w B d v1 v2) : v1.oneCell' = true ∧ v2.oneCell' = true := by
  obtain ⟨A1, n1, c1, A2, n2, c2, rfl, rfl⟩ := h.form
  exact ⟨rfl, rfl⟩
/-- a derivation in rows of its own, as a thing in memory -/
def drvE (B : Nat) (d : Drv) (u1 u2 : Value) : Ent := ⟨fun b => u1.ownBlock = some b ∨ u2.ownBlock = some b, fun w => OwnDrv w B d u1 u2⟩
theorem drvE_ok (B : Nat) (d : Drv) (u1 u2 : Value) : (drvE B d u1 u2).Ok := fun _ _ h hk => ⟨h.name, h.okn, h.okb, owned_keepN h.own1 fun g hg hl => hk g (.inl hg) hl, owned_keepN h.own2 fun g hg hl => hk g (.inr hg) hl⟩
theorem drvE_lt {w : World} {B : Nat} {d : Drv} {u1 u2 : Value} (h : OwnDrv w B d u1 u2) {b : Nat} (hf : (drvE B d u1 u2).F b) : B ≤ b ∧ b < w.heap.size := by
  rcases hf with hf | hf
  · exact owned_ltN h.own1 hf
  · exact owned_ltN h.own2 hf
theorem drv_made {w w' : World} {d : Drv} {u1 u2 : Value} (h : OwnDrv w' w.heap.size d u1 u2) (hb : Below w.heap.size w w') : Mem w w' [drvE w.heap.size d u1 u2] :=
  (Mem.start w).new hb (drvE_ok _ _ _ _) h fun _ hf => drvE_lt h hf
/-- a row of one's own, each thing of cells that tell it by a word, is read -/
theorem own_sliceB {α β : Type} {f : β → List Value} {pr : β → α} {t e : TypeId} {L : Lay α} (h0 : 0 < L.n) {w : World} {R : Nat} {v : Value} {l : List β} (hown : w.ownsRow R e L.n v l.length (l.flatMap f)) (B : Nat) (hB : w.heap.size ≤ B) (hat : ∀ x ∈ l, L.At w B (f x) (pr x)) : (Lay.slice t L).At w B [v] (l.map pr) := by
  have hlen : ∀ x ∈ l, (f x).length = L.n := fun x hx => L.len (hat x hx)
  rcases owned_formN hown with ⟨rfl, hl, _⟩ | ⟨g, cap, cur, rfl, hbg, hnc, hcm, hg, hcs, htake, _⟩
  · obtain rfl := List.eq_nil_of_length_eq_zero hl
    exact ⟨none, 0, rfl, Nat.le_refl _, Nat.zero_le _, (fun _ => rfl), fun h => absurd h (by simp)⟩
  · refine ⟨_, cap, by rw [List.length_map], by rw [List.length_map]; exact hnc, hcm, (fun h => by cases h), fun _ => ⟨g, 0, rfl, by have := hg.lt; omega, fun j x hj => ?_⟩⟩
    rw [List.getElem?_map] at hj
    cases hy : l[j]? with
    | none => rw [hy] at hj; cases hj
    | some y =>
      rw [hy] at hj
      have hxy : pr y = x := Option.some.inj hj
      subst hxy
      refine ⟨f y, fun i u hu => ?_, hat y (List.mem_of_getElem? hy)⟩
      have h2 := flatC_at h0 l hlen j y hy i u hu
      rw [hg.cell, ← Array.getElem?_toList, Nat.zero_add]
      rw [← htake] at h2
      have hlt : j * L.n + i < l.length * L.n := by
        have := (List.getElem?_eq_some_iff.1 h2).1
        rw [List.length_take] at this
        omega
      rwa [List.getElem?_take_of_lt hlt] at h2
/-- an item, and where its rows lie -/
abbrev ItmV := Itm × Value × Value
def tV (p : ItmV) : List Value := tC p.1 p.2.1 p.2.2
def drvV (B : Nat) (p : ItmV) : Ent := drvE B p.1.2 p.2.1 p.2.2
theorem drvV_ok (B : Nat) (p : ItmV) : (drvV B p).Ok := drvE_ok _ _ _ _
/-- items in rows of one's own -/
def itmsL (B : Nat) (u : Value) (ls : List ItmV) : List Ent := [ownE B 43 23 u ls.length (ls.flatMap tV), Ent.all ls (drvV B)]
theorem itms_at {w0 w : World} {B : Nat} {u : Value} {ls : List ItmV} (h : Mem w0 w (itmsL B u ls)) (hok : ∀ p ∈ ls, okH p.1.1) {N : Nat} (hN : w.heap.size ≤ N) : itmsLay.At w N [u] (ls.map (·.1)) :=
  own_sliceB (L := itmLay) (f := tV) (pr := (·.1)) (by decide) (h.own 0 rfl) N hN fun p hp => itmLay_at.2 ⟨p.2.1, p.2.2, rfl, hok p hp, (show OwnDrv w B p.1.2 p.2.1 p.2.2 from (h.get (e := Ent.all ls (drvV B)) 1 rfl).1 p hp).at_ hN⟩
theorem OwnDrv.base {w : World} {B B' : Nat} {d : Drv} {u1 u2 : Value} (h : OwnDrv w B d u1 u2) (hB : ∀ b, (drvE B d u1 u2).F b → B' ≤ b) : OwnDrv w B' d u1 u2 :=
  ⟨h.name, h.okn, h.okb, owned_baseN h.own1 fun g hg => hB g (.inl hg), owned_baseN h.own2 fun g hg => hB g (.inr hg)⟩
theorem itms_lower {w0 w : World} {B B' : Nat} {u : Value} {ls : List ItmV} (h : Mem w0 w (itmsL B u ls)) (hB : B' ≤ w0.heap.size) : Mem w0 w (itmsL B' u ls) := by
  have h1 := h.refit (e' := ownE B' 43 23 u ls.length (ls.flatMap tV)) 0 rfl (ownE_ok _ _ _ _ _ _) (owned_baseN (h.own 0 rfl) fun g hg => Nat.le_trans hB (h.from_ (e := ownE B 43 23 u ls.length (ls.flatMap tV)) 0 rfl hg).1) (fun _ hf => hf)
  have hp := h.get (e := Ent.all ls (drvV B)) 1 rfl
  exact h1.refit (e := Ent.all ls (drvV B)) (e' := Ent.all ls (drvV B')) 1 rfl (Ent.all_ok fun x _ => drvV_ok _ x) ⟨fun x hx => OwnDrv.base (hp.1 x hx) fun b hf => Nat.le_trans hB (h.from_ (e := Ent.all ls (drvV B)) 1 rfl ⟨x, hx, hf⟩).1, hp.2⟩ fun b hf => hf
theorem info_itm2 : (Try.prog.info? 43).map (fun i => (i.zero, i.size, i.bytes)) = some (some (.agg zcT), 23, 88) := by kernel_rfl
/-! what a drawn region makes: a derivation, an item, a row of one item -/
def DrvU (B : Nat) (d : Drv) (u : Value) (w : World) : Prop := ∃ p : Value × Value, u = .agg (dC d p.1 p.2).toArray ∧ OwnDrv w B d p.1 p.2
def ItmU (B : Nat) (x : Itm) (u : Value) (w : World) : Prop := ∃ p : Value × Value, u = .agg (tC x p.1 p.2).toArray ∧ OwnDrv w B x.2 p.1 p.2
def RowU (B : Nat) (x : Itm) (u : Value) (w : World) : Prop := ∃ (r : Nat) (p : Value × Value), u = .slice (some ⟨r, 0, none⟩) 1 1 ∧ B ≤ r ∧ Blk w r 43 (tC x p.1 p.2).toArray ∧ OwnDrv w B x.2 p.1 p.2
theorem OwnDrv.belo {w w' : World} {B : Nat} {d : Drv} {u1 u2 : Value} (h : OwnDrv w B d u1 u2) (hb : Below w.heap.size w w') : OwnDrv w' B d u1 u2 := drvE_ok B d u1 u2 w w' h fun b _ hl => hb.block b hl
theorem drvU_ok (B : Nat) (d : Drv) : Fre.MadeOk Bel (DrvU B d) := ⟨fun _ _ _ ⟨p, h1, h2⟩ hx => ⟨p, h1, h2.belo hx⟩⟩
theorem itmU_ok (B : Nat) (x : Itm) : Fre.MadeOk Bel (ItmU B x) := ⟨fun _ _ _ ⟨p, h1, h2⟩ hx => ⟨p, h1, h2.belo hx⟩⟩
theorem rowU_ok (B : Nat) (x : Itm) : Fre.MadeOk Bel (RowU B x) := ⟨fun _ _ _ ⟨r, p, h1, h0, h2, h3⟩ hx => ⟨r, p, h1, h0, h2.below hx h2.lt, h3.belo hx⟩⟩
theorem itmU_new {ρ : Operand → Value} {o : Oper} (x y : Operand) (ho : o.op = .build 43 #[(0, x), (1, y)]) (B : Nat) {c : Hsh} {d : Drv} (hc : okH c) {u : Value} {W : World} (h1 : ρ x = .agg (bv c).toArray) (h2 : ρ y = u) (hu : DrvU B d u W) : ∃ u' w', (execOp ρ o).run Try.prog W = .ok (.value u') w' ∧ Fre.Ext Bel W w' ∧ ItmU B (c, d) u' w' := by
  obtain ⟨p, rfl, hp⟩ := hu
  refine ⟨.agg (tC (c, d) p.1 p.2).toArray, W, ?_, Below.refl _ _, p, rfl, hp⟩
  refine Eq.trans (exec_build2 43 x y ho (n1 := 20) (n2 := 3) (z := .agg zcT) h1 h2 Try.underlying43 (fun w => by kernel_rfl) (by kernel_rfl) (fun w => by kernel_rfl) (by rw [Value.cells, List.size_toArray, bvL]; exact hc) (by rfl) W) ?_
  simp [Value.cells, tC]
theorem rowU_new {ρ : Operand → Value} {o : Oper} (x : Operand) (ho : o.op = .buildSlice 25 1 #[(0, x)]) (B : Nat) {y : Itm} (hy : okH y.1) {u : Value} {W : World} (hx : ρ x = u) (hu : ItmU B y u W) (hB : B ≤ W.heap.size) : ∃ u' w', (execOp ρ o).run Try.prog W = .ok (.value u') w' ∧ Fre.Ext Bel W w' ∧ RowU B y u' w' := by
  obtain ⟨p, rfl, hp⟩ := hu
  have hb : Below W.heap.size W (W.alloc (.cells (tC y p.1 p.2).toArray 43)) := (Below.refl _ W).alloc (Nat.le_refl _) _
  exact ⟨_, _, exec_buildSliceP (v := .agg (tC y p.1 p.2).toArray) 25 x ho hx Try.underlying25 (e := 43) (n := 23) sz_itm (by omega) (by omega) (z := .agg zcT) (fun w => by kernel_rfl) (by rw [Value.cells, List.size_toArray]; exact tC_len hy) W, hb, _, p, rfl, hB, Blk.new _ _ _, hp.belo hb⟩
end Go.Proofs.Ytidiepbmbbflhaa
end
section
namespace Go.Proofs.Ytidiepbmbbflhaa
open Go Go.RowKit Go.Maps
set_option maxRecDepth 100000
set_option maxHeartbeats 1000000 in
theorem copied_any (w : World) (l : List Itm) (A : Option Addr) (cap : Nat) (h : itmsLay.At w w.heap.size [.slice A l.length cap] l) (hl : ∀ x ∈ l, x.2.2.1.length ≤ 1000000 ∧ x.2.2.2.length ≤ 1000000) (hn : l.length ≤ 1000000) :
    Calls Try.prog 30 #[.slice A l.length cap] w fun e w' => ∃ u ls, e = .returned u ∧ ls.map (·.1) = l ∧ Mem w w' (itmsL w.heap.size u ls) := by
  obtain ⟨A', cap', e, _, _, _, hA⟩ := slice_open h
  injection e with e1 e2 e3
  subst e1 e3
  have HA := hide hA
  have HL := hide hl
  clear hA hl e2 h
  obtain ⟨inm, hih, hq0, hq1, hq2⟩ := info_parts info_itm2
  have HJ := hide (And.intro hih (And.intro hq0 (And.intro hq1 hq2)))
  clear hih hq0 hq1 hq2
  have H0 := hide (Mem.start w)
  go_enter Try.func30, Try.ntmps30
  go_wp2_with fail
  go_loopw [2, 7] (fun x2 x7 wr => ∃ (j : Nat) (ls : List ItmV) (u : Value), u = x2 ∧ j ≤ l.length ∧ x7 = .int .i64 (j : Int) ∧ ls.map (·.1) = l.take j ∧ Mem w wr [ownE w.heap.size 43 23 u ls.length (ls.flatMap tV), Ent.all ls (drvV w.heap.size)]) (fun _ x7 _ => l.length - (intOf x7).toNat)
  case atStart => exact ⟨0, [], _, rfl, by omega, rfl, rfl, (H0.out.allNil _).nilRow _ _ _⟩
  case round =>
    obtain ⟨wo, rfl⟩ : ∃ wo, wo = wr := ⟨_, rfl⟩
    obtain ⟨j, ls, u, rfl, hj, rfl, hls, hm⟩ := hrel
    have hlj : ls.length ≤ 1000000 := by have := congrArg List.length hls; rw [List.length_map, List.length_take] at this; omega
    have HM := hide hm
    have HLS := hide hls
    clear hm hls
    have j0 : (0 : Int) ≤ (j : Int) := by omega
    by_cases hj2 : j < l.length
    · have j1 : (j : Int) < (l.length : Int) := by omega
      obtain ⟨x, hx⟩ : ∃ x, l[j]? = some x := ⟨_, List.getElem?_eq_getElem hj2⟩
      obtain ⟨b, off, rfl, hlb, hE⟩ := HA.out (by omega)
      obtain ⟨cs, hr, hatx⟩ := hE j x hx
      obtain ⟨q1, q2, rfl, hxo, hxd⟩ := itmLay_at.1 hatx
      obtain ⟨hq1, hq2⟩ := hxd.ones
      have hbnd := HL.out x (List.mem_of_getElem? hx)
      have HX := hide (And.intro hr (And.intro hxo hxd))
      have HXX := hide hx
      have HLB := hide hlb
      clear hx hE hr hatx hxd
      go_wp2_with (first | ((with_reducible refine at_slot 9 ?_); (refine wpList_value (o := ⟨some 9, _, _, _, _, _⟩) rfl (.pointer (some ⟨b, off + (j : Int).toNat * 23, none⟩)) wo (exec_index_off (o := ⟨some 9, _, _, _, _, _⟩) 25 43 (.tmp 5) (.tmp 7) rfl b off l.length cap (j : Int) .i64 rfl rfl ⟨j0, j1⟩ 23 Try.underlying25 sz_itm wo) ?_; rw [show off + (j : Int).toNat * 23 = off + j * 23 by omega])) | ((with_reducible refine at_slot 10 ?_); (refine wpList_value (o := ⟨some 10, _, _, _, _, _⟩) rfl (.agg (tC x q1 q2).toArray) wo (exec_load_mid (o := ⟨some 10, _, _, _, _, _⟩) 43 (.tmp 9) rfl b (off + j * 23) rfl (tC x q1 q2) _ wo (Mem.range HM.out HX.out.1 HLB.out) Try.underlying43 rfl (tC_szl hxo)) ?_)) | ((with_reducible refine at_slot 4 ?_); (refine wpList_newZ (o := ⟨some 4, _, _, _, _, _⟩) rfl 43 zcT (by kernel_rfl) ?_); intro w1 hn; have H1 := hide (Mem.new1 HM.out hn); clear hn; simp only [Act.put, List.setIfInBounds_toArray, List.set_cons_zero, List.set_cons_succ]) | ((with_reducible refine at_store 4 10 ?_); (with_reducible refine wpList_store_blkA (o := ⟨none, _, _, _, _, _⟩) rfl 43 (.tmp 4) (.tmp 10) rfl wo.heap.size zcT (tC x q1 q2).toArray 43 (Mem.blk H1.out 0 rfl) ?_ ?_ ?_ ?_ ?_ ?_); (exact (tC_sz hxo)); (exact sz_eq zcT_sz (tC_sz hxo)); (exact (tC_1 x hq1 hq2)); rfl; rfl; intro w2 hk hg; have H2 := hide (Mem.st H1.out 0 rfl hk hg); clear hk hg; simp only [Act.put, List.setIfInBounds_toArray, List.set_cons_zero, List.set_cons_succ]))
      refine Fre.wp_made (X := Bel) 8 [(16, DrvU w2.heap.size x.2), (17, ItmU w2.heap.size x), (18, RowU w2.heap.size x)] (by kernel_rfl) (by kernel_rfl) (by intro p hp; simp only [List.mem_cons, List.not_mem_nil, or_false] at hp; rcases hp with rfl | rfl | rfl; exact drvU_ok _ _; exact itmU_ok _ _; exact rowU_ok _ _) (by simp) (by simp) ?_
      simp only [List.take_succ_cons, List.take_zero, List.drop_succ_cons, List.drop_zero]
      refine Fre.made_val (u) (by kernel_rfl) (by kernel_rfl) (by kernel_rfl) (fun _ _ => by kernel_rfl) ?_
      simp only [Act.put, List.setIfInBounds_toArray, List.set_cons_zero, List.set_cons_succ]
      refine Fre.made_val (.pointer (some ⟨wo.heap.size, 0, none⟩)) (by kernel_rfl) (by kernel_rfl) (by kernel_rfl) (fun _ _ => by kernel_rfl) ?_
      simp only [Act.put, List.setIfInBounds_toArray, List.set_cons_zero, List.set_cons_succ]
      refine Fre.made_val (.agg (bv x.1).toArray) (by kernel_rfl) (by kernel_rfl) (by kernel_rfl) (fun W9 hW9 => (exec_load_mid (o := ⟨some 13, _, _, _, _, _⟩) 27 (.tmp 12) rfl wo.heap.size (0) rfl (bv x.1) _ W9 (item_cls9 (Blk.range (Mem.blk (Mem.call H2.out hW9) 0 rfl))) Try.underlying27 rfl (hszL hxo))) ?_
      simp only [Act.put, List.setIfInBounds_toArray, List.set_cons_zero, List.set_cons_succ]
      refine Fre.made_val (.pointer (some ⟨wo.heap.size, 20, none⟩)) (by kernel_rfl) (by kernel_rfl) (by kernel_rfl) (fun _ _ => by kernel_rfl) ?_
      simp only [Act.put, List.setIfInBounds_toArray, List.set_cons_zero, List.set_cons_succ]
      refine Fre.made_val (.agg (dC x.2 q1 q2).toArray) (by kernel_rfl) (by kernel_rfl) (by kernel_rfl) (fun W9 hW9 => (exec_load_mid (o := ⟨some 15, _, _, _, _, _⟩) 34 (.tmp 14) rfl wo.heap.size (20) rfl (dC x.2 q1 q2) _ W9 (item_drv9 hxo (Blk.range (Mem.blk (Mem.call H2.out hW9) 0 rfl))) Try.underlying34 rfl (dC_szl x.2 q1 q2))) ?_
      simp only [Act.put, List.setIfInBounds_toArray, List.set_cons_zero, List.set_cons_succ]
      refine Fre.made_newcall 16 _ 40 #[.agg (dC x.2 q1 q2).toArray] (by kernel_rfl) (by kernel_rfl) rfl rfl (fun W => by kernel_rfl) (fun W hW => (ownedC_any W x.2 q1 q2 (HX.out.2.2.alike9 ((Mem.below H2.out).trans (Below.mono hW (Mem.below H2.out).size))) hbnd).mono (fun e w' ⟨u1, u2, h1, h2, h3⟩ => ⟨_, h1, h3, (u1, u2), rfl, h2.lower (Below.size hW)⟩)) ?_
      simp only [Act.put, List.setIfInBounds_toArray, List.set_cons_zero, List.set_cons_succ]
      refine Fre.made_new1 16 _ 17 _ (by kernel_rfl) rfl (by kernel_rfl) rfl rfl (fun u W hW hu => itmU_new (o := ⟨some 17, _, _, _, _, _⟩) (.tmp 13) (.tmp 16) rfl w2.heap.size hxo rfl rfl hu) ?_
      simp only [Act.put, List.setIfInBounds_toArray, List.set_cons_zero, List.set_cons_succ]
      refine Fre.made_new1 17 _ 18 _ (by kernel_rfl) rfl (by kernel_rfl) rfl rfl (fun u W hW hu => rowU_new (o := ⟨some 18, _, _, _, _, _⟩) (.tmp 17) rfl w2.heap.size hxo rfl hu (Below.size hW)) ?_
      simp only [Act.put, List.setIfInBounds_toArray, List.set_cons_zero, List.set_cons_succ]
      intro w3 hx
      dsimp only [Fre.ended, List.drop]
      rintro u16 _ u17 _ u18 ⟨r, p, rfl, _, hk, ho⟩
      have H3 := hide (Mem.new H2.out hx (drvE_ok w.heap.size x.2 p.1 p.2) (ho.lower (Mem.below H2.out).size) (fun b hf => drvE_lt ho hf))
      have hsr := box_srcN (n := 23) (m := 1) hk (tC_len hxo) (tC_one x (OwnDrv.ones ho).1 (OwnDrv.ones ho).2)
      have HSR := hide hsr
      clear hx hk ho hsr
      go_wp2_with (at_builtin; ((with_reducible refine at_slot 19 ?_); refine wpList_appS (o := ⟨some 19, _, _, _, _, _⟩) rfl _ _ 25 rfl w.heap.size 43 _ _ 23 88 Try.underlying25 HJ.out.1 HJ.out.2.1 HJ.out.2.2.1 HJ.out.2.2.2 rfl (by decide) (u) (ls.length) (ls.flatMap tV) (Mem.own H3.out 2 rfl) ((some ⟨r, 0, none⟩)) (1) (1) (tC x p.1 p.2) HSR.out ?hm1 ?hb1 ?hz1 rfl rfl ?_))
      case hm1 => simp only [maxLen]; omega
      case hb1 => omega
      case hz1 => exact (Mem.below H3.out).size
      intro u9 w4 own9 gr9 hp9
      have own8 : w4.ownsRow w.heap.size 43 23 u9 (ls ++ [(x, p)]).length ((ls ++ [(x, p)]).flatMap tV) := by simpa [tV] using own9
      have H4 := hide (Mem.app H3.out 2 rfl own8 gr9 hp9)
      clear own9 own8 gr9 hp9
      go_wp2_with fail
      go_roundw
      case rel => exact ⟨j + 1, ls ++ [(x, p)], u9, rfl, by omega, by go_num, (by rw [List.map_append, HLS.out, List.take_add_one, HXX.out]; rfl), Mem.pick (Mem.push (x := (x, p)) (f := drvV w.heap.size) (Mem.pick H4.out [0, 3, 2] (by decide) rfl) (drvV_ok _ _)) [1, 0] (by decide) rfl⟩
      case measure => simp [intOf]; omega
    · obtain rfl : j = l.length := by omega
      go_wp2_with fail
      go_ret
      exact ⟨u, ls, rfl, (by rw [HLS.out, List.take_length]), HM.out⟩
end Go.Proofs.Ytidiepbmbbflhaa
end
section
namespace Go.Proofs.Ytidiepbmbbflhaa.Two
open Go Go.RowKit
/-- what the head may do to the world -/
class RelOk (X : World → World → Prop) : Prop where
  refl : ∀ w, X w w
  trans : ∀ a b c, X a b → X b c → X a c
  drew : ∀ w, X w w.drew
def Ext (X : World → World → Prop) (w w' : World) : Prop := X w w'
theorem Ext.refl {X : World → World → Prop} [RelOk X] (w : World) : Ext X w w := RelOk.refl (X := X) w
theorem Ext.trans {X : World → World → Prop} [RelOk X] {a b c : World} (h : Ext X a b) (k : Ext X b c) : Ext X a c := RelOk.trans (X := X) a b c h k
theorem Ext.drew {X : World → World → Prop} [RelOk X] (w : World) : Ext X w w.drew := RelOk.drew (X := X) w
/-- what an operation may do, by the slot that it writes -/
class RelY (X : World → World → Prop) (Y : Option Tmp → World → World → Prop) : Prop where
  sub : ∀ d w w', Y d w w' → X w w'
  refl : ∀ d w, Y d w w
/-- what is made, slot by slot -/
abbrev Made := Tmp → Option (Value → World → Prop)

section
variable {P : Program} {ops : Array Oper} {md : Region.Mode} {F : Made} {w0 : World} {X : World → World → Prop} {Y : Option Tmp → World → World → Prop} [RelOk X] [RelY X Y]

/-- pairs of slots, the first one written behind the second one -/
def exB (md : Region.Mode) (ops : Array Oper) (ex : List (Tmp × Tmp)) : Bool := ex.all fun p => (List.range ops.size).all fun j => (List.range ops.size).all fun i => !((ops[j]?).bind (·.dst) == some p.1 && (ops[i]?).bind (·.dst) == some p.2) || Region.waitsFor md ops j i
/-- what is so of a made thing stays so -/
def stays (Y : Option Tmp → World → World → Prop) (ex : List (Tmp × Tmp)) (F : Made) : Prop := ∀ t V, F t = some V → ∀ d, d ≠ some t → (∀ s, (t, s) ∈ ex → d ≠ some s) → ∀ u w w', V u w → Y d w w' → V u w'

/-- an operation hands on one value -/
def quietTo (Y : Option Tmp → World → World → Prop) (P : Program) (d : Option Tmp) (v : Value) (w : World) : Result Next → Prop
  | .ok (.value u) w' => w' = w ∧ u = v
  | .ok .skip w' => w' = w ∧ v = undef
  | .ok (.enter f args) w' => w' = w ∧ Calls P f args w (fun e w'' => e = .returned v ∧ Y d w w'')
  | _ => False
/-- an operation makes something -/
def freshTo (Y : Option Tmp → World → World → Prop) (P : Program) (d : Option Tmp) (V : Value → World → Prop) (w : World) : Result Next → Prop
  | .ok (.value u) w' => Y d w w' ∧ V u w'
  | .ok (.enter f args) w' => w' = w ∧ Calls P f args w (fun e w'' => ∃ u, e = .returned u ∧ Y d w w'' ∧ V u w'')
  | _ => False
/-- the one or the other -/
def makesTo (Y : Option Tmp → World → World → Prop) (P : Program) (d : Option Tmp) (V? : Option (Value → World → Prop)) (v : Value) (w : World) (r : Result Next) : Prop :=
  match V? with
  | some V => v = undef ∧ freshTo Y P d V w r
  | none => quietTo Y P d v w r

/-- frames that are one but for made slots -/
def Same (F : Made) (a b : Act) : Prop := a.defers = b.defers ∧ a.tmps.size = b.tmps.size ∧ ∀ t, F t = none → a.tmps[t]? = b.tmps[t]?

/-- the made slots that are looked at hold what they should -/
def Holds (F : Made) (l : List Tmp) (b : Act) (w : World) : Prop := ∀ t ∈ l, ∀ V, F t = some V → ∃ u, b.tmps[t]? = some u ∧ V u w

/-- what an operation does in whatever frame that is as 'a' but for made slots, and whose made slots that it looks at hold what they should -/
def Does (X : World → World → Prop) (Y : Option Tmp → World → World → Prop) (P : Program) (ops : Array Oper) (F : Made) (w0 : World) (o : Oper) (v : Value) (a : Act) : Prop :=
  ∀ b w, Ext X w0 w → Same F b a → Holds F (o.looksAt ops) b w →
    (Region.wanted o (yielded ops b.tmps) = true → makesTo Y P o.dst (o.dst.bind F) v w ((execOp b.eval o).run P w)) ∧
    (Region.wanted o (yielded ops b.tmps) = false → v = undef ∧ o.dst.bind F = none)

theorem tmps_put (a : Act) (d : Tmp) (x : Value) (t : Tmp) (h : t ≠ d) : (a.put (some d) x).tmps[t]? = a.tmps[t]? := by
  simp only [Act.put]
  rw [Array.getElem?_setIfInBounds_ne (Ne.symm h)]
theorem size_put (a : Act) (dst : Option Tmp) (x : Value) : (a.put dst x).tmps.size = a.tmps.size := by cases dst <;> simp [Act.put]
theorem defers_put (a : Act) (dst : Option Tmp) (x : Value) : (a.put dst x).defers = a.defers := by cases dst <;> rfl
theorem tmps_put_at (a : Act) (d : Tmp) (x : Value) : (a.put (some d) x).tmps[d]? = if d < a.tmps.size then some x else none := by
  simp only [Act.put, Array.getElem?_setIfInBounds, if_true]
theorem Same.put {a b : Act} (h : Same F a b) (dst : Option Tmp) (x : Value) : Same F (a.put dst x) (b.put dst x) := by
  refine ⟨by rw [defers_put, defers_put, h.1], by rw [size_put, size_put, h.2.1], fun t ht => ?_⟩
  cases dst with
  | none => exact h.2.2 t ht
  | some d =>
    by_cases e : t = d
    · subst e
      rw [tmps_put_at, tmps_put_at, h.2.1]
    · rw [tmps_put _ _ _ _ e, tmps_put _ _ _ _ e]
      exact h.2.2 t ht

theorem Holds.put {l : List Tmp} {b : Act} {w : World} (dst : Option Tmp) (x : Value) (hl : ∀ d, dst = some d → d ∉ l) : Holds F l (b.put dst x) w ↔ Holds F l b w := by
  unfold Holds
  constructor
  · intro h t ht V hV
    obtain ⟨u, hu, hv⟩ := h t ht V hV
    refine ⟨u, ?_, hv⟩
    cases dst with
    | none => exact hu
    | some d => rwa [tmps_put _ _ _ _ (fun e => hl d rfl (by rw [← e]; exact ht))] at hu
  · intro h t ht V hV
    obtain ⟨u, hu, hv⟩ := h t ht V hV
    refine ⟨u, ?_, hv⟩
    cases dst with
    | none => exact hu
    | some d => rw [tmps_put _ _ _ _ (fun e => hl d rfl (by rw [← e]; exact ht))]; exact hu

omit [RelOk X] [RelY X Y] in
/-- another slot makes no difference -/
theorem Does.of_put {o : Oper} (hs : ∀ cs b, o.op ≠ .select cs b) {v : Value} {a : Act} {dst : Option Tmp} {x : Value} (hd : ∀ d, dst = some d → d ∉ o.looksAt ops) (h : Does X Y P ops F w0 o v (a.put dst x)) : Does X Y P ops F w0 o v a := by
  intro b w hw hb hh
  have h2 := h (b.put dst x) w hw (hb.put dst x) ((Holds.put dst x hd).2 hh)
  rwa [wanted_put o b dst x hd, execOp_put o hs b dst x hd] at h2
omit [RelOk X] [RelY X Y] in
theorem Does.put {o : Oper} (hs : ∀ cs b, o.op ≠ .select cs b) {v : Value} {a : Act} {dst : Option Tmp} {x : Value} (hd : ∀ d, dst = some d → d ∉ o.looksAt ops) (h : Does X Y P ops F w0 o v a) : Does X Y P ops F w0 o v (a.put dst x) := by
  cases dst with
  | none => exact h
  | some d =>
    intro b w hw hb hh
    have hsame : Same F (b.put (some d) (a.tmps.getD d undef)) a := by
      refine ⟨by rw [defers_put, hb.1, defers_put], by rw [size_put, hb.2.1, size_put], fun t ht => ?_⟩
      by_cases e : t = d
      · subst e
        rw [tmps_put_at, hb.2.1, size_put]
        split
        · rename_i hlt; simp [hlt]
        · rename_i hlt; rw [Array.getElem?_eq_none (Nat.le_of_not_lt hlt)]
      · rw [tmps_put _ _ _ _ e, hb.2.2 t ht, tmps_put _ _ _ _ e]
    have h2 := h (b.put (some d) (a.tmps.getD d undef)) w hw hsame ((Holds.put (some d) _ hd).2 hh)
    rwa [wanted_put o b (some d) _ hd, execOp_put o hs b (some d) _ hd] at h2

def absOp (X : World → World → Prop) (Y : Option Tmp → World → World → Prop) (P : Program) (ops : Array Oper) (F : Made) (w0 : World) (i : Nat) (K : Act → Prop) (a : Act) : Prop :=
  match ops[i]? with
  | none => K a
  | some o => ∃ v, Does X Y P ops F w0 o v a ∧ K (a.put o.dst v)
omit [RelOk X] [RelY X Y] in
theorem absOp_mono {i : Nat} {a : Act} {K K' : Act → Prop} (h : ∀ a, K a → K' a) (hh : absOp X Y P ops F w0 i K a) : absOp X Y P ops F w0 i K' a := by
  unfold absOp at *
  cases ho : ops[i]? with
  | none => simp only [ho] at hh; exact h _ hh
  | some o =>
    simp only [ho] at hh
    obtain ⟨v, h1, h2⟩ := hh
    exact ⟨v, h1, h _ h2⟩

omit [RelOk X] [RelY X Y] in
theorem absOp_put {j : Nat} {oi oj : Oper} {v : Value} (hj : ops[j]? = some oj) (hap : oi.apart ops oj = true)
    (hsi : ∀ cs b, oi.op ≠ .select cs b) (hsj : ∀ cs b, oj.op ≠ .select cs b) {K : Act → Prop} {a : Act}
    (hy : Does X Y P ops F w0 oi v a) (h : absOp X Y P ops F w0 j K (a.put oi.dst v)) :
    absOp X Y P ops F w0 j (fun a' => Does X Y P ops F w0 oi v a' ∧ K (a'.put oi.dst v)) a := by
  obtain ⟨h1, h2, h3⟩ := Oper.apart_spec hap
  unfold absOp at *
  simp only [hj] at *
  obtain ⟨u, hu, hk⟩ := h
  exact ⟨u, hu.of_put hsj h1, hy.put hsi h3, by rw [← Act.put_comm a v u h2]; exact hk⟩

/-- whatever order the head is taken in, L holds when it is done -/
def headF (X : World → World → Prop) (Y : Option Tmp → World → World → Prop) (P : Program) (md : Region.Mode) (ops : Array Oper) (F : Made) (w0 : World) (n : Nat) (L : Array Bool → Act → Prop) : Nat → Array Bool → Act → Prop
  | 0, d, a => L d a
  | f + 1, d, a => Region.ready md ops d ≠ [] ∧ ∀ i ∈ Region.ready md ops d, i < n ∧ absOp X Y P ops F w0 i (headF X Y P md ops F w0 n L f (d.setIfInBounds i true)) a

omit [RelOk X] [RelY X Y] in
theorem headF_first {n i : Nat} {oi : Oper} {v : Value} {L : Array Bool → Act → Prop} (hi : ops[i]? = some oi) (hsel : ∀ (j : Nat) (o : Oper) cs b, ops[j]? = some o → o.op ≠ .select cs b)
    (hs : Region.sinkB md ops n = true) (hc : Region.chainB md ops n = true) (hn : n < ops.size) (hin : i < n) (hdone : ∀ d a, L d a → ∀ j ∈ Region.ready md ops d, n ≤ j) (f : Nat) :
    ∀ (d : Array Bool) (a : Act), HeadInv md ops n d →
      (∀ j oj, ops[j]? = some oj → j ≠ i → d.getD j true = false → (∀ e ∈ oj.after, Region.binds md e = true → e.on ≠ i) → oi.apart ops oj = true) →
      i ∈ Region.ready md ops d → Does X Y P ops F w0 oi v a →
      headF X Y P md ops F w0 n L f (d.setIfInBounds i true) (a.put oi.dst v) → headF X Y P md ops F w0 n L (f + 1) d a := by
  have own : ∀ (K : Act → Prop) (a : Act), Does X Y P ops F w0 oi v a → K (a.put oi.dst v) → absOp X Y P ops F w0 i K a := by
    intro K a hy hk
    unfold absOp
    simp only [hi]
    exact ⟨v, hy, hk⟩
  induction f with
  | zero =>
    intro d a inv _ hr hy H
    refine ⟨List.ne_nil_of_mem hr, fun j hj => ?_⟩
    have hjn := headQ_lt hs hc hn inv hin (mem_ready.1 hr).1 hj
    refine ⟨hjn, ?_⟩
    rcases Nat.decEq j i with hji | hji
    · exact absurd (hdone _ _ H j (ready_mono hj hji)) (by omega)
    · subst hji
      exact own _ _ hy H
  | succ f ih =>
    intro d a inv hfree hr hy H
    refine ⟨List.ne_nil_of_mem hr, fun j hj => ?_⟩
    have hjn := headQ_lt hs hc hn inv hin (mem_ready.1 hr).1 hj
    refine ⟨hjn, ?_⟩
    rcases Nat.decEq j i with hji | hji
    · obtain ⟨hjun, oj, hoj, hall⟩ := mem_ready.1 hj
      have hnot : ∀ e ∈ oj.after, Region.binds md e = true → e.on ≠ i := by
        intro e he hb heq
        have h1 := hall e he hb
        rw [heq, getD_both (mem_ready.1 hr).1] at h1
        cases h1
      have hstep := absOp_put hoj (hfree j oj hoj hji hjun hnot) (fun cs b => hsel i oi cs b hi) (fun cs b => hsel j oj cs b hoj) hy (H.2 j (ready_mono hj hji)).2
      refine absOp_mono (fun a' h3 => ih (d.setIfInBounds j true) a' (inv.set hj hjn) ?_ (ready_mono hr (Ne.symm hji)) h3.1 ?_) hstep
      · intro k ok hk hki hunk hno
        refine hfree k ok hk hki ?_ hno
        rcases Nat.decEq j k with hjk | hjk
        · rwa [getD_set_ne true hjk] at hunk
        · subst hjk
          exact hjun
      · rw [Array.setIfInBounds_comm _ _ hji]
        exact h3.2
    · subst hji
      exact own _ _ hy H

/-- the walk in the text's order -/
def wpMade (X : World → World → Prop) (Y : Option Tmp → World → World → Prop) (P : Program) (ops : Array Oper) (F : Made) (w0 : World) (Q : Act → Prop) : List Oper → Act → Prop
  | [], a => Q a
  | o :: rest, a => ∃ v, Does X Y P ops F w0 o v a ∧ wpMade X Y P ops F w0 Q rest (a.put o.dst v)

omit [RelOk X] [RelY X Y] in
theorem headF_lex {n g : Nat} {Lq : Act → Prop} (hsel : Region.noSelect ops = true) (hs : Region.sinkB md ops n = true) (hc : Region.chainB md ops n = true) (hn : n < ops.size) :
    ∀ (l : List Oper) (k : Nat) (d : Array Bool) (a : Act), (∀ j, j < l.length → l[j]? = ops[k + j]?) → k + l.length = n → HeadInv md ops n d → (∀ i, i < k → d.getD i false = true) →
    Region.lexHead md ops g l.length k d = true → wpMade X Y P ops F w0 Lq l a →
    headF X Y P md ops F w0 n (fun d' a' => (Region.seqB md ops g n d' = true ∧ ∀ i, i < n → d'.getD i false = true) ∧ Lq a') l.length d a
  | [], k, d, a, _, hk, _, hd, hB, h => by
    obtain rfl : k = n := by simpa using hk
    exact ⟨⟨by simpa [Region.lexHead] using hB, hd⟩, h⟩
  | o :: l, k, d, a, hl, hk, inv, hd, hB, h => by
    have h0 : ops[k]? = some o := by simpa using (hl 0 (by simp)).symm
    simp only [List.length_cons, Region.lexHead, Bool.and_eq_true] at hB
    obtain ⟨⟨hr, hf⟩, hB'⟩ := hB
    have hkn : k < n := by simp only [List.length_cons] at hk; omega
    have hr' : k ∈ Region.ready md ops d := by simpa using hr
    obtain ⟨v, hy, hK⟩ := h
    refine headF_first h0 (Region.noSelect_spec hsel) hs hc hn hkn (fun d' a' hL => seqB_ready hL.1.1) l.length d a inv (Region.free_spec h0 hf) hr' hy ?_
    refine headF_lex hsel hs hc hn l (k + 1) _ _ (fun j hj => ?_) (by simp only [List.length_cons] at hk; omega) (inv.set hr' hkn) (fun i hi => ?_) hB' hK
    · have := hl (j + 1) (by simp; omega)
      simpa [Nat.add_assoc, Nat.add_comm 1 j] using this
    · by_cases e : k = i
      · subst e
        have : k < d.size := by rw [inv.size]; omega
        simp [this]
      · rw [getD_set_ne false e]
        exact hd i (by omega)

/-- made slots that are looked at have been made -/
def madeB (md : Region.Mode) (ops : Array Oper) (keys : List Tmp) (n : Nat) : Bool :=
  (List.range n).all fun j => match ops[j]? with
    | none => true
    | some o => (o.looksAt ops).all fun t => !keys.contains t || (List.range n).any fun i => (ops[i]?).bind (·.dst) == some t && Region.waitsFor md ops j i
/-- all made slots are made by the head -/
def allMadeB (ops : Array Oper) (keys : List Tmp) (n : Nat) : Bool := keys.all fun t => (List.range n).any fun i => (ops[i]?).bind (·.dst) == some t

def Sim (X : World → World → Prop) (ops : Array Oper) (F : Made) (w0 : World) (d : Array Bool) (a b : Act) (w : World) : Prop :=
  Ext X w0 w ∧ Same F b a ∧ ∀ i o t V, ops[i]? = some o → d.getD i false = true → o.dst = some t → F t = some V → ∃ u, b.tmps[t]? = some u ∧ V u w

theorem any_of_headF {n g : Nat} {keys : List Tmp} (ex : List (Tmp × Tmp)) (hex : exB md ops ex = true) (hF : stays Y ex F) (hkeys : ∀ t V, F t = some V → t ∈ keys) (hmade : madeB md ops keys n = true) (hsz : ∀ t ∈ keys, ∀ a : Act, ∀ b : Act, Same F b a → True)
    {L : Array Bool → Act → Prop} {Q' : Exit → Act → World → Prop} {size : Nat} (hrange : ∀ t V, F t = some V → t < size)
    (hL : ∀ d a b w, b.tmps.size = size → Sim X ops F w0 d a b w → L d a → wpAny P md ops Q' g d b w) :
    ∀ (f : Nat) (d : Array Bool) (a b : Act) (w : World), b.tmps.size = size → HeadInv md ops n d → Sim X ops F w0 d a b w → headF X Y P md ops F w0 n L f d a → wpAny P md ops Q' (f + g) d b w
  | 0, d, a, b, w, hb, _, hs, h => by
    rw [Nat.zero_add]
    exact hL _ _ _ _ hb hs h
  | f + 1, d, a, b, w, hb, inv, hs, h => by
    rw [Nat.add_right_comm]
    refine ⟨fun he => absurd he h.1, fun i hi => ?_⟩
    obtain ⟨hin, hop⟩ := h.2 i hi
    obtain ⟨hun, oi, hoi, hall⟩ := mem_ready.1 hi
    obtain ⟨hw, hsame, hV⟩ := hs
    unfold absOp at hop
    simp only [hoi] at hop
    obtain ⟨v, hdo, hk⟩ := hop
    -- the made slots that it looks at
    have hhold : Holds F (oi.looksAt ops) b w := by
      intro t ht V hFt
      have h1 := List.all_eq_true.1 hmade i (List.mem_range.2 hin)
      simp only [hoi] at h1
      have h2 := List.all_eq_true.1 h1 t ht
      have hk2 : keys.contains t = true := by simpa using hkeys t V hFt
      simp only [hk2, Bool.not_true, Bool.false_or] at h2
      obtain ⟨j, _, hj2⟩ := List.any_eq_true.1 h2
      simp only [Bool.and_eq_true, beq_iff_eq] at hj2
      obtain ⟨hj3, hj4⟩ := hj2
      obtain ⟨oi', hoi', e, he, hbd, hon⟩ := Region.waitsFor_spec hj4
      obtain rfl : oi' = oi := Option.some.inj (hoi'.symm.trans hoi)
      cases hoj : ops[j]? with
      | none => simp [hoj] at hj3
      | some oj =>
        have hdst : oj.dst = some t := by simpa [hoj] using hj3
        exact (hV j oj t V hoj (by have := hall e he hbd; rwa [hon] at this) hdst hFt)
    obtain ⟨hyes, hno⟩ := hdo b w hw hsame hhold
    have nope : ∀ (j : Nat) (oj : Oper) (t s : Tmp), ops[j]? = some oj → d.getD j false = true → oj.dst = some t → (t, s) ∈ ex → oi.dst = some s → False := by
      intro j oj t s hoj hdn hdj hs heq
      have h1 := List.all_eq_true.1 (List.all_eq_true.1 (List.all_eq_true.1 hex (t, s) hs) j (List.mem_range.2 (Array.getElem?_eq_some_iff.1 hoj).1)) i (List.mem_range.2 (Array.getElem?_eq_some_iff.1 hoi).1)
      simp only [hoj, hoi, Option.bind_some, hdj, heq, beq_self_eq_true, Bool.and_self, Bool.not_true, Bool.false_or] at h1
      obtain ⟨oj', hoj', e, he, hbd, hon⟩ := Region.waitsFor_spec h1
      obtain rfl : oj' = oj := Option.some.inj (hoj'.symm.trans hoj)
      have h2 := inv.closed j oj' hoj hdn e he hbd
      rw [hon, getD_both hun] at h2
      cases h2
    -- the next state
    have next : ∀ (x : Value) (w' : World), Y oi.dst w w' → (∀ t V, oi.dst = some t → F t = some V → V x w') → (oi.dst.bind F = none → x = v) →
        wpAny P md ops Q' (f + g) (d.setIfInBounds i true) (b.put oi.dst x) w' := by
      intro x w' hx hVx hxv
      refine any_of_headF ex hex hF hkeys hmade hsz hrange hL f _ (a.put oi.dst v) _ w' (by rw [size_put]; exact hb) (inv.set hi hin) ⟨hw.trans (show Ext X w w' from RelY.sub (X := X) (Y := Y) oi.dst w w' hx), ?_, ?_⟩ hk
      · refine ⟨by rw [defers_put, defers_put, hsame.1], by rw [size_put, size_put, hsame.2.1], fun t ht => ?_⟩
        cases hd : oi.dst with
        | none => exact hsame.2.2 t ht
        | some dd =>
          by_cases e : t = dd
          · subst e
            rw [hxv (by simp [hd, ht]), tmps_put_at, tmps_put_at, hsame.2.1]
          · rw [tmps_put _ _ _ _ e, tmps_put _ _ _ _ e]
            exact hsame.2.2 t ht
      · -- what stands in a slot of the next frame
        have at_new : ∀ t V, oi.dst = some t → F t = some V → (b.put oi.dst x).tmps[t]? = some x := by
          intro t V e hFt
          rw [e, tmps_put_at, if_pos (by rw [hb]; exact hrange t V hFt)]
        have at_old : ∀ t, oi.dst ≠ some t → (b.put oi.dst x).tmps[t]? = b.tmps[t]? := by
          intro t e
          cases hd : oi.dst with
          | none => rfl
          | some dd => exact tmps_put _ _ _ _ (fun e3 => e (by rw [hd, e3]))
        have was : ∀ j oj t V, ops[j]? = some oj → (d.setIfInBounds i true).getD j false = true → oj.dst = some t → F t = some V → oi.dst ≠ some t → d.getD j false = true := by
          intro j oj t V hoj hlj hdj hFt e
          have hji : j ≠ i := by
            intro e2
            subst e2
            obtain rfl : oj = oi := Option.some.inj (hoj.symm.trans hoi)
            exact e hdj
          rwa [getD_set_ne false (Ne.symm hji)] at hlj
        intro j oj t V hoj hlj hdj hFt
        by_cases e : oi.dst = some t
        · exact ⟨x, at_new t V e hFt, hVx t V e hFt⟩
        · obtain ⟨u, hu, hVu⟩ := hV j oj t V hoj (was j oj t V hoj hlj hdj hFt e) hdj hFt
          exact ⟨u, by rw [at_old t e]; exact hu, hF t V hFt oi.dst e (fun s hs heq => nope j oj t s hoj (was j oj t V hoj hlj hdj hFt e) hdj hs heq) u w w' hVu hx⟩
    unfold wpOp
    simp only [hoi]
    by_cases hwt : Region.wanted oi (yielded ops b.tmps) = true
    · rw [if_pos hwt]
      refine .inl ?_
      have hm := hyes hwt
      unfold Oper.wp
      generalize (execOp b.eval oi).run P w = r at hm
      cases hbind : oi.dst.bind F with
      | none =>
        simp only [makesTo, hbind] at hm
        have hVx : ∀ (x : Value) (w' : World) t V, oi.dst = some t → F t = some V → V x w' := by
          intro x w' t V h1 h2
          simp [h1, h2] at hbind
        cases r with
        | halt x w' => exact hm.elim
        | ok nx w' =>
          cases nx <;> simp only [quietTo] at hm
          case value u =>
            obtain ⟨rfl, rfl⟩ := hm
            exact next _ _ (RelY.refl X oi.dst _) (hVx _ _) (fun _ => rfl)
          case skip =>
            obtain ⟨rfl, rfl⟩ := hm
            exact next _ _ (RelY.refl X oi.dst _) (hVx _ _) (fun _ => rfl)
          case enter fn args =>
            obtain ⟨rfl, hcall⟩ := hm
            refine hcall.mono ?_
            rintro e w'' ⟨rfl, hx⟩
            exact next _ _ hx (hVx _ _) (fun _ => rfl)
      | some V =>
        simp only [makesTo, hbind] at hm
        obtain ⟨_, hm⟩ := hm
        have hnone : oi.dst.bind F = none → ∀ x : Value, x = v := fun h => by rw [hbind] at h; cases h
        have hVx : ∀ (x : Value) (w' : World), V x w' → ∀ t V', oi.dst = some t → F t = some V' → V' x w' := by
          intro x w' hx t V' h1 h2
          simp only [h1, Option.bind_some, h2, Option.some.injEq] at hbind
          rw [hbind]; exact hx
        cases r with
        | halt x w' => exact hm.elim
        | ok nx w' =>
          cases nx <;> simp only [freshTo] at hm
          case value u => exact next _ _ hm.1 (hVx _ _ hm.2) (fun h => hnone h _)
          case enter fn args =>
            obtain ⟨rfl, hcall⟩ := hm
            refine hcall.mono ?_
            rintro e w'' ⟨u, rfl, hx, hVu⟩
            exact next _ _ hx (hVx _ _ hVu) (fun h => hnone h _)
    · rw [if_neg hwt]
      have h3 := hno (by simpa using hwt)
      refine next _ _ (RelY.refl X oi.dst _) ?_ (fun _ => h3.1.symm)
      intro t V h1 h2
      have h4 := h3.2
      simp [h1, h2] at h4

/-- THE LAW. -/
theorem wp_made_tail_any {Q : Exit → Act → World → Prop} {a : Act} {w : World} {l : List Oper} (n : Nat) (keys : List Tmp) (ex : List (Tmp × Tmp)) (hex : exB .any l.toArray ex = true) (F : Made) (_ : P.follows .mixedOrders = true)
    (hB : (Region.lexTailB .any l.toArray n && madeB .any l.toArray keys n && allMadeB l.toArray keys n) = true) (hkeys : ∀ t V, F t = some V → t ∈ keys) (hF : stays Y ex F) (hrange : ∀ t ∈ keys, t < a.tmps.size)
    (h : wpMade X Y P l.toArray F w (fun a' => ∀ b w', Ext X w w' → Same F b a' → (∀ t V, F t = some V → ∃ u, b.tmps[t]? = some u ∧ V u w') → wpList P l.toArray Q (l.drop n) b w') (l.take n) a) :
    wpAny P .any l.toArray Q l.toArray.size (Array.replicate l.toArray.size false) a w.drew := by
  simp only [Bool.and_eq_true] at hB
  obtain ⟨⟨hB, hmade⟩, hallm⟩ := hB
  simp only [Region.lexTailB, Bool.and_eq_true, decide_eq_true_eq] at hB
  obtain ⟨⟨⟨⟨hsel, hn⟩, hs⟩, hc⟩, hlex⟩ := hB
  have hn' : n < l.length := by simpa using hn
  have htl : (l.take n).length = n := by simp; omega
  have hdl : (l.drop n).length = l.toArray.size - n := by simp
  have inv0 : HeadInv .any l.toArray n (Array.replicate l.toArray.size false) :=
    ⟨by simp, fun j oj _ hl => (by rw [getD_replicate_false] at hl; cases hl), fun t _ ht => getD_in (by simpa using ht) (getD_replicate_false _ _)⟩
  have H := headF_lex (md := .any) (g := l.toArray.size - n) hsel hs hc hn (l.take n) 0 _ a (fun j hj => by
    have hj' : j < n := by rw [htl] at hj; exact hj
    simp [hj']) (by simpa using htl) inv0 (fun i hi => absurd hi (Nat.not_lt_zero _)) (by rw [htl]; exact hlex) h
  have hfin := any_of_headF (Q' := Q) (g := l.toArray.size - n) (size := a.tmps.size) ex hex hF hkeys hmade (fun _ _ _ _ _ => trivial) (fun t V h => hrange t (hkeys t V h)) (fun d a' b w' _ hsim hL => by
    have mk : ∀ t V, F t = some V → ∃ i oi, l.toArray[i]? = some oi ∧ d.getD i false = true ∧ oi.dst = some t := by
      intro t V hFt
      have h5 := List.all_eq_true.1 hallm t (hkeys t V hFt)
      obtain ⟨i, hi, hi2⟩ := List.any_eq_true.1 h5
      simp only [beq_iff_eq] at hi2
      cases hoi : l.toArray[i]? with
      | none => simp [hoi] at hi2
      | some oi => exact ⟨i, oi, hoi, hL.1.2 i (List.mem_range.1 hi), by simpa [hoi] using hi2⟩
    have h2 := hL.2 b w' hsim.1 hsim.2.1 (fun t V hFt => by
      obtain ⟨i, oi, hoi, hdn, hdst⟩ := mk t V hFt
      exact hsim.2.2 i oi t V hoi hdn hdst hFt)
    have h4 := wpAny_of_seq (md := .any) (Q' := Q) (l.drop n) n d b w' (fun j => by simp [List.getElem?_drop]) (by rw [hdl]; exact hL.1.1) h2
    rwa [hdl] at h4) _ _ a a w.drew rfl inv0 ⟨Ext.drew w, ⟨rfl, rfl, fun _ _ => rfl⟩, fun i o t V _ hd => by rw [getD_replicate_false] at hd; cases hd⟩ H
  rw [htl, show n + (l.toArray.size - n) = l.toArray.size by omega] at hfin
  exact hfin

theorem wp_made_tail {id : Nat} {Q : Exit → Act → World → Prop} {a : Act} {w : World} {l : List Oper} (n : Nat) (keys : List Tmp) (ex : List (Tmp × Tmp)) (hex : exB .any l.toArray ex = true) (F : Made) (hm : P.follows .mixedOrders = true)
    (hB : (Region.lexTailB .any l.toArray n && madeB .any l.toArray keys n && allMadeB l.toArray keys n) = true) (hkeys : ∀ t V, F t = some V → t ∈ keys) (hF : stays Y ex F) (hrange : ∀ t ∈ keys, t < a.tmps.size)
    (h : wpMade X Y P l.toArray F w (fun a' => ∀ b w', Ext X w w' → Same F b a' → (∀ t V, F t = some V → ∃ u, b.tmps[t]? = some u ∧ V u w') → wpList P l.toArray Q (l.drop n) b w') (l.take n) a) :
    (Code.region id l.toArray true).wp P Q a w := wp_region_any hm (wp_made_tail_any n keys ex hex F hm hB hkeys hF hrange h)

/- FOR THE WALK -/
theorem Same.fix {a b : Act} {t : Tmp} {u : Value} (h : Same F b a) (hu : b.tmps[t]? = some u) : Same (fun s => if s = t then none else F s) b (a.put (some t) u) := by
  have ht : t < b.tmps.size := by
    rcases Nat.lt_or_ge t b.tmps.size with h | h
    · exact h
    · rw [Array.getElem?_eq_none h] at hu; cases hu
  refine ⟨by rw [defers_put]; exact h.1, by rw [size_put]; exact h.2.1, fun s hs => ?_⟩
  by_cases e : s = t
  · subst e
    rw [tmps_put_at, if_pos (by rw [← h.2.1]; exact ht), hu]
  · rw [tmps_put _ _ _ _ e]
    exact h.2.2 s (by simpa [e] using hs)
theorem Same.eq {a b : Act} (h : Same F b a) (hF : ∀ s, F s = none) : b = a := by
  obtain ⟨bt, bd⟩ := b
  obtain ⟨at', ad⟩ := a
  obtain ⟨h1, _, h3⟩ := h
  have h4 : bt = at' := Array.ext_getElem? fun i => h3 i (hF i)
  cases h1; cases h4; rfl
theorem Same.eval {a b : Act} (h : Same F b a) {x : Operand} (hx : ∀ t, x = .tmp t → F t = none) : b.eval x = a.eval x := by
  cases x with
  | tmp t =>
    have h1 := h.2.2 t (hx t rfl)
    show b.tmps.getD t undef = a.tmps.getD t undef
    rw [Array.getD_eq_getD_getElem?, Array.getD_eq_getD_getElem?, h1]
  | _ => rfl
omit [RelOk X] [RelY X Y] in
theorem does_of {o : Oper} {v : Value} {a : Act} (hs : ∀ cs b, o.op ≠ .select cs b) (hg : o.guard = none) (hl : ∀ x ∈ o.op.operands, ∀ t, x = .tmp t → F t = none)
    (h : ∀ w, Ext X w0 w → makesTo Y P o.dst (o.dst.bind F) v w ((execOp a.eval o).run P w)) : Does X Y P ops F w0 o v a := by
  intro b w hw hb _
  have e : execOp b.eval o = execOp a.eval o := execOp_congr o hs fun x hx => hb.eval (hl x hx)
  have hwt : Region.wanted o (yielded ops b.tmps) = true := by unfold Region.wanted; rw [hg]
  rw [e]
  exact ⟨fun _ => h w hw, fun h2 => by rw [hwt] at h2; cases h2⟩
end
end Go.Proofs.Ytidiepbmbbflhaa.Two
end
section
namespace Go.Proofs.Ytidiepbmbbflhaa.Two
open Go Go.RowKit
/-- slot by slot, what a made thing is -/
abbrev MadeL := List (Tmp × (Value → World → Prop))
def madeBy (L : MadeL) : Made := fun t => (L.find? (fun p => p.1 == t)).map (·.2)
/-- what is made stays X so, and lies somewhere -/
structure MadeOk (Y : Option Tmp → World → World → Prop) (ex : List (Tmp × Tmp)) (t : Tmp) (V : Value → World → Prop) : Prop where
  stays : ∀ d, d ≠ some t → (∀ s, (t, s) ∈ ex → d ≠ some s) → ∀ u w w', V u w → Y d w w' → V u w'
theorem madeBy_mem {L : MadeL} {t : Tmp} {V : Value → World → Prop} (h : madeBy L t = some V) : (t, V) ∈ L := by
  unfold madeBy at h
  cases hf : L.find? (fun p => p.1 == t) with
  | none => rw [hf] at h; cases h
  | some p =>
    rw [hf] at h
    obtain rfl := Option.some.inj h
    have h1 := List.mem_of_find?_eq_some hf
    have h2 := List.find?_some hf
    simp only [beq_iff_eq] at h2
    obtain ⟨a, b⟩ := p
    subst h2
    exact h1
theorem madeBy_cons (t : Tmp) (V : Value → World → Prop) (L : MadeL) (s : Tmp) : madeBy ((t, V) :: L) s = if t = s then some V else madeBy L s := by
  unfold madeBy
  by_cases h : t = s
  · simp [h]
  · simp [h]
theorem madeBy_look : ∀ {L : MadeL} {t : Tmp} {V : Value → World → Prop}, (L.map (·.1)).Nodup → (t, V) ∈ L → madeBy L t = some V
  | [], _, _, _, hm => by cases hm
  | (t', V') :: L, t, V, hn, hm => by
    simp only [List.map_cons, List.nodup_cons] at hn
    rw [madeBy_cons]
    rcases List.mem_cons.1 hm with hm | hm
    · injection hm with e1 e2
      subst e1 e2
      rw [if_pos rfl]
    · rw [if_neg (fun e => hn.1 (List.mem_map.2 ⟨_, hm, e.symm⟩))]
      exact madeBy_look hn.2 hm
theorem madeBy_none {L : MadeL} {t : Tmp} (h : (L.map (·.1)).contains t = false) : madeBy L t = none := by
  cases hm : madeBy L t with
  | none => rfl
  | some V =>
    have h1 := madeBy_mem hm
    have h2 : (L.map (·.1)).contains t = true := by
      rw [List.contains_iff_mem]
      exact List.mem_map.2 ⟨_, h1, rfl⟩
    rw [h2] at h; cases h
section
variable {P : Program} {ops : Array Oper} {L : MadeL} {w0 : World} {rest : List Oper} {o : Oper} {a : Act} {Q : Act → Prop} {X : World → World → Prop} {Y : Option Tmp → World → World → Prop} [RelOk X] [RelY X Y]
omit [RelOk X] [RelY X Y] in
theorem stays_by {ex : List (Tmp × Tmp)} (hL : ∀ p ∈ L, MadeOk Y ex p.1 p.2) : stays Y ex (madeBy L) := fun _ _ hV d hd he u w w' hu hw => (hL _ (madeBy_mem hV)).stays d hd he u w w' hu hw
/-- an operation that looks at no made slot but t, and is no select -/
def looksB (keys : List Tmp) (ops : Array Oper) (o : Oper) : Bool := (match o.op with | .select _ _ => false | _ => true) && (o.looksAt ops).all fun s => !keys.contains s
theorem looksB_sel {keys : List Tmp} (h : looksB keys ops o = true) : ∀ cs b, o.op ≠ .select cs b := by
  intro cs b e
  unfold looksB at h
  rw [e] at h
  cases h
theorem looksB_opd {keys : List Tmp} (h : looksB keys ops o = true) {x : Operand} (hx : x ∈ o.op.operands) {t : Tmp} (e : x = .tmp t) : keys.contains t = false := by
  simp only [looksB, Bool.and_eq_true] at h
  have h2 := List.all_eq_true.1 h.2 t (by
    unfold Oper.looksAt
    exact List.mem_append_left _ (List.mem_filterMap.2 ⟨x, by simpa using hx, by rw [e]⟩))
  simpa using h2
theorem looksB_guard {keys : List Tmp} (h : looksB keys ops o = true) {g : Nat} {y : Bool} (hg : o.guard = some (g, y)) {t : Tmp} (ht : (ops[g]?).bind (·.dst) = some t) : keys.contains t = false := by
  simp only [looksB, Bool.and_eq_true] at h
  have h2 := List.all_eq_true.1 h.2 t (by
    unfold Oper.looksAt
    refine List.mem_append_right _ ?_
    rw [hg]
    simp [ht])
  simpa using h2
theorem wanted_same {F : Made} {b : Act} (hb : Same F b a) (hg : ∀ g x, o.guard = some (g, x) → ∀ t, (ops[g]?).bind (·.dst) = some t → F t = none) : Region.wanted o (yielded ops b.tmps) = Region.wanted o (yielded ops a.tmps) := by
  unfold Region.wanted
  cases hgd : o.guard with
  | none => rfl
  | some p =>
    obtain ⟨g, x⟩ := p
    simp only
    unfold yielded
    cases ht : (ops[g]?).bind (·.dst) with
    | none => rfl
    | some t => simp only [Option.bind_some, hb.2.2 t (hg g x hgd t ht)]
theorem looksB_wanted {b : Act} (hB : looksB (L.map (·.1)) ops o = true) (hb : Same (madeBy L) b a) : Region.wanted o (yielded ops b.tmps) = Region.wanted o (yielded ops a.tmps) :=
  wanted_same hb fun _ _ hg _ ht => madeBy_none (looksB_guard hB hg ht)
theorem looksB_exec {b : Act} (hB : looksB (L.map (·.1)) ops o = true) (hb : Same (madeBy L) b a) : execOp b.eval o = execOp a.eval o :=
  execOp_congr o (looksB_sel hB) fun _ hx => hb.eval fun _ e => madeBy_none (looksB_opd hB hx e)

omit [RelOk X] [RelY X Y] in
/-- an operation that hands on a value -/
theorem made_val (v : Value) (hB : looksB (L.map (·.1)) ops o = true) (hw : Region.wanted o (yielded ops a.tmps) = true) (hd : o.dst.bind (madeBy L) = none)
    (hrun : ∀ w, Ext X w0 w → (execOp a.eval o).run P w = .ok (.value v) w) (h : wpMade X Y P ops (madeBy L) w0 Q rest (a.put o.dst v)) : wpMade X Y P ops (madeBy L) w0 Q (o :: rest) a := by
  refine ⟨v, fun b w hx hb _ => ⟨fun _ => ?_, fun h2 => ?_⟩, h⟩
  · rw [hd, looksB_exec hB hb, hrun w hx]
    exact ⟨rfl, rfl⟩
  · rw [looksB_wanted hB hb, hw] at h2; cases h2
omit [RelOk X] [RelY X Y] in
/-- an operation that is not wanted -/
theorem made_skip (hB : looksB (L.map (·.1)) ops o = true) (hw : Region.wanted o (yielded ops a.tmps) = false) (hd : o.dst.bind (madeBy L) = none)
    (h : wpMade X Y P ops (madeBy L) w0 Q rest (a.put o.dst undef)) : wpMade X Y P ops (madeBy L) w0 Q (o :: rest) a := by
  refine ⟨undef, fun b w hx hb _ => ⟨fun h2 => ?_, fun _ => ⟨rfl, hd⟩⟩, h⟩
  rw [looksB_wanted hB hb, hw] at h2; cases h2
omit [RelOk X] [RelY X Y] in
/-- a call that makes at most memory, and hands on a value -/
theorem made_call (v : Value) (f : Nat) (args : Array Value) (hB : looksB (L.map (·.1)) ops o = true) (hw : Region.wanted o (yielded ops a.tmps) = true) (hd : o.dst.bind (madeBy L) = none)
    (hrun : ∀ w, (execOp a.eval o).run P w = .ok (.enter f args) w) (hc : ∀ w, Ext X w0 w → Calls P f args w fun e w' => e = .returned v ∧ Y o.dst w w')
    (h : wpMade X Y P ops (madeBy L) w0 Q rest (a.put o.dst v)) : wpMade X Y P ops (madeBy L) w0 Q (o :: rest) a := by
  refine ⟨v, fun b w hx hb _ => ⟨fun _ => ?_, fun h2 => ?_⟩, h⟩
  · rw [hd, looksB_exec hB hb, hrun w]
    exact ⟨rfl, hc w hx⟩
  · rw [looksB_wanted hB hb, hw] at h2; cases h2
omit [RelOk X] [RelY X Y] in
/-- an operation that makes something -/
theorem made_new (t : Tmp) (V : Value → World → Prop) (hB : looksB (L.map (·.1)) ops o = true) (hw : Region.wanted o (yielded ops a.tmps) = true) (hd : o.dst = some t) (hV : madeBy L t = some V)
    (hrun : ∀ w, Ext X w0 w → ∃ u w', (execOp a.eval o).run P w = .ok (.value u) w' ∧ Y o.dst w w' ∧ V u w')
    (h : wpMade X Y P ops (madeBy L) w0 Q rest (a.put o.dst undef)) : wpMade X Y P ops (madeBy L) w0 Q (o :: rest) a := by
  refine ⟨undef, fun b w hx hb _ => ⟨fun _ => ?_, fun h2 => ?_⟩, h⟩
  · obtain ⟨u, w', h1, h2, h3⟩ := hrun w hx
    rw [hd, Option.bind_some, hV, looksB_exec hB hb, h1]
    exact ⟨rfl, hd ▸ h2, h3⟩
  · rw [looksB_wanted hB hb, hw] at h2; cases h2
omit [RelOk X] [RelY X Y] in
/-- a call that makes something -/
theorem made_newcall (t : Tmp) (V : Value → World → Prop) (f : Nat) (args : Array Value) (hB : looksB (L.map (·.1)) ops o = true) (hw : Region.wanted o (yielded ops a.tmps) = true) (hd : o.dst = some t) (hV : madeBy L t = some V)
    (hrun : ∀ w, (execOp a.eval o).run P w = .ok (.enter f args) w) (hc : ∀ w, Ext X w0 w → Calls P f args w fun e w' => ∃ u, e = .returned u ∧ Y o.dst w w' ∧ V u w')
    (h : wpMade X Y P ops (madeBy L) w0 Q rest (a.put o.dst undef)) : wpMade X Y P ops (madeBy L) w0 Q (o :: rest) a := by
  refine ⟨undef, fun b w hx hb _ => ⟨fun _ => ?_, fun h2 => ?_⟩, h⟩
  · rw [hd, Option.bind_some, hV, looksB_exec hB hb, hrun w]
    refine ⟨rfl, rfl, (hc w hx).mono ?_⟩
    rintro e w' ⟨u, h1, h2, h3⟩
    exact ⟨u, h1, hd ▸ h2, h3⟩
  · rw [looksB_wanted hB hb, hw] at h2; cases h2

/-- the same, of an operation that looks at one made slot -/
def looksB1 (s : Tmp) (keys : List Tmp) (ops : Array Oper) (o : Oper) : Bool := (match o.op with | .select _ _ => false | _ => true) && (o.op.operands.toList.all fun x => match x with | .tmp t => t == s || !keys.contains t | _ => true) &&
  (match o.guard with | some (g, _) => ((ops[g]?).bind (·.dst)).toList.all fun t => !keys.contains t | none => true) && (o.looksAt ops).contains s
theorem looksB1_wanted {s : Tmp} {b : Act} (hB : looksB1 s (L.map (·.1)) ops o = true) (hb : Same (madeBy L) b a) : Region.wanted o (yielded ops b.tmps) = Region.wanted o (yielded ops a.tmps) := by
  refine wanted_same hb fun g _ hg t ht => madeBy_none ?_
  simp only [looksB1, Bool.and_eq_true] at hB
  have h := hB.1.2
  rw [hg] at h
  simpa [ht] using h
theorem looksB1_exec {s : Tmp} {u : Value} {b : Act} (hB : looksB1 s (L.map (·.1)) ops o = true) (hb : Same (madeBy L) b a) (hu : b.tmps[s]? = some u) : execOp b.eval o = execOp (a.put (some s) u).eval o := by
  simp only [looksB1, Bool.and_eq_true] at hB
  refine execOp_congr o ?_ fun x hx => ?_
  · intro cs d e
    have h := hB.1.1.1
    rw [e] at h
    cases h
  · refine (hb.fix hu).eval fun t e => ?_
    have h := List.all_eq_true.1 hB.1.1.2 x (by simpa using hx)
    rw [e] at h
    simp only [Bool.or_eq_true, beq_iff_eq, Bool.not_eq_true'] at h
    rcases h with h | h
    · rw [if_pos h]
    · split
      · rfl
      · exact madeBy_none h
theorem looksB1_holds {s : Tmp} {V : Value → World → Prop} {b : Act} {w : World} (hB : looksB1 s (L.map (·.1)) ops o = true) (hV : madeBy L s = some V) (hh : Holds (madeBy L) (o.looksAt ops) b w) : ∃ u, b.tmps[s]? = some u ∧ V u w := by
  simp only [looksB1, Bool.and_eq_true] at hB
  exact hh s (by simpa using hB.2) V hV
omit [RelOk X] [RelY X Y] in
theorem made_val1 (s : Tmp) (V : Value → World → Prop) (v : Value) (hB : looksB1 s (L.map (·.1)) ops o = true) (hV : madeBy L s = some V) (hw : Region.wanted o (yielded ops a.tmps) = true) (hd : o.dst.bind (madeBy L) = none)
    (hrun : ∀ u w, Ext X w0 w → V u w → (execOp (a.put (some s) u).eval o).run P w = .ok (.value v) w) (h : wpMade X Y P ops (madeBy L) w0 Q rest (a.put o.dst v)) : wpMade X Y P ops (madeBy L) w0 Q (o :: rest) a := by
  refine ⟨v, fun b w hx hb hh => ⟨fun _ => ?_, fun h2 => ?_⟩, h⟩
  · obtain ⟨u, hu, hVu⟩ := looksB1_holds hB hV hh
    rw [hd, looksB1_exec hB hb hu, hrun u w hx hVu]
    exact ⟨rfl, rfl⟩
  · rw [looksB1_wanted hB hb, hw] at h2; cases h2
omit [RelOk X] [RelY X Y] in
theorem made_call1 (s : Tmp) (V : Value → World → Prop) (v : Value) (f : Nat) (args : Value → Array Value) (hB : looksB1 s (L.map (·.1)) ops o = true) (hV : madeBy L s = some V) (hw : Region.wanted o (yielded ops a.tmps) = true) (hd : o.dst.bind (madeBy L) = none)
    (hrun : ∀ u w, (execOp (a.put (some s) u).eval o).run P w = .ok (.enter f (args u)) w) (hc : ∀ u w, Ext X w0 w → V u w → Calls P f (args u) w fun e w' => e = .returned v ∧ Y o.dst w w')
    (h : wpMade X Y P ops (madeBy L) w0 Q rest (a.put o.dst v)) : wpMade X Y P ops (madeBy L) w0 Q (o :: rest) a := by
  refine ⟨v, fun b w hx hb hh => ⟨fun _ => ?_, fun h2 => ?_⟩, h⟩
  · obtain ⟨u, hu, hVu⟩ := looksB1_holds hB hV hh
    rw [hd, looksB1_exec hB hb hu, hrun u w]
    exact ⟨rfl, hc u w hx hVu⟩
  · rw [looksB1_wanted hB hb, hw] at h2; cases h2
omit [RelOk X] [RelY X Y] in
/-- what is made out of one made thing -/
theorem made_new1 (s : Tmp) (V : Value → World → Prop) (t : Tmp) (V' : Value → World → Prop) (hB : looksB1 s (L.map (·.1)) ops o = true) (hV : madeBy L s = some V) (hw : Region.wanted o (yielded ops a.tmps) = true) (hd : o.dst = some t) (hV' : madeBy L t = some V')
    (hrun : ∀ u w, Ext X w0 w → V u w → ∃ u' w', (execOp (a.put (some s) u).eval o).run P w = .ok (.value u') w' ∧ Y o.dst w w' ∧ V' u' w')
    (h : wpMade X Y P ops (madeBy L) w0 Q rest (a.put o.dst undef)) : wpMade X Y P ops (madeBy L) w0 Q (o :: rest) a := by
  refine ⟨undef, fun b w hx hb hh => ⟨fun _ => ?_, fun h2 => ?_⟩, h⟩
  · obtain ⟨u, hu, hVu⟩ := looksB1_holds hB hV hh
    obtain ⟨u', w', h1, h2, h3⟩ := hrun u w hx hVu
    rw [hd, Option.bind_some, hV', looksB1_exec hB hb hu, h1]
    exact ⟨rfl, hd ▸ h2, h3⟩
  · rw [looksB1_wanted hB hb, hw] at h2; cases h2

/-- the end: the made things, one by one, in their slots -/
def ended : MadeL → World → Act → (Act → Prop) → Prop
  | [], _, a, K => K a
  | (t, V) :: L, w, a, K => ∀ u, V u w → ended L w (a.put (some t) u) K
theorem ended_elim (K : Act → Prop) (w : World) : ∀ (L : MadeL) (a b : Act), Same (madeBy L) b a → (L.map (·.1)).Nodup → (∀ t V, (t, V) ∈ L → ∃ u, b.tmps[t]? = some u ∧ V u w) → ended L w a K → K b
  | [], a, b, hs, _, _, h => by
    obtain rfl := hs.eq (fun _ => rfl)
    exact h
  | (t, V) :: L, a, b, hs, hn, hh, h => by
    obtain ⟨u, hu, hVu⟩ := hh t V (by simp)
    have h2 := h u hVu
    simp only [List.map_cons, List.nodup_cons] at hn
    refine ended_elim K w L _ b ?_ hn.2 (fun s V' hm => hh s V' (by simp [hm])) h2
    have h3 := hs.fix hu
    refine ⟨h3.1, h3.2.1, fun s hs' => h3.2.2 s ?_⟩
    show (if s = t then none else madeBy ((t, V) :: L) s) = none
    split
    · rfl
    · rename_i hne
      rw [madeBy_cons, if_neg (Ne.symm hne)]
      exact hs'
/-- THE LAW -/
theorem wp_made_any {Q : Exit → Act → World → Prop} {a : Act} {w : World} {l : List Oper} (n : Nat) (ex : List (Tmp × Tmp)) (hex : exB .any l.toArray ex = true) (L : MadeL) (hm : P.follows .mixedOrders = true)
    (hB : (Region.lexTailB .any l.toArray n && madeB .any l.toArray (L.map (·.1)) n && allMadeB l.toArray (L.map (·.1)) n) = true) (hL : ∀ p ∈ L, MadeOk Y ex p.1 p.2) (hn : (L.map (·.1)).Nodup) (hrange : ∀ t ∈ L.map (·.1), t < a.tmps.size)
    (h : wpMade X Y P l.toArray (madeBy L) w (fun a' => ∀ w', Ext X w w' → ended L w' a' fun b => wpList P l.toArray Q (l.drop n) b w') (l.take n) a) :
    wpAny P .any l.toArray Q l.toArray.size (Array.replicate l.toArray.size false) a w.drew := by
  refine wp_made_tail_any (X := X) n (L.map (·.1)) ex hex (madeBy L) hm hB (fun t V hV => List.mem_map.2 ⟨_, madeBy_mem hV, rfl⟩) (stays_by hL) hrange ?_
  have e : ∀ (rest : List Oper) (a : Act), wpMade X Y P l.toArray (madeBy L) w (fun a' => ∀ w', Ext X w w' → ended L w' a' fun b => wpList P l.toArray Q (l.drop n) b w') rest a →
      wpMade X Y P l.toArray (madeBy L) w (fun a' => ∀ b w', Ext X w w' → Same (madeBy L) b a' → (∀ t V, madeBy L t = some V → ∃ u, b.tmps[t]? = some u ∧ V u w') → wpList P l.toArray Q (l.drop n) b w') rest a := by
    intro rest
    induction rest with
    | nil =>
      intro a h b w' hx hs hh
      exact ended_elim _ w' L a b hs hn (fun t V hm => hh t V (madeBy_look hn hm)) (h w' hx)
    | cons o rest ih =>
      intro a h
      obtain ⟨v, h1, h2⟩ := h
      exact ⟨v, h1, ih _ h2⟩
  exact e _ _ h

theorem wp_made {id : Nat} {Q : Exit → Act → World → Prop} {a : Act} {w : World} {l : List Oper} (n : Nat) (ex : List (Tmp × Tmp)) (hex : exB .any l.toArray ex = true) (L : MadeL) (hm : P.follows .mixedOrders = true)
    (hB : (Region.lexTailB .any l.toArray n && madeB .any l.toArray (L.map (·.1)) n && allMadeB l.toArray (L.map (·.1)) n) = true) (hL : ∀ p ∈ L, MadeOk Y ex p.1 p.2) (hn : (L.map (·.1)).Nodup) (hrange : ∀ t ∈ L.map (·.1), t < a.tmps.size)
    (h : wpMade X Y P l.toArray (madeBy L) w (fun a' => ∀ w', Ext X w w' → ended L w' a' fun b => wpList P l.toArray Q (l.drop n) b w') (l.take n) a) :
    (Code.region id l.toArray true).wp P Q a w := wp_region_any hm (wp_made_any n ex hex L hm hB hL hn hrange h)

end
section
variable {P : Program} {ops : Array Oper} {L : MadeL} {w0 : World} {rest : List Oper} {o : Oper} {a : Act} {Q : Act → Prop} {X : World → World → Prop} {Y : Option Tmp → World → World → Prop} [RelOk X] [RelY X Y]
def looksB2 (s r : Tmp) (keys : List Tmp) (ops : Array Oper) (o : Oper) : Bool := (match o.op with | .select _ _ => false | _ => true) && (o.op.operands.toList.all fun x => match x with | .tmp t => t == s || t == r || !keys.contains t | _ => true) &&
  (match o.guard with | some (g, _) => ((ops[g]?).bind (·.dst)).toList.all fun t => !keys.contains t | none => true) && (o.looksAt ops).contains s && (o.looksAt ops).contains r
theorem looksB2_wanted {s r : Tmp} {b : Act} (hB : looksB2 s r (L.map (·.1)) ops o = true) (hb : Same (madeBy L) b a) : Region.wanted o (yielded ops b.tmps) = Region.wanted o (yielded ops a.tmps) := by
  refine wanted_same hb fun g _ hg t ht => madeBy_none ?_
  simp only [looksB2, Bool.and_eq_true] at hB
  have h := hB.1.1.2
  rw [hg] at h
  simpa [ht] using h
theorem looksB2_exec {s r : Tmp} {u v : Value} {b : Act} (hB : looksB2 s r (L.map (·.1)) ops o = true) (hb : Same (madeBy L) b a) (hu : b.tmps[s]? = some u) (hv : b.tmps[r]? = some v) : execOp b.eval o = execOp ((a.put (some s) u).put (some r) v).eval o := by
  simp only [looksB2, Bool.and_eq_true] at hB
  refine execOp_congr o ?_ fun x hx => ?_
  · intro cs d e
    have h := hB.1.1.1.1
    rw [e] at h
    cases h
  · refine ((hb.fix hu).fix hv).eval fun t e => ?_
    have h := List.all_eq_true.1 hB.1.1.1.2 x (by simpa using hx)
    rw [e] at h
    simp only [Bool.or_eq_true, beq_iff_eq, Bool.not_eq_true'] at h
    rcases h with (h | h) | h
    · split
      · rfl
      · first | rfl | rw [if_pos h]
    · rw [if_pos h]
    · split
      · rfl
      · split
        · rfl
        · exact madeBy_none h
theorem looksB2_holds {s r : Tmp} {V V2 : Value → World → Prop} {b : Act} {w : World} (hB : looksB2 s r (L.map (·.1)) ops o = true) (hV : madeBy L s = some V) (hV2 : madeBy L r = some V2) (hh : Holds (madeBy L) (o.looksAt ops) b w) : (∃ u, b.tmps[s]? = some u ∧ V u w) ∧ ∃ u, b.tmps[r]? = some u ∧ V2 u w := by
  simp only [looksB2, Bool.and_eq_true] at hB
  exact ⟨hh s (by simpa using hB.1.2) V hV, hh r (by simpa using hB.2) V2 hV2⟩
omit [RelOk X] [RelY X Y] in
/-- what is made out of two made things -/
theorem made_new2 (s r : Tmp) (V V2 : Value → World → Prop) (t : Tmp) (V' : Value → World → Prop) (hB : looksB2 s r (L.map (·.1)) ops o = true) (hV : madeBy L s = some V) (hV2 : madeBy L r = some V2) (hw : Region.wanted o (yielded ops a.tmps) = true) (hd : o.dst = some t) (hV' : madeBy L t = some V')
    (hrun : ∀ u v w, Ext X w0 w → V u w → V2 v w → ∃ u' w', (execOp ((a.put (some s) u).put (some r) v).eval o).run P w = .ok (.value u') w' ∧ Y o.dst w w' ∧ V' u' w')
    (h : wpMade X Y P ops (madeBy L) w0 Q rest (a.put o.dst undef)) : wpMade X Y P ops (madeBy L) w0 Q (o :: rest) a := by
  refine ⟨undef, fun b w hx hb hh => ⟨fun _ => ?_, fun h2 => ?_⟩, h⟩
  · obtain ⟨⟨u, hu, hVu⟩, v, hv, hVv⟩ := looksB2_holds hB hV hV2 hh
    obtain ⟨u', w', h1, h2, h3⟩ := hrun u v w hx hVu hVv
    rw [hd, Option.bind_some, hV', looksB2_exec hB hb hu hv, h1]
    exact ⟨rfl, hd ▸ h2, h3⟩
  · rw [looksB2_wanted hB hb, hw] at h2; cases h2
end
section
variable {P : Program} {ops : Array Oper} {md : Region.Mode} {F : Made} {w0 : World} {X : World → World → Prop} {Y : Option Tmp → World → World → Prop} [RelOk X] [RelY X Y]
theorem all_lt {n j : Nat} {d : Array Bool} (hn : n = ops.size) (hj : j ∈ Region.ready md ops d) : j < n := by
  obtain ⟨_, oj, hoj, _⟩ := mem_ready.1 hj
  rw [hn]
  exact (Array.getElem?_eq_some_iff.1 hoj).1
omit [RelOk X] [RelY X Y] in
theorem headF_firstA {n i : Nat} {oi : Oper} {v : Value} {L : Array Bool → Act → Prop} (hi : ops[i]? = some oi) (hsel : ∀ (j : Nat) (o : Oper) cs b, ops[j]? = some o → o.op ≠ .select cs b)
    (hn : n = ops.size) (hin : i < n) (hdone : ∀ d a, L d a → ∀ j ∈ Region.ready md ops d, n ≤ j) (f : Nat) :
    ∀ (d : Array Bool) (a : Act), HeadInv md ops n d →
      (∀ j oj, ops[j]? = some oj → j ≠ i → d.getD j true = false → (∀ e ∈ oj.after, Region.binds md e = true → e.on ≠ i) → oi.apart ops oj = true) →
      i ∈ Region.ready md ops d → Does X Y P ops F w0 oi v a →
      headF X Y P md ops F w0 n L f (d.setIfInBounds i true) (a.put oi.dst v) → headF X Y P md ops F w0 n L (f + 1) d a := by
  have own : ∀ (K : Act → Prop) (a : Act), Does X Y P ops F w0 oi v a → K (a.put oi.dst v) → absOp X Y P ops F w0 i K a := by
    intro K a hy hk
    unfold absOp
    simp only [hi]
    exact ⟨v, hy, hk⟩
  induction f with
  | zero =>
    intro d a inv _ hr hy H
    refine ⟨List.ne_nil_of_mem hr, fun j hj => ?_⟩
    have hjn := all_lt hn hj
    refine ⟨hjn, ?_⟩
    rcases Nat.decEq j i with hji | hji
    · exact absurd (hdone _ _ H j (ready_mono hj hji)) (by omega)
    · subst hji
      exact own _ _ hy H
  | succ f ih =>
    intro d a inv hfree hr hy H
    refine ⟨List.ne_nil_of_mem hr, fun j hj => ?_⟩
    have hjn := all_lt hn hj
    refine ⟨hjn, ?_⟩
    rcases Nat.decEq j i with hji | hji
    · obtain ⟨hjun, oj, hoj, hall⟩ := mem_ready.1 hj
      have hnot : ∀ e ∈ oj.after, Region.binds md e = true → e.on ≠ i := by
        intro e he hb heq
        have h1 := hall e he hb
        rw [heq, getD_both (mem_ready.1 hr).1] at h1
        cases h1
      have hstep := absOp_put hoj (hfree j oj hoj hji hjun hnot) (fun cs b => hsel i oi cs b hi) (fun cs b => hsel j oj cs b hoj) hy (H.2 j (ready_mono hj hji)).2
      refine absOp_mono (fun a' h3 => ih (d.setIfInBounds j true) a' (inv.set hj hjn) ?_ (ready_mono hr (Ne.symm hji)) h3.1 ?_) hstep
      · intro k ok hk hki hunk hno
        refine hfree k ok hk hki ?_ hno
        rcases Nat.decEq j k with hjk | hjk
        · rwa [getD_set_ne true hjk] at hunk
        · subst hjk
          exact hjun
      · rw [Array.setIfInBounds_comm _ _ hji]
        exact h3.2
    · subst hji
      exact own _ _ hy H

omit [RelOk X] [RelY X Y] in
theorem headF_lexA {n g : Nat} {Lq : Act → Prop} (hsel : Region.noSelect ops = true) (hn : n = ops.size) :
    ∀ (l : List Oper) (k : Nat) (d : Array Bool) (a : Act), (∀ j, j < l.length → l[j]? = ops[k + j]?) → k + l.length = n → HeadInv md ops n d → (∀ i, i < k → d.getD i false = true) →
    Region.lexHead md ops g l.length k d = true → wpMade X Y P ops F w0 Lq l a →
    headF X Y P md ops F w0 n (fun d' a' => (Region.seqB md ops g n d' = true ∧ ∀ i, i < n → d'.getD i false = true) ∧ Lq a') l.length d a
  | [], k, d, a, _, hk, _, hd, hB, h => by
    obtain rfl : k = n := by simpa using hk
    exact ⟨⟨by simpa [Region.lexHead] using hB, hd⟩, h⟩
  | o :: l, k, d, a, hl, hk, inv, hd, hB, h => by
    have h0 : ops[k]? = some o := by simpa using (hl 0 (by simp)).symm
    simp only [List.length_cons, Region.lexHead, Bool.and_eq_true] at hB
    obtain ⟨⟨hr, hf⟩, hB'⟩ := hB
    have hkn : k < n := by simp only [List.length_cons] at hk; omega
    have hr' : k ∈ Region.ready md ops d := by simpa using hr
    obtain ⟨v, hy, hK⟩ := h
    refine headF_firstA h0 (Region.noSelect_spec hsel) hn hkn (fun d' a' hL => seqB_ready hL.1.1) l.length d a inv (Region.free_spec h0 hf) hr' hy ?_
    refine headF_lexA hsel hn l (k + 1) _ _ (fun j hj => ?_) (by simp only [List.length_cons] at hk; omega) (inv.set hr' hkn) (fun i hi => ?_) hB' hK
    · have := hl (j + 1) (by simp; omega)
      simpa [Nat.add_assoc, Nat.add_comm 1 j] using this
    · by_cases e : k = i
      · subst e
        have : k < d.size := by rw [inv.size]; omega
        simp [this]
      · rw [getD_set_ne false e]
        exact hd i (by omega)

/-- THE LAW. -/
theorem wp_made_tailA {id : Nat} {Q : Exit → Act → World → Prop} {a : Act} {w : World} {l : List Oper} (ex : List (Tmp × Tmp)) (hex : exB .any l.toArray ex = true) (keys : List Tmp) (F : Made) (hm : P.follows .mixedOrders = true)
    (hB : (Region.noSelect l.toArray && Region.lexHead .any l.toArray 0 l.length 0 (Array.replicate l.toArray.size false) && madeB .any l.toArray keys l.length && allMadeB l.toArray keys l.length) = true) (hkeys : ∀ t V, F t = some V → t ∈ keys) (hF : stays Y ex F) (hrange : ∀ t ∈ keys, t < a.tmps.size)
    (h : wpMade X Y P l.toArray F w (fun a' => ∀ b w', Ext X w w' → Same F b a' → (∀ t V, F t = some V → ∃ u, b.tmps[t]? = some u ∧ V u w') → Q .normal b w') l a) :
    (Code.region id l.toArray true).wp P Q a w := by
  simp only [Bool.and_eq_true] at hB
  obtain ⟨⟨⟨hsel, hlex⟩, hmade⟩, hallm⟩ := hB
  have inv0 : HeadInv .any l.toArray l.length (Array.replicate l.toArray.size false) :=
    ⟨by simp, fun j oj _ hl => (by rw [getD_replicate_false] at hl; cases hl), fun t ht ht' => absurd ht' (by simp; omega)⟩
  have H := headF_lexA (md := .any) (g := 0) (n := l.length) hsel (by simp) l 0 _ a (fun j hj => by simp) (by simp) inv0 (fun i hi => absurd hi (Nat.not_lt_zero _)) hlex h
  refine wp_region_any hm ?_
  have hfin := any_of_headF (Q' := Q) (g := 0) (size := a.tmps.size) ex hex hF hkeys hmade (fun _ _ _ _ _ => trivial) (fun t V h => hrange t (hkeys t V h)) (fun d a' b w' _ hsim hL => by
    have mk : ∀ t V, F t = some V → ∃ i oi, l.toArray[i]? = some oi ∧ d.getD i false = true ∧ oi.dst = some t := by
      intro t V hFt
      have h5 := List.all_eq_true.1 hallm t (hkeys t V hFt)
      obtain ⟨i, hi, hi2⟩ := List.any_eq_true.1 h5
      simp only [beq_iff_eq] at hi2
      cases hoi : l.toArray[i]? with
      | none => simp [hoi] at hi2
      | some oi => exact ⟨i, oi, hoi, hL.1.2 i (List.mem_range.1 hi), by simpa [hoi] using hi2⟩
    have h2 := hL.2 b w' hsim.1 hsim.2.1 (fun t V hFt => by
      obtain ⟨i, oi, hoi, hdn, hdst⟩ := mk t V hFt
      exact hsim.2.2 i oi t V hoi hdn hdst hFt)
    exact ⟨by simpa [Region.seqB] using hL.1.1, h2⟩) _ _ a a w.drew rfl inv0 ⟨Ext.drew w, ⟨rfl, rfl, fun _ _ => rfl⟩, fun i o t V _ hd => by rw [getD_replicate_false] at hd; cases hd⟩ H
  rw [show l.length + 0 = l.toArray.size by simp] at hfin
  exact hfin

end
section
variable {P : Program} {ops : Array Oper} {L : MadeL} {w0 : World} {X : World → World → Prop} {Y : Option Tmp → World → World → Prop} [RelOk X] [RelY X Y]
/-- THE LAW -/
theorem wp_madeA {id : Nat} {Q : Exit → Act → World → Prop} {a : Act} {w : World} {l : List Oper} (ex : List (Tmp × Tmp)) (hex : exB .any l.toArray ex = true) (L : MadeL) (hm : P.follows .mixedOrders = true)
    (hB : (Region.noSelect l.toArray && Region.lexHead .any l.toArray 0 l.length 0 (Array.replicate l.toArray.size false) && madeB .any l.toArray (L.map (·.1)) l.length && allMadeB l.toArray (L.map (·.1)) l.length) = true) (hL : ∀ p ∈ L, MadeOk Y ex p.1 p.2) (hn : (L.map (·.1)).Nodup) (hrange : ∀ t ∈ L.map (·.1), t < a.tmps.size)
    (h : wpMade X Y P l.toArray (madeBy L) w (fun a' => ∀ w', Ext X w w' → ended L w' a' fun b => Q .normal b w') l a) :
    (Code.region id l.toArray true).wp P Q a w := by
  refine wp_made_tailA (X := X) ex hex (L.map (·.1)) (madeBy L) hm hB (fun t V hV => List.mem_map.2 ⟨_, madeBy_mem hV, rfl⟩) (stays_by hL) hrange ?_
  have e : ∀ (rest : List Oper) (a : Act), wpMade X Y P l.toArray (madeBy L) w (fun a' => ∀ w', Ext X w w' → ended L w' a' fun b => Q .normal b w') rest a →
      wpMade X Y P l.toArray (madeBy L) w (fun a' => ∀ b w', Ext X w w' → Same (madeBy L) b a' → (∀ t V, madeBy L t = some V → ∃ u, b.tmps[t]? = some u ∧ V u w') → Q .normal b w') rest a := by
    intro rest
    induction rest with
    | nil =>
      intro a h b w' hx hs hh
      exact ended_elim _ w' L a b hs hn (fun t V hm => hh t V (madeBy_look hn hm)) (h w' hx)
    | cons o rest ih =>
      intro a h
      obtain ⟨v, h1, h2⟩ := h
      exact ⟨v, h1, ih _ h2⟩
  exact e _ _ h

end

/-! one operation may turn a row -/
/-- all stays but the blocks that are told, and K stays so -/
structure GX (G : Option Tmp → Option Nat) (K : World → Prop) (w w' : World) : Prop where
  os : w'.os = w.os
  tape : w'.tape = w.tape
  output : w'.output = w.output
  size : w.heap.size ≤ w'.heap.size
  block : ∀ k, k < w.heap.size → (∀ d, G d ≠ some k) → w'.heap[k]? = w.heap[k]?
  keep : K w → K w'
def GY (G : Option Tmp → Option Nat) (K : World → Prop) (d : Option Tmp) (w w' : World) : Prop := w.grownBy w' (G d) ∧ (K w → K w')
class KeptOk (K : World → Prop) : Prop where
  below : ∀ w w', Below w.heap.size w w' → K w → K w'
instance (G : Option Tmp → Option Nat) (K : World → Prop) [KeptOk K] : RelOk (GX G K) where
  refl := fun _ => ⟨rfl, rfl, rfl, Nat.le_refl _, fun _ _ _ => rfl, id⟩
  trans := fun _ _ _ h k => ⟨k.os.trans h.os, k.tape.trans h.tape, k.output.trans h.output, Nat.le_trans h.size k.size, fun i hi hg => (k.block i (Nat.lt_of_lt_of_le hi h.size) hg).trans (h.block i hi hg), fun x => k.keep (h.keep x)⟩
  drew := fun w => ⟨rfl, rfl, rfl, Nat.le_refl _, fun _ _ _ => rfl, KeptOk.below w w.drew (Below.refl _ w).drew⟩
instance (G : Option Tmp → Option Nat) (K : World → Prop) : RelY (GX G K) (GY G K) where
  sub := fun d _ _ h => ⟨h.1.os, h.1.tape, h.1.output, h.1.size, fun k hk hg => h.1.block k hk fun e => hg d e.symm, h.2⟩
  refl := fun _ w => ⟨World.grownBy.refl w _, id⟩
/-- the operation that writes slot t may turn block r, no other one turns any -/
def G1 (t : Tmp) (r : Option Nat) (d : Option Tmp) : Option Nat := if d = some t then r else none
theorem GX.grown {t : Tmp} {r : Option Nat} {K : World → Prop} {w w' : World} (h : GX (G1 t r) K w w') : w.grownBy w' r :=
  ⟨h.os, h.tape, h.output, h.size, fun k hk hne => h.block k hk fun d => by
    unfold G1
    split
    · exact fun e => hne e.symm
    · exact fun e => by cases e⟩
theorem GY.of_below {t : Tmp} {r : Option Nat} {K : World → Prop} [KeptOk K] {d : Option Tmp} {w w' : World} (h : Below w.heap.size w w') : GY (G1 t r) K d w w' := ⟨⟨h.os, h.tape, h.output, h.size, fun k hk _ => h.block k hk⟩, KeptOk.below w w' h⟩
theorem GY.of_grown {t : Tmp} {r : Option Nat} {K : World → Prop} {w w' : World} (h : w.grownBy w' r) (hk : K w → K w') : GY (G1 t r) K (some t) w w' := by
  unfold GY G1
  rw [if_pos rfl]
  exact ⟨h, hk⟩
theorem GY.below {t : Tmp} {r : Option Nat} {K : World → Prop} {d : Option Tmp} {w w' : World} (h : GY (G1 t r) K d w w') (hd : d ≠ some t) : Below w.heap.size w w' := by
  unfold GY G1 at h
  rw [if_neg hd] at h
  exact ⟨h.1.os, h.1.tape, h.1.output, h.1.size, fun k hk => h.1.block k hk fun e => by cases e⟩
/-- a row stays what it was -/
def RowK (B : Nat) (ty : TypeId) (s : Nat) (u : Value) (n : Nat) (xs : List Value) (w : World) : Prop := w.ownsRow B ty s u n xs
instance (B : Nat) (ty : TypeId) (s : Nat) (u : Value) (n : Nat) (xs : List Value) : KeptOk (RowK B ty s u n xs) where
  below := fun w _ hb h => owned_keepN (w := w) h fun _ _ hl => hb.block _ hl
/-- what is so of things that were made behind the turned row stays so -/
theorem madeOk_new {ex : List (Tmp × Tmp)} {t s : Tmp} {r : Option Nat} {K : World → Prop} {V : Value → World → Prop} (h : ∀ u w w', V u w → w.grownBy w' r → V u w') : MadeOk (GY (G1 t r) K) ex s V := ⟨fun d _ _ u w w' hV hy => h u w w' hV (by
    obtain ⟨hy, _⟩ := hy
    unfold G1 at hy
    split at hy
    · exact hy
    · exact ⟨hy.os, hy.tape, hy.output, hy.size, fun k hk _ => hy.block k hk fun e => by cases e⟩)⟩
/-- what is so of the turned row stays so -/
theorem madeOk_turn {ex : List (Tmp × Tmp)} {t : Tmp} {r : Option Nat} {K : World → Prop} {V : Value → World → Prop} (h : ∀ u w w', V u w → Below w.heap.size w w' → V u w') : MadeOk (GY (G1 t r) K) ex t V := ⟨fun _ hd _ u w w' hV hy => h u w w' hV (hy.below hd)⟩
/-- the same of what is written behind the operation that turned the row -/
theorem madeOk_behind {t s : Tmp} {r : Option Nat} {K : World → Prop} {ex : List (Tmp × Tmp)} (hs : (s, t) ∈ ex) {V : Value → World → Prop} (h : ∀ u w w', V u w → Below w.heap.size w w' → V u w') : MadeOk (GY (G1 t r) K) ex s V := ⟨fun _ _ he u w w' hV hy => h u w w' hV (hy.below (he t hs))⟩
end Go.Proofs.Ytidiepbmbbflhaa.Two
end
section
namespace Go.Proofs.Ytidiepbmbbflhaa
open Go Go.RowKit Go.Maps
set_option maxRecDepth 100000
section
variable {w0 w w' : World} {L : List Ent}
theorem Mem.alike (h : Mem w0 w L) : Alike w0.heap.size w0 w := fun _ hb => h.old hb
theorem Mem.lay {α : Type} {M : Lay α} {cs : List Value} {x : α} (h : Mem w0 w L) (hx : M.At w0 w0.heap.size cs x) : M.At w w.heap.size cs x := M.widen (M.alike hx h.alike) h.below.size
theorem Mem.drv {d : Drv} {v1 v2 : Value} (h : Mem w0 w L) (hx : DrvAt w0 w0.heap.size d v1 v2) : DrvAt w w.heap.size d v1 v2 := hx.alike9 h.below
/-- the memory but for a row that something turns -/
theorem Mem.away {B n s : Nat} {t : TypeId} {u : Value} {xs : List Value} (h : Mem w0 w L) (i : Nat) (hi : L[i]? = some (ownE B t s u n xs)) (hg : w.grownBy w' u.ownBlock) : Mem w0 w' (L.set i Ent.no) :=
  h.upd i hi hg (fun _ hb => hb) (fun _ _ _ _ => trivial) trivial fun _ hf => False.elim hf
end
/-- bytes in a block -/
def bytE (g : Nat) (s : ByteArray) : Ent := ⟨fun b => b = g, fun w => BytesOf w g s⟩
theorem BytesOf.lt {w : World} {g : Nat} {s : ByteArray} (h : BytesOf w g s) : g < w.heap.size := by
  obtain ⟨⟨cs, fz, h1⟩, _⟩ := h
  rcases Nat.lt_or_ge g w.heap.size with h2 | h2
  · exact h2
  · rw [Array.getElem?_eq_none h2] at h1; cases h1
theorem bytE_ok (g : Nat) (s : ByteArray) : (bytE g s).Ok := fun w w' h hk => by
  have hb := hk g rfl (BytesOf.lt h)
  exact ⟨by rw [hb]; exact h.1, fun j hj => (World.cell?_of_block hb).trans (h.2 j hj)⟩
theorem byt_made {w w' : World} {g : Nat} {s : ByteArray} (h : BytesOf w' g s) (h1 : w.heap.size ≤ g) (h2 : g < w'.heap.size) (hb : Below w.heap.size w w') : Mem w w' [bytE g s] :=
  (Mem.start w).new hb (bytE_ok _ _) h fun b hf => by have e : b = g := hf; omega
theorem BytesOf.text {w : World} {g cap : Nat} {s : ByteArray} (h : BytesOf w g s) : (convert 32 9 (.slice (some ⟨g, 0, none⟩) s.size cap)).run Try.prog w = .ok (.string s) w := by
  have h0 := run_convert_bytes_back (P := Try.prog) w 32 9 5 ⟨g, 0, none⟩ cap s.data.toList Try.underlying32 Try.underlying5 Try.underlying9 fun k hk => by
    have hk' : k < s.data.toList.length := hk
    rw [Addr.add_mid, Nat.zero_add, h.2 k (by simpa using hk')]
    simp [List.getD, List.getElem?_eq_getElem hk']
  simpa using h0
theorem ofW_any (w : World) (r g cap : Nat) (s : ByteArray) (hb : Blk w r 32 #[.slice (some ⟨g, 0, none⟩) s.size cap]) (ht : BytesOf w g s) (hc : s.size ≤ cap) (c : Hsh) (hcc : ofB [99, 108, 97, 115, 115] [s.data.toList] = c) (hs : s.size ≤ 2000) :
    Calls Try.prog 38 #[.string ⟨#[99, 108, 97, 115, 115]⟩, .slice (some ⟨r, 0, none⟩) 1 1] w fun e w' => e = .returned (.agg (bv c).toArray) ∧ Below w.heap.size w w' := by
  have hp : PartsAt w w.heap.size (.slice (some ⟨r, 0, none⟩) 1 1) [s.data.toList] := by
    refine ⟨_, 1, rfl, Nat.le_refl _, fun _ => ⟨r, 0, rfl, hb.lt, fun j hj => ?_⟩⟩
    have hj0 : j = 0 := by simp at hj; omega
    subst hj0
    exact ⟨_, hb.cell 0, (TB.of_text (base := 0) hc ht.lt (s := s) ht).bytes⟩
  have h := of_any ⟨#[99, 108, 97, 115, 115]⟩ [99, 108, 97, 115, 115] rfl (by decide) [s.data.toList] (by simpa using Nat.le_trans hs (by decide)) (by show 1 ≤ 1000000000; decide) _ w w.heap.size (Nat.le_refl _) hp
  rwa [hcc] at h
set_option maxHeartbeats 1000000 in
theorem bytesEq_any (w : World) (g1 g2 c1 c2 : Nat) (s1 s2 : ByteArray) (h1 : BytesOf w g1 s1) (h2 : BytesOf w g2 s2) (b : Bool) (hb : decide (s1 = s2) = b) :
    Calls Try.prog 39 #[.slice (some ⟨g1, 0, none⟩) s1.size c1, .slice (some ⟨g2, 0, none⟩) s2.size c2] w fun e w' => e = .returned (.bool b) ∧ Below w.heap.size w w' := by
  have H1 := hide h1
  have H2 := hide h2
  have HB := hide hb
  clear h1 h2 hb
  go_enter Try.func39, Try.ntmps39
  go_wp2_with (first | ((with_reducible refine at_slot 6 ?_); (refine wpList_value (o := ⟨some 6, _, _, _, _, _⟩) rfl (.string s1) w (exec_convert (o := ⟨some 6, _, _, _, _, _⟩) 32 9 (.tmp 5) rfl _ rfl _ H1.out.text) ?_)) | ((with_reducible refine at_slot 8 ?_); (refine wpList_value (o := ⟨some 8, _, _, _, _, _⟩) rfl (.string s2) w (exec_convert (o := ⟨some 8, _, _, _, _, _⟩) 32 9 (.tmp 7) rfl _ rfl _ H2.out.text) ?_)))
  go_ret
  refine ⟨?_, Below.refl _ _⟩
  have e : (s1.toList == s2.toList) = b := by
    rw [← HB.out, ByteArray.toList_eq, ByteArray.toList_eq, Bool.eq_iff_iff, beq_iff_eq, decide_eq_true_iff]
    exact ⟨bytes_ext, fun h => by rw [h]⟩
  show Ending.returned (.bool (s1.toList == s2.toList)) = _
  rw [e]
section
variable {hof : Drv → Hsh} {l : List Itm} {d : Drv}
theorem addP_2 (h : tabP hof l = false) : addP hof l d = ([], zeroH, 2) := by
  unfold addP
  rw [h]
  rfl
theorem addP_put (h : tabP hof l = true) (hp : ¬ putE d = 0) : addP hof l d = ([], zeroH, putE d) := by
  unfold addP
  rw [if_pos h, if_neg hp]
theorem addP_5 (h : tabP hof l = true) (hp : putE d = 0) {c : Hsh} (hc : c ∈ clsP d.2.1) (hn : (findI l c).isSome = false) : addP hof l d = ([], zeroH, 5) := by
  unfold addP
  rw [if_pos h, if_pos hp, if_neg (fun h9 => by have := List.all_eq_true.1 h9 c hc; rw [hn] at this; cases this)]
theorem addP_14 (h : tabP hof l = true) (hp : putE d = 0) (hc : ∀ c ∈ clsP d.2.1, (findI l c).isSome = true) {x : Itm} {c : Hsh} (e : hof d = c) (hf : findI l c = some x) (ht : ¬ textP x.2 = textP d) : addP hof l d = ([], zeroH, 14) := by
  subst e
  unfold addP
  rw [if_pos h, if_pos hp, if_pos (List.all_eq_true.2 hc), hf]
  exact if_neg ht
theorem addP_old (h : tabP hof l = true) (hp : putE d = 0) (hc : ∀ c ∈ clsP d.2.1, (findI l c).isSome = true) {x : Itm} {c : Hsh} (e : hof d = c) (hf : findI l c = some x) (ht : textP x.2 = textP d) : addP hof l d = (l, c, 0) := by
  subst e
  unfold addP
  rw [if_pos h, if_pos hp, if_pos (List.all_eq_true.2 hc), hf]
  exact if_pos ht
theorem addP_new (h : tabP hof l = true) (hp : putE d = 0) (hc : ∀ c ∈ clsP d.2.1, (findI l c).isSome = true) {c : Hsh} (e : hof d = c) (hf : findI l c = none) : addP hof l d = (l ++ [(c, d)], c, 0) := by
  subst e
  unfold addP
  rw [if_pos h, if_pos hp, if_pos (List.all_eq_true.2 hc), hf]
theorem tab_put (h : tabP hof l = true) {x : Itm} (hx : x ∈ l) : putE x.2 = 0 := by
  obtain ⟨i, hi⟩ := List.getElem?_of_mem hx
  have := (Dr.rightP_at (tab_right h) (i := i) (x := itP x) (by rw [List.getElem?_map, hi]; rfl)).1
  exact of_decide_eq_true this
end
/-! contracts, as things in memory -/
theorem tableB (w : World) (l : List Itm) (A : Option Addr) (cap : Nat) (h : itmsLay.At w w.heap.size [.slice A l.length cap] l) (hl : ∀ x ∈ l, x.2.2.1.length ≤ 1000000) (b : Bool) (hb : tabP hofP l = b) :
    Calls Try.prog 10 #[.slice A l.length cap] w fun e w' => e = .returned (.bool b) ∧ Below w.heap.size w w' := hb ▸ table_any w l A cap h hl
theorem own_made {w w' : World} {t : TypeId} {s k : Nat} {u : Value} {xs : List Value} (h : w'.ownsRow w.heap.size t s u k xs) (hb : Below w.heap.size w w') : Mem w w' [ownE w.heap.size t s u k xs] :=
  (Mem.start w).new hb (ownE_ok _ _ _ _ _ _) h fun _ hf => owned_ltN h hf
theorem classesM (w : World) (d : Drv) (v1 v2 : Value) (h : DrvAt w w.heap.size d v1 v2) (hl : d.2.1.length ≤ 1000000) :
    Calls Try.prog 34 #[.agg (dC d v1 v2).toArray] w fun e w' => ∃ A cap, e = .returned (.slice A (clsP d.2.1).length cap) ∧ Mem w w' [ownE w.heap.size 27 20 (.slice A (clsP d.2.1).length cap) (clsP d.2.1).length ((clsP d.2.1).flatMap bv)] :=
  (classes_any w d v1 v2 h hl).mono fun _ _ ⟨_, h1, h2, h3⟩ => by
    obtain ⟨A, cap, rfl⟩ := own_len h2
    exact ⟨A, cap, h1, own_made h2 h3⟩
theorem findM (w : World) (l : List Itm) (v : Value) (h : itmsLay.At w w.heap.size [v] l) (c : Hsh) (hc : okH c) (hl : ∀ x ∈ l, x.2.2.1.length ≤ 1000000 ∧ x.2.2.2.length ≤ 1000000) (d : Drv) (hd : findD l c = d) (b : Bool) (hb : (findI l c).isSome = b) :
    Calls Try.prog 9 #[v, .agg (bv c).toArray] w fun e w' => ∃ u1 u2, e = .returned (.tuple #[.agg (dC d u1 u2).toArray, .bool b]) ∧ u1.oneCell' = true ∧ u2.oneCell' = true ∧ Mem w w' [drvE w.heap.size d u1 u2] :=
  (find_any w l v h c hc hl).mono fun _ _ ⟨u1, u2, h1, h2, h3⟩ => by
    subst hd hb
    exact ⟨u1, u2, h1, (OwnDrv.ones h2).1, (OwnDrv.ones h2).2, drv_made h2 h3⟩
theorem ownedM (w : World) (d : Drv) (v1 v2 : Value) (h : DrvAt w w.heap.size d v1 v2) (hl : d.2.1.length ≤ 1000000 ∧ d.2.2.length ≤ 1000000) :
    Calls Try.prog 40 #[.agg (dC d v1 v2).toArray] w fun e w' => ∃ u1 u2, e = .returned (.agg (dC d u1 u2).toArray) ∧ OwnDrv w' w.heap.size d u1 u2 ∧ Below w.heap.size w w' := ownedC_any w d v1 v2 h hl
/-- what adding tells: a table in memory of its own and a class; or an error that is thrown -/
def AddQ (w : World) (r : List Itm × Hsh × Int) (e : Ending) (w' : World) : Prop :=
  if r.2.2 = 0 then ∃ u ls, e = .returned (.tuple #[u, .agg (bv r.2.1).toArray]) ∧ ls.map (·.1) = r.1 ∧ Mem w w' (itmsL w.heap.size u ls) else e = .panicked [{ v := thrown r.2.2, recovered := false }] ∧ Below w.heap.size w w'
theorem AddQ.no {w w' : World} {r : List Itm × Hsh × Int} {k : Int} {l : List Itm} {h : Hsh} (hr : r = (l, h, k)) (hk : k ≠ 0) {e : Ending} (he : e = .panicked [{ v := thrown k, recovered := false }]) (hb : Below w.heap.size w w') : AddQ w r e w' := by
  subst hr
  unfold AddQ
  rw [if_neg hk]
  exact ⟨he, hb⟩
theorem AddQ.yes {w w' : World} {r : List Itm × Hsh × Int} {l : List Itm} {h : Hsh} (hr : r = (l, h, 0)) {e : Ending} {u : Value} {ls : List ItmV} (he : e = .returned (.tuple #[u, .agg (bv h).toArray])) (hl : ls.map (·.1) = l) (hm : Mem w w' (itmsL w.heap.size u ls)) : AddQ w r e w' := by
  subst hr
  unfold AddQ
  rw [if_pos rfl]
  exact ⟨u, ls, he, hl, hm⟩
end Go.Proofs.Ytidiepbmbbflhaa
end
