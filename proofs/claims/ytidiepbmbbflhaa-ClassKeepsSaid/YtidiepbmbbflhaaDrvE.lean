/- drv.owned, Find. -/
import Derived.Test.YtidiepbmbbflhaaAt
import Derived.Test.YtidiepbmbbflhaaDrvD
namespace Go.Proofs.Ytidiepbmbbflhaa
open Go Go.RowKit Go.Maps
set_option maxRecDepth 100000
def zcD : Array Value := #[.string ⟨#[]⟩, .slice none 0 0, .slice none 0 0]
def ib (k : Int) : List Value := [.int .u8 k]
theorem nams_src {w : World} {B len cap : Nat} {A : Option Addr} {l : List Nam} (h : namsLay.At w B [.slice A len cap] l) : len = l.length ∧ SrcN w 43 A l.length cap (l.flatMap nC) :=
  slice_src (L := namLay) (f := nC) (by decide) (fun h => (namLay_at.1 h).1) nC_one h
theorem bytes_src {w : World} {B len cap : Nat} {A : Option Addr} {l : List Int} (h : bytesLay.At w B [.slice A len cap] l) : len = l.length ∧ SrcN w 1 A l.length cap (l.flatMap ib) :=
  slice_src (L := Lay.int 5 .u8) (f := ib) (by decide) (fun h => h.1) (fun k u hu => by rw [List.mem_singleton.1 hu]; rfl) h
theorem slice_allD {α : Type} {t : TypeId} {L : Lay α} {w : World} {B : Nat} {v : Value} {l : List α} (h : (Lay.slice t L).At w B [v] l) {x : α} (hx : x ∈ l) : ∃ cs, L.At w B cs x := by
  obtain ⟨A, cap, _, _, _, _, h4⟩ := h
  obtain ⟨i, hi⟩ := List.getElem?_of_mem hx
  obtain ⟨b, off, _, _, hE⟩ := h4 (by have := (List.getElem?_eq_some_iff.1 hi).1; omega)
  obtain ⟨cs, _, h5⟩ := hE i x hi
  exact ⟨cs, h5⟩
/-- a derivation in rows of its own -/
structure OwnDrv (w : World) (B : Nat) (d : Drv) (u1 u2 : Value) : Prop where
  name : d.1.size ≤ maxLen
  okn : ∀ x ∈ d.2.1, okN x
  okb : ∀ x ∈ d.2.2, (Lit.int .u8 x).wf = true
  own1 : w.ownsRow B 72 43 u1 d.2.1.length (d.2.1.flatMap nC)
  own2 : w.ownsRow B 5 1 u2 d.2.2.length (d.2.2.flatMap ib)
theorem OwnDrv.at_ {w : World} {B : Nat} {d : Drv} {u1 u2 : Value} (h : OwnDrv w B d u1 u2) {N : Nat} (hN : w.heap.size ≤ N) : DrvAt w N d u1 u2 :=
  ⟨h.name, own_slice (L := namLay) (f := nC) (by decide) h.own1 _ hN (fun x hx => namLay_at.2 ⟨rfl, h.okn x hx⟩), own_slice (L := Lay.int 5 .u8) (f := ib) (by decide) h.own2 _ hN (fun x hx => ⟨rfl, h.okb x hx⟩)⟩
theorem OwnDrv.keep {w w' : World} {B : Nat} {d : Drv} {u1 u2 : Value} (h : OwnDrv w B d u1 u2) (hk : ∀ g, B ≤ g → g < w.heap.size → w'.heap[g]? = w.heap[g]?) : OwnDrv w' B d u1 u2 :=
  ⟨h.name, h.okn, h.okb, owned_keepN h.own1 fun g hg hl => hk g (owned_ltN h.own1 hg).1 hl, owned_keepN h.own2 fun g hg hl => hk g (owned_ltN h.own2 hg).1 hl⟩
theorem OwnDrv.lower {w : World} {B B' : Nat} {d : Drv} {u1 u2 : Value} (h : OwnDrv w B d u1 u2) (hB : B' ≤ B) : OwnDrv w B' d u1 u2 :=
  ⟨h.name, h.okn, h.okb, owned_baseN h.own1 fun g hg => Nat.le_trans hB (owned_ltN h.own1 hg).1, owned_baseN h.own2 fun g hg => Nat.le_trans hB (owned_ltN h.own2 hg).1⟩
theorem OwnDrv.nil (w : World) (B : Nat) : OwnDrv w B (⟨#[]⟩, [], []) (.slice none 0 0) (.slice none 0 0) := ⟨Nat.zero_le _, (fun x hx => by cases hx), (fun x hx => by cases hx), World.ownsRow_nil _ _ _ _, World.ownsRow_nil _ _ _ _⟩
theorem OwnDrv.form {w : World} {B : Nat} {d : Drv} {u1 u2 : Value} (h : OwnDrv w B d u1 u2) : ∃ A1 n1 c1 A2 n2 c2, u1 = .slice A1 n1 c1 ∧ u2 = .slice A2 n2 c2 := by
  rcases owned_formN h.own1 with ⟨e, _⟩ | ⟨g, cap, cur, e, _⟩ <;> rcases owned_formN h.own2 with ⟨e2, _⟩ | ⟨g2, cap2, cur2, e2, _⟩ <;> exact ⟨_, _, _, _, _, _, e, e2⟩
theorem info_namI : (Try.prog.info? 72).map (fun i => (i.zero, i.size, i.bytes)) = some (some (.agg zcN), 43, 80) := by kernel_rfl
set_option maxHeartbeats 2000000 in
theorem owned_any (w : World) (d : Drv) (v1 v2 : Value) (h : DrvAt w w.heap.size d v1 v2) (hl : d.2.1.length ≤ 1000000) (hl2 : d.2.2.length ≤ 1000000) :
    Calls Try.prog 23 #[.agg (dC d v1 v2).toArray] w fun e w' => ∃ u1 u2, e = .returned (.agg (dC d u1 u2).toArray) ∧ OwnDrv w' w.heap.size d u1 u2 ∧ Below w.heap.size w w' := by
  obtain ⟨inm, hih, hq0, hq1, hq2⟩ := info_parts info_namI
  have HJ := hide (And.intro hih (And.intro hq0 (And.intro hq1 hq2)))
  clear hih hq0 hq1 hq2
  obtain ⟨iu8, hih, hq0, hq1, hq2⟩ := info_parts (show (Try.prog.info? 5).map (fun i => (i.zero, i.size, i.bytes)) = some (some (.int .u8 0), 1, 1) by kernel_rfl)
  have HK := hide (And.intro hih (And.intro hq0 (And.intro hq1 hq2)))
  clear hih hq0 hq1 hq2
  obtain ⟨A, cap, rfl, _, _, _, _⟩ := slice_open h.ins
  obtain ⟨A2, cap2, rfl, _, _, _, _⟩ := slice_open h.rcp
  obtain ⟨w1, hw1⟩ : ∃ w1, w1 = w.alloc (.cells (dC d (.slice A d.2.1.length cap) (.slice A2 d.2.2.length cap2)).toArray 34) := ⟨_, rfl⟩
  obtain ⟨w2, hw2⟩ : ∃ w2, w2 = w1.alloc (.cells zcD 34) := ⟨_, rfl⟩
  have hb1 : Below w.heap.size w w1 := by rw [hw1]; exact (Below.refl _ w).alloc (Nat.le_refl _) _
  have hk1 : Blk w1 w.heap.size 34 (dC d (.slice A d.2.1.length cap) (.slice A2 d.2.2.length cap2)).toArray := by rw [hw1]; exact Blk.new _ _ _
  have hb2 : Below w1.heap.size w1 w2 := by rw [hw2]; exact (Below.refl _ w1).alloc (Nat.le_refl _) _
  have hk2 : Blk w2 w1.heap.size 34 zcD := by rw [hw2]; exact Blk.new _ _ _
  have hz1 : w1.heap.size = w.heap.size + 1 := by rw [hw1, size_alloc]
  have hz2 : w2.heap.size = w.heap.size + 2 := by rw [hw2, size_alloc, hz1]
  have hb := hb1.trans (Below.mono hb2 hb1.size)
  have hk := hk1.below hb2 hk1.lt
  have hs1 := (nams_src (namsLay.alike h.ins fun b hb9 => hb.block b hb9)).2
  have hs2 := (bytes_src (bytesLay.alike h.rcp fun b hb9 => hb.block b hb9)).2
  have HC := hide (And.intro hs1 hs2)
  have H2 := hide (And.intro hb (And.intro hk hk2))
  have HD := hide h
  have HZ := hide (And.intro hz1 hz2)
  have HW1 := hide hw1
  have HW2 := hide hw2
  have c1 : w2.cell? ⟨w.heap.size, 1, none⟩ = some (.slice A d.2.1.length cap) := hk.cell 1
  have f1 := hk.frozen 1
  have l1 := hk.lt
  clear hw1 hw2 hb1 hk1 hb2 hk2 hz1 hz2 hb hk hs1 hs2 h
  go_enter Try.func23, Try.ntmps23
  go_wp2_with (first | ((with_reducible refine at_slot 1 ?_); refine wpList_value (o := ⟨some 1, _, _, _, _, _⟩) rfl (.pointer (some ⟨w.heap.size, 0, none⟩)) w1 (by rw [HW1.out]; kernel_rfl) ?_) | ((with_reducible refine at_slot 2 ?_); refine wpList_value (o := ⟨some 2, _, _, _, _, _⟩) rfl (.pointer (some ⟨w1.heap.size, 0, none⟩)) w2 (by rw [HW2.out]; kernel_rfl) ?_) | (at_builtin; ((with_reducible refine at_slot 5 ?_); refine wpList_appS (o := ⟨some 5, _, _, _, _, _⟩) rfl _ _ 31 rfl w2.heap.size 72 inm _ 43 80 Try.underlying31 HJ.out.1 HJ.out.2.1 HJ.out.2.2.1 HJ.out.2.2.2 rfl (by decide) _ 0 [] (World.ownsRow_nil _ _ _ _) A d.2.1.length cap (d.2.1.flatMap nC) HC.out.1 ?hm1 ?hb1 ?hz1 rfl rfl ?_)))
  case hm1 => simp only [maxLen]; omega
  case hb1 => omega
  case hz1 => exact Nat.le_refl _
  intro u1 w3 own3 gr3 _
  have own3 : w3.ownsRow w2.heap.size 72 43 u1 d.2.1.length (d.2.1.flatMap nC) := by simpa using own3
  obtain ⟨A3, n3, c3, rfl⟩ : ∃ A n c, u1 = .slice A n c := by
    rcases owned_formN own3 with ⟨e, _⟩ | ⟨g, cap, cur, e, _⟩
    · exact ⟨_, _, _, e⟩
    · exact ⟨_, _, _, e⟩
  have hb3 : Below w.heap.size w w3 := H2.out.1.grown gr3 H2.out.1.size (fun b hb => by cases hb)
  have hk3 : Blk w3 w.heap.size 34 (dC d (.slice A d.2.1.length cap) (.slice A2 d.2.2.length cap2)).toArray := (gr3.block _ H2.out.2.1.lt (fun e => by cases e)).trans H2.out.2.1
  have hr3 : Blk w3 w1.heap.size 34 zcD := (gr3.block _ H2.out.2.2.lt (fun e => by cases e)).trans H2.out.2.2
  obtain ⟨w4, hw4⟩ : ∃ w4, w4 = w3.setCell ⟨w.heap.size, 1, none⟩ (.slice A3 n3 c3) := ⟨_, rfl⟩
  have ne1 : w.heap.size ≠ w1.heap.size := by have := HZ.out; omega
  have hk4 : Blk w4 w.heap.size 34 (dC d (.slice A3 n3 c3) (.slice A2 d.2.2.length cap2)).toArray := by rw [hw4]; exact hk3.set_ 1 (.slice A3 n3 c3)
  have hoth : ∀ b, b ≠ w.heap.size → w4.heap[b]? = w3.heap[b]? := fun b hb => by rw [hw4]; exact Below.heap_setCell w3 _ _ b (fun e => hb e)
  have hr4 : Blk w4 w1.heap.size 34 zcD := (hoth _ ne1.symm).trans hr3
  have hb4 : Below w.heap.size w w4 := by rw [hw4]; exact hb3.setCell (Nat.le_refl _) _
  have hz4 : w4.heap.size = w3.heap.size := by rw [hw4]; simp [World.setCell]
  have hs4 := (bytes_src (bytesLay.alike HD.out.rcp fun b hb9 => hb4.block b hb9)).2
  have own4 : w4.ownsRow w2.heap.size 72 43 (.slice A3 n3 c3) d.2.1.length (d.2.1.flatMap nC) := owned_keepN own3 fun g hg _ => hoth g fun e => by have := (owned_ltN own3 hg).1; have := HZ.out; omega
  have H4 := hide (And.intro hb4 (And.intro hk4 (And.intro hr4 (And.intro own4 hs4))))
  have HW4 := hide hw4
  have c1' : w3.cell? ⟨w.heap.size, 1, none⟩ = some (.slice A d.2.1.length cap) := hk3.cell 1
  have f1' := hk3.frozen 1
  have l1' := hk3.lt
  have c2 : (w3.setCell ⟨w.heap.size, 1, none⟩ (.slice A3 n3 c3)).cell? ⟨w.heap.size, 2, none⟩ = some (.slice A2 d.2.2.length cap2) := by rw [← hw4]; exact hk4.cell 2
  have hs4' : SrcN (w3.setCell ⟨w.heap.size, 1, none⟩ (.slice A3 n3 c3)) 1 A2 d.2.2.length cap2 (d.2.2.flatMap ib) := by rw [← hw4]; exact hs4
  have HS := hide hs4'
  clear hk3 hr3 hk4 hr4 hb3 hb4 hs4 hs4' own3 own4 gr3 hoth hw4 c1 f1 l1
  go_wp2_with (at_builtin; ((with_reducible refine at_slot 9 ?_); refine wpList_appS (o := ⟨some 9, _, _, _, _, _⟩) rfl _ _ 32 rfl (w3.setCell ⟨w.heap.size, 1, none⟩ (.slice A3 n3 c3)).heap.size 5 iu8 _ 1 1 Try.underlying32 HK.out.1 HK.out.2.1 HK.out.2.2.1 HK.out.2.2.2 rfl (by decide) _ 0 [] (World.ownsRow_nil _ _ _ _) A2 d.2.2.length cap2 (d.2.2.flatMap ib) HS.out ?hm2 ?hb2 ?hz2 rfl rfl ?_))
  case hm2 => simp only [maxLen]; omega
  case hb2 => omega
  case hz2 => exact Nat.le_refl _
  rw [← HW4.out]
  intro u2 w5 own5 gr5 _
  have own5 : w5.ownsRow w3.heap.size 5 1 u2 d.2.2.length (d.2.2.flatMap ib) := by simpa using own5
  obtain ⟨A5, n5, c5, rfl⟩ : ∃ A n c, u2 = .slice A n c := by
    rcases owned_formN own5 with ⟨e, _⟩ | ⟨g, cap, cur, e, _⟩
    · exact ⟨_, _, _, e⟩
    · exact ⟨_, _, _, e⟩
  have hb5 : Below w.heap.size w w5 := H4.out.1.grown gr5 H4.out.1.size (fun b hb => by cases hb)
  have hk5 : Blk w5 w.heap.size 34 (dC d (.slice A3 n3 c3) (.slice A2 d.2.2.length cap2)).toArray := (gr5.block _ H4.out.2.1.lt (fun e => by cases e)).trans H4.out.2.1
  have hr5 : Blk w5 w1.heap.size 34 zcD := (gr5.block _ H4.out.2.2.1.lt (fun e => by cases e)).trans H4.out.2.2.1
  have own45 : w5.ownsRow w2.heap.size 72 43 (.slice A3 n3 c3) d.2.1.length (d.2.1.flatMap nC) := owned_keepN H4.out.2.2.2.1 fun g _ hl => gr5.block g hl (fun e => by cases e)
  obtain ⟨w6, hw6⟩ : ∃ w6, w6 = w5.setCell ⟨w.heap.size, 2, none⟩ (.slice A5 n5 c5) := ⟨_, rfl⟩
  have hoth6 : ∀ b, b ≠ w.heap.size → w6.heap[b]? = w5.heap[b]? := fun b hb => by rw [hw6]; exact Below.heap_setCell w5 _ _ b (fun e => hb e)
  have hk6 : Blk w6 w.heap.size 34 (dC d (.slice A3 n3 c3) (.slice A5 n5 c5)).toArray := by rw [hw6]; exact hk5.set_ 2 (.slice A5 n5 c5)
  have hr6 : Blk w6 w1.heap.size 34 zcD := (hoth6 _ ne1.symm).trans hr5
  have hb6 : Below w.heap.size w w6 := by rw [hw6]; exact hb5.setCell (Nat.le_refl _) _
  have own6 : w6.ownsRow w2.heap.size 72 43 (.slice A3 n3 c3) d.2.1.length (d.2.1.flatMap nC) := owned_keepN own45 fun g hg _ => hoth6 g fun e => by have := (owned_ltN own45 hg).1; have := HZ.out; omega
  have own7 : w6.ownsRow w3.heap.size 5 1 (.slice A5 n5 c5) d.2.2.length (d.2.2.flatMap ib) := owned_keepN own5 fun g hg _ => hoth6 g fun e => by have := (owned_ltN own5 hg).1; have := H4.out.1.size; have := H4.out.2.1.lt; omega
  have H6 := hide (And.intro hb6 (And.intro hk6 (And.intro hr6 (And.intro own6 own7))))
  have HX6 := hide (show Blk (w5.setCell ⟨w.heap.size, 2, none⟩ (.slice A5 n5 c5)) w.heap.size 34 (dC d (.slice A3 n3 c3) (.slice A5 n5 c5)).toArray by rw [← hw6]; exact hk6)
  have HR6 := hide (show Blk (w5.setCell ⟨w.heap.size, 2, none⟩ (.slice A5 n5 c5)) w1.heap.size 34 zcD by rw [← hw6]; exact hr6)
  have HW6 := hide hw6
  have c2' : w5.cell? ⟨w.heap.size, 2, none⟩ = some (.slice A2 d.2.2.length cap2) := hk5.cell 2
  have f2' := hk5.frozen 2
  have l2' := hk5.lt
  clear hk5 hr5 hb5 own5 own45 gr5 hk6 hr6 hb6 own6 own7 hoth6 hw6 c1' f1' l1' c2
  go_wp2_with (first | ((with_reducible refine at_slot 11 ?_); refine wpList_value (o := ⟨some 11, _, _, _, _, _⟩) rfl (.agg (dC d (.slice A3 n3 c3) (.slice A5 n5 c5)).toArray) _ (exec_load_blk (o := ⟨some 11, _, _, _, _, _⟩) 34 (.tmp 1) rfl w.heap.size rfl 34 _ _ _ HX6.out Try.underlying34 rfl (by kernel_rfl)) ?_) | (with_reducible refine wpList_store_blkA (o := ⟨none, _, _, _, _, _⟩) rfl 34 (.tmp 2) (.tmp 11) rfl w1.heap.size zcD (dC d (.slice A3 n3 c3) (.slice A5 n5 c5)).toArray 34 HR6.out ?s1 ?s2 ?s3 ?s4 ?s5 ?s6))
  case s1 => kernel_rfl
  case s2 => rfl
  case s3 => kernel_rfl
  rw [← HW6.out]
  intro w7 hk7 hg7
  have hb7 : Below w.heap.size w w7 := H6.out.1.grown hg7 H6.out.1.size (fun b hb => by injection hb with hb; have := HZ.out; omega)
  have o1 : w7.ownsRow w2.heap.size 72 43 (.slice A3 n3 c3) d.2.1.length (d.2.1.flatMap nC) := owned_keepN H6.out.2.2.2.1 fun g hg hl => hg7.block g hl fun e => by have e := Option.some.inj e; have := (owned_ltN H6.out.2.2.2.1 hg).1; have := HZ.out; omega
  have o2 : w7.ownsRow w3.heap.size 5 1 (.slice A5 n5 c5) d.2.2.length (d.2.2.flatMap ib) := owned_keepN H6.out.2.2.2.2 fun g hg hl => hg7.block g hl fun e => by have e := Option.some.inj e; have := (owned_ltN H6.out.2.2.2.2 hg).1; have := H4.out.2.2.1.lt; omega
  have hat : OwnDrv w7 w.heap.size d (.slice A3 n3 c3) (.slice A5 n5 c5) := ⟨HD.out.name, (fun x hx => by obtain ⟨cs, h9⟩ := slice_allD HD.out.ins hx; exact (namLay_at.1 h9).2), (fun x hx => by obtain ⟨cs, h9⟩ := slice_allD HD.out.rcp hx; exact h9.2), owned_baseN o1 (fun g hg => by have := (owned_ltN o1 hg).1; have := HZ.out; omega), owned_baseN o2 (fun g hg => by have := (owned_ltN o2 hg).1; have := H4.out.1.size; omega)⟩
  have H7 := hide (And.intro hk7 (And.intro hat hb7))
  clear hk7 hg7 hb7 o1 o2 hat
  go_wp2_with fail
  refine bodyPost_ret (results_cell_row rfl _ _ w1.heap.size 34 (dC d (.slice A3 n3 c3) (.slice A5 n5 c5)).toArray (0, 0) _ rfl H7.out.1 Try.underlying34 rfl (by kernel_rfl)) rfl ⟨_, _, rfl, H7.out.2.1, H7.out.2.2⟩
end Go.Proofs.Ytidiepbmbbflhaa
