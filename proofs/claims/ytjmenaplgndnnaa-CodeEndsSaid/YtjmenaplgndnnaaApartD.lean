/- spencekit.ApartBytes: rows of bytes lie apart. -/
import Derived.Test.YtjmenaplgndnnaaApartB
import Derived.Test.YtjmenaplgndnnaaFlats
namespace Go.Proofs.Ytjmenaplgndnnaa
open Go Go.RowKit
def nl : Value := .slice none 0 0
/-- a bag of rows of bytes -/
def bagOf (v : Value) : Array Value := #[.slice none 0 0, .slice none 0 0, .slice none 0 0, .slice none 0 0, .slice none 0 0, v, .slice none 0 0, .slice none 0 0, .slice none 0 0, .slice none 0 0, .slice none 0 0, .slice none 0 0, .slice none 0 0, .slice none 0 0, .slice none 0 0, .slice none 0 0, .slice none 0 0, .slice none 0 0, .slice none 0 0, .slice none 0 0, .slice none 0 0]
theorem bag_five (v : Value) : (bagOf v)[5]? = some v := rfl
theorem bag_nil (v : Value) (i : Nat) (h : i < 21) (h5 : i ≠ 5) : (bagOf v)[i]? = some (.slice none 0 0) := by
  have h2 : i = 0 ∨ i = 1 ∨ i = 2 ∨ i = 3 ∨ i = 4 ∨ i = 6 ∨ i = 7 ∨ i = 8 ∨ i = 9 ∨ i = 10 ∨ i = 11 ∨ i = 12 ∨ i = 13 ∨ i = 14 ∨ i = 15 ∨ i = 16 ∨ i = 17 ∨ i = 18 ∨ i = 19 ∨ i = 20 := by omega
  rcases h2 with rfl | rfl | rfl | rfl | rfl | rfl | rfl | rfl | rfl | rfl | rfl | rfl | rfl | rfl | rfl | rfl | rfl | rfl | rfl | rfl <;> rfl
theorem bag_set (v u : Value) : (bagOf v).setIfInBounds 5 u = bagOf u := rfl
set_option maxRecDepth 100000 in
set_option maxHeartbeats 4000000 in
theorem bagApart_any (R q m cap g : Nat) (us : Nat → Value) (ns : Nat → Nat) (L0 : Nat → List UInt8) (hm0 : 0 < m) (hm : m ≤ 1000) (w : World) (hR : R ≤ w.heap.size) (hr0 : Rows8 w R q m us ns L0) (hp : Parted q m us ns) (hb : Blk w g 97 (bagOf (.slice (some ⟨q, 0, none⟩) m cap))) :
    Calls Try.prog 46 #[.pointer (some ⟨g, 0, none⟩)] w fun e w' => e = .returned (.bool true) ∧ Turned (RS m us) w w' := by
  have hnb : ¬ RS m us g := by
    rintro ⟨j, hj, hg⟩
    exact owned_ne (hr0.own j hj) hb (by decide) hg
  obtain ⟨w0, hw0⟩ : ∃ w0, w0 = w := ⟨_, rfl⟩
  have HT0 : Hid (Turned (RS m us) w w0) := hide (by rw [hw0]; exact Turned.refl _ _)
  have H0 : Hid (Rows8 w0 R q m us ns L0 ∧ Blk w0 g 97 (bagOf (.slice (some ⟨q, 0, none⟩) m cap))) := hide (by rw [hw0]; exact ⟨hr0, hb⟩)
  have HNB := hide hnb
  have HP := hide hp
  have c0 := (H0.out.2.cell 0).trans (bag_nil _ 0 (by decide) (by decide))
  have l0 := H0.out.2.lt
  rw [show Calls Try.prog 46 #[.pointer (some ⟨g, 0, none⟩)] w (fun e w' => e = .returned (.bool true) ∧ Turned (RS m us) w w') = Calls Try.prog 46 #[.pointer (some ⟨g, 0, none⟩)] w0 (fun e w' => e = .returned (.bool true) ∧ Turned (RS m us) w w') by rw [hw0]]
  clear hr0 hp hb hnb hw0
  go_enter Try.func46, Try.ntmps46
  go_wp2_with fail
  refine (flatLimbs_nil _).mono ?_
  rintro e w1 ⟨rfl, hb0⟩
  have H1 := hide (And.intro (H0.out.1.keep fun b hlt _ => hb0.block b hlt) (H0.out.2.below hb0 H0.out.2.lt))
  have HT1 := hide (HT0.out.trans (Turned.of_below hb0 _))
  clear hb0
  dsimp only
  have c1 := (H1.out.2.cell 1).trans (bag_nil _ 1 (by decide) (by decide))
  have l1 := H1.out.2.lt
  go_wp2_with fail
  refine (flatWords_nil _).mono ?_
  rintro e w2 ⟨rfl, hb1⟩
  have H2 := hide (And.intro (H1.out.1.keep fun b hlt _ => hb1.block b hlt) (H1.out.2.below hb1 H1.out.2.lt))
  have HT2 := hide (HT1.out.trans (Turned.of_below hb1 _))
  clear hb1
  dsimp only
  have c2 := (H2.out.2.cell 2).trans (bag_nil _ 2 (by decide) (by decide))
  have l2 := H2.out.2.lt
  clear c1 l1
  go_wp2_with fail
  refine (flatInts_nil _).mono ?_
  rintro e w3 ⟨rfl, hb2⟩
  have H3 := hide (And.intro (H2.out.1.keep fun b hlt _ => hb2.block b hlt) (H2.out.2.below hb2 H2.out.2.lt))
  have HT3 := hide (HT2.out.trans (Turned.of_below hb2 _))
  clear hb2
  dsimp only
  have c3 := (H3.out.2.cell 3).trans (bag_nil _ 3 (by decide) (by decide))
  have l3 := H3.out.2.lt
  clear c2 l2
  go_wp2_with fail
  refine (flatLongs_nil _).mono ?_
  rintro e w4 ⟨rfl, hb3⟩
  have H4 := hide (And.intro (H3.out.1.keep fun b hlt _ => hb3.block b hlt) (H3.out.2.below hb3 H3.out.2.lt))
  have HT4 := hide (HT3.out.trans (Turned.of_below hb3 _))
  clear hb3
  dsimp only
  have c4 := (H4.out.2.cell 4).trans (bag_nil _ 4 (by decide) (by decide))
  have l4 := H4.out.2.lt
  clear c3 l3
  go_wp2_with fail
  refine (flatTexts_nil _).mono ?_
  rintro e w5 ⟨rfl, hb4⟩
  have H5 := hide (And.intro (H4.out.1.keep fun b hlt _ => hb4.block b hlt) (H4.out.2.below hb4 H4.out.2.lt))
  have HT5 := hide (HT4.out.trans (Turned.of_below hb4 _))
  clear hb4
  dsimp only
  have HR5 : Hid (R ≤ w5.heap.size) := hide (by have := HT5.out.size; omega)
  have HQ5 : Hid (q < w5.heap.size) := hide (World.block_lt_of_cell? w5 _ (H5.out.1.cell 0 (by omega)))
  have c5 := (H5.out.2.cell 5).trans (bag_five _ )
  have l5 := H5.out.2.lt
  clear c4 l4
  go_wp2_with fail
  refine (flatBytes_any R q m cap us ns L0 hm _ HR5.out HQ5.out H5.out.1 HP.out).mono ?_
  rintro e w6 ⟨rfl, ht5⟩
  have h6 := hide (And.intro ht5 (H5.out.2.turned ht5 HNB.out))
  clear ht5
  dsimp only
  have H6 : Hid (Turned (RS m us) w w6 ∧ Blk w6 g 97 (bagOf (.slice (some ⟨q, 0, none⟩) m cap))) := hide ⟨(HT5.out).trans h6.out.1, h6.out.2⟩
  clear h6
  have c6 := (H6.out.2.cell 6).trans (bag_nil _ 6 (by decide) (by decide))
  have l6 := H6.out.2.lt
  clear c5 l5
  go_wp2_with fail
  refine (flatTruths_nil _).mono ?_
  rintro e w7 ⟨rfl, hb6⟩
  have H7 := hide (And.intro (H6.out.1.trans (Turned.of_below hb6 _)) (H6.out.2.below hb6 H6.out.2.lt))
  clear hb6
  dsimp only
  have c7 := (H7.out.2.cell 7).trans (bag_nil _ 7 (by decide) (by decide))
  have l7 := H7.out.2.lt
  clear c6 l6
  go_wp2_with fail
  refine (flatPaths_nil _).mono ?_
  rintro e w8 ⟨rfl, hb7⟩
  have H8 := hide (And.intro (H7.out.1.trans (Turned.of_below hb7 _)) (H7.out.2.below hb7 H7.out.2.lt))
  clear hb7
  dsimp only
  have c8 := (H8.out.2.cell 8).trans (bag_nil _ 8 (by decide) (by decide))
  have l8 := H8.out.2.lt
  clear c7 l7
  go_wp2_with fail
  refine (flatKids_nil _).mono ?_
  rintro e w9 ⟨rfl, hb8⟩
  have H9 := hide (And.intro (H8.out.1.trans (Turned.of_below hb8 _)) (H8.out.2.below hb8 H8.out.2.lt))
  clear hb8
  dsimp only
  have c9 := (H9.out.2.cell 9).trans (bag_nil _ 9 (by decide) (by decide))
  have l9 := H9.out.2.lt
  clear c8 l8
  go_wp2_with fail
  refine (flatNodes_nil _).mono ?_
  rintro e w10 ⟨rfl, hb9⟩
  have H10 := hide (And.intro (H9.out.1.trans (Turned.of_below hb9 _)) (H9.out.2.below hb9 H9.out.2.lt))
  clear hb9
  dsimp only
  have c10 := (H10.out.2.cell 10).trans (bag_nil _ 10 (by decide) (by decide))
  have l10 := H10.out.2.lt
  clear c9 l9
  go_wp2_with fail
  refine (flatLines_nil _).mono ?_
  rintro e w11 ⟨rfl, hb10⟩
  have H11 := hide (And.intro (H10.out.1.trans (Turned.of_below hb10 _)) (H10.out.2.below hb10 H10.out.2.lt))
  clear hb10
  dsimp only
  have c11 := (H11.out.2.cell 11).trans (bag_nil _ 11 (by decide) (by decide))
  have l11 := H11.out.2.lt
  clear c10 l10
  go_wp2_with fail
  refine (flatChanges_nil _).mono ?_
  rintro e w12 ⟨rfl, hb11⟩
  have H12 := hide (And.intro (H11.out.1.trans (Turned.of_below hb11 _)) (H11.out.2.below hb11 H11.out.2.lt))
  clear hb11
  dsimp only
  have c12 := (H12.out.2.cell 12).trans (bag_nil _ 12 (by decide) (by decide))
  have l12 := H12.out.2.lt
  clear c11 l11
  go_wp2_with fail
  refine (flatRuns_nil _).mono ?_
  rintro e w13 ⟨rfl, hb12⟩
  have H13 := hide (And.intro (H12.out.1.trans (Turned.of_below hb12 _)) (H12.out.2.below hb12 H12.out.2.lt))
  clear hb12
  dsimp only
  have c13 := (H13.out.2.cell 13).trans (bag_nil _ 13 (by decide) (by decide))
  have l13 := H13.out.2.lt
  clear c12 l12
  go_wp2_with fail
  refine (flatObjects_nil _).mono ?_
  rintro e w14 ⟨rfl, hb13⟩
  have H14 := hide (And.intro (H13.out.1.trans (Turned.of_below hb13 _)) (H13.out.2.below hb13 H13.out.2.lt))
  clear hb13
  dsimp only
  have c14 := (H14.out.2.cell 14).trans (bag_nil _ 14 (by decide) (by decide))
  have l14 := H14.out.2.lt
  clear c13 l13
  go_wp2_with fail
  refine (flatQuotas_nil _).mono ?_
  rintro e w15 ⟨rfl, hb14⟩
  have H15 := hide (And.intro (H14.out.1.trans (Turned.of_below hb14 _)) (H14.out.2.below hb14 H14.out.2.lt))
  clear hb14
  dsimp only
  have c15 := (H15.out.2.cell 15).trans (bag_nil _ 15 (by decide) (by decide))
  have l15 := H15.out.2.lt
  clear c14 l14
  go_wp2_with fail
  refine (flatNameds_nil _).mono ?_
  rintro e w16 ⟨rfl, hb15⟩
  have H16 := hide (And.intro (H15.out.1.trans (Turned.of_below hb15 _)) (H15.out.2.below hb15 H15.out.2.lt))
  clear hb15
  dsimp only
  have c16 := (H16.out.2.cell 16).trans (bag_nil _ 16 (by decide) (by decide))
  have l16 := H16.out.2.lt
  clear c15 l15
  go_wp2_with fail
  refine (flatDrvs_nil _).mono ?_
  rintro e w17 ⟨rfl, hb16⟩
  have H17 := hide (And.intro (H16.out.1.trans (Turned.of_below hb16 _)) (H16.out.2.below hb16 H16.out.2.lt))
  clear hb16
  dsimp only
  have c17 := (H17.out.2.cell 17).trans (bag_nil _ 17 (by decide) (by decide))
  have l17 := H17.out.2.lt
  clear c16 l16
  go_wp2_with fail
  refine (flatMades_nil _).mono ?_
  rintro e w18 ⟨rfl, hb17⟩
  have H18 := hide (And.intro (H17.out.1.trans (Turned.of_below hb17 _)) (H17.out.2.below hb17 H17.out.2.lt))
  clear hb17
  dsimp only
  have c18 := (H18.out.2.cell 18).trans (bag_nil _ 18 (by decide) (by decide))
  have l18 := H18.out.2.lt
  clear c17 l17
  go_wp2_with fail
  refine (flatBuilts_nil _).mono ?_
  rintro e w19 ⟨rfl, hb18⟩
  have H19 := hide (And.intro (H18.out.1.trans (Turned.of_below hb18 _)) (H18.out.2.below hb18 H18.out.2.lt))
  clear hb18
  dsimp only
  have c19 := (H19.out.2.cell 19).trans (bag_nil _ 19 (by decide) (by decide))
  have l19 := H19.out.2.lt
  clear c18 l18
  go_wp2_with fail
  refine (flatRequests_nil _).mono ?_
  rintro e w20 ⟨rfl, hb19⟩
  have H20 := hide (And.intro (H19.out.1.trans (Turned.of_below hb19 _)) (H19.out.2.below hb19 H19.out.2.lt))
  clear hb19
  dsimp only
  have c20 := (H20.out.2.cell 20).trans (bag_nil _ 20 (by decide) (by decide))
  have l20 := H20.out.2.lt
  clear c19 l19
  go_wp2_with fail
  refine (flatReplies_nil _).mono ?_
  rintro e w21 ⟨rfl, hb20⟩
  have H21 := hide (And.intro (H20.out.1.trans (Turned.of_below hb20 _)) (H20.out.2.below hb20 H20.out.2.lt))
  clear hb20
  dsimp only
  clear c20 l20
  go_wp2_with fail
  go_ret
  exact ⟨rfl, H21.out.1⟩
end Go.Proofs.Ytjmenaplgndnnaa
