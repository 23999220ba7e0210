/- package dev: a write. -/
import Derived.Test.YtajeohmmobgcjaaDevC
import Derived.Test.YtajeohmmobgcjaaGrow
import Derived.ChangeSlices
namespace Go.Proofs.Ytajeohmmobgcjaa
open Go Go.RowKit
/-- a pending write's cells -/
def sh (x : Int) (l : List UInt8) : List Value := .int .i64 x :: bv (l ++ List.replicate (64 - l.length) 0)
theorem Src.turned2 {w w' : World} {S : Nat → Prop} {A : Option Addr} {m c : Nat} {news : List Value} (h : Src w A m c news) (ht : Turned S w w') (hb : ∀ ad, A = some ad → 0 < m → ¬ S ad.block) : Src w' A m c news :=
  ⟨h.len, h.none_, h.one, fun ad had j u hu => by
    have h1 := h.cells ad had j u hu
    have h2 := World.block_lt_of_cell? w _ h1
    have h3 : 0 < m := by have := (List.getElem?_eq_some_iff.1 hu).1; have := h.len; omega
    have h4 : (ad.add j).block = ad.block := Go.ChangeShapes.block_add ad j
    rw [h4] at h2
    exact (World.cell?_of_block (by rw [h4]; exact ht.block _ h2 (hb ad had h3))).trans h1⟩
theorem sh_copy (x : Int) (l : List UInt8) : ((sh x []).toArray.toList.take 1 ++ (bv l ++ (sh x []).toArray.toList.drop (1 + (bv l).length))).toArray = (sh x l).toArray := by
  have h1 : (bv l).length = l.length := bvL l
  rw [h1]
  simp only [sh, List.nil_append, List.length_nil, Nat.sub_zero, List.take_succ_cons, List.take_zero, Nat.add_comm 1, List.drop_succ_cons]
  congr 1
  rw [bvA]
  congr 2
  unfold bv
  rw [← List.map_drop, List.drop_replicate]
  rfl
theorem turned_two {w w1 w2 : World} {g : Nat} {o : Obj} (h1 : w.grownBy w1 (some g)) (h2 : (w1.alloc o).grownBy w2 (some w1.heap.size)) : Turned (· = g) w w2 :=
  ((Turned.of_grown (S := (· = g)) h1 (fun k h _ => by injection h with h; exact h.symm)).alloc o).then_ (Turned.of_grown (S := (· = w1.heap.size)) h2 (fun k h _ => by injection h with h; exact h.symm)) (fun k hk h => by
    have h : k = w1.heap.size := h
    have := h1.size
    omega)
theorem sh_one (x : Int) (l : List UInt8) : ∀ u ∈ sh x l, u.oneCell' = true := by
  intro u hu
  rcases List.mem_cons.1 hu with rfl | hu
  · rfl
  · exact bv1 _ u hu
theorem info_shot : (Try.prog.info? 111).map (fun i => (i.zero, i.size, i.bytes)) = some (some (.agg Try.zeroCells111), 65, 72) := by kernel_rfl
theorem sh_len (x : Int) (l : List UInt8) (hl : l.length ≤ 64) : (sh x l).length = 65 := by simp [sh, bv]; omega
set_option maxRecDepth 100000 in
set_option maxHeartbeats 1000000 in
theorem write_ok {de fu de' fu' : Int} {a : Addr} {n c g m : Nat} (R : Nat) (xs : List Value) (vp : Value) (x : Int) (l : List UInt8) (A : Option Addr) (cap : Nat) (w : World) (hR : R ≤ w.heap.size) (hn : n ≤ 8192) (hm : m ≤ 100000)
    (hde : 0 ≤ de ∧ de ≤ 1000000000) (hfu : 0 ≤ fu ∧ fu ≤ 9223372036854775807) (ht : tick de fu false = (0, de', fu', false)) (hx : 0 ≤ x ∧ x < (n : Int)) (hl : l.length ≤ 64)
    (hb : Blk w g 107 (dv de fu false (.slice (some a) n c) vp)) (hp : w.ownsRow R 111 65 vp m xs) (hs : Src w A l.length cap (bv l)) (hsb : ∀ ad, A = some ad → 0 < l.length → ¬ ad.block = g) :
    Calls Try.prog 27 #[.pointer (some ⟨g, 0, none⟩), .int .i64 x, .slice A l.length cap] w fun e w' => e = .returned (.int .i64 0) ∧ ∃ v', Blk w' g 107 (dv de' fu' false (.slice (some a) n c) v') ∧ w'.ownsRow R 111 65 v' (m + 1) (xs ++ sh x l) ∧ Turned (fun k => k = g ∨ vp.ownBlock = some k) w w' ∧ (∀ k, v'.ownBlock = some k → vp.ownBlock = some k ∨ w.heap.size ≤ k) := by
  have hd : decide (0 ≤ x ∧ x < (n : Int)) = true := decide_eq_true hx
  have hx1 := hx.1
  have hx2 := hx.2
  have h64 : ¬ (64 : Int) < (l.length : Int) := by omega
  have HT := hide ht
  have H := hide (And.intro hb (And.intro hp hs))
  have HDE := hide (And.intro hde hfu)
  clear hb hp hs ht hde hfu hx
  go_enter Try.func27, Try.ntmps27
  go_wp2_with fail
  refine (able_any _ H.out.1).mono ?_
  rintro e w' ⟨rfl, rfl⟩
  rw [if_neg (by simp)]
  dsimp only
  go_wp2_with fail
  refine (has_any _ hn x (by omega) H.out.1).mono ?_
  rintro e w' ⟨rfl, rfl⟩
  rw [hd]
  dsimp only
  go_wp2_with fail
  refine (next_any _ _ HDE.out.1 HDE.out.2 H.out.1).mono ?_
  rintro e w1 ⟨rfl, hb1, hg1⟩
  rw [HT.out] at hb1 ⊢
  have H1 := hide (And.intro hb1 hg1)
  clear hb1 hg1
  dsimp only
  have hz0 : Try.zeroCells111.setIfInBounds 0 (.int .i64 x) = (sh x []).toArray := by
    rw [show Try.zeroCells111 = (sh 0 []).toArray by kernel_rfl, List.setIfInBounds_toArray]
    rfl
  have hsz : (Try.prog.info? 111).map (·.size) = some (sh x []).toArray.size := by
    rw [show (sh x []).toArray.size = 65 by simp [sh, bv]]
    kernel_rfl
  have hzs : Try.zeroCells111.size = (sh x []).toArray.size := by
    rw [show (sh x []).toArray.size = 65 by simp [sh, bv]]
    kernel_rfl
  have hone : (sh x []).toArray.all (·.oneCell') = true := by kernel_rfl
  obtain ⟨S0, hS0⟩ : ∃ S0, S0 = (sh x []).toArray := ⟨_, rfl⟩
  rw [← hS0] at hz0 hsz hzs hone
  have HBN := hide (Blk.new w1 111 Try.zeroCells111)
  have HSB := hide hsb
  have HL : Hid ((bv l).length = Nat.min l.length 64) := hide (by rw [bvL]; exact (Nat.min_eq_left hl).symm)
  have HF : Hid (1 + (bv l).length ≤ S0.size) := hide (by rw [hS0, bvL]; simp [sh, bv]; omega)
  have HSRC : Hid (∀ w2, (w1.alloc (.cells Try.zeroCells111 111)).grownBy w2 (some w1.heap.size) → Src w2 A l.length cap (bv l)) := hide (fun w2 hg2 => H.out.2.2.turned2 (turned_two H1.out.2 hg2) HSB.out)
  have HS0 := hide hS0
  clear hS0
  go_wp2_with (first
    | ((with_reducible refine wpList_store_blkA (o := ⟨none, _, _, _, _, _⟩) rfl 111 (.tmp 8) (.tmp 33) rfl w1.heap.size Try.zeroCells111 S0 111 HBN.out hsz hzs hone ?_ ?_ ?_); rfl; rfl; intro w2 h2 hg2; have H2 := hide (And.intro h2 hg2); have H3 := hide (HSRC.out w2 hg2); clear h2 hg2; dsimp only [Act.put])
    | ((with_reducible refine wpList_copyS (o := ⟨some 37, _, _, _, _, _⟩) rfl (.tmp 35) (.tmp 36) 48 48 rfl 5 Try.underlying48 size5 w1.heap.size 1 64 64 A l.length cap S0 111 H2.out.1 (bv l) HL.out H3.out HF.out ?_ ?_ ?_); rfl; rfl; intro w3 h3 hg3; have H4 := hide (And.intro h3 hg3); clear h3 hg3; dsimp only [Act.put, List.setIfInBounds_toArray, List.set_cons_zero, List.set_cons_succ]))
  have hb13 : Below w1.heap.size w1 w3 := ((((Below.refl _ _).alloc (Nat.le_refl _) (.cells Try.zeroCells111 111)).grown H2.out.2 (by rw [size_alloc]; omega) (fun k hk => by injection hk with hk; omega))).grown H4.out.2 (by have := H2.out.2.size; rw [size_alloc] at this; omega) (fun k hk => by injection hk with hk; omega)
  have hdv := H1.out.1.below hb13 H1.out.1.lt
  have c4 := (hdv.cell 4).trans (dv4 ..)
  have f4 := hdv.frozen 4
  have hlt := hdv.lt
  obtain ⟨S1, hS1⟩ : ∃ S1, S1 = (sh x l).toArray := ⟨_, rfl⟩
  have hh3 : w3.heap[w1.heap.size]? = some (.cells S1 111 (0, 0)) := by
    have h := H4.out.1
    rw [HS0.out, sh_copy, ← hS1] at h
    exact h
  have hS1s : (Try.prog.info? 111).map (·.size) = some S1.size := by
    rw [hS1, show (sh x l).toArray.size = 65 by rw [List.size_toArray, sh_len x l hl]]
    kernel_rfl
  have H5 := hide (And.intro hb13 hdv)
  clear hb13 hdv
  have hpn : vp.ownBlock ≠ some g := owned_neN H.out.2.1 H.out.1 (by decide)
  have hp3 : w3.ownsRow R 111 65 vp m xs := owned_keepN H.out.2.1 fun k hk hlt => (H5.out.1.block k (by have := H1.out.2.size; omega)).trans (H1.out.2.block k hlt (fun e => hpn (hk.trans e)))
  have hRN : R ≤ w3.heap.size := by have := H1.out.2.size; have := H5.out.1.size; omega
  have hvN : ∀ k, vp.ownBlock = some k → k < w3.heap.size := fun k hk => (owned_ltN hp3 hk).2
  obtain ⟨i, hi, hz0, hz1, hz2⟩ := info_parts info_shot
  have hS1l : S1.size = 65 := by rw [hS1, List.size_toArray, sh_len x l hl]
  let X : World → World → Prop := Gro R 111 65 m 1 vp (xs ++ sh x l)
  let V44 := MadeRow w3.heap.size 111 S1
  let V45 := Grown R 111 65 m 1 vp (xs ++ sh x l) w3.heap.size
  have hL : ∀ p ∈ ([(44, V44), (45, V45)] : Gen.MadeL), Gen.MadeOk X p.2 := by
    intro p hp
    simp only [List.mem_cons, List.not_mem_nil, or_false] at hp
    rcases hp with rfl | rfl
    · refine ⟨fun u w w' => ?_, fun u w => ?_⟩
      · rintro ⟨r, rfl, hr, hb⟩ hx
        exact ⟨r, rfl, hr, (hx.1.block r hb.lt (fun hk => by have := hvN r hk; omega)).trans hb⟩
      · rintro ⟨r, rfl, hr, hb⟩
        exact ⟨r, rfl, hb.lt⟩
    · refine ⟨fun u w w' h hx => h.stays hx, fun u w h => ?_⟩
      obtain ⟨g, cap, h2⟩ := owned_placeN h.1 (by omega)
      exact ⟨g, by rw [h2]; rfl, (owned_ltN h.1 (by rw [h2]; rfl)).2⟩
  refine Gen.wp_made (X := X) 8 [(44, V44), (45, V45)] (by kernel_rfl) (by kernel_rfl) hL (by simp) (by simp) ?_
  simp only [List.take_succ_cons, List.take_zero, List.drop_succ_cons, List.drop_zero]
  have HG : ∀ W, Gen.Ext X w3 W → Blk W g 107 (dv de' fu' false (.slice (some a) n c) vp) := fun W hW => (hW.1.block g hlt (fun hk => hpn hk)).trans H5.out.2
  refine Gen.made_val (.pointer (some ⟨g, 0, none⟩)) (by kernel_rfl) (by kernel_rfl) (by kernel_rfl) (fun _ _ => by kernel_rfl) ?_
  simp only [Act.put, List.setIfInBounds_toArray, List.set_cons_zero, List.set_cons_succ]
  refine Gen.made_val (.pointer (some ⟨g, 0, none⟩)) (by kernel_rfl) (by kernel_rfl) (by kernel_rfl) (fun _ _ => by kernel_rfl) ?_
  simp only [Act.put, List.setIfInBounds_toArray, List.set_cons_zero, List.set_cons_succ]
  refine Gen.made_val (.pointer (some ⟨g, 0, none⟩)) (by kernel_rfl) (by kernel_rfl) (by kernel_rfl) (fun _ _ => by kernel_rfl) ?_
  simp only [Act.put, List.setIfInBounds_toArray, List.set_cons_zero, List.set_cons_succ]
  refine Gen.made_val (.pointer (some ⟨g, 4, none⟩)) (by kernel_rfl) (by kernel_rfl) (by kernel_rfl) (fun _ _ => by kernel_rfl) ?_
  simp only [Act.put, List.setIfInBounds_toArray, List.set_cons_zero, List.set_cons_succ]
  refine Gen.made_val vp (by kernel_rfl) (by kernel_rfl) (by kernel_rfl) (fun W hW => ?hld) ?_
  case hld =>
    exact exec_load_slice (o := ⟨some 42, _, _, _, _, _⟩) 105 111 (.tmp 41) rfl ⟨g, 4, none⟩ rfl vp W Try.underlying105 ((HG W hW).cell 4)
  simp only [Act.put, List.setIfInBounds_toArray, List.set_cons_zero, List.set_cons_succ]
  refine Gen.made_val (.agg S1) (by kernel_rfl) (by kernel_rfl) (by kernel_rfl) (fun W hW => exec_load_blk (o := ⟨some 43, _, _, _, _, _⟩) 111 (.tmp 8) rfl w1.heap.size rfl 111 S1 _ W ?hb8 Try.underlying111 rfl hS1s) ?_
  case hb8 =>
    exact (hW.1.block _ (Blk.lt hh3) (fun hk => by have := (owned_ltN H.out.2.1 hk).2; have := H1.out.2.size; omega)).trans hh3
  simp only [Act.put, List.setIfInBounds_toArray, List.set_cons_zero, List.set_cons_succ]
  refine Gen.made_new 44 V44 hL (by kernel_rfl) (by kernel_rfl) rfl rfl (fun W hW => ⟨_, _, W.heap.size, exec_build1 (o := ⟨some 44, _, _, _, _, _⟩) 105 111 (.tmp 43) rfl i _ S1 rfl Try.underlying105 hi hz0 (hz1.trans hS1l.symm) (by omega) (by omega) W, ?hx44, ⟨_, rfl, hW.1.size, Blk.new _ _ _⟩, rfl, Nat.le_refl _⟩) ?_
  case hx44 =>
    exact ⟨(Turned.refl _ _).alloc _, fun k hk _ => .inl (Below.heap_alloc _ _ _ (by have := hvN k hk; have := hW.1.size; omega))⟩
  simp only [Act.put, List.setIfInBounds_toArray, List.set_cons_zero, List.set_cons_succ]
  refine Gen.made_newg 44 V44 45 V45 (by kernel_rfl) rfl (by kernel_rfl) rfl rfl ?happ ?_
  case happ =>
    rintro u W hW ⟨r, rfl, hr, hb⟩
    have ho : W.ownsRow R 111 65 vp m xs := Gro.own hW hp3
    obtain ⟨v', W', h1, h2, h3, h4⟩ := run_appG (P := Try.prog) (w := W) R 105 105 111 i _ 65 72 Try.underlying105 hi hz0 hz1 hz2 (by kernel_rfl) (by omega) vp m xs ho ⟨r, 0, none⟩ 1 1 (sh x l) (by rw [sh_len x l hl]) (MadeRow.cells (by rw [hS1] at hb; exact hb)) (sh_one x l) (by omega) (by simp only [maxLen]; omega) (by omega) (by have := hW.1.size; omega)
    refine ⟨v', W', exec_append (o := ⟨some 45, _, _, _, _, _⟩) (.tmp 42) (.tmp 44) 105 rfl vp _ v' W W' rfl rfl h1, Gro.grow ho h2 h3 h4, Grown.of hp3 hW.1.size h2 h4, ?_⟩
    intro t V u' hne hV hu' e
    have hm := Gen.madeBy_mem hV
    simp only [List.mem_cons, List.not_mem_nil, or_false, Prod.mk.injEq] at hm
    rcases hm with ⟨rfl, rfl⟩ | ⟨rfl, rfl⟩
    · obtain ⟨r', rfl, hr', hb'⟩ := hu'
      rcases h4 with ⟨g', cap', e1, e2⟩ | ⟨e1, _⟩
      · rw [e2] at e
        injection e with e
        injection e with e
        injection e with e
        have := hvN g' (by rw [e1]; rfl)
        omega
      · rw [← e] at e1
        injection e1 with e1
        have e1 : r' = W.heap.size := e1
        have := hb'.lt
        omega
    · exact hne rfl
  simp only [Act.put, List.setIfInBounds_toArray, List.set_cons_zero, List.set_cons_succ]
  show ∀ w', _ → _
  intro w4 hx4
  simp only [Gen.ended, List.nil_append]
  intro u44 _ _ u45 h45 _
  simp only [Act.put, List.setIfInBounds_toArray, List.set_cons_zero, List.set_cons_succ]
  have b4 := HG w4 hx4
  have c4 := (b4.cell 4).trans (dv4 ..)
  have f4 := b4.frozen 4
  have hlt := b4.lt
  have H6 := hide (And.intro b4 (And.intro hx4 h45))
  obtain ⟨k45, cap45, hu45⟩ := owned_placeN h45.1 (by omega)
  clear b4 hx4 h45
  subst hu45
  go_wp2_with fail
  go_ret
  obtain ⟨b4, hx4, h45⟩ := H6.out
  have b5 := b4.set_ 4 (.slice (some ⟨k45, 0, none⟩) (m + 1) cap45)
  rw [dv_set4] at b5
  have hkg : k45 ≠ g := fun e => owned_neN h45.1 b4 (by decide) (by rw [← e]; rfl)
  have hT : Turned (fun k => k = g ∨ vp.ownBlock = some k) w' w4 := by
    have t1 : Turned (fun k => k = g ∨ vp.ownBlock = some k) w' w1 := Turned.of_grown H1.out.2 (fun k h _ => .inl (by injection h with h; exact h.symm))
    exact (t1.trans (Turned.of_below H5.out.1 _)).then_ hx4.1 (fun k _ h => .inr h)
  refine ⟨rfl, _, b5, owned_keepN h45.1 fun k hk _ => ?_, hT.setCell (fun _ => .inl rfl) _, fun k hk => ?_⟩
  · have hk : some k45 = some k := hk
    injection hk with hk
    exact Below.heap_setCell w4 ⟨g, 4, none⟩ _ k (fun e => hkg (by rw [hk]; exact e))
  · have hk : some k45 = some k := hk
    injection hk with hk
    subst hk
    rcases h45.2 with ⟨k', cap', e1, e2, _⟩ | ⟨r, hr, hN, _⟩
    · injection e2 with e2
      injection e2 with e2
      injection e2 with e2
      rw [e1, e2]
      exact .inl rfl
    · have hr : some k45 = some r := hr
      injection hr with hr
      have := H1.out.2.size
      have := H5.out.1.size
      exact .inr (by omega)
end Go.Proofs.Ytajeohmmobgcjaa
