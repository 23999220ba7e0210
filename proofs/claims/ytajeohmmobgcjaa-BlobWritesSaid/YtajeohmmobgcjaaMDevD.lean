/- package dev: a write. package dev: a device, plain; a write, whatever comes of it. rows of arrays; cells in the middle of a block. package dev: rows of arrays; cells in the middle of a block; what settles, plain. -/
import Derived.Test.YtajeohmmobgcjaaMDevA
import Derived.Test.YtajeohmmobgcjaaMGrow
import Derived.ChangeSlices
section
namespace Go.Proofs.Ytajeohmmobgcjaa
open Go Go.RowKit
/-- a pending write's cells -/
def sh (x : Int) (l : List UInt8) : List Value := .int .i64 x :: bv (l ++ List.replicate (64 - l.length) 0)
theorem Src.turned2 {w w' : World} {S : Nat → Prop} {A : Option Addr} {m c : Nat} {news : List Value} (h : Src w A m c news) (ht : Turned S w w') (hb : ∀ ad, A = some ad → 0 < m → ¬ S ad.block) : Src w' A m c news :=
  ⟨h.len, h.none_, h.one, fun ad had j u hu => by
    have h1 := h.cells ad had j u hu
    have h2 := World.block_lt_of_cell? w _ h1
    have h3 : 0 < m := by have := (List.getElem?_eq_some_iff.1 hu).1; have := h.len; omega
    have h4 : (ad.add j).block = ad.block := Go.ChangeShapes.block_add ad j
    rw [h4] at h2
    exact (World.cell?_of_block (by rw [h4]; exact ht.block _ h2 (hb ad had h3))).trans h1⟩
theorem sh_copy (x : Int) (l : List UInt8) : ((sh x []).toArray.toList.take 1 ++ (bv l ++ (sh x []).toArray.toList.drop (1 + (bv l).length))).toArray = (sh x l).toArray := by
  have h1 : (bv l).length = l.length := bvL l
  rw [h1]
  simp only [sh, List.nil_append, List.length_nil, Nat.sub_zero, List.take_succ_cons, List.take_zero, Nat.add_comm 1, List.drop_succ_cons]
  congr 1
  rw [bvA]
  congr 2
  unfold bv
  rw [← List.map_drop, List.drop_replicate]
  rfl
theorem turned_two {w w1 w2 : World} {g : Nat} {o : Obj} (h1 : w.grownBy w1 (some g)) (h2 : (w1.alloc o).grownBy w2 (some w1.heap.size)) : Turned (· = g) w w2 :=
  ((Turned.of_grown (S := (· = g)) h1 (fun k h _ => by injection h with h; exact h.symm)).alloc o).then_ (Turned.of_grown (S := (· = w1.heap.size)) h2 (fun k h _ => by injection h with h; exact h.symm)) (fun k hk h => by
    have h : k = w1.heap.size := h
    have := h1.size
    omega)
theorem sh_one (x : Int) (l : List UInt8) : ∀ u ∈ sh x l, u.oneCell' = true := by
  intro u hu
  rcases List.mem_cons.1 hu with rfl | hu
  · rfl
  · exact bv1 _ u hu
theorem info_shot : (Try.prog.info? 111).map (fun i => (i.zero, i.size, i.bytes)) = some (some (.agg Try.zeroCells111), 65, 72) := by kernel_rfl
theorem sh_len (x : Int) (l : List UInt8) (hl : l.length ≤ 64) : (sh x l).length = 65 := by simp [sh, bv]; omega
set_option maxRecDepth 100000 in
set_option maxHeartbeats 1000000 in
theorem write_ok {de fu de' fu' : Int} {a : Addr} {n c g m : Nat} (R : Nat) (xs : List Value) (vp : Value) (x : Int) (l : List UInt8) (A : Option Addr) (cap : Nat) (w : World) (hR : R ≤ w.heap.size) (hn : n ≤ 8192) (hm : m ≤ 100000)
    (hde : 0 ≤ de ∧ de ≤ 1000000000) (hfu : 0 ≤ fu ∧ fu ≤ 9223372036854775807) (ht : tick de fu false = (0, de', fu', false)) (hx : 0 ≤ x ∧ x < (n : Int)) (hl : l.length ≤ 64)
    (hb : Blk w g 107 (dv de fu false (.slice (some a) n c) vp)) (hp : w.ownsRow R 111 65 vp m xs) (hs : Src w A l.length cap (bv l)) (hsb : ∀ ad, A = some ad → 0 < l.length → ¬ ad.block = g) :
    Calls Try.prog 27 #[.pointer (some ⟨g, 0, none⟩), .int .i64 x, .slice A l.length cap] w fun e w' => e = .returned (.int .i64 0) ∧ ∃ v', Blk w' g 107 (dv de' fu' false (.slice (some a) n c) v') ∧ w'.ownsRow R 111 65 v' (m + 1) (xs ++ sh x l) ∧ Turned (fun k => k = g ∨ vp.ownBlock = some k) w w' ∧ (∀ k, v'.ownBlock = some k → vp.ownBlock = some k ∨ w.heap.size ≤ k) := by
  have hd : decide (0 ≤ x ∧ x < (n : Int)) = true := decide_eq_true hx
  have hx1 := hx.1
  have hx2 := hx.2
  have h64 : ¬ (64 : Int) < (l.length : Int) := by omega
  have HT := hide ht
  have H := hide (And.intro hb (And.intro hp hs))
  have HDE := hide (And.intro hde hfu)
  clear hb hp hs ht hde hfu hx
  go_enter Try.func27, Try.ntmps27
  go_wp2_with fail
  refine (able_any _ H.out.1).mono ?_
  rintro e w' ⟨rfl, rfl⟩
  rw [if_neg (by simp)]
  dsimp only
  go_wp2_with fail
  refine (has_any _ hn x (by omega) H.out.1).mono ?_
  rintro e w' ⟨rfl, rfl⟩
  rw [hd]
  dsimp only
  go_wp2_with fail
  refine (next_any _ _ HDE.out.1 HDE.out.2 H.out.1).mono ?_
  rintro e w1 ⟨rfl, hb1, hg1⟩
  rw [HT.out] at hb1 ⊢
  have H1 := hide (And.intro hb1 hg1)
  clear hb1 hg1
  dsimp only
  have hz0 : Try.zeroCells111.setIfInBounds 0 (.int .i64 x) = (sh x []).toArray := by
    rw [show Try.zeroCells111 = (sh 0 []).toArray by kernel_rfl, List.setIfInBounds_toArray]
    rfl
  have hsz : (Try.prog.info? 111).map (·.size) = some (sh x []).toArray.size := by
    rw [show (sh x []).toArray.size = 65 by simp [sh, bv]]
    kernel_rfl
  have hzs : Try.zeroCells111.size = (sh x []).toArray.size := by
    rw [show (sh x []).toArray.size = 65 by simp [sh, bv]]
    kernel_rfl
  have hone : (sh x []).toArray.all (·.oneCell') = true := by kernel_rfl
  obtain ⟨S0, hS0⟩ : ∃ S0, S0 = (sh x []).toArray := ⟨_, rfl⟩
  rw [← hS0] at hz0 hsz hzs hone
  have HBN := hide (Blk.new w1 111 Try.zeroCells111)
  have HSB := hide hsb
  have HL : Hid ((bv l).length = Nat.min l.length 64) := hide (by rw [bvL]; exact (Nat.min_eq_left hl).symm)
  have HF : Hid (1 + (bv l).length ≤ S0.size) := hide (by rw [hS0, bvL]; simp [sh, bv]; omega)
  have HSRC : Hid (∀ w2, (w1.alloc (.cells Try.zeroCells111 111)).grownBy w2 (some w1.heap.size) → Src w2 A l.length cap (bv l)) := hide (fun w2 hg2 => H.out.2.2.turned2 (turned_two H1.out.2 hg2) HSB.out)
  have HS0 := hide hS0
  clear hS0
  go_wp2_with (first
    | ((with_reducible refine wpList_store_blkA (o := ⟨none, _, _, _, _, _⟩) rfl 111 (.tmp 8) (.tmp 33) rfl w1.heap.size Try.zeroCells111 S0 111 HBN.out hsz hzs hone ?_ ?_ ?_); rfl; rfl; intro w2 h2 hg2; have H2 := hide (And.intro h2 hg2); have H3 := hide (HSRC.out w2 hg2); clear h2 hg2; dsimp only [Act.put])
    | ((with_reducible refine wpList_copyS (o := ⟨some 37, _, _, _, _, _⟩) rfl (.tmp 35) (.tmp 36) 48 48 rfl 5 Try.underlying48 size5 w1.heap.size 1 64 64 A l.length cap S0 111 H2.out.1 (bv l) HL.out H3.out HF.out ?_ ?_ ?_); rfl; rfl; intro w3 h3 hg3; have H4 := hide (And.intro h3 hg3); clear h3 hg3; dsimp only [Act.put, List.setIfInBounds_toArray, List.set_cons_zero, List.set_cons_succ]))
  have hb13 : Below w1.heap.size w1 w3 := ((((Below.refl _ _).alloc (Nat.le_refl _) (.cells Try.zeroCells111 111)).grown H2.out.2 (by rw [size_alloc]; omega) (fun k hk => by injection hk with hk; omega))).grown H4.out.2 (by have := H2.out.2.size; rw [size_alloc] at this; omega) (fun k hk => by injection hk with hk; omega)
  have hdv := H1.out.1.below hb13 H1.out.1.lt
  have c4 := (hdv.cell 4).trans (dv4 ..)
  have f4 := hdv.frozen 4
  have hlt := hdv.lt
  obtain ⟨S1, hS1⟩ : ∃ S1, S1 = (sh x l).toArray := ⟨_, rfl⟩
  have hh3 : w3.heap[w1.heap.size]? = some (.cells S1 111 (0, 0)) := by
    have h := H4.out.1
    rw [HS0.out, sh_copy, ← hS1] at h
    exact h
  have hS1s : (Try.prog.info? 111).map (·.size) = some S1.size := by
    rw [hS1, show (sh x l).toArray.size = 65 by rw [List.size_toArray, sh_len x l hl]]
    kernel_rfl
  have H5 := hide (And.intro hb13 hdv)
  clear hb13 hdv
  have hpn : vp.ownBlock ≠ some g := owned_neN H.out.2.1 H.out.1 (by decide)
  have hp3 : w3.ownsRow R 111 65 vp m xs := owned_keepN H.out.2.1 fun k hk hlt => (H5.out.1.block k (by have := H1.out.2.size; omega)).trans (H1.out.2.block k hlt (fun e => hpn (hk.trans e)))
  have hRN : R ≤ w3.heap.size := by have := H1.out.2.size; have := H5.out.1.size; omega
  have hvN : ∀ k, vp.ownBlock = some k → k < w3.heap.size := fun k hk => (owned_ltN hp3 hk).2
  obtain ⟨i, hi, hz0, hz1, hz2⟩ := info_parts info_shot
  have hS1l : S1.size = 65 := by rw [hS1, List.size_toArray, sh_len x l hl]
  let X : World → World → Prop := Gro R 111 65 m 1 vp (xs ++ sh x l)
  let V44 := MadeRow w3.heap.size 111 S1
  let V45 := Grown R 111 65 m 1 vp (xs ++ sh x l) w3.heap.size
  have hL : ∀ p ∈ ([(44, V44), (45, V45)] : Gen.MadeL), Gen.MadeOk X p.2 := by
    intro p hp
    simp only [List.mem_cons, List.not_mem_nil, or_false] at hp
    rcases hp with rfl | rfl
    · refine ⟨fun u w w' => ?_, fun u w => ?_⟩
      · rintro ⟨r, rfl, hr, hb⟩ hx
        exact ⟨r, rfl, hr, (hx.1.block r hb.lt (fun hk => by have := hvN r hk; omega)).trans hb⟩
      · rintro ⟨r, rfl, hr, hb⟩
        exact ⟨r, rfl, hb.lt⟩
    · refine ⟨fun u w w' h hx => h.stays hx, fun u w h => ?_⟩
      obtain ⟨g, cap, h2⟩ := owned_placeN h.1 (by omega)
      exact ⟨g, by rw [h2]; rfl, (owned_ltN h.1 (by rw [h2]; rfl)).2⟩
  refine Gen.wp_made (X := X) 8 [(44, V44), (45, V45)] (by kernel_rfl) (by kernel_rfl) hL (by simp) (by simp) ?_
  simp only [List.take_succ_cons, List.take_zero, List.drop_succ_cons, List.drop_zero]
  have HG : ∀ W, Gen.Ext X w3 W → Blk W g 107 (dv de' fu' false (.slice (some a) n c) vp) := fun W hW => (hW.1.block g hlt (fun hk => hpn hk)).trans H5.out.2
  refine Gen.made_val (.pointer (some ⟨g, 0, none⟩)) (by kernel_rfl) (by kernel_rfl) (by kernel_rfl) (fun _ _ => by kernel_rfl) ?_
  simp only [Act.put, List.setIfInBounds_toArray, List.set_cons_zero, List.set_cons_succ]
  refine Gen.made_val (.pointer (some ⟨g, 0, none⟩)) (by kernel_rfl) (by kernel_rfl) (by kernel_rfl) (fun _ _ => by kernel_rfl) ?_
  simp only [Act.put, List.setIfInBounds_toArray, List.set_cons_zero, List.set_cons_succ]
  refine Gen.made_val (.pointer (some ⟨g, 0, none⟩)) (by kernel_rfl) (by kernel_rfl) (by kernel_rfl) (fun _ _ => by kernel_rfl) ?_
  simp only [Act.put, List.setIfInBounds_toArray, List.set_cons_zero, List.set_cons_succ]
  refine Gen.made_val (.pointer (some ⟨g, 4, none⟩)) (by kernel_rfl) (by kernel_rfl) (by kernel_rfl) (fun _ _ => by kernel_rfl) ?_
  simp only [Act.put, List.setIfInBounds_toArray, List.set_cons_zero, List.set_cons_succ]
  refine Gen.made_val vp (by kernel_rfl) (by kernel_rfl) (by kernel_rfl) (fun W hW => ?hld) ?_
  case hld =>
    exact exec_load_slice (o := ⟨some 42, _, _, _, _, _⟩) 105 111 (.tmp 41) rfl ⟨g, 4, none⟩ rfl vp W Try.underlying105 ((HG W hW).cell 4)
  simp only [Act.put, List.setIfInBounds_toArray, List.set_cons_zero, List.set_cons_succ]
  refine Gen.made_val (.agg S1) (by kernel_rfl) (by kernel_rfl) (by kernel_rfl) (fun W hW => exec_load_blk (o := ⟨some 43, _, _, _, _, _⟩) 111 (.tmp 8) rfl w1.heap.size rfl 111 S1 _ W ?hb8 Try.underlying111 rfl hS1s) ?_
  case hb8 =>
    exact (hW.1.block _ (Blk.lt hh3) (fun hk => by have := (owned_ltN H.out.2.1 hk).2; have := H1.out.2.size; omega)).trans hh3
  simp only [Act.put, List.setIfInBounds_toArray, List.set_cons_zero, List.set_cons_succ]
  refine Gen.made_new 44 V44 hL (by kernel_rfl) (by kernel_rfl) rfl rfl (fun W hW => ⟨_, _, W.heap.size, exec_build1 (o := ⟨some 44, _, _, _, _, _⟩) 105 111 (.tmp 43) rfl i _ S1 rfl Try.underlying105 hi hz0 (hz1.trans hS1l.symm) (by omega) (by omega) W, ?hx44, ⟨_, rfl, hW.1.size, Blk.new _ _ _⟩, rfl, Nat.le_refl _⟩) ?_
  case hx44 =>
    exact ⟨(Turned.refl _ _).alloc _, fun k hk _ => .inl (Below.heap_alloc _ _ _ (by have := hvN k hk; have := hW.1.size; omega))⟩
  simp only [Act.put, List.setIfInBounds_toArray, List.set_cons_zero, List.set_cons_succ]
  refine Gen.made_newg 44 V44 45 V45 (by kernel_rfl) rfl (by kernel_rfl) rfl rfl ?happ ?_
  case happ =>
    rintro u W hW ⟨r, rfl, hr, hb⟩
    have ho : W.ownsRow R 111 65 vp m xs := Gro.own hW hp3
    obtain ⟨v', W', h1, h2, h3, h4⟩ := run_appG (P := Try.prog) (w := W) R 105 105 111 i _ 65 72 Try.underlying105 hi hz0 hz1 hz2 (by kernel_rfl) (by omega) vp m xs ho ⟨r, 0, none⟩ 1 1 (sh x l) (by rw [sh_len x l hl]) (MadeRow.cells (by rw [hS1] at hb; exact hb)) (sh_one x l) (by omega) (by simp only [maxLen]; omega) (by omega) (by have := hW.1.size; omega)
    refine ⟨v', W', exec_append (o := ⟨some 45, _, _, _, _, _⟩) (.tmp 42) (.tmp 44) 105 rfl vp _ v' W W' rfl rfl h1, Gro.grow ho h2 h3 h4, Grown.of hp3 hW.1.size h2 h4, ?_⟩
    intro t V u' hne hV hu' e
    have hm := Gen.madeBy_mem hV
    simp only [List.mem_cons, List.not_mem_nil, or_false, Prod.mk.injEq] at hm
    rcases hm with ⟨rfl, rfl⟩ | ⟨rfl, rfl⟩
    · obtain ⟨r', rfl, hr', hb'⟩ := hu'
      rcases h4 with ⟨g', cap', e1, e2⟩ | ⟨e1, _⟩
      · rw [e2] at e
        injection e with e
        injection e with e
        injection e with e
        have := hvN g' (by rw [e1]; rfl)
        omega
      · rw [← e] at e1
        injection e1 with e1
        have e1 : r' = W.heap.size := e1
        have := hb'.lt
        omega
    · exact hne rfl
  simp only [Act.put, List.setIfInBounds_toArray, List.set_cons_zero, List.set_cons_succ]
  show ∀ w', _ → _
  intro w4 hx4
  simp only [Gen.ended, List.nil_append]
  intro u44 _ _ u45 h45 _
  simp only [Act.put, List.setIfInBounds_toArray, List.set_cons_zero, List.set_cons_succ]
  have b4 := HG w4 hx4
  have c4 := (b4.cell 4).trans (dv4 ..)
  have f4 := b4.frozen 4
  have hlt := b4.lt
  have H6 := hide (And.intro b4 (And.intro hx4 h45))
  obtain ⟨k45, cap45, hu45⟩ := owned_placeN h45.1 (by omega)
  clear b4 hx4 h45
  subst hu45
  go_wp2_with fail
  go_ret
  obtain ⟨b4, hx4, h45⟩ := H6.out
  have b5 := b4.set_ 4 (.slice (some ⟨k45, 0, none⟩) (m + 1) cap45)
  rw [dv_set4] at b5
  have hkg : k45 ≠ g := fun e => owned_neN h45.1 b4 (by decide) (by rw [← e]; rfl)
  have hT : Turned (fun k => k = g ∨ vp.ownBlock = some k) w' w4 := by
    have t1 : Turned (fun k => k = g ∨ vp.ownBlock = some k) w' w1 := Turned.of_grown H1.out.2 (fun k h _ => .inl (by injection h with h; exact h.symm))
    exact (t1.trans (Turned.of_below H5.out.1 _)).then_ hx4.1 (fun k _ h => .inr h)
  refine ⟨rfl, _, b5, owned_keepN h45.1 fun k hk _ => ?_, hT.setCell (fun _ => .inl rfl) _, fun k hk => ?_⟩
  · have hk : some k45 = some k := hk
    injection hk with hk
    exact Below.heap_setCell w4 ⟨g, 4, none⟩ _ k (fun e => hkg (by rw [hk]; exact e))
  · have hk : some k45 = some k := hk
    injection hk with hk
    subst hk
    rcases h45.2 with ⟨k', cap', e1, e2, _⟩ | ⟨r, hr, hN, _⟩
    · injection e2 with e2
      injection e2 with e2
      injection e2 with e2
      rw [e1, e2]
      exact .inl rfl
    · have hr : some k45 = some r := hr
      injection hr with hr
      have := H1.out.2.size
      have := H5.out.1.size
      exact .inr (by omega)
end Go.Proofs.Ytajeohmmobgcjaa
end
section
namespace Go.Proofs.Ytajeohmmobgcjaa
open Go Go.RowKit
/-- a device, plain: deeds, a fuse, is it down, what is kept, what is pending -/
structure Dv where
  de : Int
  fu : Int
  dn : Bool
  kept : List (List UInt8)
  pend : List (Int × List UInt8)
def pad (l : List UInt8) : List UInt8 := l ++ List.replicate (64 - l.length) 0
theorem pad_len (l : List UInt8) (h : l.length ≤ 64) : (pad l).length = 64 := by simp [pad]; omega
theorem sh_pad (x : Int) (l : List UInt8) (h : l.length ≤ 64) : sh x (pad l) = sh x l := by
  simp only [sh, pad_len l h, Nat.sub_self, List.replicate_zero, List.append_nil]
  rfl
def keptCells (l : List (List UInt8)) : List Value := (l.map bv).flatten
def pendCells (l : List (Int × List UInt8)) : List Value := (l.map fun p => sh p.1 p.2).flatten
theorem pend_add (l : List (Int × List UInt8)) (x : Int) (b : List UInt8) (h : b.length ≤ 64) : pendCells (l ++ [(x, pad b)]) = pendCells l ++ sh x b := by
  simp [pendCells, sh_pad x b h]
theorem owned_ne2 {w : World} {base base' n n' s s' g g' : Nat} {e e' : TypeId} {v v' : Value} {xs xs' : List Value} (h : w.ownsRow base e s v n xs) (h' : w.ownsRow base' e' s' v' n' xs') (hne : e ≠ e') (hg : v.ownBlock = some g) : v'.ownBlock = some g' → g ≠ g' := by
  intro hg' he
  subst he
  rcases owned_formN h' with ⟨rfl, _⟩ | ⟨g', cap, cur, rfl, _, _, _, hh, _⟩
  · cases hg'
  · have hg' : some g' = some g := hg'
    injection hg' with hg'
    subst hg'
    exact owned_neN h hh hne hg
structure Dv.Ok (D : Dv) : Prop where
  n1 : 1 ≤ D.kept.length
  n2 : D.kept.length ≤ 8192
  k64 : ∀ b ∈ D.kept, b.length = 64
  p64 : ∀ p ∈ D.pend, p.2.length = 64 ∧ 0 ≤ p.1 ∧ p.1 < (D.kept.length : Int)
  de : 0 ≤ D.de
  fu : 0 ≤ D.fu ∧ D.fu ≤ 9223372036854775807
def Foot (g rk : Nat) (vp : Value) (k : Nat) : Prop := k = g ∨ k = rk ∨ vp.ownBlock = some k
/-- a device in memory, and what it is made of -/
def DevAt (w : World) (F : Nat → Prop) (g : Nat) (D : Dv) : Prop := ∃ rk c vp, F = Foot g rk vp ∧ Blk w g 107 (dv D.de D.fu D.dn (.slice (some ⟨rk, 0, none⟩) D.kept.length c) vp) ∧
  w.ownsRow 0 109 64 (.slice (some ⟨rk, 0, none⟩) D.kept.length c) D.kept.length (keptCells D.kept) ∧ w.ownsRow 0 111 65 vp D.pend.length (pendCells D.pend) ∧ D.Ok
theorem DevAt.keep {w w' : World} {F : Nat → Prop} {g : Nat} {D : Dv} (h : DevAt w F g D) (hk : ∀ k, k < w.heap.size → F k → w'.heap[k]? = w.heap[k]?) : DevAt w' F g D := by
  obtain ⟨rk, c, vp, rfl, h1, h2, h3, h4⟩ := h
  refine ⟨rk, c, vp, rfl, (hk g h1.lt (.inl rfl)).trans h1, owned_keepN h2 fun k hg hl => hk k hl (.inr (.inl (by injection hg with hg; exact hg.symm))), owned_keepN h3 fun k hg hl => hk k hl (.inr (.inr hg)), h4⟩
theorem DevAt.lt {w : World} {F : Nat → Prop} {g : Nat} {D : Dv} (h : DevAt w F g D) : ∀ k, F k → k < w.heap.size := by
  obtain ⟨rk, c, vp, rfl, h1, h2, h3, h4⟩ := h
  rintro k (rfl | rfl | hk)
  · exact h1.lt
  · exact (owned_ltN h2 rfl).2
  · exact (owned_ltN h3 hk).2
/-- what a deed leaves: the device, all else as it was -/
def Left (w : World) (F : Nat → Prop) (g : Nat) (D : Dv) (w' : World) : Prop := ∃ F', DevAt w' F' g D ∧ Turned F w w' ∧ ∀ k, F' k → F k ∨ w.heap.size ≤ k
theorem Left.same {w : World} {F : Nat → Prop} {g : Nat} {D : Dv} (h : DevAt w F g D) : Left w F g D w := ⟨F, h, Turned.refl _ _, fun _ h => .inl h⟩
theorem Left.trans {w w' w'' : World} {F F' : Nat → Prop} {g : Nat} {D : Dv} (ht : Turned F w w') (hF : ∀ k, F' k → F k ∨ w.heap.size ≤ k) (h : Left w' F' g D w'') : Left w F g D w'' := by
  obtain ⟨F'', h1, h2, h3⟩ := h
  refine ⟨F'', h1, ht.then_ h2 (fun k hk hf => (hF k hf).resolve_right (by omega)), fun k hk => ?_⟩
  have := ht.size
  rcases h3 k hk with h | h
  · exact hF k h
  · exact .inr (by omega)
/-- a write, plain -/
def Dv.write (D : Dv) (x : Int) (l : List UInt8) : Int × Dv :=
  if D.dn then (10, D) else if (decide (0 ≤ x ∧ x < (D.kept.length : Int)) && decide (l.length ≤ 64)) = false then (2, D) else
  let t := tick D.de D.fu D.dn
  (t.1, { D with de := t.2.1, fu := t.2.2.1, dn := t.2.2.2, pend := if t.1 = 0 then D.pend ++ [(x, pad l)] else D.pend })
theorem tick_cases (de fu : Int) : (fu = 1 ∧ tick de fu false = (10, de, 0, true)) ∨ (∃ fu', tick de fu false = (0, de + 1, fu', false) ∧ (0 ≤ fu → 0 ≤ fu') ∧ fu' ≤ fu) := by
  unfold tick
  by_cases h1 : fu = 1
  · exact .inl ⟨h1, by simp [h1]⟩
  · by_cases h0 : fu = 0
    · exact .inr ⟨0, by simp [h0], fun _ => by omega, by omega⟩
    · exact .inr ⟨fu - 1, by simp [h0, h1], fun h => by omega, by omega⟩
/-- only the device's own block has turned -/
theorem left_own {w w' : World} {g rk c : Nat} {vp : Value} {D D' : Dv} {cs : Array Value} (h0 : Blk w g 107 cs) (hk : w.ownsRow 0 109 64 (.slice (some ⟨rk, 0, none⟩) D.kept.length c) D.kept.length (keptCells D.kept)) (hp : w.ownsRow 0 111 65 vp D.pend.length (pendCells D.pend))
    (hb : Blk w' g 107 (dv D'.de D'.fu D'.dn (.slice (some ⟨rk, 0, none⟩) D.kept.length c) vp)) (hg : w.grownBy w' (some g)) (ek : D'.kept = D.kept) (ep : D'.pend = D.pend) (hok : D'.Ok) : Left w (Foot g rk vp) g D' w' := by
  have hne : ∀ {n s : Nat} {e : TypeId} {v : Value} {xs : List Value}, w.ownsRow 0 e s v n xs → e ≠ 107 → w'.ownsRow 0 e s v n xs := fun h he => owned_keepN h fun k hv hl => hg.block k hl (fun e' => owned_neN h h0 he (by rw [hv, e']))
  refine ⟨_, ⟨rk, c, vp, rfl, by rw [ek]; exact hb, by rw [ek]; exact hne hk (by decide), by rw [ep]; exact hne hp (by decide), hok⟩, Turned.of_grown hg (fun k h _ => .inl (by injection h with h; exact h.symm)), fun _ h => .inl h⟩
section
variable {D : Dv}
theorem Dv.Ok.ticked (h : D.Ok) {t : Int × Int × Int × Bool} (ht : tick D.de D.fu false = t) (p : List (Int × List UInt8)) (hp : ∀ q ∈ p, q.2.length = 64 ∧ 0 ≤ q.1 ∧ q.1 < (D.kept.length : Int)) (dn : Bool) : Dv.Ok { D with de := t.2.1, fu := t.2.2.1, dn := dn, pend := p } := by
  refine ⟨h.n1, h.n2, h.k64, hp, ?_, ?_⟩
  · rcases tick_cases D.de D.fu with ⟨_, h2⟩ | ⟨f, h2, _⟩ <;> rw [← ht, h2]
    · exact h.de
    · have := h.de
      show 0 ≤ D.de + 1
      omega
  · rcases tick_cases D.de D.fu with ⟨_, h2⟩ | ⟨f, h2, h3, h4⟩ <;> rw [← ht, h2]
    · show (0 : Int) ≤ 0 ∧ (0 : Int) ≤ _
      omega
    · have := h.fu
      exact ⟨h3 this.1, by show f ≤ _; omega⟩
end
set_option maxRecDepth 100000 in
set_option maxHeartbeats 1000000 in
theorem write_any {D : Dv} {F : Nat → Prop} {g : Nat} (x : Int) (l : List UInt8) (A : Option Addr) (cap : Nat) (w : World) (h : DevAt w F g D) (hde : D.de ≤ 1000000000) (hm : D.pend.length ≤ 100000) (hx : -9223372036854775808 ≤ x ∧ x ≤ 9223372036854775807) (hl : l.length ≤ 1000000000)
    (hs : Src w A l.length cap (bv l)) (hsb : ∀ ad, A = some ad → 0 < l.length → ¬ F ad.block) :
    Calls Try.prog 27 #[.pointer (some ⟨g, 0, none⟩), .int .i64 x, .slice A l.length cap] w fun e w' => e = .returned (.int .i64 (D.write x l).1) ∧ Left w F g (D.write x l).2 w' := by
  have h0 := h
  obtain ⟨rk, c, vp, rfl, hb, hk, hp, hok⟩ := h
  have HO := hide hok
  have H := hide (And.intro hb (And.intro hk (And.intro hp h0)))
  clear hb hk hp h0
  cases hdn : D.dn with
  | true =>
    rw [show D.write x l = (10, D) by simp [Dv.write, hdn]]
    clear hs hsb
    go_enter Try.func27, Try.ntmps27
    go_wp2_with fail
    refine (able_any _ H.out.1).mono ?_
    rintro e w' ⟨rfl, rfl⟩
    rw [hdn, if_pos rfl]
    dsimp only
    go_wp2_with fail
    go_ret
    exact ⟨rfl, .same H.out.2.2.2⟩
  | false =>
    have Hb := H.out.1
    rw [hdn] at Hb
    by_cases hin : 0 ≤ x ∧ x < (D.kept.length : Int)
    · by_cases h64 : l.length ≤ 64
      · have hwr : D.write x l = ((tick D.de D.fu false).1, { D with de := (tick D.de D.fu false).2.1, fu := (tick D.de D.fu false).2.2.1, dn := (tick D.de D.fu false).2.2.2, pend := if (tick D.de D.fu false).1 = 0 then D.pend ++ [(x, pad l)] else D.pend }) := by
          simp [Dv.write, hdn, hin, h64]
        rcases tick_cases D.de D.fu with ⟨hf, ht⟩ | ⟨fu', ht, hf⟩
        · rw [hwr, ht]
          have ok' := hok.ticked ht D.pend hok.p64 true
          have hd : decide (0 ≤ x ∧ x < (D.kept.length : Int)) = true := decide_eq_true hin
          have h65 : ¬ (64 : Int) < (l.length : Int) := by omega
          have HT := hide (And.intro ht (And.intro hok.de hok.fu))
          have HX := hide ok'
          clear hs hsb ok' hok hwr ht
          go_enter Try.func27, Try.ntmps27
          go_wp2_with fail
          refine (able_any _ Hb).mono ?_
          rintro e w' ⟨rfl, rfl⟩
          rw [if_neg (by simp)]
          dsimp only
          go_wp2_with fail
          refine (has_any _ HO.out.n2 x hx Hb).mono ?_
          rintro e w' ⟨rfl, rfl⟩
          rw [hd]
          dsimp only
          go_wp2_with fail
          refine (next_any _ _ ⟨HT.out.2.1, hde⟩ HT.out.2.2 Hb).mono ?_
          rintro e w1 ⟨rfl, hb1, hg1⟩
          rw [HT.out.1] at hb1 ⊢
          dsimp only
          have H1 := hide (And.intro hb1 hg1)
          clear hb1 hg1
          go_wp2_with fail
          go_ret
          exact ⟨rfl, left_own Hb H.out.2.1 H.out.2.2.1 H1.out.1 H1.out.2 rfl (by simp) HX.out⟩
        · rw [hwr, ht]
          refine (write_ok 0 (pendCells D.pend) vp x l A cap w (Nat.zero_le _) hok.n2 hm ⟨hok.de, hde⟩ hok.fu ht hin h64 Hb H.out.2.2.1 hs (fun ad ha h0 e => hsb ad ha h0 (.inl e))).mono ?_
          rintro e w' ⟨rfl, v', b', o', ht', hv'⟩
          have hpk : vp.ownBlock ≠ some rk := fun e => owned_ne2 H.out.2.2.1 H.out.2.1 (by decide) e rfl rfl
          have hgk : rk ≠ g := fun e => owned_neN H.out.2.1 Hb (by decide) (by rw [← e]; rfl)
          have ok' := hok.ticked ht (D.pend ++ [(x, pad l)]) (fun q hq => by
            rcases List.mem_append.1 hq with hq | hq
            · exact hok.p64 q hq
            · rw [List.mem_singleton.1 hq]
              exact ⟨pad_len l h64, hin⟩) false
          refine ⟨rfl, Foot g rk v', ⟨rk, c, v', rfl, b', owned_keepN H.out.2.1 fun k hv hlt => ht'.block k hlt ?_, ?_, ok'⟩, ht'.mono fun k _ h => ?_, ?_⟩
          · have hv : some rk = some k := hv
            injection hv with hv
            subst hv
            rintro (e | e)
            · exact hgk e
            · exact hpk e
          · show w'.ownsRow 0 111 65 v' (D.pend ++ [(x, pad l)]).length (pendCells (D.pend ++ [(x, pad l)]))
            rw [pend_add _ _ _ h64, List.length_append]
            exact o'
          · rcases h with h | h
            · exact .inl h
            · exact .inr (.inr h)
          · rintro k (h | h | h)
            · exact .inl (.inl h)
            · exact .inl (.inr (.inl h))
            · rcases hv' k h with h | h
              · exact .inl (.inr (.inr h))
              · exact .inr h
      · rw [show D.write x l = (2, D) by simp [Dv.write, hdn, h64]]
        have hd : decide (0 ≤ x ∧ x < (D.kept.length : Int)) = true := decide_eq_true hin
        have h65 : (64 : Int) < (l.length : Int) := by omega
        clear hs hsb
        go_enter Try.func27, Try.ntmps27
        go_wp2_with fail
        refine (able_any _ Hb).mono ?_
        rintro e w' ⟨rfl, rfl⟩
        rw [if_neg (by simp)]
        dsimp only
        go_wp2_with fail
        refine (has_any _ hok.n2 x hx Hb).mono ?_
        rintro e w' ⟨rfl, rfl⟩
        rw [hd]
        dsimp only
        go_wp2_with fail
        go_ret
        exact ⟨rfl, .same H.out.2.2.2⟩
    · rw [show D.write x l = (2, D) by simp [Dv.write, hdn, hin]]
      have hd : decide (0 ≤ x ∧ x < (D.kept.length : Int)) = false := decide_eq_false hin
      clear hs hsb
      go_enter Try.func27, Try.ntmps27
      go_wp2_with fail
      refine (able_any _ Hb).mono ?_
      rintro e w' ⟨rfl, rfl⟩
      rw [if_neg (by simp)]
      dsimp only
      go_wp2_with fail
      refine (has_any _ hok.n2 x hx Hb).mono ?_
      rintro e w' ⟨rfl, rfl⟩
      rw [hd]
      dsimp only
      go_wp2_with fail
      go_ret
      exact ⟨rfl, .same H.out.2.2.2⟩
end Go.Proofs.Ytajeohmmobgcjaa
end
section
namespace Go.Proofs.Ytajeohmmobgcjaa
open Go Go.RowKit
theorem flat_len {α : Type} {s : Nat} : ∀ (l : List (List α)), (∀ b ∈ l, b.length = s) → l.flatten.length = l.length * s
  | [], _ => by simp
  | b :: l, h => by
    have h1 := h b (by simp)
    have h2 := flat_len l (fun c hc => h c (by simp [hc]))
    simp [h1, h2, Nat.add_mul, Nat.add_comm]
theorem flat_at {α : Type} {s : Nat} : ∀ (l : List (List α)) (k : Nat) (b : List α), (∀ b ∈ l, b.length = s) → l[k]? = some b → (l.flatten.drop (k * s)).take s = b
  | [], _, _, _, h => by simp at h
  | b :: l, 0, c, hs, h => by
    have h1 := hs b (by simp)
    simp at h
    subst h
    simp [← h1]
  | b :: l, k + 1, c, hs, h => by
    have h1 := hs b (by simp)
    rw [List.flatten_cons, List.drop_append, show (k + 1) * s - b.length = k * s by rw [h1, Nat.add_mul]; omega, List.drop_eq_nil_of_le (by rw [h1, Nat.add_mul]; omega), List.nil_append]
    exact flat_at l k c (fun d hd => hs d (by simp [hd])) (by simpa using h)
theorem flat_set {α : Type} {s : Nat} (c : List α) (hc : c.length = s) : ∀ (l : List (List α)) (k : Nat), (∀ b ∈ l, b.length = s) → k < l.length → (l.set k c).flatten = l.flatten.take (k * s) ++ (c ++ l.flatten.drop (k * s + c.length))
  | [], _, _, h => by simp at h
  | b :: l, 0, hs, h => by
    have h1 := hs b (by simp)
    simp [hc, ← h1]
  | b :: l, k + 1, hs, h => by
    have h1 := hs b (by simp)
    have e : (k + 1) * s = b.length + k * s := by rw [h1, Nat.add_mul]; omega
    have t1 : ∀ m : Nat, (b ++ l.flatten).take (b.length + m) = b ++ l.flatten.take m := fun m => by rw [List.take_append, List.take_of_length_le (by omega), Nat.add_sub_cancel_left]
    have t2 : ∀ m : Nat, (b ++ l.flatten).drop (b.length + m) = l.flatten.drop m := fun m => by rw [List.drop_append, List.drop_eq_nil_of_le (by omega), Nat.add_sub_cancel_left, List.nil_append]
    rw [List.set_cons_succ, List.flatten_cons, List.flatten_cons, flat_set c hc l k (fun d hd => hs d (by simp [hd])) (by simpa using h), e, Nat.add_assoc, t1, t2, List.append_assoc]
theorem Blk.setCells {g : Nat} {t : TypeId} : ∀ (vs : List Value) (o : Nat) (w : World) (cs : Array Value), Blk w g t cs → o + vs.length ≤ cs.size → Blk (w.setCells g o vs) g t (cs.toList.take o ++ (vs ++ cs.toList.drop (o + vs.length))).toArray
  | [], o, w, cs, h, _ => by simpa [World.setCells] using h
  | v :: vs, o, w, cs, h, hl => by
    simp only [List.length_cons] at hl
    have h2 := Blk.setCells vs (o + 1) _ _ (h.set_ o v) (by simp; omega)
    rw [World.setCells]
    have e : (cs.setIfInBounds o v).toList.take (o + 1) ++ (vs ++ (cs.setIfInBounds o v).toList.drop (o + 1 + vs.length)) = cs.toList.take o ++ (v :: vs ++ cs.toList.drop (o + (v :: vs).length)) := by
      have ho : o < cs.toList.length := by simp; omega
      rw [Array.toList_setIfInBounds, List.drop_set_of_lt (by omega), List.take_set, List.take_succ_eq_append_getElem ho, List.set_append_right _ _ (by simp; omega)]
      have e2 : o - (List.take o cs.toList).length = 0 := by simp; omega
      rw [e2]
      simp [Nat.add_comm, Nat.add_left_comm]
    rwa [e] at h2
theorem grown_setCells {g : Nat} {a : World} : ∀ (vs : List Value) (o : Nat) (w : World), a.grownBy w (some g) → a.grownBy (w.setCells g o vs) (some g)
  | [], _, _, h => h
  | v :: vs, o, w, h => by
    rw [World.setCells]
    exact grown_setCells vs (o + 1) _ (only_setCell h (.inl rfl) v)
section
variable {w : World} {base g n cap s : Nat} {e : TypeId} {xs : List Value}
theorem own_setCells (h : w.ownsRow base e s (.slice (some ⟨g, 0, none⟩) n cap) n xs) (o : Nat) (vs : List Value) (hf : o + vs.length ≤ n * s) : (w.setCells g o vs).ownsRow base e s (.slice (some ⟨g, 0, none⟩) n cap) n (xs.take o ++ (vs ++ xs.drop (o + vs.length))) := by
  have hl := h.1
  rcases owned_formN h with ⟨h, _⟩ | ⟨g', cap', cur, h', hb, hn, hc, hh, hs, ht, _⟩
  · cases h
  · injection h' with e1 e2 e3
    injection e1 with e1
    injection e1 with e1
    subst e1 e3
    have hns : n * s ≤ cap * s := Nat.mul_le_mul_right _ hn
    refine ⟨by simp; omega, .inr ⟨g, cap, _, rfl, hb, Blk.setCells vs o w cur hh (by omega), hn, hc, by simp; omega, ?_⟩⟩
    have e : cur.toList = xs ++ cur.toList.drop (n * s) := by rw [← ht, List.take_append_drop]
    show (cur.toList.take o ++ (vs ++ cur.toList.drop (o + vs.length))).take (n * s) = _
    have e1 : cur.toList.take o = xs.take o := by rw [← ht, List.take_take]; congr 1; omega
    have e2 : cur.toList.drop (o + vs.length) = xs.drop (o + vs.length) ++ cur.toList.drop (n * s) := by
      rw [e, List.drop_append, show o + vs.length - xs.length = 0 by omega, List.drop_zero, ← e]
    rw [e1, e2, ← List.append_assoc, ← List.append_assoc]
    rw [List.take_append_of_le_length (by simp; omega), List.take_of_length_le (by simp; omega), List.append_assoc]
theorem own_range (h : w.ownsRow base e s (.slice (some ⟨g, 0, none⟩) n cap) n xs) (o m : Nat) (cs : List Value) (hcs : (xs.drop o).take m = cs) : w.rangeAt g o cs := by
  rcases owned_formN h with ⟨h, _⟩ | ⟨g', cap', cur, h', hb, hn, hc, hh, hs, ht, _⟩
  · cases h
  · injection h' with e1 e2 e3
    injection e1 with e1
    injection e1 with e1
    subst e1 e3
    intro j v hv
    rw [hh.cell, ← Array.getElem?_toList]
    rw [← hcs, List.getElem?_take, List.getElem?_drop, ← ht, List.getElem?_take] at hv
    split at hv
    · split at hv
      · exact hv
      · cases hv
    · cases hv
theorem own_there (h : w.ownsRow base e s (.slice (some ⟨g, 0, none⟩) n cap) n xs) (o m : Nat) (hf : o + m ≤ n * s) : w.there g o m := by
  rcases owned_formN h with ⟨h, _⟩ | ⟨g', cap', cur, h', hb, hn, hc, hh, hs, ht, _⟩
  · cases h
  · injection h' with e1 e2 e3
    injection e1 with e1
    injection e1 with e1
    subst e1 e3
    intro j hj
    have hns : n * s ≤ cap * s := Nat.mul_le_mul_right _ hn
    have hlt : o + j < cur.size := by omega
    exact ⟨by rw [hh.cell, Array.getElem?_eq_getElem hlt]; rfl, hh.frozen _⟩
end
section
variable {P : Program} {ρ : Operand → Value} {o : Oper}
theorem exec_index (ty e : TypeId) (x i : Operand) (ho : o.op = .indexAddr ty x i) (g n cap : Nat) (k : Int) (kk : IntKind) (hx : ρ x = .slice (some ⟨g, 0, none⟩) n cap) (hi : ρ i = .int kk k) (hk : 0 ≤ k ∧ k < (n : Int)) (s : Nat) (hu : P.underlying ty = some (.slice e)) (hs : (P.info? e).map (·.size) = some s) (w : World) :
    (execOp ρ o).run P w = .ok (.value (.pointer (some ⟨g, k.toNat * s, none⟩))) w := by
  have e2 : P.elem ty = e := by simp [Program.elem, hu]
  unfold execOp
  simp only [ho, hx, hi, Sem.run_bind, Sem.run_pure, run_indexAt_slice w ty _ _ _ kk k (by rw [e2]; exact hu), e2, if_pos hk]
  cases hq : P.info? e with
  | none => simp [hq] at hs
  | some i =>
    have h1 : i.size = s := by simpa [hq] using hs
    have e0 : (⟨g, 0, none⟩ : Addr).add (k.toNat * s) = ⟨g, k.toNat * s, none⟩ := by rw [Addr.add_mid, Nat.zero_add]
    simp [sizeOf, typeInfo, hq, h1, e0]
theorem exec_load_mid (ty : TypeId) (x : Operand) (ho : o.op = .load ty x) (b off : Nat) (hx : ρ x = .pointer (some ⟨b, off, none⟩)) (cs : List Value) (d : TypeDesc) (w : World) (hc : w.rangeAt b off cs)
    (hu : P.underlying ty = some d) (hd : d.isRow = true) (hi : (P.info? ty).map (·.size) = some cs.length) : (execOp ρ o).run P w = .ok (.value (.agg cs.toArray)) w := by
  unfold execOp
  simp only [ho, hx, Instr.loadAt, Instr.sureAddr, Sem.run_bind, Sem.run_pure, Result.andThen_ok, run_loadVar_mid w b off ty cs d hc hu hd hi]
/-- one cell is loaded -/
theorem exec_load_cell (ty : TypeId) (x : Operand) (ho : o.op = .load ty x) (p : Addr) (hx : ρ x = .pointer (some p)) (u : Value) (d : TypeDesc) (w : World) (hu : P.underlying ty = some d) (hd : d.isRow = false) (hc : w.cell? p = some u) : (execOp ρ o).run P w = .ok (.value u) w := by
  have hagg : (isAgg ty).run P w = .ok false w := by
    unfold isAgg
    rw [Sem.run_bind, run_underlying hu w]
    cases d <;> simp_all
  unfold execOp
  simp [ho, hx, Instr.loadAt, Instr.sureAddr, loadVar, hagg, hc]
end
end Go.Proofs.Ytajeohmmobgcjaa
end
section
namespace Go.Proofs.Ytajeohmmobgcjaa
open Go Go.RowKit
theorem kept_len (K : List (List UInt8)) (h : ∀ b ∈ K, b.length = 64) : (keptCells K).length = K.length * 64 := by
  unfold keptCells
  rw [flat_len (s := 64) _ (by
    intro b hb
    obtain ⟨l, hl, rfl⟩ := List.mem_map.1 hb
    rw [bvL]
    exact h l hl), List.length_map]
theorem kept_set (K : List (List UInt8)) (k : Nat) (c : List UInt8) (h : ∀ b ∈ K, b.length = 64) (hc : c.length = 64) (hk : k < K.length) : keptCells (K.set k c) = (keptCells K).take (k * 64) ++ (bv c ++ (keptCells K).drop (k * 64 + (bv c).length)) := by
  unfold keptCells
  rw [List.map_set, flat_set (s := 64) (bv c) (by rw [bvL]; exact hc) _ k (by
    intro b hb
    obtain ⟨l, hl, rfl⟩ := List.mem_map.1 hb
    rw [bvL]
    exact h l hl) (by simpa using hk)]
theorem kept_at (K : List (List UInt8)) (k : Nat) (c : List UInt8) (h : ∀ b ∈ K, b.length = 64) (hk : K[k]? = some c) : ((keptCells K).drop (k * 64)).take 64 = bv c :=
  flat_at (s := 64) _ k (bv c) (by
    intro b hb
    obtain ⟨l, hl, rfl⟩ := List.mem_map.1 hb
    rw [bvL]
    exact h l hl) (by simp [hk])
theorem pend_at (L : List (Int × List UInt8)) (k : Nat) (p : Int × List UInt8) (h : ∀ q ∈ L, q.2.length = 64) (hk : L[k]? = some p) : ((pendCells L).drop (k * 65)).take 65 = sh p.1 p.2 :=
  flat_at (s := 65) _ k (sh p.1 p.2) (by
    intro b hb
    obtain ⟨l, hl, rfl⟩ := List.mem_map.1 hb
    exact sh_len _ _ (by rw [h l hl]; exact Nat.le_refl _)) (by simp [hk])
/-- what settles -/
def settleL (f : Nat → Bool) : Nat → List (Int × List UInt8) → List (List UInt8) → List (List UInt8)
  | _, [], K => K
  | k, p :: r, K => settleL f (k + 1) r (if f k then K.set p.1.toNat p.2 else K)
theorem settle_add (f : Nat → Bool) (p : Int × List UInt8) : ∀ (l : List (Int × List UInt8)) (k : Nat) (K : List (List UInt8)), settleL f k (l ++ [p]) K = if f (k + l.length) then (settleL f k l K).set p.1.toNat p.2 else settleL f k l K
  | [], k, K => by simp [settleL]
  | q :: l, k, K => by
    rw [List.cons_append, settleL, settle_add f p l, settleL, List.length_cons, Nat.add_assoc, Nat.add_comm 1]
theorem settle_take (f : Nat → Bool) (l : List (Int × List UInt8)) (K : List (List UInt8)) (j : Nat) (p : Int × List UInt8) (h : l[j]? = some p) : settleL f 0 (l.take (j + 1)) K = if f j then (settleL f 0 (l.take j) K).set p.1.toNat p.2 else settleL f 0 (l.take j) K := by
  have hj : j < l.length := (List.getElem?_eq_some_iff.1 h).1
  have e : l.take (j + 1) = l.take j ++ [p] := by
    rw [List.take_add_one, h]; rfl
  rw [e, settle_add, Nat.zero_add, List.length_take, Nat.min_eq_left (Nat.le_of_lt hj)]
theorem settle_len (f : Nat → Bool) : ∀ (l : List (Int × List UInt8)) (k : Nat) (K : List (List UInt8)), (settleL f k l K).length = K.length
  | [], _, _ => rfl
  | p :: l, k, K => by
    rw [settleL, settle_len f l]
    split
    · simp
    · rfl
theorem settle_all {m : Nat} (f : Nat → Bool) : ∀ (l : List (Int × List UInt8)) (k : Nat) (K : List (List UInt8)), (∀ p ∈ l, p.2.length = m) → (∀ b ∈ K, b.length = m) → ∀ b ∈ settleL f k l K, b.length = m
  | [], _, _, _, h => h
  | p :: l, k, K, hl, h => by
    rw [settleL]
    refine settle_all f l _ _ (fun q hq => hl q (by simp [hq])) ?_
    split
    · intro b hb
      rcases List.mem_or_eq_of_mem_set hb with hb | rfl
      · exact h b hb
      · exact hl p (by simp)
    · exact h
end Go.Proofs.Ytajeohmmobgcjaa
end
