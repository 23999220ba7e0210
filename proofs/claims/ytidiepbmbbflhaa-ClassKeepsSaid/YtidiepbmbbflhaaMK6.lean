/- class.add. slices.Clone of items; what class.Drop's closure says. slices.IndexFunc and slices.DeleteFunc of items of one's own, by class.Drop's closure. class.Drop. An append in a drawn region, wherever it stands: the row that it turns is one of one's own (law Two.wp_made). A struct built of parts of many cells: the parts take the places of the zero ones. spencelaw19.named. -/
import Derived.Test.YtidiepbmbbflhaaMK5
import Derived.Test.YtidiepbmbbflhaaAt
import Derived.Test.YtidiepbmbbflhaaSepMap
import Derived.Test.YtidiepbmbbflhaaSepRow
import Derived.Test.YtidiepbmbbflhaaMK4
import Derived.Test.YtidiepbmbbflhaaMK2
import Derived.Test.YtidiepbmbbflhaaSep2
import Derived.Test.YtidiepbmbbflhaaBuild
section
namespace Go.Proofs.Ytidiepbmbbflhaa
open Go Go.RowKit Go.Maps
set_option maxRecDepth 100000
theorem DrvAt.okn9 {w : World} {B : Nat} {d : Drv} {v1 v2 : Value} (h : DrvAt w B d v1 v2) : ∀ x ∈ d.2.1, okN x := fun x hx => by
  obtain ⟨cs, hat⟩ := slice_allD h.ins hx
  exact (namLay_at.1 hat).2
theorem findD_no {l : List Itm} {c : Hsh} (h : findI l c = none) : findD l c = (⟨#[]⟩, [], []) := by
  unfold findD
  unfold findI at h
  rw [h]
  rfl
theorem exec_assign {P : Program} {ρ : Operand → Value} {o : Oper} (x : Operand) (ho : o.op = .assign x) {u : Value} (hx : ρ x = u) (w : World) : (execOp ρ o).run P w = .ok (.value u) w := by
  unfold execOp
  simp only [ho, hx, Sem.run_pure]
theorem OwnDrv.two {w w' : World} {B : Nat} {d : Drv} {u1 u2 : Value} {r : Option Nat} (h : OwnDrv w B d u1 u2) (hg : w.grownBy w' r) (hr : ∀ b, r = some b → b < B) : OwnDrv w' B d u1 u2 :=
  drvE_ok B d u1 u2 w w' h fun b hf hl => hg.block b hl fun e => by
    have h1 := (drvE_lt h hf).1
    have h2 := hr b e.symm
    omega
theorem drvU_two {w w' : World} {B : Nat} {d : Drv} {u : Value} {r : Option Nat} (h : DrvU B d u w) (hg : w.grownBy w' r) (hr : ∀ b, r = some b → b < B) : DrvU B d u w' := by
  obtain ⟨p, h1, h2⟩ := h
  exact ⟨p, h1, h2.two hg hr⟩
theorem itmU_two {w w' : World} {B : Nat} {x : Itm} {u : Value} {r : Option Nat} (h : ItmU B x u w) (hg : w.grownBy w' r) (hr : ∀ b, r = some b → b < B) : ItmU B x u w' := by
  obtain ⟨p, h1, h2⟩ := h
  exact ⟨p, h1, h2.two hg hr⟩
theorem rowU_two {w w' : World} {B : Nat} {x : Itm} {u : Value} {r : Option Nat} (h : RowU B x u w) (hg : w.grownBy w' r) (hr : ∀ b, r = some b → b < B) : RowU B x u w' := by
  obtain ⟨g, p, h1, h0, h2, h3⟩ := h
  exact ⟨g, p, h1, h0, (hg.block g h2.lt fun e => by have := hr g e.symm; omega).trans h2, h3.two hg hr⟩
theorem twoX {P : Prop} {run : Value → World → Prop} {V : Value → World → Prop} {W : World} {t : Tmp} {r : Option Nat} {K : World → Prop} [Two.KeptOk K] {d : Option Tmp} (h : ∃ u w', run u w' ∧ Fre.Ext Bel W w' ∧ V u w') (_ : P) : ∃ u w', run u w' ∧ Two.GY (Two.G1 t r) K d W w' ∧ V u w' := by
  obtain ⟨u, w', h1, h2, h3⟩ := h
  exact ⟨u, w', h1, Two.GY.of_below h2, h3⟩
abbrev RowT (B : Nat) (u : Value) (ls : List ItmV) : World → Prop := Two.RowK B 43 23 u ls.length (ls.flatMap tV)
/-- the row, an item longer -/
def GrownU (B base : Nat) (u0 : Value) (ls : List ItmV) (x : Itm) (u : Value) (w : World) : Prop := ∃ p : Value × Value, OwnDrv w B x.2 p.1 p.2 ∧ w.ownsRow base 43 23 u (ls ++ [(x, p)]).length ((ls ++ [(x, p)]).flatMap tV) ∧ ∀ b, u.ownBlock = some b → u0.ownBlock = some b ∨ B ≤ b
theorem grownU_keep {B base : Nat} {u0 : Value} {ls : List ItmV} {x : Itm} {u : Value} {w w' : World} (h : GrownU B base u0 ls x u w) (hb : Below w.heap.size w w') : GrownU B base u0 ls x u w' := by
  obtain ⟨p, h1, h2, h3⟩ := h
  exact ⟨p, h1.belo hb, owned_keepN h2 fun _ _ hl => hb.block _ hl, h3⟩
theorem grownU_new {ρ : Operand → Value} {o : Oper} (x y : Operand) (ho : o.op = .call { callee := .builtin .append, args := #[x, y], argTypes := #[25, 25] }) (hty : o.type = 25) {w0 w W : World} {L : List Ent} {t : Tmp} {base : Nat} {u0 u : Value} {ls : List ItmV} {z : Itm} (hm : Mem w0 w L) (i : Nat) (hi : L[i]? = some (ownE base 43 23 u0 ls.length (ls.flatMap tV))) (hbs : base ≤ w.heap.size)
    (hW : Two.GX (Two.G1 t u0.ownBlock) (RowT base u0 ls) w W) (hz : okH z.1) (hl : ls.length ≤ 1000000) (hx : ρ x = u0) (hy : ρ y = u) (hu : RowU w.heap.size z u W) :
    ∃ u' w', (execOp ρ o).run Try.prog W = .ok (.value u') w' ∧ Two.GY (Two.G1 t u0.ownBlock) (RowT base u0 ls) (some t) W w' ∧ GrownU w.heap.size base u0 ls z u' w' := by
  obtain ⟨r, p, rfl, hBr, hk, hd⟩ := hu
  have hown : W.ownsRow base 43 23 u0 ls.length (ls.flatMap tV) := hW.keep (hm.own i hi)
  have hsr := box_srcN (n := 23) (m := 1) hk (tC_len hz) (tC_one z (OwnDrv.ones hd).1 (OwnDrv.ones hd).2)
  obtain ⟨inm, hih, hq0, hq1, hq2⟩ := info_parts info_itm2
  obtain ⟨v', w', k1, k2, k3, k4⟩ := run_appG (P := Try.prog) base 25 25 43 inm _ 23 88 Try.underlying25 hih hq0 hq1 hq2 rfl (by decide) u0 ls.length _ hown ⟨r, 0, none⟩ 1 1 _ hsr.len (hsr.cells _ rfl) hsr.one (by decide) (by simp only [maxLen]; omega) (by omega) (Nat.le_trans hbs hW.size)
  refine ⟨v', w', ?_, Two.GY.of_grown k3 fun _ => ?_, p, hd.two k3 fun b hb => (owned_ltN (hm.own i hi) hb).2, by simpa [tV] using k2, fun b hb => ?_⟩
  · unfold execOp
    simp only [ho, hty, resolve, invoke, builtin, Sem.run_bind, Sem.run_pure, Result.andThen_ok, List.map_toArray, List.map_cons, List.map_nil, hx, hy, k1]
  · rcases k4 with ⟨g, cap, e1, e2⟩ | ⟨_, hb⟩
    · rw [e2] at k2
      have h9 := own_cutN k2 (Nat.le_add_right ls.length 1)
      rw [List.take_append_of_le_length (by rw [hown.1]; exact Nat.le_refl _), List.take_of_length_le (by rw [hown.1]; exact Nat.le_refl _)] at h9
      rw [e1]
      exact h9
    · exact owned_keepN hown fun _ _ hl => hb.block _ hl
  · rcases k4 with ⟨g, cap, e1, e2⟩ | ⟨e1, _⟩
    · rw [e2] at hb
      rw [e1]
      exact .inl hb
    · rw [e1] at hb
      have := Option.some.inj hb
      have := hW.size
      exact .inr (by omega)
theorem grown_mem {w0 w w1 : World} {L : List Ent} {t : Tmp} {base : Nat} {u0 u : Value} {ls : List ItmV} {z : Itm} {p : Value × Value} (hm : Mem w0 w L) (i : Nat) (hi : L[i]? = some (ownE base 43 23 u0 ls.length (ls.flatMap tV))) (hbs : base ≤ w.heap.size) (hx : Two.GX (Two.G1 t u0.ownBlock) (RowT base u0 ls) w w1)
    (ho : OwnDrv w1 w.heap.size z.2 p.1 p.2) (hr : w1.ownsRow base 43 23 u (ls ++ [(z, p)]).length ((ls ++ [(z, p)]).flatMap tV)) (hf : ∀ b, u.ownBlock = some b → u0.ownBlock = some b ∨ w.heap.size ≤ b) :
    Mem w0 w1 (drvE base z.2 p.1 p.2 :: L.set i (ownE base 43 23 u (ls ++ [(z, p)]).length ((ls ++ [(z, p)]).flatMap tV))) := by
  have h1 := hm.upd i hi hx.grown (fun _ h => h) (ownE_ok _ _ _ _ _ _) hr fun b hb => (hf b hb).imp id fun h => ⟨h, (owned_ltN hr hb).2⟩
  refine h1.cons (drvE_ok _ _ _ _) (ho.lower hbs) fun b hb => ?_
  have hlt := drvE_lt ho hb
  refine ⟨Nat.le_trans hm.below.size hlt.1, hlt.2, fun y hy hyF => ?_⟩
  rcases List.mem_or_eq_of_mem_set hy with hy | rfl
  · have := (hm.lo y hy b hyF).2
    omega
  · have hyF : u.ownBlock = some b := hyF
    rcases hb with hb | hb
    · rcases owned_formN ho.own1 with ⟨e, _⟩ | ⟨g, cap, cur, e, _, _, _, hk, _⟩
      · rw [e] at hb; cases hb
      · rw [e] at hb
        have e2 : g = b := Option.some.inj hb
        subst e2
        exact owned_neN hr hk (by decide) hyF
    · rcases owned_formN ho.own2 with ⟨e, _⟩ | ⟨g, cap, cur, e, _, _, _, hk, _⟩
      · rw [e] at hb; cases hb
      · rw [e] at hb
        have e2 : g = b := Option.some.inj hb
        subst e2
        exact owned_neN hr hk (by decide) hyF
set_option maxHeartbeats 4000000 in
theorem addW_any (w : World) (l : List Itm) (A : Option Addr) (cap : Nat) (h : itmsLay.At w w.heap.size [.slice A l.length cap] l) (hl : ∀ x ∈ l, x.2.2.1.length ≤ 1000000 ∧ x.2.2.2.length ≤ 1000000) (hn : l.length ≤ 1000000)
    (d : Drv) (v1 v2 : Value) (hd : DrvAt w w.heap.size d v1 v2) (hdl : d.2.1.length ≤ 1000000 ∧ d.2.2.length ≤ 1000000) (c : Hsh) (hc : hofP d = c) (r : List Itm × Hsh × Int) (hr : addP hofP l d = r) :
    Calls Try.prog 20 #[.slice A l.length cap, .agg (dC d v1 v2).toArray] w fun e w' => AddQ w r e w' := by
  have hcc : okH c := hc ▸ hofP_ok d
  obtain ⟨ho1, ho2⟩ := hd.ones
  have HAT := hide h
  have HL := hide hl
  have HD := hide hd
  have HC := hide hc
  have HR := hide hr
  clear h hl hd hc hr
  cases htb : tabP hofP l
  · have HTB := hide htb
    clear htb
    have H0 := hide (Mem.start w)
    go_enter Try.func20, Try.ntmps20
    go_wp2_with (first | ((with_reducible refine at_slot 3 ?_); (refine wpList_boxA (o := ⟨some 3, _, _, _, _, _⟩) rfl 34 (.tmp 1) rfl (dC d v1 v2).toArray rfl ?_); intro w1 hn; have H1 := hide (Mem.new1 H0.out hn); clear hn; simp only [Act.put, List.setIfInBounds_toArray, List.set_cons_zero, List.set_cons_succ]) | ((with_reducible refine at_slot 5 ?_); (refine wpList_newZ (o := ⟨some 5, _, _, _, _, _⟩) rfl 27 zcH (by kernel_rfl) ?_); intro w2 hn; have H2 := hide (Mem.new1 H1.out hn); clear hn; simp only [Act.put, List.setIfInBounds_toArray, List.set_cons_zero, List.set_cons_succ]))
    refine (tableB w2 l A cap (Mem.lay H2.out HAT.out) (fun x hx => (HL.out x hx).1) false HTB.out).mono ?_
    rintro e w3 ⟨rfl, hb⟩
    dsimp only
    have H3 := hide (Mem.call H2.out hb)
    clear hb
    go_wp2_with fail
    refine (must_no 2 w3).mono ?_
    rintro e wz ⟨rfl, hwz⟩
    rw [hwz]
    clear hwz
    dsimp only
    change bodyPost Try.prog Try.f20 _ _ _ _
    simp only [bodyPost]
    exact ⟨trivial, AddQ.no (HR.out.symm.trans (addP_2 HTB.out)) (by decide) rfl (Mem.below H3.out)⟩
  · have HTB := hide htb
    clear htb
    by_cases hp : putE d = 0
    · have HP := hide hp
      clear hp
      have hts : (textP d).size ≤ 2000 := text_small HP.out
      have hcl : (clsP d.2.1).length ≤ 1000000 := Nat.le_trans (clsP_le d.2.1) hdl.1
      have H0 := hide (Mem.start w)
      go_enter Try.func20, Try.ntmps20
      go_wp2_with (first | ((with_reducible refine at_slot 3 ?_); (refine wpList_boxA (o := ⟨some 3, _, _, _, _, _⟩) rfl 34 (.tmp 1) rfl (dC d v1 v2).toArray rfl ?_); intro w7 hn; have H7 := hide (Mem.new1 H0.out hn); clear hn; simp only [Act.put, List.setIfInBounds_toArray, List.set_cons_zero, List.set_cons_succ]) | ((with_reducible refine at_slot 5 ?_); (refine wpList_newZ (o := ⟨some 5, _, _, _, _, _⟩) rfl 27 zcH (by kernel_rfl) ?_); intro w8 hn; have H8 := hide (Mem.new1 H7.out hn); clear hn; simp only [Act.put, List.setIfInBounds_toArray, List.set_cons_zero, List.set_cons_succ]))
      refine (tableB w8 l A cap (Mem.lay H8.out HAT.out) (fun x hx => (HL.out x hx).1) true HTB.out).mono ?_
      rintro e w9 ⟨rfl, hb⟩
      dsimp only
      have H9 := hide (Mem.call H8.out hb)
      clear hb
      go_wp2_with fail
      refine (must_ok 2 w9).mono ?_
      rintro e wz ⟨rfl, hwz⟩
      rw [hwz]
      clear hwz
      dsimp only
      go_wp2_with (((with_reducible refine at_slot 18 ?_); (refine wpList_value (o := ⟨some 18, _, _, _, _, _⟩) rfl (.agg (dC d v1 v2).toArray) w9 (exec_load_mid (o := ⟨some 18, _, _, _, _, _⟩) 34 (.tmp 3) rfl w.heap.size (0) rfl (dC d v1 v2) _ w9 (Blk.range (Mem.blk H9.out 1 rfl)) Try.underlying34 rfl (dC_szl d v1 v2)) ?_)))
      refine (written_ok w9 d v1 v2 (Mem.drv H9.out HD.out) HP.out).mono ?_
      rintro e w10 ⟨g, cp, rfl, k1, k2, k3, k4, hb⟩
      dsimp only
      have H10 := hide (Mem.seq H9.out (byt_made k1 k3 k4 hb))
      clear k1 k3 k4 hb
      go_wp2_with (((with_reducible refine at_slot 21 ?_); (refine wpList_row1 (o := ⟨some 21, _, _, _, _, _⟩) rfl 88 (.tmp 20) rfl 32 1 (.slice none 0 0) (.slice (some ⟨g, 0, none⟩) (textP d).size cp) rfl Try.underlying88 (by kernel_rfl) (by decide) (by decide) (fun w => by kernel_rfl) rfl ?_); intro w11 hn; have H11 := hide (Mem.new1 H10.out hn); clear hn; simp only [Act.put, List.setIfInBounds_toArray, List.set_cons_zero, List.set_cons_succ]))
      refine (ofW_any w11 _ g cp (textP d) (Mem.blk H11.out 0 rfl) (Mem.get (e := bytE g (textP d)) H11.out 1 rfl) k2 c HC.out hts).mono ?_
      rintro e w12 ⟨rfl, hb⟩
      dsimp only
      have H12 := hide (Mem.call H11.out hb)
      clear hb
      go_wp2_with (first | ((with_reducible refine at_slot 7 ?_); (refine wpList_newZ (o := ⟨some 7, _, _, _, _, _⟩) rfl 27 zcH (by kernel_rfl) ?_); intro w13 hn; have H13 := hide (Mem.new1 H12.out hn); clear hn; simp only [Act.put, List.setIfInBounds_toArray, List.set_cons_zero, List.set_cons_succ]) | ((with_reducible refine at_store 7 22 ?_); (with_reducible refine wpList_store_blkA (o := ⟨none, _, _, _, _, _⟩) rfl 27 (.tmp 7) (.tmp 22) rfl w12.heap.size zcH (bv c).toArray 27 (Mem.blk H13.out 0 rfl) ?_ ?_ ?_ ?_ ?_ ?_); (exact (hszD hcc)); (exact sz_eq zcH_sz (hszD hcc)); (exact (bv_1 c)); rfl; rfl; intro w14 hk hg; have H14 := hide (Mem.st H13.out 0 rfl hk hg); clear hk hg; simp only [Act.put, List.setIfInBounds_toArray, List.set_cons_zero, List.set_cons_succ]) | ((with_reducible refine at_slot 23 ?_); (refine wpList_value (o := ⟨some 23, _, _, _, _, _⟩) rfl (.agg (dC d v1 v2).toArray) w14 (exec_load_mid (o := ⟨some 23, _, _, _, _, _⟩) 34 (.tmp 3) rfl w.heap.size (0) rfl (dC d v1 v2) _ w14 (Blk.range (Mem.blk H14.out 4 rfl)) Try.underlying34 rfl (dC_szl d v1 v2)) ?_)))
      refine (classesM w14 d v1 v2 (Mem.drv H14.out HD.out) hdl.1).mono ?_
      rintro e w15 ⟨A2, c2, rfl, hm⟩
      dsimp only
      have H15 := hide (Mem.seq H14.out hm)
      clear hm
      go_wp2_with fail
      go_loopw [26] (fun x26 wr => ∃ j : Nat, j ≤ (clsP d.2.1).length ∧ x26 = .int .i64 (j : Int) ∧ (∀ c ∈ (clsP d.2.1).take j, (findI l c).isSome = true) ∧ Mem w wr [ownE w14.heap.size 27 20 (.slice A2 (clsP d.2.1).length c2) (clsP d.2.1).length ((clsP d.2.1).flatMap bv), blkE w12.heap.size 27 (bv c).toArray, bytE g (textP d), blkE w7.heap.size 27 zcH, blkE w.heap.size 34 (dC d v1 v2).toArray]) (fun x26 _ => (clsP d.2.1).length - (intOf x26).toNat)
      case atStart => exact ⟨0, by omega, rfl, (fun c hc => by simp at hc), Mem.pick H15.out [0, 1, 3, 4, 5] (by decide) rfl⟩
      case round =>
        obtain ⟨wo, rfl⟩ : ∃ wo, wo = wr := ⟨_, rfl⟩
        obtain ⟨j, hj, rfl, hall, hm⟩ := hrel
        have HM := hide hm
        have HALL := hide hall
        clear hm hall
        have j0 : (0 : Int) ≤ (j : Int) := by omega
        by_cases hj2 : j < (clsP d.2.1).length
        · have j1 : (j : Int) < ((clsP d.2.1).length : Int) := by omega
          obtain ⟨z, hz⟩ : ∃ z, (clsP d.2.1)[j]? = some z := ⟨_, List.getElem?_eq_getElem hj2⟩
          obtain ⟨gq, cq, eq9, hgq⟩ := own_is (Mem.own HM.out 0 rfl) (by omega)
          injection eq9 with e1 _ e3
          subst e1 e3
          have hzo : okH z := cls_ok HD.out.okn9 z (List.mem_of_getElem? hz)
          have HZ := hide hz
          have HGQ := hide hgq
          clear hz hgq
          cases hfi : (findI l z).isSome
          · have HFI := hide hfi
            clear hfi
            go_wp2_with (first | ((with_reducible refine at_slot 28 ?_); (refine wpList_value (o := ⟨some 28, _, _, _, _, _⟩) rfl (.pointer (some ⟨gq, j * 20, none⟩)) wo (exec_idx0 45 27 (.tmp 24) (.tmp 26) rfl gq (clsP d.2.1).length c2 j rfl rfl hj2 20 Try.underlying45 sz_hashD wo) ?_)) | ((with_reducible refine at_slot 29 ?_); (refine wpList_value (o := ⟨some 29, _, _, _, _, _⟩) rfl (.agg (bv z).toArray) wo (exec_load_mid (o := ⟨some 29, _, _, _, _, _⟩) 27 (.tmp 28) rfl gq (j * 20) rfl (bv z) _ wo (own_at (f := bv) (by decide) (Mem.own HM.out 0 rfl) (fun x hx => by rw [bvL]; exact cls_ok HD.out.okn9 x hx) HZ.out) Try.underlying27 rfl (hszL hzo)) ?_)) | ((with_reducible refine at_slot 9 ?_); (refine wpList_newZ (o := ⟨some 9, _, _, _, _, _⟩) rfl 27 zcH (by kernel_rfl) ?_); intro w16 hn; have H16 := hide (Mem.new1 HM.out hn); clear hn; simp only [Act.put, List.setIfInBounds_toArray, List.set_cons_zero, List.set_cons_succ]) | ((with_reducible refine at_store 9 29 ?_); (with_reducible refine wpList_store_blkA (o := ⟨none, _, _, _, _, _⟩) rfl 27 (.tmp 9) (.tmp 29) rfl wo.heap.size zcH (bv z).toArray 27 (Mem.blk H16.out 0 rfl) ?_ ?_ ?_ ?_ ?_ ?_); (exact (hszD hzo)); (exact sz_eq zcH_sz (hszD hzo)); (exact (bv_1 z)); rfl; rfl; intro w17 hk hg; have H17 := hide (Mem.st H16.out 0 rfl hk hg); clear hk hg; simp only [Act.put, List.setIfInBounds_toArray, List.set_cons_zero, List.set_cons_succ]) | ((with_reducible refine at_slot 32 ?_); (refine wpList_value (o := ⟨some 32, _, _, _, _, _⟩) rfl (.agg (bv z).toArray) w17 (exec_load_mid (o := ⟨some 32, _, _, _, _, _⟩) 27 (.tmp 9) rfl wo.heap.size (0) rfl (bv z) _ w17 (Blk.range (Mem.blk H17.out 0 rfl)) Try.underlying27 rfl (hszL hzo)) ?_)))
            refine (findM w17 l _ (Mem.lay H17.out HAT.out) z hzo HL.out (findD l z) rfl false HFI.out).mono ?_
            rintro e w18 ⟨p1, p2, rfl, hp1, hp2, hm⟩
            dsimp only
            have H18 := hide (Mem.seq H17.out hm)
            clear hm
            go_wp2_with (first | ((with_reducible refine at_slot 10 ?_); (refine wpList_newZ (o := ⟨some 10, _, _, _, _, _⟩) rfl 34 zcD (by kernel_rfl) ?_); intro w19 hn; have H19 := hide (Mem.new1 H18.out hn); clear hn; simp only [Act.put, List.setIfInBounds_toArray, List.set_cons_zero, List.set_cons_succ]) | ((with_reducible refine at_store 10 34 ?_); (with_reducible refine wpList_store_blkA (o := ⟨none, _, _, _, _, _⟩) rfl 34 (.tmp 10) (.tmp 34) rfl w18.heap.size zcD (dC (findD l z) p1 p2).toArray 34 (Mem.blk H19.out 0 rfl) ?_ ?_ ?_ ?_ ?_ ?_); (exact (dC_sz (findD l z) p1 p2)); (exact sz_eq zcD_sz (dC_sz (findD l z) p1 p2)); (exact (dC_1 (findD l z) hp1 hp2)); rfl; rfl; intro w20 hk hg; have H20 := hide (Mem.st H19.out 0 rfl hk hg); clear hk hg; simp only [Act.put, List.setIfInBounds_toArray, List.set_cons_zero, List.set_cons_succ]))
            refine (must_no 5 w20).mono ?_
            rintro e wz ⟨rfl, hwz⟩
            rw [hwz]
            clear hwz
            dsimp only
            simp +zetaDelta only [Exit.then, Exit.inBlock]
            change bodyPost Try.prog Try.f20 _ _ _ _
            simp only [bodyPost]
            exact ⟨trivial, AddQ.no (HR.out.symm.trans (addP_5 HTB.out HP.out (List.mem_of_getElem? HZ.out) HFI.out)) (by decide) rfl (Mem.below H20.out)⟩
          · have HFI := hide hfi
            clear hfi
            go_wp2_with (first | ((with_reducible refine at_slot 28 ?_); (refine wpList_value (o := ⟨some 28, _, _, _, _, _⟩) rfl (.pointer (some ⟨gq, j * 20, none⟩)) wo (exec_idx0 45 27 (.tmp 24) (.tmp 26) rfl gq (clsP d.2.1).length c2 j rfl rfl hj2 20 Try.underlying45 sz_hashD wo) ?_)) | ((with_reducible refine at_slot 29 ?_); (refine wpList_value (o := ⟨some 29, _, _, _, _, _⟩) rfl (.agg (bv z).toArray) wo (exec_load_mid (o := ⟨some 29, _, _, _, _, _⟩) 27 (.tmp 28) rfl gq (j * 20) rfl (bv z) _ wo (own_at (f := bv) (by decide) (Mem.own HM.out 0 rfl) (fun x hx => by rw [bvL]; exact cls_ok HD.out.okn9 x hx) HZ.out) Try.underlying27 rfl (hszL hzo)) ?_)) | ((with_reducible refine at_slot 9 ?_); (refine wpList_newZ (o := ⟨some 9, _, _, _, _, _⟩) rfl 27 zcH (by kernel_rfl) ?_); intro w21 hn; have H21 := hide (Mem.new1 HM.out hn); clear hn; simp only [Act.put, List.setIfInBounds_toArray, List.set_cons_zero, List.set_cons_succ]) | ((with_reducible refine at_store 9 29 ?_); (with_reducible refine wpList_store_blkA (o := ⟨none, _, _, _, _, _⟩) rfl 27 (.tmp 9) (.tmp 29) rfl wo.heap.size zcH (bv z).toArray 27 (Mem.blk H21.out 0 rfl) ?_ ?_ ?_ ?_ ?_ ?_); (exact (hszD hzo)); (exact sz_eq zcH_sz (hszD hzo)); (exact (bv_1 z)); rfl; rfl; intro w22 hk hg; have H22 := hide (Mem.st H21.out 0 rfl hk hg); clear hk hg; simp only [Act.put, List.setIfInBounds_toArray, List.set_cons_zero, List.set_cons_succ]) | ((with_reducible refine at_slot 32 ?_); (refine wpList_value (o := ⟨some 32, _, _, _, _, _⟩) rfl (.agg (bv z).toArray) w22 (exec_load_mid (o := ⟨some 32, _, _, _, _, _⟩) 27 (.tmp 9) rfl wo.heap.size (0) rfl (bv z) _ w22 (Blk.range (Mem.blk H22.out 0 rfl)) Try.underlying27 rfl (hszL hzo)) ?_)))
            refine (findM w22 l _ (Mem.lay H22.out HAT.out) z hzo HL.out (findD l z) rfl true HFI.out).mono ?_
            rintro e w23 ⟨p1, p2, rfl, hp1, hp2, hm⟩
            dsimp only
            have H23 := hide (Mem.seq H22.out hm)
            clear hm
            go_wp2_with (first | ((with_reducible refine at_slot 10 ?_); (refine wpList_newZ (o := ⟨some 10, _, _, _, _, _⟩) rfl 34 zcD (by kernel_rfl) ?_); intro w24 hn; have H24 := hide (Mem.new1 H23.out hn); clear hn; simp only [Act.put, List.setIfInBounds_toArray, List.set_cons_zero, List.set_cons_succ]) | ((with_reducible refine at_store 10 34 ?_); (with_reducible refine wpList_store_blkA (o := ⟨none, _, _, _, _, _⟩) rfl 34 (.tmp 10) (.tmp 34) rfl w23.heap.size zcD (dC (findD l z) p1 p2).toArray 34 (Mem.blk H24.out 0 rfl) ?_ ?_ ?_ ?_ ?_ ?_); (exact (dC_sz (findD l z) p1 p2)); (exact sz_eq zcD_sz (dC_sz (findD l z) p1 p2)); (exact (dC_1 (findD l z) hp1 hp2)); rfl; rfl; intro w25 hk hg; have H25 := hide (Mem.st H24.out 0 rfl hk hg); clear hk hg; simp only [Act.put, List.setIfInBounds_toArray, List.set_cons_zero, List.set_cons_succ]))
            refine (must_ok 5 w25).mono ?_
            rintro e wz ⟨rfl, hwz⟩
            rw [hwz]
            clear hwz
            dsimp only
            go_wp2_with fail
            go_roundw
            case rel => exact ⟨j + 1, by omega, by go_num, (fun c hc => by rw [List.take_add_one, HZ.out] at hc; rcases List.mem_append.1 hc with hc | hc; exact HALL.out c hc; rw [show c = z from by simpa using hc]; exact HFI.out), Mem.pick H25.out [3, 4, 5, 6, 7] (by decide) rfl⟩
            case measure => simp [intOf]; omega
        · obtain rfl : j = (clsP d.2.1).length := by omega
          have hall : ∀ c ∈ clsP d.2.1, (findI l c).isSome = true := fun c hc => HALL.out c (by rw [List.take_length]; exact hc)
          have HA9 := hide hall
          clear hall
          cases hfo : findI l c
          · have HFO := hide hfo
            clear hfo
            go_wp2_with fail
            refine (copied_any wo l A cap (Mem.lay HM.out HAT.out) HL.out hn).mono ?_
            rintro e w40 ⟨u40, ls, rfl, hls, hm⟩
            dsimp only
            have H40 := hide (Mem.seq HM.out (itms_lower hm (Mem.below HM.out).size))
            have HLS := hide hls
            clear hm hls
            go_wp2_with (((with_reducible refine at_slot 43 ?_); (refine wpList_value (o := ⟨some 43, _, _, _, _, _⟩) rfl (.agg (bv c).toArray) w40 (exec_load_mid (o := ⟨some 43, _, _, _, _, _⟩) 27 (.tmp 7) rfl w12.heap.size (0) rfl (bv c) _ w40 (Blk.range (Mem.blk H40.out 3 rfl)) Try.underlying27 rfl (hszL hcc)) ?_)))
            refine (findM w40 l _ (Mem.lay H40.out HAT.out) c hcc HL.out ((⟨#[]⟩, [], [])) (findD_no HFO.out) false (by rw [HFO.out]; rfl)).mono ?_
            rintro e w41 ⟨p1, p2, rfl, hp1, hp2, hm⟩
            dsimp only
            have H41 := hide (Mem.seq H40.out hm)
            clear hm
            go_wp2_with (first | ((with_reducible refine at_slot 13 ?_); (refine wpList_newZ (o := ⟨some 13, _, _, _, _, _⟩) rfl 34 zcD (by kernel_rfl) ?_); intro w42 hn; have H42 := hide (Mem.new1 H41.out hn); clear hn; simp only [Act.put, List.setIfInBounds_toArray, List.set_cons_zero, List.set_cons_succ]) | ((with_reducible refine at_store 13 45 ?_); (with_reducible refine wpList_store_blkA (o := ⟨none, _, _, _, _, _⟩) rfl 34 (.tmp 13) (.tmp 45) rfl w41.heap.size zcD (dC ((⟨#[]⟩, [], [])) p1 p2).toArray 34 (Mem.blk H42.out 0 rfl) ?_ ?_ ?_ ?_ ?_ ?_); (exact (dC_sz ((⟨#[]⟩, [], [])) p1 p2)); (exact sz_eq zcD_sz (dC_sz ((⟨#[]⟩, [], [])) p1 p2)); (exact (dC_1 ((⟨#[]⟩, [], [])) hp1 hp2)); rfl; rfl; intro w43 hk hg; have H43 := hide (Mem.st H42.out 0 rfl hk hg); clear hk hg; simp only [Act.put, List.setIfInBounds_toArray, List.set_cons_zero, List.set_cons_succ]))
            have hls9 : ls.length ≤ 1000000 := by have := congrArg List.length HLS.out; rw [List.length_map] at this; omega
            have hrow : ∀ b, u40.ownBlock = some b → b < w43.heap.size := fun b hb => (owned_ltN (Mem.own H43.out 2 rfl) hb).2
            have hbs9 : w.heap.size ≤ w43.heap.size := (Mem.below H43.out).size
            refine Two.wp_made (X := Two.GX (Two.G1 61 (u40).ownBlock) (RowT w.heap.size u40 ls)) (Y := Two.GY (Two.G1 61 (u40).ownBlock) (RowT w.heap.size u40 ls)) 9 [(4, 61)] (by kernel_rfl) [(58, DrvU w43.heap.size d), (59, ItmU w43.heap.size (c, d)), (60, RowU w43.heap.size (c, d)), (61, GrownU w43.heap.size w.heap.size u40 ls (c, d)), (4, GrownU w43.heap.size w.heap.size u40 ls (c, d))] (by kernel_rfl) (by kernel_rfl) (by intro p hp; simp only [List.mem_cons, List.not_mem_nil, or_false] at hp; rcases hp with rfl | rfl | rfl | rfl | rfl; exact Two.madeOk_new (fun u w w' h hg => drvU_two h hg hrow); exact Two.madeOk_new (fun u w w' h hg => itmU_two h hg hrow); exact Two.madeOk_new (fun u w w' h hg => rowU_two h hg hrow); exact Two.madeOk_turn (fun u w w' h hb => grownU_keep h hb); exact Two.madeOk_behind (by simp) (fun u w w' h hb => grownU_keep h hb)) (by simp) (by simp) ?_
            simp only [List.take_succ_cons, List.take_zero, List.drop_succ_cons, List.drop_zero]
            refine Two.made_val (u40) (by kernel_rfl) (by kernel_rfl) (by kernel_rfl) (fun _ _ => by kernel_rfl) ?_
            simp only [Act.put, List.setIfInBounds_toArray, List.set_cons_zero, List.set_cons_succ]
            refine Two.made_val (.agg (bv c).toArray) (by kernel_rfl) (by kernel_rfl) (by kernel_rfl) (fun W9 hW9 => (exec_load_mid (o := ⟨some 56, _, _, _, _, _⟩) 27 (.tmp 7) rfl w12.heap.size (0) rfl (bv c) _ W9 (Blk.range (Mem.blk (Mem.away H43.out 2 rfl (Two.GX.grown hW9)) 5 rfl)) Try.underlying27 rfl (hszL hcc))) ?_
            simp only [Act.put, List.setIfInBounds_toArray, List.set_cons_zero, List.set_cons_succ]
            refine Two.made_val (.agg (dC d v1 v2).toArray) (by kernel_rfl) (by kernel_rfl) (by kernel_rfl) (fun W9 hW9 => (exec_load_mid (o := ⟨some 57, _, _, _, _, _⟩) 34 (.tmp 3) rfl w.heap.size (0) rfl (dC d v1 v2) _ W9 (Blk.range (Mem.blk (Mem.away H43.out 2 rfl (Two.GX.grown hW9)) 8 rfl)) Try.underlying34 rfl (dC_szl d v1 v2))) ?_
            simp only [Act.put, List.setIfInBounds_toArray, List.set_cons_zero, List.set_cons_succ]
            refine Two.made_newcall 58 _ 40 #[.agg (dC d v1 v2).toArray] (by kernel_rfl) (by kernel_rfl) rfl rfl (fun W => by kernel_rfl) (fun W hW => (ownedM W d v1 v2 (Mem.drv (Mem.away H43.out 2 rfl (Two.GX.grown hW)) HD.out) hdl).mono (fun e w' ⟨u1, u2, h1, h2, h3⟩ => ⟨_, h1, Two.GY.of_below h3, (u1, u2), rfl, h2.lower (Two.GX.grown hW).size⟩)) ?_
            simp only [Act.put, List.setIfInBounds_toArray, List.set_cons_zero, List.set_cons_succ]
            refine Two.made_new1 58 _ 59 _ (by kernel_rfl) rfl (by kernel_rfl) rfl rfl (fun u W hW hu => twoX (itmU_new (o := ⟨some 59, _, _, _, _, _⟩) (.tmp 56) (.tmp 58) rfl w43.heap.size hcc rfl rfl hu) trivial) ?_
            simp only [Act.put, List.setIfInBounds_toArray, List.set_cons_zero, List.set_cons_succ]
            refine Two.made_new1 59 _ 60 _ (by kernel_rfl) rfl (by kernel_rfl) rfl rfl (fun u W hW hu => twoX (rowU_new (o := ⟨some 60, _, _, _, _, _⟩) (.tmp 59) rfl w43.heap.size hcc rfl hu (Two.GX.grown hW).size) trivial) ?_
            simp only [Act.put, List.setIfInBounds_toArray, List.set_cons_zero, List.set_cons_succ]
            refine Two.made_new1 60 _ 61 _ (by kernel_rfl) rfl (by kernel_rfl) rfl rfl (fun u W hW hu => grownU_new (o := ⟨some 61, _, _, _, _, _⟩) (.tmp 55) (.tmp 60) rfl rfl H43.out 2 rfl hbs9 hW hcc hls9 rfl rfl hu) ?_
            simp only [Act.put, List.setIfInBounds_toArray, List.set_cons_zero, List.set_cons_succ]
            refine Two.made_val (.agg (bv c).toArray) (by kernel_rfl) (by kernel_rfl) (by kernel_rfl) (fun W9 hW9 => (exec_load_mid (o := ⟨some 62, _, _, _, _, _⟩) 27 (.tmp 7) rfl w12.heap.size (0) rfl (bv c) _ W9 (Blk.range (Mem.blk (Mem.away H43.out 2 rfl (Two.GX.grown hW9)) 5 rfl)) Try.underlying27 rfl (hszL hcc))) ?_
            simp only [Act.put, List.setIfInBounds_toArray, List.set_cons_zero, List.set_cons_succ]
            refine Two.made_new1 61 _ 4 _ (by kernel_rfl) rfl (by kernel_rfl) rfl rfl (fun u W hW hu => ⟨u, W, exec_assign (o := ⟨some 4, _, _, _, _, _⟩) (.tmp 61) rfl rfl W, ⟨World.grownBy.refl _ _, id⟩, hu⟩) ?_
            simp only [Act.put, List.setIfInBounds_toArray, List.set_cons_zero, List.set_cons_succ]
            intro w44 hx
            dsimp only [Two.ended, List.drop]
            rintro u58 _ u59 _ u60 _ u61 _ u4 ⟨p, ho, hr, hf⟩
            have H44 := hide (grown_mem H43.out 2 rfl hbs9 hx ho hr hf)
            clear hx ho hr hf
            go_wp2_with (((with_reducible refine at_store 5 62 ?_); (with_reducible refine wpList_store_blkA (o := ⟨none, _, _, _, _, _⟩) rfl 27 (.tmp 5) (.tmp 62) rfl w7.heap.size zcH (bv c).toArray 27 (Mem.blk H44.out 8 rfl) ?_ ?_ ?_ ?_ ?_ ?_); (exact (hszD hcc)); (exact sz_eq zcH_sz (hszD hcc)); (exact (bv_1 c)); rfl; rfl; intro w45 hk hg; have H45 := hide (Mem.st H44.out 8 rfl hk hg); clear hk hg; simp only [Act.put, List.setIfInBounds_toArray, List.set_cons_zero, List.set_cons_succ]))
            refine bodyPost_ret (results_two (r1 := .tmp 4) (r2 := .cell 5 27) rfl ⟨rfl, ⟨_, rfl, ld_agg (Blk.range (Mem.blk H45.out 8 rfl)) Try.underlying27 rfl (hszL hcc)⟩, trivial⟩) rfl (AddQ.yes (HR.out.symm.trans (addP_new HTB.out HP.out HA9.out HC.out HFO.out)) rfl (by rw [List.map_append, HLS.out]; rfl) (Mem.pick (Mem.push (x := ((c, d), p)) (f := drvV w.heap.size) (Mem.pick H45.out [0, 4, 3] (by decide) rfl) (drvV_ok _ _)) [1, 0] (by decide) rfl))
          · rename_i x
            have HFO := hide hfo
            have hxm : x ∈ l := (findI_some hfo).1
            have HXM := hide hxm
            have HPX := hide (tab_put HTB.out hxm)
            clear hfo hxm
            cases htt : decide (textP x.2 = textP d)
            · have HTT := hide htt
              clear htt
              go_wp2_with fail
              refine (copied_any wo l A cap (Mem.lay HM.out HAT.out) HL.out hn).mono ?_
              rintro e w26 ⟨u40, ls, rfl, hls, hm⟩
              dsimp only
              have H26 := hide (Mem.seq HM.out (itms_lower hm (Mem.below HM.out).size))
              have HLS := hide hls
              clear hm hls
              go_wp2_with (((with_reducible refine at_slot 43 ?_); (refine wpList_value (o := ⟨some 43, _, _, _, _, _⟩) rfl (.agg (bv c).toArray) w26 (exec_load_mid (o := ⟨some 43, _, _, _, _, _⟩) 27 (.tmp 7) rfl w12.heap.size (0) rfl (bv c) _ w26 (Blk.range (Mem.blk H26.out 3 rfl)) Try.underlying27 rfl (hszL hcc)) ?_)))
              refine (findM w26 l _ (Mem.lay H26.out HAT.out) c hcc HL.out (x.2) (findD_of HFO.out) true (by rw [HFO.out]; rfl)).mono ?_
              rintro e w27 ⟨p1, p2, rfl, hp1, hp2, hm⟩
              dsimp only
              have H27 := hide (Mem.seq H26.out hm)
              clear hm
              go_wp2_with (first | ((with_reducible refine at_slot 13 ?_); (refine wpList_newZ (o := ⟨some 13, _, _, _, _, _⟩) rfl 34 zcD (by kernel_rfl) ?_); intro w28 hn; have H28 := hide (Mem.new1 H27.out hn); clear hn; simp only [Act.put, List.setIfInBounds_toArray, List.set_cons_zero, List.set_cons_succ]) | ((with_reducible refine at_store 13 45 ?_); (with_reducible refine wpList_store_blkA (o := ⟨none, _, _, _, _, _⟩) rfl 34 (.tmp 13) (.tmp 45) rfl w27.heap.size zcD (dC (x.2) p1 p2).toArray 34 (Mem.blk H28.out 0 rfl) ?_ ?_ ?_ ?_ ?_ ?_); (exact (dC_sz (x.2) p1 p2)); (exact sz_eq zcD_sz (dC_sz (x.2) p1 p2)); (exact (dC_1 (x.2) hp1 hp2)); rfl; rfl; intro w29 hk hg; have H29 := hide (Mem.st H28.out 0 rfl hk hg); clear hk hg; simp only [Act.put, List.setIfInBounds_toArray, List.set_cons_zero, List.set_cons_succ]) | ((with_reducible refine at_slot 48 ?_); (refine wpList_value (o := ⟨some 48, _, _, _, _, _⟩) rfl (.agg (dC (x.2) p1 p2).toArray) w29 (exec_load_mid (o := ⟨some 48, _, _, _, _, _⟩) 34 (.tmp 13) rfl w27.heap.size (0) rfl (dC (x.2) p1 p2) _ w29 (Blk.range (Mem.blk H29.out 0 rfl)) Try.underlying34 rfl (dC_szl (x.2) p1 p2)) ?_)))
              refine (written_ok w29 x.2 p1 p2 (OwnDrv.at_ (show OwnDrv w29 _ x.2 p1 p2 from Mem.get (e := drvE _ x.2 p1 p2) H29.out 1 rfl) (Nat.le_refl _)) HPX.out).mono ?_
              rintro e w30 ⟨g5, c5, rfl, m1, m2, m3, m4, hb⟩
              dsimp only
              have H30 := hide (Mem.seq H29.out (byt_made m1 m3 m4 hb))
              clear m1 m3 m4 hb
              go_wp2_with fail
              refine (bytesEq_any w30 g5 g c5 cp (textP x.2) (textP d) (Mem.get (e := bytE g5 (textP x.2)) H30.out 0 rfl) (Mem.get (e := bytE g (textP d)) H30.out 7 rfl) false HTT.out).mono ?_
              rintro e w31 ⟨rfl, hb⟩
              dsimp only
              have H31 := hide (Mem.call H30.out hb)
              clear hb
              go_wp2_with fail
              refine (must_no 14 w31).mono ?_
              rintro e wz ⟨rfl, hwz⟩
              rw [hwz]
              clear hwz
              dsimp only
              simp +zetaDelta only [Exit.then, Exit.inBlock]
              change bodyPost Try.prog Try.f20 _ _ _ _
              simp only [bodyPost]
              exact ⟨trivial, AddQ.no (HR.out.symm.trans (addP_14 HTB.out HP.out HA9.out HC.out HFO.out (of_decide_eq_false HTT.out))) (by decide) rfl (Mem.below H31.out)⟩
            · have HTT := hide htt
              clear htt
              go_wp2_with fail
              refine (copied_any wo l A cap (Mem.lay HM.out HAT.out) HL.out hn).mono ?_
              rintro e w32 ⟨u40, ls, rfl, hls, hm⟩
              dsimp only
              have H32 := hide (Mem.seq HM.out (itms_lower hm (Mem.below HM.out).size))
              have HLS := hide hls
              clear hm hls
              go_wp2_with (((with_reducible refine at_slot 43 ?_); (refine wpList_value (o := ⟨some 43, _, _, _, _, _⟩) rfl (.agg (bv c).toArray) w32 (exec_load_mid (o := ⟨some 43, _, _, _, _, _⟩) 27 (.tmp 7) rfl w12.heap.size (0) rfl (bv c) _ w32 (Blk.range (Mem.blk H32.out 3 rfl)) Try.underlying27 rfl (hszL hcc)) ?_)))
              refine (findM w32 l _ (Mem.lay H32.out HAT.out) c hcc HL.out (x.2) (findD_of HFO.out) true (by rw [HFO.out]; rfl)).mono ?_
              rintro e w33 ⟨p1, p2, rfl, hp1, hp2, hm⟩
              dsimp only
              have H33 := hide (Mem.seq H32.out hm)
              clear hm
              go_wp2_with (first | ((with_reducible refine at_slot 13 ?_); (refine wpList_newZ (o := ⟨some 13, _, _, _, _, _⟩) rfl 34 zcD (by kernel_rfl) ?_); intro w34 hn; have H34 := hide (Mem.new1 H33.out hn); clear hn; simp only [Act.put, List.setIfInBounds_toArray, List.set_cons_zero, List.set_cons_succ]) | ((with_reducible refine at_store 13 45 ?_); (with_reducible refine wpList_store_blkA (o := ⟨none, _, _, _, _, _⟩) rfl 34 (.tmp 13) (.tmp 45) rfl w33.heap.size zcD (dC (x.2) p1 p2).toArray 34 (Mem.blk H34.out 0 rfl) ?_ ?_ ?_ ?_ ?_ ?_); (exact (dC_sz (x.2) p1 p2)); (exact sz_eq zcD_sz (dC_sz (x.2) p1 p2)); (exact (dC_1 (x.2) hp1 hp2)); rfl; rfl; intro w35 hk hg; have H35 := hide (Mem.st H34.out 0 rfl hk hg); clear hk hg; simp only [Act.put, List.setIfInBounds_toArray, List.set_cons_zero, List.set_cons_succ]) | ((with_reducible refine at_slot 48 ?_); (refine wpList_value (o := ⟨some 48, _, _, _, _, _⟩) rfl (.agg (dC (x.2) p1 p2).toArray) w35 (exec_load_mid (o := ⟨some 48, _, _, _, _, _⟩) 34 (.tmp 13) rfl w33.heap.size (0) rfl (dC (x.2) p1 p2) _ w35 (Blk.range (Mem.blk H35.out 0 rfl)) Try.underlying34 rfl (dC_szl (x.2) p1 p2)) ?_)))
              refine (written_ok w35 x.2 p1 p2 (OwnDrv.at_ (show OwnDrv w35 _ x.2 p1 p2 from Mem.get (e := drvE _ x.2 p1 p2) H35.out 1 rfl) (Nat.le_refl _)) HPX.out).mono ?_
              rintro e w36 ⟨g5, c5, rfl, m1, m2, m3, m4, hb⟩
              dsimp only
              have H36 := hide (Mem.seq H35.out (byt_made m1 m3 m4 hb))
              clear m1 m3 m4 hb
              go_wp2_with fail
              refine (bytesEq_any w36 g5 g c5 cp (textP x.2) (textP d) (Mem.get (e := bytE g5 (textP x.2)) H36.out 0 rfl) (Mem.get (e := bytE g (textP d)) H36.out 7 rfl) true HTT.out).mono ?_
              rintro e w37 ⟨rfl, hb⟩
              dsimp only
              have H37 := hide (Mem.call H36.out hb)
              clear hb
              go_wp2_with fail
              refine (must_ok 14 w37).mono ?_
              rintro e wz ⟨rfl, hwz⟩
              rw [hwz]
              clear hwz
              dsimp only
              go_wp2_with fail
              refine Fre.wp_made (X := Bel) 3 [] (by kernel_rfl) (by kernel_rfl) (by simp) (by simp) (by simp) ?_
              simp only [List.take_succ_cons, List.take_zero, List.drop_succ_cons, List.drop_zero]
              refine Fre.made_val (u40) (by kernel_rfl) (by kernel_rfl) (by kernel_rfl) (fun _ _ => by kernel_rfl) ?_
              simp only [Act.put, List.setIfInBounds_toArray, List.set_cons_zero, List.set_cons_succ]
              refine Fre.made_val (.agg (bv c).toArray) (by kernel_rfl) (by kernel_rfl) (by kernel_rfl) (fun W9 hW9 => (exec_load_mid (o := ⟨some 54, _, _, _, _, _⟩) 27 (.tmp 7) rfl w12.heap.size (0) rfl (bv c) _ W9 (Blk.range (Mem.blk (Mem.call H37.out hW9) 6 rfl)) Try.underlying27 rfl (hszL hcc))) ?_
              simp only [Act.put, List.setIfInBounds_toArray, List.set_cons_zero, List.set_cons_succ]
              refine Fre.made_val (u40) (by kernel_rfl) (by kernel_rfl) (by kernel_rfl) (fun _ _ => by kernel_rfl) ?_
              simp only [Act.put, List.setIfInBounds_toArray, List.set_cons_zero, List.set_cons_succ]
              intro w38 hx
              dsimp only [Fre.ended, List.drop]
              have H38 := hide (Mem.call H37.out hx)
              clear hx
              go_wp2_with (((with_reducible refine at_store 5 54 ?_); (with_reducible refine wpList_store_blkA (o := ⟨none, _, _, _, _, _⟩) rfl 27 (.tmp 5) (.tmp 54) rfl w7.heap.size zcH (bv c).toArray 27 (Mem.blk H38.out 8 rfl) ?_ ?_ ?_ ?_ ?_ ?_); (exact (hszD hcc)); (exact sz_eq zcH_sz (hszD hcc)); (exact (bv_1 c)); rfl; rfl; intro w39 hk hg; have H39 := hide (Mem.st H38.out 8 rfl hk hg); clear hk hg; simp only [Act.put, List.setIfInBounds_toArray, List.set_cons_zero, List.set_cons_succ]))
              refine bodyPost_ret (results_two (r1 := .tmp 4) (r2 := .cell 5 27) rfl ⟨rfl, ⟨_, rfl, ld_agg (Blk.range (Mem.blk H39.out 8 rfl)) Try.underlying27 rfl (hszL hcc)⟩, trivial⟩) rfl (AddQ.yes (HR.out.symm.trans (addP_old HTB.out HP.out HA9.out HC.out HFO.out (of_decide_eq_true HTT.out))) rfl HLS.out (Mem.pick H39.out [3, 4] (by decide) rfl))
    · have HP := hide hp
      clear hp
      have H0 := hide (Mem.start w)
      go_enter Try.func20, Try.ntmps20
      go_wp2_with (first | ((with_reducible refine at_slot 3 ?_); (refine wpList_boxA (o := ⟨some 3, _, _, _, _, _⟩) rfl 34 (.tmp 1) rfl (dC d v1 v2).toArray rfl ?_); intro w4 hn; have H4 := hide (Mem.new1 H0.out hn); clear hn; simp only [Act.put, List.setIfInBounds_toArray, List.set_cons_zero, List.set_cons_succ]) | ((with_reducible refine at_slot 5 ?_); (refine wpList_newZ (o := ⟨some 5, _, _, _, _, _⟩) rfl 27 zcH (by kernel_rfl) ?_); intro w5 hn; have H5 := hide (Mem.new1 H4.out hn); clear hn; simp only [Act.put, List.setIfInBounds_toArray, List.set_cons_zero, List.set_cons_succ]))
      refine (tableB w5 l A cap (Mem.lay H5.out HAT.out) (fun x hx => (HL.out x hx).1) true HTB.out).mono ?_
      rintro e w6 ⟨rfl, hb⟩
      dsimp only
      have H6 := hide (Mem.call H5.out hb)
      clear hb
      go_wp2_with fail
      refine (must_ok 2 w6).mono ?_
      rintro e wz ⟨rfl, hwz⟩
      rw [hwz]
      clear hwz
      dsimp only
      go_wp2_with (((with_reducible refine at_slot 18 ?_); (refine wpList_value (o := ⟨some 18, _, _, _, _, _⟩) rfl (.agg (dC d v1 v2).toArray) w6 (exec_load_mid (o := ⟨some 18, _, _, _, _, _⟩) 34 (.tmp 3) rfl w.heap.size (0) rfl (dC d v1 v2) _ w6 (Blk.range (Mem.blk H6.out 1 rfl)) Try.underlying34 rfl (dC_szl d v1 v2)) ?_)))
      refine (written_no w6 d v1 v2 (Mem.drv H6.out HD.out) HP.out).mono ?_
      rintro e w9 ⟨rfl, hb⟩
      dsimp only
      change bodyPost Try.prog Try.f20 _ _ _ _
      simp only [bodyPost]
      exact ⟨trivial, AddQ.no (HR.out.symm.trans (addP_put HTB.out HP.out)) HP.out rfl (Mem.below (Mem.call H6.out hb))⟩
end Go.Proofs.Ytidiepbmbbflhaa
end
section
namespace Go.Proofs.Ytidiepbmbbflhaa
open Go Go.RowKit Go.Maps
set_option maxRecDepth 100000
/-- items that are read, with the places of their rows -/
theorem itms_open {w : World} {B n c : Nat} {A : Option Addr} {l : List Itm} (h : itmsLay.At w B [.slice A n c] l) : n = l.length ∧ ∃ ls : List ItmV, ls.map (·.1) = l ∧ (∀ p ∈ ls, okH p.1.1 ∧ DrvAt w B p.1.2 p.2.1 p.2.2) ∧ SrcN w 23 A ls.length c (ls.flatMap tV) := by
  obtain ⟨A', c', e, h1, h2, h3, h4⟩ := h
  simp only [List.cons.injEq, Value.slice.injEq, and_true] at e
  obtain ⟨rfl, rfl, rfl⟩ := e
  refine ⟨rfl, ?_⟩
  have hex : ∀ (k : Nat), k ≤ l.length → ∃ ls : List ItmV, ls.map (·.1) = l.take k ∧ ∀ (j : Nat) (p : ItmV), ls[j]? = some p → okH p.1.1 ∧ DrvAt w B p.1.2 p.2.1 p.2.2 ∧ ∀ ad, A = some ad → ∀ i u, (tV p)[i]? = some u → w.cell? (ad.add (j * 23 + i)) = some u := by
    intro k
    induction k with
    | zero => intro _; exact ⟨[], by simp, fun j p hp => by simp at hp⟩
    | succ k ih =>
      intro hk
      obtain ⟨ls, e1, e2⟩ := ih (by omega)
      obtain ⟨b, off, e3, hb, hE⟩ := h4 (by omega)
      obtain ⟨cs, hr, hat⟩ := hE k l[k] (List.getElem?_eq_getElem (by omega))
      obtain ⟨v1, v2, rfl, ho, hd⟩ := itmLay_at.1 hat
      have hl : ls.length = k := by
        have := congrArg List.length e1
        rw [List.length_map, List.length_take] at this
        omega
      refine ⟨ls ++ [(l[k], v1, v2)], ?_, fun j p hp => ?_⟩
      · rw [List.map_append, e1, List.take_add_one, List.getElem?_eq_getElem (by omega)]
        rfl
      · rw [List.getElem?_append] at hp
        split at hp
        · exact e2 j p hp
        · have hj : j = k := by
            have := (List.getElem?_eq_some_iff.1 hp).1
            simp at this
            omega
          subst hj
          rw [hl, Nat.sub_self] at hp
          simp only [List.getElem?_cons_zero, Option.some.injEq] at hp
          subst hp
          refine ⟨ho, hd, fun ad had i u hu => ?_⟩
          rw [e3] at had
          injection had with had
          subst had
          have := hr i u hu
          rw [Addr.add_mid]
          rwa [Nat.add_assoc] at this
  obtain ⟨ls, e1, e2⟩ := hex l.length (Nat.le_refl _)
  rw [List.take_length] at e1
  have hlen : ∀ p ∈ ls, (tV p).length = 23 := fun p hp => by
    obtain ⟨j, hj⟩ := List.getElem?_of_mem hp
    exact tC_len (e2 j p hj).1
  refine ⟨ls, e1, fun p hp => ?_, ?_⟩
  · obtain ⟨j, hj⟩ := List.getElem?_of_mem hp
    exact ⟨(e2 j p hj).1, (e2 j p hj).2.1⟩
  · have hll : ls.length = l.length := by rw [← e1, List.length_map]
    refine ⟨flatC_length ls hlen, fun hA => ⟨by rw [hll]; have := h3 hA; omega, h3 hA⟩, fun u hu => ?_, fun ad had j u hu => ?_⟩
    · obtain ⟨p, hp, hup⟩ := List.mem_flatMap.1 hu
      obtain ⟨j, hj⟩ := List.getElem?_of_mem hp
      obtain ⟨o1, o2⟩ := (e2 j p hj).2.1.ones
      exact tC_one _ o1 o2 u hup
    · obtain ⟨p, h6, h7⟩ := flatC_get (by decide) ls hlen j u hu
      have := (e2 _ p h6).2.2 ad had _ u h7
      rwa [show j / 23 * 23 + j % 23 = j by rw [Nat.mul_comm]; exact Nat.div_add_mod j 23] at this
theorem own_empty {w w' : World} {t : TypeId} (hn : New1 w w' t #[]) (s : Nat) : Mem w w' [ownE w.heap.size t s (.slice (some ⟨w.heap.size, 0, none⟩) 0 0) 0 []] :=
  (Mem.start w).new hn.below (ownE_ok _ _ _ _ _ _) ⟨by simp, .inr ⟨w.heap.size, 0, #[], rfl, Nat.le_refl _, hn.blk, Nat.le_refl _, Nat.zero_le _, by simp, by simp⟩⟩ fun b hf => by
    have e : w.heap.size = b := Option.some.inj hf
    have := hn.size
    omega
set_option maxHeartbeats 1000000 in
theorem cloneI_some (w : World) (ls : List ItmV) (ad : Addr) (cap : Nat) (hs : SrcN w 23 (some ad) ls.length cap (ls.flatMap tV)) (hl : ls.length ≤ 1000000) :
    Calls Try.prog 32 #[.slice (some ad) ls.length cap] w fun e w' => ∃ u, e = .returned u ∧ Mem w w' [ownE w.heap.size 43 23 u ls.length (ls.flatMap tV)] := by
  have HS := hide hs
  clear hs
  obtain ⟨inm, hih, hq0, hq1, hq2⟩ := info_parts info_itm2
  have HJ := hide (And.intro hih (And.intro hq0 (And.intro hq1 hq2)))
  clear hih hq0 hq1 hq2
  have H0 := hide (Mem.start w)
  go_enter Try.func32, Try.ntmps32
  go_wp2_with (first | ((with_reducible refine at_slot 4 ?_); (refine wpList_value (o := ⟨some 4, _, _, _, _, _⟩) rfl (.bool false) w (by kernel_rfl) ?_)) | ((with_reducible refine at_slot 5 ?_); (refine wpList_newS (o := ⟨some 5, _, _, _, _, _⟩) rfl 0 43 #[] (by kernel_rfl) ?_); intro w1 hn; have H1 := hide (Mem.seq H0.out (own_empty hn 23)); clear hn; simp only [Act.put, List.setIfInBounds_toArray, List.set_cons_zero, List.set_cons_succ]) | (at_builtin; ((with_reducible refine at_slot 7 ?_); refine wpList_appS (o := ⟨some 7, _, _, _, _, _⟩) rfl _ _ 25 rfl w.heap.size 43 _ _ 23 88 Try.underlying25 HJ.out.1 HJ.out.2.1 HJ.out.2.2.1 HJ.out.2.2.2 rfl (by decide) ((.slice (some ⟨w.heap.size, 0, none⟩) 0 0)) (0) ([]) (Mem.own H1.out 0 rfl) ((some ad)) (ls.length) (cap) (ls.flatMap tV) (SrcN.below HS.out (Mem.below H1.out)) ?hm1 ?hb1 ?hz1 rfl rfl ?_)))
  case hm1 => simp only [maxLen]; omega
  case hb1 => omega
  case hz1 => exact (Mem.below H1.out).size
  intro u9 w2 own9 gr9 hp9
  have own8 : w2.ownsRow w.heap.size 43 23 u9 ls.length (ls.flatMap tV) := by simpa using own9
  have H2 := hide (Mem.app H1.out 0 rfl own8 gr9 hp9)
  clear own9 own8 gr9 hp9
  go_wp2_with fail
  go_ret
  exact ⟨u9, rfl, H2.out⟩
set_option maxHeartbeats 1000000 in
theorem cloneI_none (w : World) :
    Calls Try.prog 32 #[.slice none 0 0] w fun e w' => e = .returned (.slice none 0 0) ∧ Below w.heap.size w w' := by
  go_enter Try.func32, Try.ntmps32
  go_wp2_with (((with_reducible refine at_slot 4 ?_); (refine wpList_value (o := ⟨some 4, _, _, _, _, _⟩) rfl (.bool true) w (by kernel_rfl) ?_)))
  go_ret
  exact ⟨rfl, Below.refl _ _⟩
theorem cloneI_any (w : World) (ls : List ItmV) (A : Option Addr) (cap : Nat) (hs : SrcN w 23 A ls.length cap (ls.flatMap tV)) (hl : ls.length ≤ 1000000) :
    Calls Try.prog 32 #[.slice A ls.length cap] w fun e w' => ∃ u, e = .returned u ∧ Mem w w' [ownE w.heap.size 43 23 u ls.length (ls.flatMap tV)] := by
  cases A with
  | some ad => exact cloneI_some w ls ad cap hs hl
  | none =>
    obtain ⟨h1, rfl⟩ := hs.none_ rfl
    obtain rfl := List.eq_nil_of_length_eq_zero h1
    refine (cloneI_none w).mono ?_
    rintro e w' ⟨rfl, hb⟩
    exact ⟨_, rfl, ((Mem.start w).call hb).nilRow _ _ _⟩
/-- what is marked in a map of numbers -/
def MarkI (m : List (Hsh × Nat)) (f : Hsh → Bool) : Prop := ∀ c, ((mget m c).map evN).getD (.int .i64 0) = .int .i64 (if f c then 1 else 0)
theorem MarkI.nil : MarkI [] (fun _ => false) := fun _ => rfl
theorem MarkI.put {m : List (Hsh × Nat)} {f : Hsh → Bool} (h : MarkI m f) (x : Hsh) : MarkI (mput m x 1) (fun c => f c || decide (c = x)) := fun c => by
  show _ = Value.int .i64 (if (f c || decide (c = x)) = true then 1 else 0)
  rw [mget_mput]
  by_cases e : c = x
  · rw [if_pos e, decide_eq_true e, Bool.or_true]
    rfl
  · rw [if_neg e, decide_eq_false e, Bool.or_false]
    exact h c
set_option maxHeartbeats 1000000 in
theorem drop1_any (w0 w : World) (g mb : Nat) (m : List (Hsh × Nat)) (f : Hsh → Bool) (hc : w0.rangeAt g 0 [.map (some mb)]) (hg : g < w0.heap.size) (hm : MapIs hV okH evN w0 mb m) (hf : MarkI m f) (hb : Below w0.heap.size w0 w) (x : Itm) (v1 v2 : Value) (hx : okH x.1) (_o1 : v1.oneCell' = true) (_o2 : v2.oneCell' = true) :
    Calls Try.prog 33 #[.agg (tC x v1 v2).toArray, .pointer (some ⟨g, 0, none⟩)] w fun e w' => e = .returned (.bool (!f x.1)) ∧ Below w.heap.size w w' := by
  have HC := hide (range_same hc (hb.block g hg))
  have HM := hide (hm.below hb hm.lt)
  have HG := hide (Nat.lt_of_lt_of_le hg hb.size)
  have HF := hide (hf x.1)
  clear hc hm hg hb hf
  cases hfx : f x.1
  · have HFX := hide hfx
    clear hfx
    have H0 := hide (Mem.start w)
    go_enter Try.func33, Try.ntmps33
    go_wp2_with (first | ((with_reducible refine at_slot 2 ?_); (refine wpList_boxA (o := ⟨some 2, _, _, _, _, _⟩) rfl 43 (.tmp 0) rfl (tC x v1 v2).toArray rfl ?_); intro w1 hn; have H1 := hide (Mem.new1 H0.out hn); clear hn; simp only [Act.put, List.setIfInBounds_toArray, List.set_cons_zero, List.set_cons_succ]) | ((with_reducible refine at_slot 4 ?_); (refine wpList_value (o := ⟨some 4, _, _, _, _, _⟩) rfl (.map (some mb)) w1 (exec_load_cell (o := ⟨some 4, _, _, _, _, _⟩) 61 (.tmp 1) rfl ⟨g, 0, none⟩ rfl _ _ w1 Try.underlying61 rfl (range_cell (Mem.range H1.out HC.out HG.out))) ?_)) | ((with_reducible refine at_slot 6 ?_); (refine wpList_value (o := ⟨some 6, _, _, _, _, _⟩) rfl (.agg (bv x.1).toArray) w1 (exec_load_mid (o := ⟨some 6, _, _, _, _, _⟩) 27 (.tmp 5) rfl w.heap.size (0) rfl (bv x.1) _ w1 (item_cls9 (Blk.range (Mem.blk H1.out 0 rfl))) Try.underlying27 rfl (hszL hx)) ?_)) | ((with_reducible refine at_slot 7 ?_); (refine wpList_value (o := ⟨some 7, _, _, _, _, _⟩) rfl (.int .i64 0) w1 (exec_lookup (o := ⟨some 7, _, _, _, _, _⟩) 61 (.tmp 4) (.tmp 6) false rfl (.map (some mb)) (.agg (bv x.1).toArray) _ rfl rfl ((MapIs.look (MapIs.below HM.out (Mem.below H1.out) HM.out.lt) hash_enc hx Try.underlying61 (z_int w1)).trans (by rw [HF.out, HFX.out]; rfl))) ?_)))
    go_ret
    exact ⟨rfl, Mem.below H1.out⟩
  · have HFX := hide hfx
    clear hfx
    have H0 := hide (Mem.start w)
    go_enter Try.func33, Try.ntmps33
    go_wp2_with (first | ((with_reducible refine at_slot 2 ?_); (refine wpList_boxA (o := ⟨some 2, _, _, _, _, _⟩) rfl 43 (.tmp 0) rfl (tC x v1 v2).toArray rfl ?_); intro w1 hn; have H1 := hide (Mem.new1 H0.out hn); clear hn; simp only [Act.put, List.setIfInBounds_toArray, List.set_cons_zero, List.set_cons_succ]) | ((with_reducible refine at_slot 4 ?_); (refine wpList_value (o := ⟨some 4, _, _, _, _, _⟩) rfl (.map (some mb)) w1 (exec_load_cell (o := ⟨some 4, _, _, _, _, _⟩) 61 (.tmp 1) rfl ⟨g, 0, none⟩ rfl _ _ w1 Try.underlying61 rfl (range_cell (Mem.range H1.out HC.out HG.out))) ?_)) | ((with_reducible refine at_slot 6 ?_); (refine wpList_value (o := ⟨some 6, _, _, _, _, _⟩) rfl (.agg (bv x.1).toArray) w1 (exec_load_mid (o := ⟨some 6, _, _, _, _, _⟩) 27 (.tmp 5) rfl w.heap.size (0) rfl (bv x.1) _ w1 (item_cls9 (Blk.range (Mem.blk H1.out 0 rfl))) Try.underlying27 rfl (hszL hx)) ?_)) | ((with_reducible refine at_slot 7 ?_); (refine wpList_value (o := ⟨some 7, _, _, _, _, _⟩) rfl (.int .i64 1) w1 (exec_lookup (o := ⟨some 7, _, _, _, _, _⟩) 61 (.tmp 4) (.tmp 6) false rfl (.map (some mb)) (.agg (bv x.1).toArray) _ rfl rfl ((MapIs.look (MapIs.below HM.out (Mem.below H1.out) HM.out.lt) hash_enc hx Try.underlying61 (z_int w1)).trans (by rw [HF.out, HFX.out]; rfl))) ?_)))
    go_ret
    exact ⟨rfl, Mem.below H1.out⟩
end Go.Proofs.Ytidiepbmbbflhaa
end
section
namespace Go.Proofs.Ytidiepbmbbflhaa
open Go Go.RowKit Go.Maps
set_option maxRecDepth 100000
/-- what class.Drop's closure says of the things of a row, in a world that is grown out of w0 -/
def ClosI (w0 : World) (gp : Nat) (ls : List ItmV) (q : Itm → Bool) : Prop := ∀ (W : World) (p : ItmV), Below w0.heap.size w0 W → p ∈ ls → Calls Try.prog 33 #[.agg (tV p).toArray, .pointer (some ⟨gp, 0, none⟩)] W fun e w' => e = .returned (.bool (q p.1)) ∧ Below W.heap.size W w'
theorem flatMap_take9 {α : Type} {f : α → List Value} {s : Nat} : ∀ (l : List α) (k : Nat), (∀ x ∈ l, (f x).length = s) → (l.flatMap f).take (k * s) = (l.take k).flatMap f
  | [], k, _ => by simp
  | x :: l, 0, _ => by simp
  | x :: l, k + 1, h => by
    have hx := h x (by simp)
    rw [List.flatMap_cons, List.take_succ_cons, List.flatMap_cons, ← flatMap_take9 l k (fun y hy => h y (by simp [hy])), List.take_append, hx, List.take_of_length_le (by rw [hx, Nat.add_mul]; omega)]
    congr 2
    rw [Nat.add_mul]; omega
def IxI (ls : List ItmV) (q : Itm → Bool) (e : Ending) : Prop := (e = .returned (.int .i64 (-1)) ∧ ∀ p ∈ ls, q p.1 = false) ∨ ∃ j : Nat, j < ls.length ∧ e = .returned (.int .i64 (j : Int)) ∧ (∀ p ∈ ls.take j, q p.1 = false) ∧ (∀ p, ls[j]? = some p → q p.1 = true)
theorem own_len9 {α : Type} {f : α → List Value} {w : World} {B s : Nat} {t : TypeId} {A : Option Addr} {cap : Nat} {l : List α} {x : α} {j : Nat} (h0 : 0 < s) (h : w.ownsRow B t s (.slice A l.length cap) l.length (l.flatMap f)) (hl : ∀ x ∈ l, (f x).length = s) (hx : l[j]? = some x) : ∃ g, A = some ⟨g, 0, none⟩ ∧ g < w.heap.size ∧ l.length ≤ cap ∧ w.rangeAt g (j * s) (f x) := by
  have hj := (List.getElem?_eq_some_iff.1 hx).1
  have hh := h
  obtain ⟨g, cap', e, hg⟩ := own_is h (by omega)
  injection e with e1 e2 e3
  subst e1 e3
  refine ⟨g, rfl, hg, ?_, own_at h0 h hl hx⟩
  rcases hh with ⟨_, ⟨h, _⟩ | ⟨g', cap', cur, h, hb, hn, hc, _⟩⟩
  · cases h
  · injection h with _ _ e3
    omega
theorem IxI.in_ {ls : List ItmV} {q : Itm → Bool} {j : Nat} {p : ItmV} (hp : ls[j]? = some p) (hn : ∀ p ∈ ls.take j, q p.1 = false) (hq : q p.1 = true) : IxI ls q (.returned (.int .i64 (j : Int))) :=
  .inr ⟨j, (List.getElem?_eq_some_iff.1 hp).1, rfl, hn, fun p' hp' => by rw [hp] at hp'; injection hp' with e; rwa [← e]⟩
theorem take_all {ls : List ItmV} {q : Itm → Bool} {j : Nat} {p : ItmV} (hp : ls[j]? = some p) (hn : ∀ p ∈ ls.take j, q p.1 = false) (hq : q p.1 = false) : ∀ p ∈ ls.take (j + 1), q p.1 = false := fun y hy => by
  rw [List.take_add_one, hp] at hy
  rcases List.mem_append.1 hy with hy | hy
  · exact hn y hy
  · rw [show y = p from by simpa using hy]
    exact hq
set_option maxHeartbeats 1000000 in
theorem idxI_any (w0 w : World) (B cap gp : Nat) (A : Option Addr) (ls : List ItmV) (q : Itm → Bool) (hm : Mem w0 w [ownE B 43 23 (.slice A ls.length cap) ls.length (ls.flatMap tV)]) (hok : ∀ p ∈ ls, okH p.1.1 ∧ p.2.1.oneCell' = true ∧ p.2.2.oneCell' = true) (hcl : ClosI w0 gp ls q) (hn : ls.length ≤ 1000000) :
    Calls Try.prog 42 #[.slice A ls.length cap, .func (.func 33) #[] #[.pointer (some ⟨gp, 0, none⟩)]] w fun e w' => IxI ls q e ∧ Below w.heap.size w w' := by
  have HOK := hide hok
  have HCL := hide hcl
  have H1 := hide hm
  clear hm hok hcl
  have k9 : (ls.length : Int) ≤ 9223372036854775807 := by omega
  go_enter Try.func42, Try.ntmps42
  go_wp2_with fail
  go_loopw [8] (fun x8 wr => ∃ j : Nat, j ≤ ls.length ∧ x8 = .int .i64 (j : Int) ∧ (∀ p ∈ ls.take j, q p.1 = false) ∧ Mem w0 wr [ownE B 43 23 (.slice A ls.length cap) ls.length (ls.flatMap tV)] ∧ Below w.heap.size w wr) (fun x8 _ => ls.length - (intOf x8).toNat)
  case atStart => exact ⟨0, by omega, rfl, (fun p hp => by simp at hp), H1.out, Below.refl _ _⟩
  case round =>
    obtain ⟨wo, rfl⟩ : ∃ wo, wo = wr := ⟨_, rfl⟩
    obtain ⟨j, hj, rfl, hall, hm, hb⟩ := hrel
    have HM := hide hm
    have HB := hide (And.intro hall hb)
    clear hm hall hb
    have j0 : (0 : Int) ≤ (j : Int) := by omega
    by_cases hj2 : j < ls.length
    · have j1 : (j : Int) < (ls.length : Int) := by omega
      obtain ⟨x, hx⟩ : ∃ x, ls[j]? = some x := ⟨_, List.getElem?_eq_getElem (by omega)⟩
      obtain ⟨ho, o1, o2⟩ := HOK.out x (List.mem_of_getElem? hx)
      obtain ⟨g, rfl, hg, hcap, _⟩ := own_len9 (by decide) (Mem.own HM.out 0 rfl) (fun p hp => tC_len (HOK.out p hp).1) hx
      have HX := hide hx
      clear hx
      go_wp2_with (first | ((with_reducible refine at_slot 14 ?_); (refine wpList_value (o := ⟨some 14, _, _, _, _, _⟩) rfl (.pointer (some ⟨g, j * 23, none⟩)) wo (exec_idx0 (o := ⟨some 14, _, _, _, _, _⟩) 25 43 (.tmp 12) (.tmp 13) rfl g ls.length cap j rfl rfl hj2 23 Try.underlying25 sz_itm wo) ?_)) | ((with_reducible refine at_slot 15 ?_); (refine wpList_value (o := ⟨some 15, _, _, _, _, _⟩) rfl (.agg (tV x).toArray) wo (exec_load_mid (o := ⟨some 15, _, _, _, _, _⟩) 43 (.tmp 14) rfl g (j * 23) rfl (tV x) _ wo (own_at (l := ls) (f := tV) (x := x) (k := j) (by decide) (Mem.own HM.out 0 rfl) (fun p hp => tC_len (HOK.out p hp).1) HX.out) Try.underlying43 rfl (tC_szl ho)) ?_)))
      refine (HCL.out wo x (Mem.below HM.out) (List.mem_of_getElem? HX.out)).mono ?_
      rintro e w1 ⟨rfl, hb⟩
      dsimp only
      have H1 := hide (Mem.call HM.out hb)
      have HZ := hide (Below.trans HB.out.2 (Below.mono hb HB.out.2.size))
      clear hb
      cases hq : q x.1
      · have HQ := hide hq
        clear hq
        go_wp2_with fail
        go_roundw
        case rel => exact ⟨j + 1, by omega, by go_num, take_all HX.out HB.out.1 HQ.out, H1.out, HZ.out⟩
        case measure => simp [intOf]; omega
      · have HQ := hide hq
        clear hq
        go_wp2_with fail
        go_ret
        exact ⟨IxI.in_ HX.out HB.out.1 HQ.out, HZ.out⟩
    · obtain rfl : j = ls.length := by omega
      go_wp2_with fail
      go_ret
      exact ⟨.inl ⟨rfl, fun p hp => HB.out.1 p (by rw [List.take_length]; exact hp)⟩, HB.out.2⟩
/-- a row out of which some things are deleted: i of m are kept, in order, at its head; from m on it is as before -/
structure DelI (ls cur : List ItmV) (q : Itm → Bool) (i m : Nat) : Prop where
  lt : i < m
  le : m ≤ ls.length
  len : cur.length = ls.length
  head : cur.take i = (ls.take m).filter fun p => !q p.1
  tail : cur.drop m = ls.drop m
  mem : ∀ p ∈ cur, p ∈ ls
theorem DelI.start {ls : List ItmV} {q : Itm → Bool} {j : Nat} {p : ItmV} (hp : ls[j]? = some p) (hn : ∀ p ∈ ls.take j, q p.1 = false) (hq : q p.1 = true) : DelI ls ls q j (j + 1) := by
  refine ⟨by omega, (List.getElem?_eq_some_iff.1 hp).1, rfl, ?_, rfl, fun _ h => h⟩
  rw [List.take_add_one, hp, List.filter_append, List.filter_eq_self.2 fun y hy => by rw [hn y hy]; rfl]
  simp [hq]
theorem DelI.at_ {ls cur : List ItmV} {q : Itm → Bool} {i m : Nat} (h : DelI ls cur q i m) (hm : m < ls.length) : ∃ p, cur[m]? = some p ∧ ls[m]? = some p := by
  refine ⟨ls[m], ?_, List.getElem?_eq_getElem hm⟩
  have := congrArg (fun l => l[0]?) h.tail
  simpa [List.getElem?_drop, List.getElem?_eq_getElem hm] using this
theorem DelI.out {ls cur : List ItmV} {q : Itm → Bool} {i m : Nat} {p : ItmV} (h : DelI ls cur q i m) (hp : ls[m]? = some p) (hq : q p.1 = true) : DelI ls cur q i (m + 1) := by
  refine ⟨by have := h.lt; omega, (List.getElem?_eq_some_iff.1 hp).1, h.len, ?_, ?_, h.mem⟩
  · rw [h.head, List.take_add_one, hp, List.filter_append]
    simp [hq]
  · rw [← List.drop_drop, ← List.drop_drop, h.tail]
theorem DelI.in_ {ls cur : List ItmV} {q : Itm → Bool} {i m : Nat} {p : ItmV} (h : DelI ls cur q i m) (hp : ls[m]? = some p) (hq : q p.1 = false) : DelI ls (cur.set i p) q (i + 1) (m + 1) := by
  have hl := h.lt
  have hm := (List.getElem?_eq_some_iff.1 hp).1
  refine ⟨by omega, hm, by rw [List.length_set, h.len], ?_, ?_, fun y hy => ?_⟩
  · have hi : i < cur.length := by rw [h.len]; omega
    rw [List.take_add_one, List.getElem?_set_self hi, List.take_set_of_le (Nat.le_refl _), h.head, List.take_add_one, hp, List.filter_append]
    simp [hq]
  · rw [List.drop_set_of_lt (by omega), ← List.drop_drop, ← List.drop_drop, h.tail]
  · rcases List.mem_or_eq_of_mem_set hy with hy | rfl
    · exact h.mem y hy
    · exact List.mem_of_getElem? hp
theorem zcT_1 : ∀ v ∈ Value.cells (.agg zcT), v.oneCell' = true := fun v hv => by
  have := Array.all_eq_true_iff_forall_mem.1 (show zcT.all (·.oneCell') = true by kernel_rfl) v
  exact this hv
theorem exec_sliceFrom0 {P : Program} {ρ : Operand → Value} {o : Oper} (t e s : Nat) (x y : Operand) (ho : o.op = .slice t x (some y) none none) (b len cap n : Nat) (hx : ρ x = .slice (some ⟨b, 0, none⟩) len cap) (hy : ρ y = .int .i64 (n : Int)) (ht : P.underlying t = some (.slice e)) (hs : (P.info? e).map (·.size) = some s) (hn : n ≤ len) (hl : len ≤ cap) (hc : n < cap) (w : World) :
    (execOp ρ o).run P w = .ok (.value (.slice (some ⟨b, n * s, none⟩) (len - n) (cap - n))) w := by
  have h := exec_sliceFrom t e s x y ho b 0 len cap n hx hy ht hs hn hl hc w
  rwa [Nat.zero_add] at h
set_option maxHeartbeats 1000000 in
theorem delI_any (w0 w : World) (B cap gp : Nat) (A : Option Addr) (ls : List ItmV) (q : Itm → Bool) (hm : Mem w0 w [ownE B 43 23 (.slice A ls.length cap) ls.length (ls.flatMap tV)]) (hok : ∀ p ∈ ls, okH p.1.1 ∧ p.2.1.oneCell' = true ∧ p.2.2.oneCell' = true) (hcl : ClosI w0 gp ls q) (hn : ls.length ≤ 1000000) :
    Calls Try.prog 31 #[.slice A ls.length cap, .func (.func 33) #[] #[.pointer (some ⟨gp, 0, none⟩)]] w fun e w' => ∃ u, e = .returned u ∧ Mem w0 w' [ownE B 43 23 u (ls.filter fun p => !q p.1).length ((ls.filter fun p => !q p.1).flatMap tV)] := by
  have HOK := hide hok
  have HCL := hide hcl
  have H1 := hide hm
  clear hm hok hcl
  have k9 : (ls.length : Int) ≤ 9223372036854775807 := by omega
  go_enter Try.func31, Try.ntmps31
  go_wp2_with fail
  refine (idxI_any w0 w B cap gp A ls q H1.out HOK.out HCL.out hn).mono ?_
  rintro e w1 ⟨hix, hb⟩
  have H2 := hide (Mem.call H1.out hb)
  clear hb
  rcases hix with ⟨rfl, hall⟩ | ⟨j, hj, rfl, hall, hq⟩
  · have he : (ls.filter fun p => !q p.1) = ls := List.filter_eq_self.2 fun p hp => by rw [hall p hp]; rfl
    have HE := hide he
    clear he hall
    go_wp2_with fail
    go_ret
    exact ⟨_, rfl, by rw [HE.out]; exact H2.out⟩
  · obtain ⟨x0, hx0⟩ : ∃ x, ls[j]? = some x := ⟨_, List.getElem?_eq_getElem hj⟩
    obtain ⟨g, rfl, hg, hcap, _⟩ := own_len9 (by decide) (Mem.own H2.out 0 rfl) (fun p hp => tC_len (HOK.out p hp).1) hx0
    have HD0 := hide (DelI.start hx0 hall (hq x0 hx0))
    clear hx0 hall hq
    have j0 : (0 : Int) ≤ (j : Int) := by omega
    have jn : ¬ (j : Int) = -1 := by omega
    go_wp2_with fail
    have hjf : ((j : Int) == -1) = false := beq_eq_false_iff_ne.2 jn
    rw [hjf]
    clear jn hjf
    go_loopw [5, 6] (fun x5 x6 wr => ∃ (i m : Nat) (cur : List ItmV), x5 = .int .i64 (i : Int) ∧ x6 = .int .i64 (m : Int) ∧ DelI ls cur q i m ∧ Mem w0 wr [ownE B 43 23 (.slice (some ⟨g, 0, none⟩) ls.length cap) ls.length (cur.flatMap tV)]) (fun _ x6 _ => ls.length - (intOf x6).toNat)
    case atStart => exact ⟨j, j + 1, ls, rfl, by go_num, HD0.out, H2.out⟩
    case round =>
      obtain ⟨wo, rfl⟩ : ∃ wo, wo = wr := ⟨_, rfl⟩
      obtain ⟨i, m, cur, rfl, rfl, hd, hm⟩ := hrel
      have HM := hide hm
      have HD := hide hd
      clear hm
      have i0 : (0 : Int) ≤ (i : Int) := by omega
      have m0 : (0 : Int) ≤ (m : Int) := by omega
      have hi := hd.lt
      have hm1 := hd.le
      have hcl := hd.len
      clear hd
      by_cases hm2 : m < ls.length
      · have m1 : (m : Int) < (ls.length : Int) := by omega
        have i1 : i < ls.length := by omega
        have i2 : (i : Int) < (ls.length : Int) := by omega
        obtain ⟨x, hx, hxl⟩ := HD.out.at_ hm2
        obtain ⟨ho, o1, o2⟩ := HOK.out x (List.mem_of_getElem? hxl)
        have HX := hide (And.intro hx hxl)
        clear hx hxl
        have hcn : ∀ p ∈ cur, (tV p).length = 23 := fun p hp => tC_len (HOK.out p (HD.out.mem p hp)).1
        have HCN := hide hcn
        clear hcn
        go_wp2_with (first | ((with_reducible refine at_slot 24 ?_); (refine wpList_value (o := ⟨some 24, _, _, _, _, _⟩) rfl (.pointer (some ⟨g, m * 23, none⟩)) wo (exec_idx0 (o := ⟨some 24, _, _, _, _, _⟩) 25 43 (.tmp 22) (.tmp 23) rfl g ls.length cap m rfl rfl hm2 23 Try.underlying25 sz_itm wo) ?_)) | ((with_reducible refine at_slot 25 ?_); (refine wpList_value (o := ⟨some 25, _, _, _, _, _⟩) rfl (.agg (tV x).toArray) wo (exec_load_mid (o := ⟨some 25, _, _, _, _, _⟩) 43 (.tmp 24) rfl g (m * 23) rfl (tV x) _ wo (own_at (l := cur) (f := tV) (x := x) (k := m) (by decide) (by rw [hcl]; exact (Mem.own HM.out 0 rfl)) HCN.out HX.out.1) Try.underlying43 rfl (tC_szl ho)) ?_)) | ((with_reducible refine at_slot 7 ?_); (refine wpList_newZ (o := ⟨some 7, _, _, _, _, _⟩) rfl 43 zcT (by kernel_rfl) ?_); intro w1 hn; have H1 := hide (Mem.new1 HM.out hn); clear hn; simp only [Act.put, List.setIfInBounds_toArray, List.set_cons_zero, List.set_cons_succ]) | ((with_reducible refine at_store 7 25 ?_); (with_reducible refine wpList_store_blkA (o := ⟨none, _, _, _, _, _⟩) rfl 43 (.tmp 7) (.tmp 25) rfl wo.heap.size zcT (tV x).toArray 43 (Mem.blk H1.out 0 rfl) ?_ ?_ ?_ ?_ ?_ ?_); (exact (tC_sz ho)); (exact sz_eq zcT_sz (tC_sz ho)); (exact (tC_1 x.1 o1 o2)); rfl; rfl; intro w2 hk hg; have H2 := hide (Mem.st H1.out 0 rfl hk hg); clear hk hg; simp only [Act.put, List.setIfInBounds_toArray, List.set_cons_zero, List.set_cons_succ]) | ((with_reducible refine at_slot 27 ?_); (refine wpList_value (o := ⟨some 27, _, _, _, _, _⟩) rfl (.agg (tV x).toArray) w2 (exec_load_mid (o := ⟨some 27, _, _, _, _, _⟩) 43 (.tmp 7) rfl wo.heap.size (0) rfl (tV x) _ w2 (Blk.range (Mem.blk H2.out 0 rfl)) Try.underlying43 rfl (tC_szl ho)) ?_)))
        refine (HCL.out w2 x (Mem.below H2.out) (List.mem_of_getElem? HX.out.2)).mono ?_
        rintro e w3 ⟨rfl, hb⟩
        dsimp only
        have H3 := hide (Mem.call H2.out hb)
        clear hb
        cases hq : q x.1
        · have HQ := hide hq
          clear hq
          go_wp2_with (first | ((with_reducible refine at_slot 32 ?_); (refine wpList_value (o := ⟨some 32, _, _, _, _, _⟩) rfl (.agg (tV x).toArray) w3 (exec_load_mid (o := ⟨some 32, _, _, _, _, _⟩) 43 (.tmp 7) rfl wo.heap.size (0) rfl (tV x) _ w3 (Blk.range (Mem.blk H3.out 0 rfl)) Try.underlying43 rfl (tC_szl ho)) ?_)) | ((with_reducible refine at_slot 33 ?_); (refine wpList_value (o := ⟨some 33, _, _, _, _, _⟩) rfl (.pointer (some ⟨g, i * 23, none⟩)) w3 (exec_idx0 25 43 (.tmp 30) (.tmp 31) rfl g ls.length cap i rfl rfl i1 23 Try.underlying25 sz_itm w3) ?_)) | ((with_reducible refine at_store 33 32 ?_); (refine wpList_storeRow (o := ⟨none, _, _, _, _, _⟩) rfl 43 (.tmp 33) (.tmp 32) rfl (Mem.own H3.out 1 rfl) (tV x) i1 (tC_len ho) (tC_sz ho) (tC_1 x.1 o1 o2) rfl rfl ?_); intro w9 ho9 hg9 hz9; simp only [Act.put, List.setIfInBounds_toArray, List.set_cons_zero, List.set_cons_succ]))
          rw [← flatMap_set cur i x HCN.out (by omega)] at ho9
          have H9 := hide (Mem.app H3.out 1 rfl ho9 hg9 (.inl rfl))
          clear ho9 hg9 hz9
          go_wp2_with fail
          go_roundw
          case rel => exact ⟨i + 1, m + 1, cur.set i x, by go_num, by go_num, HD.out.in_ HX.out.2 HQ.out, Mem.pick H9.out [1] (by decide) rfl⟩
          case measure => simp [intOf]; omega
        · have HQ := hide hq
          clear hq
          go_wp2_with fail
          go_roundw
          case rel => exact ⟨i, m + 1, cur, rfl, by go_num, HD.out.out HX.out.2 HQ.out, Mem.pick H3.out [1] (by decide) rfl⟩
          case measure => simp [intOf]; omega
      · obtain rfl : m = ls.length := by omega
        have i1 : i < ls.length := by omega
        have i3 : i < cap := by omega
        have i2 : (i : Int) < (ls.length : Int) := by omega
        go_wp2_with (first | ((with_reducible refine at_slot 38 ?_); (refine wpList_value (o := ⟨some 38, _, _, _, _, _⟩) rfl (.slice (some ⟨g, i * 23, none⟩) (ls.length - i) (cap - i)) wo (exec_sliceFrom0 25 43 23 (.tmp 36) (.tmp 37) rfl g ls.length cap i rfl rfl Try.underlying25 sz_itm (Nat.le_of_lt i1) hcap i3 wo) ?_)) | ((refine wpList_clearRow (o := ⟨none, _, _, _, _, _⟩) rfl 25 43 (.tmp 38) rfl Try.underlying25 (z := .agg zcT) (fun w => by kernel_rfl) zcT_1 (s := 23) rfl (by decide) (Mem.own HM.out 0 rfl) i1 (c := cap - i) rfl ?_); intro w9 ho9 hg9; simp only [Act.put, List.setIfInBounds_toArray, List.set_cons_zero, List.set_cons_succ]))
        have hcn : ∀ p ∈ cur, (tV p).length = 23 := fun p hp => tC_len (HOK.out p (HD.out.mem p hp)).1
        rw [show (cur.flatMap tV).take (i * 23) = (ls.filter fun p => !q p.1).flatMap tV from by rw [flatMap_take9 cur i hcn, HD.out.head, List.take_length]] at ho9
        have hil : i = (ls.filter fun p => !q p.1).length := by have := congrArg List.length HD.out.head; rw [List.take_length, List.length_take] at this; omega
        have H9 := hide (Mem.app HM.out 0 rfl ho9 hg9 (.inl rfl))
        clear ho9 hg9
        go_wp2_with (((with_reducible refine at_slot 41 ?_); (refine wpList_value (o := ⟨some 41, _, _, _, _, _⟩) rfl (.slice (some ⟨g, 0, none⟩) i cap) w9 (exec_sliceTo 25 43 23 (.tmp 39) (.tmp 40) rfl (some ⟨g, 0, none⟩) ls.length cap i rfl rfl Try.underlying25 sz_itm (by omega) w9) ?_)))
        go_ret
        exact ⟨_, rfl, by rw [← hil]; exact Mem.pick H9.out [0] (by decide) rfl⟩
end Go.Proofs.Ytidiepbmbbflhaa
end
section
namespace Go.Proofs.Ytidiepbmbbflhaa
open Go Go.RowKit Go.Maps
set_option maxRecDepth 100000
theorem MarkI.same {m : List (Hsh × Nat)} {f g : Hsh → Bool} (h : MarkI m f) (e : ∀ c, f c = g c) : MarkI m g := fun c => by rw [← e c]; exact h c
theorem ask_nil (l : List Itm) (c : Hsh) : askP l [] c = false := rfl
theorem ask_step {l : List Itm} {keep : List Hsh} {j : Nat} {k : Hsh} (h : keep[j]? = some k) (c : Hsh) : askP l (keep.take (j + 1)) c = (askP l (keep.take j) c || decide (c ∈ needsL l k)) := by
  unfold askP
  rw [List.take_add_one, h, List.any_append]
  simp
/-- what is marked while the needs of one are marked -/
def askN (l : List Itm) (keep ns : List Hsh) (j i : Nat) (c : Hsh) : Bool := askP l (keep.take j) c || decide (c ∈ ns.take i)
theorem askN_0 (l : List Itm) (keep ns : List Hsh) (j : Nat) (c : Hsh) : askP l (keep.take j) c = askN l keep ns j 0 c := by unfold askN; simp
theorem askN_step {l : List Itm} {keep ns : List Hsh} {j i : Nat} {x : Hsh} (h : ns[i]? = some x) (c : Hsh) : (askN l keep ns j i c || decide (c = x)) = askN l keep ns j (i + 1) c := by
  unfold askN
  rw [Bool.or_assoc, List.take_add_one, h]
  congr 1
  by_cases h1 : c ∈ ns.take i <;> by_cases h2 : c = x <;> simp [h1, h2]
theorem askN_all {l : List Itm} {keep : List Hsh} {j : Nat} {k : Hsh} (h : keep[j]? = some k) (c : Hsh) : askN l keep (needsL l k) j (needsL l k).length c = askP l (keep.take (j + 1)) c := by
  unfold askN
  rw [List.take_length, ask_step h]
theorem keep_filter {l : List Itm} {keep : List Hsh} {ls : List ItmV} (h : ls.map (·.1) = l) : (ls.filter fun p => !(!askP l keep p.1.1)).map (·.1) = keepP l keep := by
  subst h
  unfold keepP
  rw [List.filter_map]
  simp only [Bool.not_not]
  rfl
set_option maxHeartbeats 2000000 in
theorem drop_yes (w : World) (l : List Itm) (A : Option Addr) (cap : Nat) (h : itmsLay.At w w.heap.size [.slice A l.length cap] l) (hl : ∀ x ∈ l, x.2.2.1.length ≤ 1000000 ∧ x.2.2.2.length ≤ 1000000) (hn : l.length ≤ 1000000) (keep : List Hsh) (K : Option Addr) (kc : Nat) (hk : hashesLay.At w w.heap.size [.slice K keep.length kc] keep) (hkn : keep.length ≤ 1000000) (ht : tabP hofP l = true) :
    Calls Try.prog 14 #[.slice A l.length cap, .slice K keep.length kc] w fun e w' => ∃ A' c' ls, e = .returned (.tuple #[.slice A' (keepP l keep).length c', .int .i64 0]) ∧ ls.map (·.1) = keepP l keep ∧ Mem w w' (itmsL w.heap.size (.slice A' (keepP l keep).length c') ls) := by
  obtain ⟨_, ls, hls, hok, hsrc⟩ := itms_open h
  have hokl : ∀ x ∈ l, okH x.1 := fun x hx => by
    rw [← hls] at hx
    obtain ⟨p, hp, rfl⟩ := List.mem_map.1 hx
    exact (hok p hp).1
  have HIT := hide h
  have HLS := hide hls
  have HOK := hide hok
  have HSR := hide hsrc
  have HOL := hide hokl
  have HT := hide ht
  have hlsn : ls.length = l.length := by rw [← hls, List.length_map]
  obtain ⟨K', kc', e, _, _, _, hK⟩ := slice_open hk
  injection e with e1 e2 e3
  subst e1 e3
  have HK := hide hK
  clear h hls hok hsrc hokl ht hk hK e2
  have H0 := hide (Mem.start w)
  go_enter Try.func14, Try.ntmps14
  go_wp2_with fail
  refine (tableB w l A cap (itms_alike HIT.out (Mem.below H0.out)) (fun x hx => (hl x hx).1) true HT.out).mono ?_
  rintro e w1 ⟨rfl, hb⟩
  dsimp only
  have H1 := hide (Mem.call H0.out hb)
  clear hb
  go_wp2_with (first | ((with_reducible refine at_makeMap 16 ?_); ((with_reducible refine at_slot 16 ?_); refine wpList_makeMapN (o := ⟨some 16, _, _, _, _, _⟩) hV okH evN rfl 61 rfl ?_); intro w2 hn; have H2 := hide (Mem.newMap H1.out hn); clear hn; simp only [Act.put, List.setIfInBounds_toArray, List.set_cons_zero, List.set_cons_succ]) | ((with_reducible refine at_slot 6 ?_); (refine wpList_newZ (o := ⟨some 6, _, _, _, _, _⟩) rfl 61 #[.map none] (by kernel_rfl) ?_); intro w3 hn; have H3 := hide (Mem.new1 H2.out hn); clear hn; simp only [Act.put, List.setIfInBounds_toArray, List.set_cons_zero, List.set_cons_succ]) | ((with_reducible refine at_store 6 16 ?_); (refine wpList_store1 (o := ⟨none, _, _, _, _, _⟩) rfl 61 (.tmp 6) (.tmp 16) rfl w2.heap.size (0) 61 #[.map none] (Mem.blk H3.out 0 rfl) (Nat.le_of_ble_eq_true rfl) (by kernel_rfl) (.map (some w1.heap.size)) rfl rfl rfl ?_); intro w4 hk hg hz; have H4 := hide (Mem.st (cs' := ([.map (some w1.heap.size)]).toArray) H3.out 0 rfl hk hg); clear hk hg hz; simp only [Act.put, List.setIfInBounds_toArray, List.set_cons_zero, List.set_cons_succ]))
  go_wp2_with fail
  go_loopw [19] (fun x19 wr => ∃ (j : Nat) (m : List (Hsh × Nat)), j ≤ keep.length ∧ x19 = .int .i64 (j : Int) ∧ MarkI m (askP l (keep.take j)) ∧ Mem w wr [blkE w2.heap.size 61 [.map (some w1.heap.size)].toArray, mapE hV okH evN w1.heap.size m]) (fun x19 _ => keep.length - (intOf x19).toNat)
  case atStart => exact ⟨0, [], by omega, rfl, MarkI.nil.same (fun c => (ask_nil l c).symm), H4.out⟩
  case round =>
    obtain ⟨wo, rfl⟩ : ∃ wo, wo = wr := ⟨_, rfl⟩
    obtain ⟨j, m, hj, rfl, hmk, hm⟩ := hrel
    have HM := hide hm
    have HMK := hide hmk
    clear hm hmk
    have j0 : (0 : Int) ≤ (j : Int) := by omega
    by_cases hj2 : j < keep.length
    · have j1 : (j : Int) < (keep.length : Int) := by omega
      obtain ⟨k, hk⟩ : ∃ k, keep[j]? = some k := ⟨_, List.getElem?_eq_getElem (by omega)⟩
      obtain ⟨b, off, rfl, hltb, hE⟩ := HK.out (by omega)
      obtain ⟨cs, hrk, hatk⟩ := hE j k hk
      clear hE
      obtain ⟨rfl, hko⟩ := hashLay_at.1 hatk
      have HX := hide (And.intro hrk (And.intro hltb hk))
      clear hrk hltb hk hatk
      go_wp2_with (first | ((with_reducible refine at_slot 21 ?_); (refine wpList_value (o := ⟨some 21, _, _, _, _, _⟩) rfl (.pointer (some ⟨b, off + j * 20, none⟩)) wo (exec_idxO (o := ⟨some 21, _, _, _, _, _⟩) 45 27 (.tmp 17) (.tmp 19) rfl b off keep.length kc j rfl rfl hj2 20 Try.underlying45 sz_hashD wo) ?_)) | ((with_reducible refine at_slot 22 ?_); (refine wpList_value (o := ⟨some 22, _, _, _, _, _⟩) rfl (.agg (bv k).toArray) wo (exec_load_mid (o := ⟨some 22, _, _, _, _, _⟩) 27 (.tmp 21) rfl b (off + j * 20) rfl (bv k) _ wo (Mem.range HM.out HX.out.1 HX.out.2.1) Try.underlying27 rfl (hszL hko)) ?_)) | ((with_reducible refine at_slot 8 ?_); (refine wpList_newZ (o := ⟨some 8, _, _, _, _, _⟩) rfl 27 zcH (by kernel_rfl) ?_); intro w5 hn; have H5 := hide (Mem.new1 HM.out hn); clear hn; simp only [Act.put, List.setIfInBounds_toArray, List.set_cons_zero, List.set_cons_succ]) | ((with_reducible refine at_store 8 22 ?_); (with_reducible refine wpList_store_blkA (o := ⟨none, _, _, _, _, _⟩) rfl 27 (.tmp 8) (.tmp 22) rfl wo.heap.size zcH (bv k).toArray 27 (Mem.blk H5.out 0 rfl) ?_ ?_ ?_ ?_ ?_ ?_); (exact (hszD hko)); (exact sz_eq zcH_sz (hszD hko)); (exact (bv_1 k)); rfl; rfl; intro w6 hk hg; have H6 := hide (Mem.st H5.out 0 rfl hk hg); clear hk hg; simp only [Act.put, List.setIfInBounds_toArray, List.set_cons_zero, List.set_cons_succ]) | ((with_reducible refine at_slot 25 ?_); (refine wpList_value (o := ⟨some 25, _, _, _, _, _⟩) rfl (.agg (bv k).toArray) w6 (exec_load_mid (o := ⟨some 25, _, _, _, _, _⟩) 27 (.tmp 8) rfl wo.heap.size (0) rfl (bv k) _ w6 (Blk.range (Mem.blk H6.out 0 rfl)) Try.underlying27 rfl (hszL hko)) ?_)))
      refine (needs_any w6 l A cap (itms_alike HIT.out (Mem.below H6.out)) (fun x hx => (hl x hx).1) hn k hko).mono ?_
      rintro e w7 ⟨u7, rfl, hu, hb⟩
      dsimp only
      have H7 := hide (Mem.seq H6.out (own_made hu hb))
      obtain ⟨A2, c2, rfl⟩ := own_len hu
      clear hu hb
      go_wp2_with fail
      go_loopw [31] (fun x31 wr => ∃ (i : Nat) (m2 : List (Hsh × Nat)), i ≤ (needsL l k).length ∧ x31 = .int .i64 (i : Int) ∧ MarkI m2 (askN l keep (needsL l k) j i) ∧ Mem w wr [ownE w6.heap.size 27 20 (.slice A2 (needsL l k).length c2) (needsL l k).length ((needsL l k).flatMap bv), blkE w2.heap.size 61 [.map (some w1.heap.size)].toArray, mapE hV okH evN w1.heap.size m2]) (fun x31 _ => (needsL l k).length - (intOf x31).toNat)
      case atStart => exact ⟨0, m, by omega, rfl, HMK.out.same (askN_0 l keep _ j), Mem.pick H7.out [0, 2, 3] (by decide) rfl⟩
      case round =>
        obtain ⟨wi, rfl⟩ : ∃ wi, wi = wr := ⟨_, rfl⟩
        obtain ⟨i, m2, hi, rfl, hmk, hm⟩ := hrel
        have HI := hide hm
        have HIK := hide hmk
        clear hm hmk
        have hnl := needsL_len (l := l) k
        have i0 : (0 : Int) ≤ (i : Int) := by omega
        by_cases hi2 : i < (needsL l k).length
        · have i1 : (i : Int) < ((needsL l k).length : Int) := by omega
          obtain ⟨z, hz⟩ : ∃ z, (needsL l k)[i]? = some z := ⟨_, List.getElem?_eq_getElem hi2⟩
          have hzo : okH z := needsL_ok HOL.out k z (List.mem_of_getElem? hz)
          have hbl : ∀ x ∈ needsL l k, (bv x).length = 20 := fun x hx => by rw [bvL]; exact needsL_ok HOL.out k x hx
          have HBL := hide hbl
          clear hbl
          obtain ⟨g, rfl, hg, hcap, _⟩ := own_len9 (by decide) (Mem.own HI.out 0 rfl) HBL.out hz
          have HZ := hide hz
          clear hz
          go_wp2_with (first | ((with_reducible refine at_slot 33 ?_); (refine wpList_value (o := ⟨some 33, _, _, _, _, _⟩) rfl (.pointer (some ⟨g, i * 20, none⟩)) wi (exec_idx0 (o := ⟨some 33, _, _, _, _, _⟩) 45 27 (.tmp 29) (.tmp 31) rfl g (needsL l k).length c2 i rfl rfl hi2 20 Try.underlying45 sz_hashD wi) ?_)) | ((with_reducible refine at_slot 34 ?_); (refine wpList_value (o := ⟨some 34, _, _, _, _, _⟩) rfl (.agg (bv z).toArray) wi (exec_load_mid (o := ⟨some 34, _, _, _, _, _⟩) 27 (.tmp 33) rfl g (i * 20) rfl (bv z) _ wi (own_at (l := needsL l k) (f := bv) (x := z) (k := i) (by decide) (Mem.own HI.out 0 rfl) HBL.out HZ.out) Try.underlying27 rfl (hszL hzo)) ?_)) | ((with_reducible refine at_slot 12 ?_); (refine wpList_newZ (o := ⟨some 12, _, _, _, _, _⟩) rfl 27 zcH (by kernel_rfl) ?_); intro w8 hn; have H8 := hide (Mem.new1 HI.out hn); clear hn; simp only [Act.put, List.setIfInBounds_toArray, List.set_cons_zero, List.set_cons_succ]) | ((with_reducible refine at_store 12 34 ?_); (with_reducible refine wpList_store_blkA (o := ⟨none, _, _, _, _, _⟩) rfl 27 (.tmp 12) (.tmp 34) rfl wi.heap.size zcH (bv z).toArray 27 (Mem.blk H8.out 0 rfl) ?_ ?_ ?_ ?_ ?_ ?_); (exact (hszD hzo)); (exact sz_eq zcH_sz (hszD hzo)); (exact (bv_1 z)); rfl; rfl; intro w9 hk hg; have H9 := hide (Mem.st H8.out 0 rfl hk hg); clear hk hg; simp only [Act.put, List.setIfInBounds_toArray, List.set_cons_zero, List.set_cons_succ]) | ((with_reducible refine at_slot 35 ?_); (refine wpList_value (o := ⟨some 35, _, _, _, _, _⟩) rfl (.map (some w1.heap.size)) w9 (exec_load_cell (o := ⟨some 35, _, _, _, _, _⟩) 61 (.tmp 6) rfl ⟨w2.heap.size, 0, none⟩ rfl _ _ w9 Try.underlying61 rfl (range_cell (Blk.range (Mem.blk H9.out 2 rfl)))) ?_)) | ((with_reducible refine at_slot 36 ?_); (refine wpList_value (o := ⟨some 36, _, _, _, _, _⟩) rfl (.agg (bv z).toArray) w9 (exec_load_mid (o := ⟨some 36, _, _, _, _, _⟩) 27 (.tmp 12) rfl wi.heap.size (0) rfl (bv z) _ w9 (Blk.range (Mem.blk H9.out 0 rfl)) Try.underlying27 rfl (hszL hzo)) ?_)) | ((with_reducible refine at_mapUpdate 35 36 ?_); (refine wpList_mapPut (o := ⟨none, _, _, _, _, _⟩) rfl 61 (.tmp 35) (.tmp 36) (.const (.int .i64 1)) rfl hash_enc (Mem.map H9.out 3 rfl) (key := z) hzo Try.underlying61 (1 : Nat) rfl rfl rfl ?_); intro w10 hm9 ht9; have H10 := hide (Mem.putMap H9.out 3 rfl hm9 ht9); clear hm9 ht9; simp only [Act.put, List.setIfInBounds_toArray, List.set_cons_zero, List.set_cons_succ]))
          go_wp2_with fail
          go_roundw
          case rel => exact ⟨i + 1, mput m2 z 1, by omega, by go_num, (HIK.out.put z).same (askN_step HZ.out), Mem.pick H10.out [1, 2, 3] (by decide) rfl⟩
          case measure => simp [intOf]; omega
        · obtain rfl : i = (needsL l k).length := by omega
          go_wp2_with fail
          go_roundw
          case rel => exact ⟨j + 1, m2, by omega, by go_num, HIK.out.same (askN_all HX.out.2.2), Mem.pick HI.out [1, 2] (by decide) rfl⟩
          case measure => simp [intOf]; omega
    · obtain rfl : j = keep.length := by omega
      rw [List.take_length] at HMK
      go_wp2_with fail
      have hc := cloneI_any wo ls A cap (SrcN.below HSR.out (Mem.below HM.out)) (by omega)
      rw [hlsn] at hc
      refine hc.mono ?_
      rintro e w7 ⟨u7, rfl, hm7⟩
      dsimp only
      obtain ⟨A7, c7, rfl⟩ := own_len (Mem.own hm7 0 rfl)
      have H7 := hide hm7
      clear hm7 hc
      go_wp2_with fail
      have hcl : ClosI wo w2.heap.size ls (fun x => !askP l keep x.1) := fun W p hb hp => drop1_any wo W w2.heap.size (w1.heap.size) m (askP l keep) (Blk.range (cs := [.map (some w1.heap.size)]) (Mem.blk HM.out 0 rfl)) (Blk.lt (Mem.blk HM.out 0 rfl)) (Mem.map HM.out 1 rfl) HMK.out hb p.1 p.2.1 p.2.2 (HOK.out p hp).1 (HOK.out p hp).2.ones.1 (HOK.out p hp).2.ones.2
      have hd := delI_any wo w7 wo.heap.size c7 (w2.heap.size) A7 ls (fun x => !askP l keep x.1) (by rw [hlsn]; exact H7.out) (fun p hp => ⟨(HOK.out p hp).1, (HOK.out p hp).2.ones⟩) hcl (by omega)
      rw [hlsn] at hd
      refine hd.mono ?_
      rintro e w8 ⟨u8, rfl, hm8⟩
      dsimp only
      have hk8 : (ls.filter fun p => !(!askP l keep p.1.1)).length = (keepP l keep).length := by rw [← keep_filter HLS.out, List.length_map]
      have hi8 : itmsLay.At w8 w8.heap.size [u8] (keepP l keep) := by
        rw [← keep_filter HLS.out]
        exact own_sliceB (by decide) (Mem.own hm8 0 rfl) _ (Nat.le_refl _) (fun p hp => itmLay_at.2 ⟨p.2.1, p.2.2, rfl, (HOK.out p (List.mem_filter.1 hp).1).1, (HOK.out p (List.mem_filter.1 hp).1).2.alike9 ((Mem.below HM.out).trans (Below.mono (Mem.below hm8) (Mem.below HM.out).size))⟩)
      rw [hk8] at hm8
      obtain ⟨A8, c8, rfl⟩ := own_len (Mem.own hm8 0 rfl)
      have H8 := hide ((Mem.below HM.out).trans (Below.mono (Mem.below hm8) (Mem.below HM.out).size))
      have HI8 := hide hi8
      clear hm8 hi8 hd hcl
      go_wp2_with fail
      refine (copied_any w8 (keepP l keep) A8 c8 HI8.out (fun x hx => hl x (keep_mem.1 hx).1) (by have := List.length_filter_le (fun x => askP l keep x.1) l; unfold keepP; omega)).mono ?_
      rintro e w9 ⟨u9, ls9, rfl, hls9, hm9⟩
      dsimp only
      obtain ⟨A9, c9, rfl⟩ := own_len (Mem.own hm9 0 rfl)
      have hn9 : ls9.length = (keepP l keep).length := by rw [← hls9, List.length_map]
      rw [hn9] at hm9
      rw [hn9]
      have H9 := hide hm9
      have HL9 := hide hls9
      clear hm9 hls9
      go_wp2_with fail
      refine bodyPost_ret (results_two (r1 := .tmp 4) (r2 := .tmp 5) rfl ⟨rfl, rfl, trivial⟩) rfl ?_
      exact ⟨A9, c9, ls9, rfl, HL9.out, Mem.pick (Mem.seq ((Mem.start w).call H8.out) (itms_lower H9.out H8.out.size)) [0, 1] (by decide) rfl⟩
set_option maxHeartbeats 1000000 in
theorem drop_no (w : World) (l : List Itm) (A : Option Addr) (cap : Nat) (h : itmsLay.At w w.heap.size [.slice A l.length cap] l) (hl : ∀ x ∈ l, x.2.2.1.length ≤ 1000000 ∧ x.2.2.2.length ≤ 1000000) (u : Value) (ht : tabP hofP l = false) :
    Calls Try.prog 14 #[.slice A l.length cap, u] w fun e w' => e = .returned (.tuple #[.slice none 0 0, .int .i64 2]) ∧ Below w.heap.size w w' := by
  have H0 := hide (Mem.start w)
  go_enter Try.func14, Try.ntmps14
  go_wp2_with fail
  refine (tableB w l A cap (itms_alike h (Mem.below H0.out)) (fun x hx => (hl x hx).1) false ht).mono ?_
  rintro e w1 ⟨rfl, hb⟩
  dsimp only
  have H1 := hide (Mem.call H0.out hb)
  clear hb
  go_wp2_with fail
  refine bodyPost_ret (results_two (r1 := .tmp 4) (r2 := .tmp 5) rfl ⟨rfl, rfl, trivial⟩) rfl ?_
  exact ⟨rfl, Mem.below H1.out⟩
end Go.Proofs.Ytidiepbmbbflhaa
end
section
namespace Go.Proofs.Ytidiepbmbbflhaa
open Go Go.RowKit
section
variable {w0 w w1 W : World} {L : List Ent}
/-- the memory but for a row that something turns -/
theorem Mem.away2 {B n s : Nat} {t : TypeId} {u : Value} {xs : List Value} (h : Mem w0 w L) (i : Nat) (hi : L[i]? = some (ownE B t s u n xs)) (hg : w.grownBy w1 u.ownBlock) : Mem w0 w1 (L.set i Ent.no) :=
  h.upd i hi hg (fun _ hb => hb) (fun _ _ _ _ => trivial) trivial fun _ hf => False.elim hf
/-- a row that has grown: in its place, or in a new one -/
def GrownR (B base : Nat) (ty : TypeId) (s : Nat) (u0 : Value) (k : Nat) (xs : List Value) (u : Value) (w : World) : Prop := w.ownsRow base ty s u k xs ∧ ∀ b, u.ownBlock = some b → u0.ownBlock = some b ∨ B ≤ b
theorem grownR_keep {B base s k : Nat} {ty : TypeId} {u0 u : Value} {xs : List Value} {w w' : World} (h : GrownR B base ty s u0 k xs u w) (hb : Below w.heap.size w w') : GrownR B base ty s u0 k xs u w' := ⟨owned_keepN h.1 fun _ _ hl => hb.block _ hl, h.2⟩
theorem grownR_new {P : Program} {ρ : Operand → Value} {o : Oper} (x y : Operand) (st ty : TypeId) (ho : o.op = .call { callee := .builtin .append, args := #[x, y], argTypes := #[st, st] }) {t : Tmp} {base s bytes n : Nat} {z u0 : Value} {xs news : List Value} (hst : P.underlying st = some (.slice ty)) (hinf : (P.info? ty).map (fun i => (i.zero, i.size, i.bytes)) = some (some z, s, bytes)) (hzs : z.cells.size = s) (hs0 : 0 < s)
    (hm : Mem w0 w L) (i : Nat) (hi : L[i]? = some (ownE base ty s u0 n xs)) (hbs : base ≤ w.heap.size) (hW : Two.GX (Two.G1 t u0.ownBlock) (Two.RowK base ty s u0 n xs) w W) {ad : Addr} {m c : Nat} (hm0 : 0 < m) (hx : ρ x = u0) (hy : ρ y = .slice (some ad) m c) (hsr : SrcN W s (some ad) m c news) (h63 : n + m ≤ maxLen) (hby : (n + m) * bytes ≤ 140737488355328) :
    ∃ u' w', (execOp ρ o).run P W = .ok (.value u') w' ∧ Two.GY (Two.G1 t u0.ownBlock) (Two.RowK base ty s u0 n xs) (some t) W w' ∧ GrownR w.heap.size base ty s u0 (n + m) (xs ++ news) u' w' := by
  have hown : W.ownsRow base ty s u0 n xs := hW.keep (hm.own i hi)
  obtain ⟨inm, hih, hq0, hq1, hq2⟩ := info_parts hinf
  obtain ⟨v', w', k1, k2, k3, k4⟩ := run_appG (P := P) base st o.type ty inm _ s bytes hst hih hq0 hq1 hq2 hzs hs0 u0 n _ hown ad m c _ hsr.len (hsr.cells _ rfl) hsr.one hm0 h63 hby (Nat.le_trans hbs hW.size)
  refine ⟨v', w', ?_, Two.GY.of_grown k3 fun _ => ?_, k2, fun b hb => ?_⟩
  · unfold execOp
    simp only [ho, resolve, invoke, builtin, Sem.run_bind, Sem.run_pure, Result.andThen_ok, List.map_toArray, List.map_cons, List.map_nil, hx, hy, k1]
  · rcases k4 with ⟨g, cap, e1, e2⟩ | ⟨_, hb⟩
    · rw [e2] at k2
      have h9 := own_cutN k2 (Nat.le_add_right n m)
      rw [List.take_append_of_le_length (by rw [hown.1]; exact Nat.le_refl _), List.take_of_length_le (by rw [hown.1]; exact Nat.le_refl _)] at h9
      rw [e1]
      exact h9
    · exact owned_keepN hown fun _ _ hl => hb.block _ hl
  · rcases k4 with ⟨g, cap, e1, e2⟩ | ⟨e1, _⟩
    · rw [e2] at hb
      rw [e1]
      exact .inl hb
    · rw [e1] at hb
      have := Option.some.inj hb
      have := hW.size
      exact .inr (by omega)
theorem grownR_mem {t : Tmp} {base s n k : Nat} {ty : TypeId} {u0 u : Value} {xs ys : List Value} {K : World → Prop} (hm : Mem w0 w L) (i : Nat) (hi : L[i]? = some (ownE base ty s u0 n xs)) (hx : Two.GX (Two.G1 t u0.ownBlock) K w w1) (hr : GrownR w.heap.size base ty s u0 k ys u w1) : Mem w0 w1 (L.set i (ownE base ty s u k ys)) :=
  hm.upd i hi hx.grown (fun _ h => h) (ownE_ok _ _ _ _ _ _) hr.1 fun b hb => (hr.2 b hb).imp id fun h => ⟨h, (owned_ltN hr.1 hb).2⟩
/-- a row of one thing that a region makes -/
def OneR (B : Nat) (ty : TypeId) (cs : List Value) (u : Value) (w : World) : Prop := ∃ r, u = .slice (some ⟨r, 0, none⟩) 1 1 ∧ B ≤ r ∧ Blk w r ty cs.toArray
theorem oneR_ok (B : Nat) (ty : TypeId) (cs : List Value) : Fre.MadeOk Bel (OneR B ty cs) := ⟨fun _ _ _ ⟨r, h1, h0, h2⟩ hx => ⟨r, h1, h0, h2.below hx h2.lt⟩⟩
theorem oneR_two {B : Nat} {ty : TypeId} {cs : List Value} {u : Value} {r : Option Nat} {w w' : World} (h : OneR B ty cs u w) (hg : w.grownBy w' r) (hr : ∀ b, r = some b → b < B) : OneR B ty cs u w' := by
  obtain ⟨g, h1, h0, h2⟩ := h
  exact ⟨g, h1, h0, (hg.block g h2.lt fun e => by have := hr g e.symm; omega).trans h2⟩
theorem oneR_new {P : Program} {ρ : Operand → Value} {o : Oper} (st ty : TypeId) (x : Operand) (ho : o.op = .buildSlice st 1 #[(0, x)]) {n : Nat} {z : Value} {cs : List Value} {v : Value} (hx : ρ x = v) (hv : v.cells = cs.toArray) (hst : P.underlying st = some (.slice ty)) (hs : (P.info? ty).map (·.size) = some n) (hn : 0 < n) (h24 : n ≤ 16777216) (hz : ∀ w, (zeroValue ty).run P w = .ok z w) (hl : cs.length = n) {B : Nat} (W : World) (hB : B ≤ W.heap.size) :
    ∃ u w', (execOp ρ o).run P W = .ok (.value u) w' ∧ Below W.heap.size W w' ∧ OneR B ty cs u w' :=
  ⟨_, _, exec_buildSliceP (v := v) st x ho hx hst hs hn h24 hz (by rw [hv, List.size_toArray]; exact hl) W, (Below.refl _ W).alloc (Nat.le_refl _) _, _, rfl, hB, by rw [hv]; exact Blk.new _ _ _⟩
theorem OneR.src {n : Nat} {ty : TypeId} {cs : List Value} {r : Nat} {w : World} (h : Blk w r ty cs.toArray) (hl : cs.length = n) (h1 : ∀ v ∈ cs, v.oneCell' = true) : SrcN w n (some ⟨r, 0, none⟩) 1 1 cs := hl ▸ box_src h h1
end
end Go.Proofs.Ytidiepbmbbflhaa
end
section
namespace Go.Proofs.Ytidiepbmbbflhaa
open Go Go.RowKit
def setSegs : List (List Value) → List (Nat × Value) → List (List Value)
  | segs, [] => segs
  | segs, (i, v) :: r => setSegs (segs.set i v.cells.toList) r
theorem flatten_cut : ∀ (segs : List (List Value)) (i : Nat) (s l : List Value), segs[i]? = some s → (segs.set i l).flatten = segs.flatten.take ((segs.take i).map (·.length)).sum ++ l ++ segs.flatten.drop (((segs.take i).map (·.length)).sum + s.length)
  | [], i, s, l, h => by simp at h
  | x :: segs, 0, s, l, h => by
    simp only [List.getElem?_cons_zero, Option.some.injEq] at h
    subst h
    simp
  | x :: segs, i + 1, s, l, h => by
    rw [List.getElem?_cons_succ] at h
    have ih := flatten_cut segs i s l h
    rw [List.set_cons_succ, List.flatten_cons, ih, List.take_succ_cons, List.map_cons, List.sum_cons, List.flatten_cons]
    rw [List.take_append, List.drop_append]
    have e1 : x.length + ((segs.take i).map (·.length)).sum - x.length = ((segs.take i).map (·.length)).sum := by omega
    have e2 : x.length + ((segs.take i).map (·.length)).sum + s.length - x.length = ((segs.take i).map (·.length)).sum + s.length := by omega
    have e3 : x.drop (x.length + ((segs.take i).map (·.length)).sum + s.length) = [] := List.drop_eq_nil_of_le (by omega)
    have e4 : x.take (x.length + ((segs.take i).map (·.length)).sum) = x := List.take_of_length_le (by omega)
    rw [e1, e2, e3, e4, List.nil_append]
    simp only [List.append_assoc]
theorem flatten_le : ∀ (segs : List (List Value)) (i : Nat) (s : List Value), segs[i]? = some s → ((segs.take i).map (·.length)).sum + s.length ≤ segs.flatten.length
  | [], i, s, h => by simp at h
  | x :: segs, 0, s, h => by
    simp only [List.getElem?_cons_zero, Option.some.injEq] at h
    subst h
    simp
  | x :: segs, i + 1, s, h => by
    rw [List.getElem?_cons_succ] at h
    have ih := flatten_le segs i s h
    rw [List.take_succ_cons, List.map_cons, List.sum_cons, List.flatten_cons, List.length_append]
    omega
theorem fill_segs {place : Nat → Option (Nat × Nat)} (lens : List Nat) (hp : ∀ (i n : Nat), lens[i]? = some n → place i = some ((lens.take i).sum, n)) :
    ∀ (parts : List (Nat × Value)) (segs : List (List Value)), segs.map (·.length) = lens → (∀ p ∈ parts, lens[p.1]? = some p.2.cells.size) → Instr.fill place segs.flatten.toArray parts = some (setSegs segs parts).flatten.toArray
  | [], segs, _, _ => by unfold Instr.fill setSegs; rfl
  | (i, v) :: r, segs, hl, hs => by
    have h1 := hs (i, v) (by simp)
    have h2 : ∃ s, segs[i]? = some s ∧ s.length = v.cells.size := by
      rw [← hl, List.getElem?_map] at h1
      cases hq : segs[i]? with
      | none => rw [hq] at h1; cases h1
      | some s => rw [hq] at h1; exact ⟨s, rfl, Option.some.inj h1⟩
    obtain ⟨s, hsi, hsl⟩ := h2
    have hoff : ((segs.take i).map (·.length)).sum = (lens.take i).sum := by rw [← hl, List.map_take]
    have hcut := flatten_cut segs i s v.cells.toList hsi
    have hle : (lens.take i).sum + v.cells.size ≤ segs.flatten.length := by
      have h3 := flatten_le segs i s hsi
      rw [hoff] at h3
      omega
    rw [fill_part place _ i v r (lens.take i).sum (hp i _ h1) (by simpa using hle)]
    have e : (segs.flatten.toArray.toList.take (lens.take i).sum ++ v.cells.toList ++ segs.flatten.toArray.toList.drop ((lens.take i).sum + v.cells.size)) = (segs.set i v.cells.toList).flatten := by
      rw [hcut, hoff, hsl]
    rw [e]
    have hl2 : (segs.set i v.cells.toList).map (·.length) = lens := by
      rw [List.map_set, hl]
      have : lens.set i v.cells.toList.length = lens := by
        apply List.ext_getElem?
        intro k
        rw [List.getElem?_set]
        split
        · rename_i e2
          subst e2
          have := (List.getElem?_eq_some_iff.1 h1).1
          rw [if_pos this, h1]
          simp
        · rfl
      exact this
    have := fill_segs lens hp r (segs.set i v.cells.toList) hl2 (fun p hpm => hs p (by simp [hpm]))
    rw [this, setSegs]
/-- a struct built: zs, the zero fields; lens, their sizes -/
theorem exec_buildSeg {P : Program} {ρ : Operand → Value} {o : Oper} (t : TypeId) (xs : Array (Nat × Operand)) (ho : o.op = .build t xs) {fields : Array Field} {places : Array (Nat × Nat)} (zs : List (List Value)) (lens : List Nat) (hlz : zs.map (·.length) = lens) (ht : P.underlying t = some (.struct fields)) (hz : ∀ w, (zeroValue t).run P w = .ok (.agg zs.flatten.toArray) w)
    (hpl : ∀ w, (fields.mapM fun f => do pure (f.offset, ← sizeOf f.type) : Sem (Array (Nat × Nat))).run P w = .ok places w) (hpp : (lens.zipIdx.map fun p => ((lens.take p.2).sum, p.1)) = places.toList) (parts : List (Nat × Value)) (hx : (xs.map fun (i, x) => (i, ρ x)) = parts.toArray) (hs : ∀ p ∈ parts, lens[p.1]? = some p.2.cells.size) {cs : List Value} (hcs : (setSegs zs parts).flatten = cs) (w : World) :
    (execOp ρ o).run P w = .ok (.value (.agg cs.toArray)) w := by
  subst hcs
  refine exec_buildN t xs ho ht hz hpl parts hx ?_ w
  refine fill_segs lens (fun i n hi => ?_) parts zs hlz hs
  have h1 : places.toList[i]? = some ((lens.take i).sum, n) := by
    rw [← hpp, List.getElem?_map, List.getElem?_zipIdx, hi]
    simp
  simpa using h1
end Go.Proofs.Ytidiepbmbbflhaa
end
section
namespace Go.Proofs.Ytidiepbmbbflhaa
open Go Go.RowKit Go.Maps
set_option maxRecDepth 100000
/-- the j'th input of a derivation of classes -/
def namH (j : Nat) (h : Hsh) : Nam := (⟨#[UInt8.ofNat (97 + j)]⟩, (List.replicate 20 0, ⟨#[]⟩), h, true)
def ndsH (hs : List Hsh) : List Nam := hs.zipIdx.map fun p => namH p.2 p.1
/-- a derivation of a name, of classes -/
def namedP (s : ByteArray) (hs : List Hsh) : Drv := (s, ndsH hs, [])
/-- its name alone -/
def nameO (s : ByteArray) : Drv := (s, [], [])
theorem namH_ok (j : Nat) {h : Hsh} (hh : okH h) : okN (namH j h) := ⟨by show 1 ≤ maxLen; decide, ⟨rfl, by show 0 ≤ maxLen; decide⟩, hh⟩
theorem ndsH_len (hs : List Hsh) : (ndsH hs).length = hs.length := by simp [ndsH]
theorem ndsH_step {hs : List Hsh} {j : Nat} {h : Hsh} (hh : hs[j]? = some h) : (ndsH (hs.take (j + 1))).flatMap nC = (ndsH (hs.take j)).flatMap nC ++ nC (namH j h) := by
  have hl : (hs.take j).length = j := by
    rw [List.length_take]
    have := (List.getElem?_eq_some_iff.1 hh).1
    omega
  unfold ndsH
  rw [List.take_add_one, hh]
  simp only [Option.toList_some, List.zipIdx_append, hl, List.map_append, List.flatMap_append]
  simp
theorem ndsH_ok {hs : List Hsh} (h : ∀ x ∈ hs, okH x) : ∀ x ∈ ndsH hs, okN x := fun x hx => by
  obtain ⟨p, hp, rfl⟩ := List.mem_map.1 hx
  exact namH_ok _ (h _ (List.mem_of_getElem? (List.mk_mem_zipIdx_iff_getElem?.1 hp)))
theorem exec_inpH {ρ : Operand → Value} {o : Oper} (x y : Operand) (ho : o.op = .build 70 #[(1, x), (2, y)]) {h : Hsh} (hh : okH h) (h1 : ρ x = .agg (bv h).toArray) (h2 : ρ y = .bool true) (w : World) :
    (execOp ρ o).run Try.prog w = .ok (.value (.agg (iC ((List.replicate 20 0, ⟨#[]⟩), h, true)).toArray)) w :=
  exec_buildSeg 70 _ ho [pC (List.replicate 20 0, ⟨#[]⟩), bv (List.replicate 20 0), [.bool false]] [21, 20, 1] rfl (places := #[(0, 21), (21, 20), (41, 1)]) Try.underlying70 (fun w => by kernel_rfl) (fun w => by kernel_rfl) rfl [(1, .agg (bv h).toArray), (2, .bool true)] (by simp [h1, h2]) (fun p hp => by
    simp only [List.mem_cons, List.not_mem_nil, or_false] at hp
    rcases hp with rfl | rfl
    · simp only [Value.cells, List.size_toArray, bvL]
      rw [show h.length = 20 from hh]
      rfl
    · rfl) (by simp [setSegs, Value.cells, iC]) w
theorem exec_namH {ρ : Operand → Value} {o : Oper} (x y : Operand) (ho : o.op = .build 72 #[(0, x), (1, y)]) {j : Nat} {h : Hsh} (hh : okH h) (h1 : ρ x = .string ⟨#[UInt8.ofNat (97 + j)]⟩) (h2 : ρ y = .agg (iC ((List.replicate 20 0, ⟨#[]⟩), h, true)).toArray) (w : World) :
    (execOp ρ o).run Try.prog w = .ok (.value (.agg (nC (namH j h)).toArray)) w := by
  refine Eq.trans (exec_build2 72 x y ho (n1 := 1) (n2 := 42) (z := .agg zcN) h1 h2 Try.underlying72 (fun w => by kernel_rfl) (by kernel_rfl) (fun w => by kernel_rfl) (by rfl) (by simp [Value.cells, iC, pC, bvL]; rw [show h.length = 20 from hh]) w) ?_
  simp [Value.cells, nC, namH]
theorem oneG {run : Value → World → Prop} {V : Value → World → Prop} {W : World} {t : Tmp} {r : Option Nat} {K : World → Prop} [Two.KeptOk K] {d : Option Tmp} (h : ∃ u w', run u w' ∧ Below W.heap.size W w' ∧ V u w') : ∃ u w', run u w' ∧ Two.GY (Two.G1 t r) K d W w' ∧ V u w' := by
  obtain ⟨u, w', h1, h2, h3⟩ := h
  exact ⟨u, w', h1, Two.GY.of_below h2, h3⟩
theorem oneR_text {B : Nat} {u : Value} {W : World} {j : Nat} (hj : 97 + j < 256) (h : OneR B 5 [.int .u8 ((97 + j : Nat) : Int)] u W) : (convert 32 9 u).run Try.prog W = .ok (.string ⟨#[UInt8.ofNat (97 + j)]⟩) W := by
  obtain ⟨r, rfl, _, hb⟩ := h
  have e : ((UInt8.ofNat (97 + j)).toNat : Int) = ((97 + j : Nat) : Int) := by
    rw [UInt8.toNat_ofNat', Nat.mod_eq_of_lt (by omega)]
  refine run_convert_bytes_back (P := Try.prog) W 32 9 5 ⟨r, 0, none⟩ 1 [UInt8.ofNat (97 + j)] Try.underlying32 Try.underlying5 Try.underlying9 fun k hk => ?_
  have hk0 : k = 0 := by simp at hk; omega
  subst hk0
  rw [Addr.add_mid, Nat.zero_add]
  show W.cell? ⟨r, 0, none⟩ = some (.int .u8 ((UInt8.ofNat (97 + j)).toNat : Int))
  rw [e]
  exact hb.cell 0
theorem named_mem {w w' : World} {u : Value} (s : ByteArray) (hs : List Hsh) (hso : s.size ≤ maxLen) (hho : ∀ h ∈ hs, okH h) (hm : Mem w w' [ownE w.heap.size 72 43 u hs.length ((ndsH (hs.take hs.length)).flatMap nC)]) : Mem w w' [drvE w.heap.size (namedP s hs) u (.slice none 0 0)] := by
  have h1 := hm.own 0 rfl
  rw [List.take_length] at h1
  refine hm.refit (e' := drvE w.heap.size (namedP s hs) u (.slice none 0 0)) 0 rfl (drvE_ok _ _ _ _) ⟨hso, ndsH_ok hho, (fun x hx => by cases hx), (show w'.ownsRow _ _ _ _ (ndsH hs).length _ by rw [ndsH_len]; exact h1), World.ownsRow_nil _ _ _ _⟩ fun b hf => ?_
  rcases hf with hf | hf
  · exact hf
  · cases hf
set_option maxHeartbeats 2000000 in
theorem named_any (w : World) (s : ByteArray) (hso : s.size ≤ maxLen) (hs : List Hsh) (A : Option Addr) (cap : Nat) (h : hashesLay.At w w.heap.size [.slice A hs.length cap] hs) (hl9 : hs.length ≤ 100) :
    Calls Try.prog 16 #[.string s, .slice A hs.length cap] w fun e w' => ∃ u, e = .returned (.agg (dC (namedP s hs) u (.slice none 0 0)).toArray) ∧ u.oneCell' = true ∧ Mem w w' [drvE w.heap.size (namedP s hs) u (.slice none 0 0)] := by
  have hho9 : ∀ h ∈ hs, okH h := fun x hx => by
    obtain ⟨cs, hat⟩ := slice_allD h hx
    exact (hashLay_at.1 hat).2
  obtain ⟨A', cap', e, _, _, _, hA⟩ := slice_open h
  injection e with e1 e2 e3
  subst e1 e3
  have HA := hide hA
  clear hA h e2
  have H0 := hide (Mem.start w)
  go_enter Try.func16, Try.ntmps16
  go_wp2_with (first | ((with_reducible refine at_slot 4 ?_); (refine wpList_newZ (o := ⟨some 4, _, _, _, _, _⟩) rfl 34 zcD (by kernel_rfl) ?_); intro w1 hn; have H1 := hide (Mem.new1 H0.out hn); clear hn; simp only [Act.put, List.setIfInBounds_toArray, List.set_cons_zero, List.set_cons_succ]) | ((with_reducible refine at_slot 8 ?_); (refine wpList_value (o := ⟨some 8, _, _, _, _, _⟩) rfl (.agg (dC (nameO s) (.slice none 0 0) (.slice none 0 0)).toArray) w1 (by kernel_rfl) ?_)) | ((with_reducible refine at_slot 5 ?_); (refine wpList_newZ (o := ⟨some 5, _, _, _, _, _⟩) rfl 34 zcD (by kernel_rfl) ?_); intro w2 hn; have H2 := hide (Mem.new1 H1.out hn); clear hn; simp only [Act.put, List.setIfInBounds_toArray, List.set_cons_zero, List.set_cons_succ]) | ((with_reducible refine at_store 5 8 ?_); (with_reducible refine wpList_store_blkA (o := ⟨none, _, _, _, _, _⟩) rfl 34 (.tmp 5) (.tmp 8) rfl w1.heap.size zcD (dC (nameO s) (.slice none 0 0) (.slice none 0 0)).toArray 34 (Mem.blk H2.out 0 rfl) ?_ ?_ ?_ ?_ ?_ ?_); (exact (dC_sz (nameO s) (.slice none 0 0) (.slice none 0 0))); (exact sz_eq zcD_sz (dC_sz (nameO s) (.slice none 0 0) (.slice none 0 0))); (exact (dC_1 (nameO s) rfl rfl)); rfl; rfl; intro w3 hk hg; have H3 := hide (Mem.st H2.out 0 rfl hk hg); clear hk hg; simp only [Act.put, List.setIfInBounds_toArray, List.set_cons_zero, List.set_cons_succ]))
  go_loopw [6] (fun x6 wr => ∃ (j : Nat) (u : Value), j ≤ hs.length ∧ x6 = .int .i64 (j : Int) ∧ Mem w wr [ownE w.heap.size 72 43 u j ((ndsH (hs.take j)).flatMap nC), blkE w1.heap.size 34 (dC (nameO s) u (.slice none 0 0)).toArray, blkE w.heap.size 34 zcD]) (fun x6 _ => hs.length - (intOf x6).toNat)
  case atStart => exact ⟨0, _, by omega, rfl, (Mem.nilRow H3.out _ _ _).pick [0, 1, 2] (by decide) rfl⟩
  case round =>
    obtain ⟨wo, rfl⟩ : ∃ wo, wo = wr := ⟨_, rfl⟩
    obtain ⟨j, u, hj, rfl, hm⟩ := hrel
    have HM := hide hm
    have hu1 : u.oneCell' = true := by obtain ⟨A9, c9, e9⟩ := own_len (Mem.own hm 0 rfl); rw [e9]; rfl
    clear hm
    have j0 : (0 : Int) ≤ (j : Int) := by omega
    by_cases hj2 : j < hs.length
    · have j1 : (j : Int) < (hs.length : Int) := by omega
      obtain ⟨h, hh⟩ : ∃ h, hs[j]? = some h := ⟨_, List.getElem?_eq_getElem (by omega)⟩
      obtain ⟨b, off, rfl, hltb, hE⟩ := HA.out (by omega)
      obtain ⟨cs, hrh, hath⟩ := hE j h hh
      clear hE
      obtain ⟨rfl, hho⟩ := hashLay_at.1 hath
      have HX := hide (And.intro hrh (And.intro hltb hh))
      have hst := ndsH_step hh
      have HST := hide hst
      have hbr : ∀ b, u.ownBlock = some b → b < wo.heap.size := fun b hb => (owned_ltN (Mem.own HM.out 0 rfl) hb).2
      have hbs : w.heap.size ≤ wo.heap.size := (Mem.below HM.out).size
      clear hrh hltb hath hh hst
      go_wp2_with fail
      refine Two.wp_made (X := Two.GX (Two.G1 29 (u).ownBlock) (Two.RowK w.heap.size 72 43 u j ((ndsH (hs.take j)).flatMap nC))) (Y := Two.GY (Two.G1 29 (u).ownBlock) (Two.RowK w.heap.size 72 43 u j ((ndsH (hs.take j)).flatMap nC))) 15 [] (by kernel_rfl) [(20, OneR wo.heap.size 5 [.int .u8 ((97 + j : Nat) : Int)]), (28, OneR wo.heap.size 72 (nC (namH j h))), (29, GrownR wo.heap.size w.heap.size 72 43 u (j + 1) ((ndsH (hs.take (j + 1))).flatMap nC))] (by kernel_rfl) (by kernel_rfl) (by intro p hp; simp only [List.mem_cons, List.not_mem_nil, or_false] at hp; rcases hp with rfl | rfl | rfl; exact Two.madeOk_new (fun u w w' h hg => oneR_two h hg hbr); exact Two.madeOk_new (fun u w w' h hg => oneR_two h hg hbr); exact Two.madeOk_turn (fun u w w' h hb => grownR_keep h hb)) (by simp) (by simp) ?_
      simp only [List.take_succ_cons, List.take_zero, List.drop_succ_cons, List.drop_zero]
      refine Two.made_val (.pointer (some ⟨w1.heap.size, 1, none⟩)) (by kernel_rfl) (by kernel_rfl) (by kernel_rfl) (fun _ _ => by kernel_rfl) ?_
      simp only [Act.put, List.setIfInBounds_toArray, List.set_cons_zero, List.set_cons_succ]
      refine Two.made_val (u) (by kernel_rfl) (by kernel_rfl) (by kernel_rfl) (fun W9 hW9 => (exec_load_cell (o := ⟨some 16, _, _, _, _, _⟩) 31 (.tmp 15) rfl ⟨w1.heap.size, 1, none⟩ rfl _ _ W9 Try.underlying31 rfl (range_cell (dC_ins (Blk.range (Mem.blk (Mem.away HM.out 0 rfl (Two.GX.grown hW9)) 1 rfl)))))) ?_
      simp only [Act.put, List.setIfInBounds_toArray, List.set_cons_zero, List.set_cons_succ]
      refine Two.made_val (.int .i64 (j : Int)) (by kernel_rfl) (by kernel_rfl) (by kernel_rfl) (fun _ _ => by kernel_rfl) ?_
      simp only [Act.put, List.setIfInBounds_toArray, List.set_cons_zero, List.set_cons_succ]
      refine Two.made_val (.int .i64 ((97 + j : Nat) : Int)) (by kernel_rfl) (by kernel_rfl) (by kernel_rfl) (fun W9 hW9 => ?hs1) ?_
      case hs1 =>
        go_simp
        all_goals (rw [Go.IntWalk.i64_in _ (by omega)])
      simp only [Act.put, List.setIfInBounds_toArray, List.set_cons_zero, List.set_cons_succ]
      refine Two.made_val (.int .u8 ((97 + j : Nat) : Int)) (by kernel_rfl) (by kernel_rfl) (by kernel_rfl) (fun W9 hW9 => ?hs2) ?_
      case hs2 =>
        go_simp
        all_goals (rw [Go.IntWalk.u8_in _ (by omega)])
      simp only [Act.put, List.setIfInBounds_toArray, List.set_cons_zero, List.set_cons_succ]
      refine Two.made_new 20 _ (by kernel_rfl) (by kernel_rfl) rfl rfl (fun W hW => oneG (oneR_new (o := ⟨some 20, _, _, _, _, _⟩) 32 5 (.tmp 19) rfl (z := .int .u8 0) (cs := [.int .u8 ((97 + j : Nat) : Int)]) (v := .int .u8 ((97 + j : Nat) : Int)) rfl rfl Try.underlying32 (n := 1) (by kernel_rfl) (by decide) (by decide) (fun w => by kernel_rfl) rfl W (Two.GX.grown hW).size)) ?_
      simp only [Act.put, List.setIfInBounds_toArray, List.set_cons_zero, List.set_cons_succ]
      refine Two.made_val1 20 _ (.string ⟨#[UInt8.ofNat (97 + j)]⟩) (by kernel_rfl) rfl (by kernel_rfl) (by kernel_rfl) (fun u W hW hu => exec_convert (o := ⟨some 21, _, _, _, _, _⟩) 32 9 (.tmp 20) rfl u rfl _ (oneR_text (by omega) hu)) ?_
      simp only [Act.put, List.setIfInBounds_toArray, List.set_cons_zero, List.set_cons_succ]
      refine Two.made_val (.slice (some ⟨b, off, none⟩) hs.length cap) (by kernel_rfl) (by kernel_rfl) (by kernel_rfl) (fun _ _ => by kernel_rfl) ?_
      simp only [Act.put, List.setIfInBounds_toArray, List.set_cons_zero, List.set_cons_succ]
      refine Two.made_val (.int .i64 (j : Int)) (by kernel_rfl) (by kernel_rfl) (by kernel_rfl) (fun _ _ => by kernel_rfl) ?_
      simp only [Act.put, List.setIfInBounds_toArray, List.set_cons_zero, List.set_cons_succ]
      refine Two.made_val (.pointer (some ⟨b, off + j * 20, none⟩)) (by kernel_rfl) (by kernel_rfl) (by kernel_rfl) (fun W9 hW9 => (exec_idxO (o := ⟨some 24, _, _, _, _, _⟩) 45 27 (.tmp 22) (.tmp 23) rfl b off hs.length cap j rfl rfl hj2 20 Try.underlying45 sz_hashD W9)) ?_
      simp only [Act.put, List.setIfInBounds_toArray, List.set_cons_zero, List.set_cons_succ]
      refine Two.made_val (.agg (bv h).toArray) (by kernel_rfl) (by kernel_rfl) (by kernel_rfl) (fun W9 hW9 => (exec_load_mid (o := ⟨some 25, _, _, _, _, _⟩) 27 (.tmp 24) rfl b (off + j * 20) rfl (bv h) _ W9 (Mem.range (Mem.away HM.out 0 rfl (Two.GX.grown hW9)) HX.out.1 HX.out.2.1) Try.underlying27 rfl (hszL hho))) ?_
      simp only [Act.put, List.setIfInBounds_toArray, List.set_cons_zero, List.set_cons_succ]
      refine Two.made_val (.agg (iC ((List.replicate 20 0, ⟨#[]⟩), h, true)).toArray) (by kernel_rfl) (by kernel_rfl) (by kernel_rfl) (fun W9 hW9 => exec_inpH (o := ⟨some 26, _, _, _, _, _⟩) (.tmp 25) (.const (.bool true)) rfl hho rfl rfl W9) ?_
      simp only [Act.put, List.setIfInBounds_toArray, List.set_cons_zero, List.set_cons_succ]
      refine Two.made_val (.agg (nC (namH j h)).toArray) (by kernel_rfl) (by kernel_rfl) (by kernel_rfl) (fun W9 hW9 => exec_namH (o := ⟨some 27, _, _, _, _, _⟩) (.tmp 21) (.tmp 26) rfl hho rfl rfl W9) ?_
      simp only [Act.put, List.setIfInBounds_toArray, List.set_cons_zero, List.set_cons_succ]
      refine Two.made_new 28 _ (by kernel_rfl) (by kernel_rfl) rfl rfl (fun W hW => oneG (oneR_new (o := ⟨some 28, _, _, _, _, _⟩) 31 72 (.tmp 27) rfl (z := .agg zcN) (cs := nC (namH j h)) (v := .agg (nC (namH j h)).toArray) rfl rfl Try.underlying31 (n := 43) sz_namD (by decide) (by decide) (fun w => by kernel_rfl) (nC_len (namH_ok j hho)) W (Two.GX.grown hW).size)) ?_
      simp only [Act.put, List.setIfInBounds_toArray, List.set_cons_zero, List.set_cons_succ]
      refine Two.made_new1 28 _ 29 _ (by kernel_rfl) rfl (by kernel_rfl) rfl rfl (fun u1 W hW hu => by obtain ⟨r, rfl, _, hk⟩ := hu; rw [HST.out]; exact grownR_new (o := ⟨some 29, _, _, _, _, _⟩) (t := 29) (.tmp 16) (.tmp 28) 31 72 rfl Try.underlying31 info_namI rfl (by decide) HM.out 0 rfl hbs hW (by decide) rfl rfl (OneR.src hk (nC_len (namH_ok j hho)) (nC_one _)) (by simp only [maxLen]; omega) (by omega)) ?_
      simp only [Act.put, List.setIfInBounds_toArray, List.set_cons_zero, List.set_cons_succ]
      intro w4 hx
      dsimp only [Two.ended, List.drop]
      rintro u20 _ u28 _ u29 hr
      have H4 := hide (grownR_mem HM.out 0 rfl hx hr)
      have hu2 : u29.oneCell' = true := by obtain ⟨A9, c9, e9⟩ := own_len hr.1; rw [e9]; rfl
      clear hx hr
      go_wp2_with (((with_reducible refine at_store 30 29 ?_); (refine wpList_store1 (o := ⟨none, _, _, _, _, _⟩) rfl 31 (.tmp 30) (.tmp 29) rfl w1.heap.size (1) 34 (dC (nameO s) u (.slice none 0 0)).toArray (Mem.blk H4.out 1 rfl) (Nat.le_of_ble_eq_true rfl) (by kernel_rfl) (u29) hu2 rfl rfl ?_); intro w5 hk hg hz; have H5 := hide (Mem.st (cs' := (dC (nameO s) u29 (.slice none 0 0)).toArray) H4.out 1 rfl hk hg); clear hk hg hz; simp only [Act.put, List.setIfInBounds_toArray, List.set_cons_zero, List.set_cons_succ]))
      go_roundw
      case rel => exact ⟨j + 1, u29, by omega, by go_num, Mem.pick H5.out [0, 1, 2] (by decide) rfl⟩
      case measure => simp [intOf]; omega
    · obtain rfl : j = hs.length := by omega
      go_wp2_with (first | ((with_reducible refine at_slot 31 ?_); (refine wpList_value (o := ⟨some 31, _, _, _, _, _⟩) rfl (.agg (dC (nameO s) u (.slice none 0 0)).toArray) wo (exec_load_mid (o := ⟨some 31, _, _, _, _, _⟩) 34 (.tmp 5) rfl w1.heap.size (0) rfl (dC (nameO s) u (.slice none 0 0)) _ wo (Blk.range (Mem.blk HM.out 1 rfl)) Try.underlying34 rfl (dC_szl (nameO s) u (.slice none 0 0))) ?_)) | ((with_reducible refine at_store 4 31 ?_); (with_reducible refine wpList_store_blkA (o := ⟨none, _, _, _, _, _⟩) rfl 34 (.tmp 4) (.tmp 31) rfl w.heap.size zcD (dC (nameO s) u (.slice none 0 0)).toArray 34 (Mem.blk HM.out 2 rfl) ?_ ?_ ?_ ?_ ?_ ?_); (exact (dC_sz (nameO s) u (.slice none 0 0))); (exact sz_eq zcD_sz (dC_sz (nameO s) u (.slice none 0 0))); (exact (dC_1 (nameO s) hu1 rfl)); rfl; rfl; intro w6 hk hg; have H6 := hide (Mem.st HM.out 2 rfl hk hg); clear hk hg; simp only [Act.put, List.setIfInBounds_toArray, List.set_cons_zero, List.set_cons_succ]))
      refine bodyPost_ret (results_one (r1 := .cell 4 34) rfl ⟨⟨_, rfl, ld_agg (Blk.range (Mem.blk H6.out 2 rfl)) Try.underlying34 rfl (dC_szl _ _ _)⟩, trivial⟩) rfl ⟨u, rfl, hu1, named_mem s hs hso hho9 (Mem.pick H6.out [0] (by decide) rfl)⟩
end Go.Proofs.Ytidiepbmbbflhaa
end
