/- Part 12 of the texts of one proof. -/
import Derived.Test.YtomnhnmciopiiaaGreatMMS11
set_option maxRecDepth 100000
set_option linter.unusedVariables false
set_option linter.unusedSimpArgs false
set_option maxHeartbeats 40000000
open Go.Act renaming put → xad
open Array renaming getElem?_append_left → xb4, getElem?_eq_getElem → xa5, getElem?_toList → xaM, length_toList → xbh, size_modify → xb5
open Bool renaming and_eq_true → xaG, and_false → xbp, and_true → xbc, false_and → xaZ, false_eq_true → xa9, true_and → xbe
open Go.Extern.BytealgCompare renaming compare → xb1
open Go.Extern.Bytes renaming bytesOf → xbW
open Go.Sort renaming alloc_eq_grow → xcf, flatK → xbl, grow → xct, putCells → xbK, size_flatK → xbH
open Go.Instr renaming lookup → xbG
open Go.Lib renaming compareBytes → xb7, toList_data → xbY
open List renaming append_nil → xaT, drop → xas, drop_succ_cons → xaH, drop_zero → xaQ, getElem?_eq_getElem → xaj, getElem?_eq_none → xbi, getElem?_eq_some_iff → xah, getElem?_map → xaD, getElem?_of_mem → xaO, length_append → xap, length_cons → xaE, length_eq_zero_iff → xcc, length_map → xat, length_singleton → xa0, length_take → xaJ, mem_append → xau, mem_cons → xax, mem_map → xav, mem_of_getElem? → xak, mem_singleton → xan, ne_nil_of_mem → xbI, nodup_append → xbq, not_mem_nil → xaP, pairwise_append → xa7, pairwise_cons → xa2, setIfInBounds_toArray → xaa, set_cons_succ → xab, set_cons_zero → xac, size_toArray → xal, take_add_one → xaz, take_length → xaB, take_succ_cons → xaI, take_zero → xaR, toList_toArray → xcs
open Nat renaming le_refl → xai, mul_le_mul_right → xa8
open Go.Op renaming bytesLess → xaF
open Go.Oper renaming upon_value → xbP
open Option.some renaming inj → xao
open Go.Result renaming andThen → xbd
open Go.Sem renaming run_bind → xaK, run_pure → xaN
open UInt8 renaming lt_iff_toNat_lt → xbj
open Go.Value renaming slice → xag
section
namespace Go.Proofs.YtomnhnmciopiiaaGreat
open Go Go.RowKit Go.Maps
attribute [local irreducible] wpList
theorem tp (w:World) (l:List Itm) (v:Value) (h:bB.At w w.heap.size [v] l) (hl:∀ x∈l,x.2.2.1.length≤1000000∧x.2.2.2.length≤1000000) (hn:l.length≤1000000) :
  Calls Tryz.prog 29 #[v] w fun e w'=>∃ (u:Value) (os:List b4),e=.returned u∧os.map (·.1)=l∧(∀ p∈os,okH p.1.1)∧Mem w w' [aq w.heap.size 59 23 u os.length (os.flatMap tV),Ent.all os (ldV w.heap.size)]:=by
 obtain ⟨A,c,rfl,_,hcm,_,hA⟩:=ak h
 simp only [maxLen] at hcm
 have H0:=Mem.start w
 go_enter Tryz.func29,Tryz.ntmps29
 refine sk fun _ K1=>rl ?_
 refine nt (K1 _ _ (sk fun _ K2=>rl ?_))
 refine nt (K2 _ _ (sk fun _ K3=>sk fun _ K4=>rl ?_))
 refine nt (K4 _ _ (wp_block ?_))
 have H5:=Mem.dw H0 w.heap.size 59 23
 have H6:=Mem.pS H5 (ldV w.heap.size)
 have H7:=Mem.pick H6 [1,0] (by decide) rfl
 go_loopw [3,4] (fun x3 x4 wr=>∃ k:Nat,∃ os:List b4,∃ A9:Option Addr,∃ c9:Nat,x3=.slice A9 os.length c9∧x4=.int .i64 (k:Int)∧(k≤l.length)∧(os.map (·.1)=l.take k)∧(∀ p∈os,okH p.1.1)∧Mem w wr [aq (w.heap.size) 59 23 (.slice A9 os.length c9) (os).length ((os).flatMap tV),Ent.all os (ldV w.heap.size)]) (fun x3 x4 _=>l.length-(intOf x4).toNat)
 case atStart=>exact ⟨0,([]),none,0,rfl,rfl,by omega,(by rfl),(fun _ h=>by cases h),H7⟩
 case round =>
  obtain ⟨wo8,rfl⟩:∃ wo8,wo8=wr:=⟨_,rfl⟩
  obtain ⟨k,os,A9,c9,rfl,rfl,hk,hos,hlo,H9⟩:=hrel
  have hol:os.length=k:=by have h9:=congrArg List.length hos;rw [xat,xaJ] at h9;omega
  refine sk fun _ K11=>sk fun _ K12=>rl ?_
  by_cases p13:(k:Int)<((l.length:Nat):Int)
  ·refine rv (aA (decide_eq_true p13)) ?_
   refine nt (K12 _ _ (ct (ks (K11 _ _ (sk fun _ K14=>wp_block ?_)))))
   obtain ⟨b15,o16,rfl,hlt18,hE17⟩:=hA (by omega)
   obtain ⟨x19,hx20⟩:=gx (l:=l) (j:=k)
   have hd21:=ay hx20
   obtain ⟨cs,hr22,ha23⟩:=hE17 (k) x19 hx20
   obtain ⟨v24,v25,rfl,xo26,xd27⟩:=bP.1 ha23
   obtain ⟨A28,c29,rfl,hlc29,hmc29,_,hA30⟩:=ak xd27.ins
   obtain ⟨A31,c32,rfl,hlc32,hmc32,_,hA33⟩:=ak xd27.rcp
   simp only [maxLen] at hmc29 hmc32
   refine Fre.cq (X:=Bel) 14 [(22,LdU wo8.heap.size x19.2),(23,zD wo8.heap.size x19),(24,xt wo8.heap.size x19)] (by kernel_rfl) (by kernel_rfl) (by intro p hp;simp only [xax,xaP,or_false] at hp;rcases hp with rfl | rfl | rfl;exact (BE _ _);exact (As _ _);exact (yC _ _)) (by simp) (by simp) ?_
   simp only [xaI,xaR,xaH,xaQ]
   refine Fre.rmd ?_
   refine Fre.mvv (fun _ _=>dy (k) Tryz.underlying22 cI) ?_
   refine Fre.mvv (v:=.pointer (some ⟨b15,o16+k*23,none⟩)) (fun _ _=>by kernel_rfl) ?_
   refine Fre.mvv (fun W9 hW9=>xld (cr (Mem.range (Mem.call H9 hW9) hr22 hlt18)) Tryz.underlying34 (cP xo26)) ?_
   refine Fre.mvv (fun _ _=>dy (k) Tryz.underlying22 cI) ?_
   refine Fre.mvv (v:=.pointer (some ⟨b15,o16+k*23+20,none⟩)) (fun _ _=>by kernel_rfl) ?_
   refine Fre.mvv (fun W9 hW9=>xld (cg xo26 (Mem.range (Mem.call H9 hW9) hr22 hlt18)) Tryz.underlying26 (bL x19.2 (.slice A28 x19.2.2.1.length c29) (.slice A31 x19.2.2.2.length c32))) ?_
   refine Fre.fD 22 _ 11 #[.agg (dC x19.2 (.slice A28 x19.2.2.1.length c29) (.slice A31 x19.2.2.2.length c32)).toArray] (by kernel_rfl) (by kernel_rfl) rfl rfl (fun W=>by kernel_rfl) (fun W hW=>(rH W x19.2 _ _ (Mem.drv (Mem.call H9 hW) xd27) (hl _ (xak hx20)).1 (hl _ (xak hx20)).2).mono (fun e w' ⟨u1,u2,h1,h2⟩=>⟨_,h1,h2.below,(u1,u2),rfl,(show cO _ _ _ _ _ from h2.holds _ (.head _)).lower (Below.size hW)⟩)) ?_
   refine Fre.rmd ?_
   refine Fre.po 22 _ 23 _ (by kernel_rfl) rfl (by kernel_rfl) rfl rfl (fun u W hW hu=>yA (.tmp 16) (.tmp 22) rfl wo8.heap.size xo26 rfl rfl hu) ?_
   refine Fre.rmd ?_
   refine Fre.po 23 _ 24 _ (by kernel_rfl) rfl (by kernel_rfl) rfl rfl (fun u W hW hu=>v7 (.tmp 23) rfl wo8.heap.size xo26 rfl hu (Below.size hW)) ?_
   refine Fre.rmd ?_
   intro w34 hx36
   dsimp only [Fre.ended,xas]
   rintro u7 _ u8 _ u9 ⟨r9,p9,rfl,hr9,hk9,hl9⟩
   simp only [xad,xaa,xac,xab]
   have H35:=Mem.new H9 hx36 (tn w.heap.size x19.2 p9.1 p9.2) (hl9.lower (Mem.below H9).size) (fun b hf=>yw hl9 hf)
   obtain ⟨inm59,iq59,ir59,is59,it59⟩:=info_parts pf
   refine aD rfl _ _ 22 rfl (w.heap.size) 59 _ _ 23 88 Tryz.underlying22 iq59 ir59 is59 it59 rfl (by decide) (.slice A9 os.length c9) ((os).length) ((os).flatMap tV) (Mem.own H35 1 rfl) ((some ⟨r9,0,none⟩)) (1) (1) (([(x19,p9)]).flatMap tV) (su (f:=tV) (p:=(x19,p9)) (bl (n:=23) (m:=1) hk9 (dh xo26) (iD x19 hl9.iy.1 hl9.iy.2))) ?hmt37 ?hbt37 ?hzt37 rfl rfl ?_
   case hmt37=>simp only [maxLen];omega
   case hbt37=>omega
   case hzt37=>exact (Mem.below H35).size
   intro u40 w38 ow43 gr44 hp45
   refine rn ?_
   have ow43:w38.ownsRow (w.heap.size) 59 23 u40 (os++[(x19,p9)]).length ((os++[(x19,p9)]).flatMap tV):=by first | simpa using ow43 | simpa [tV] using ow43 | (simp at ow43 ⊢;exact ow43)
   obtain ⟨A41,c42,rfl⟩:=aI ow43
   have H39:=Mem.app H35 1 rfl ow43 gr44 hp45
   clear ow43 gr44 hp45
   refine rn ?_
   refine wpList_nil ?_
   refine al (ab (K14 _ _ (rl ?_)))
   refine rv (aL (((k+1:Nat):Int))) ?_
   refine wpList_nil ?_
   have H46:=Mem.push (x:=(x19,p9)) (f:=ldV w.heap.size) (Mem.pick H39 [0,2,1] (by decide) rfl) (BF _ _)
   have H47:=Mem.pick H46 [1,0] (by decide) rfl
   refine ab ?_
   show _∧_
   go_roundw
   case rel=>exact ⟨(k+1),((os++[(x19,p9)])),A41,c42,rfl,rfl,by omega,(pt hos hx20 rfl),(lC (P:=fun p:b4=>okH p.1.1) hlo xo26),H47⟩
   case measure=>simp [intOf];omega
  ·have he48:=bJ (l:=l) (j:=k) (by omega)
   refine rv (aA (decide_eq_false p13)) ?_
   refine nt (K12 _ _ (cf (wp_exit (ai (ai (ax (ab (K3 _ _ (sk fun _ K49=>rl ?_)))))))))
   refine nt (K49 _ _ (rt ?_))
   have hke:k=l.length:=by omega
   rw [hke,xaB] at hos
   exact ⟨_,os,rfl,hos,hlo,H9⟩
theorem tN (w:World) (l:List Itm) (v:Value) (h:bB.At w w.heap.size [v] l) (hn:l.length≤1000000) :
  Calls Tryz.prog 30 #[v] w fun e w'=>∃ (u:Value) (os:List b4),e=.returned u∧os.map (·.1)=l∧(∀ p∈os,okH p.1.1∧aK w w.heap.size p.1.2 p.2.1 p.2.2)∧Mem w w' [aq w.heap.size 98 23 u os.length (os.flatMap tV)]:=by
 obtain ⟨A,c,rfl,_,hcm,_,hA⟩:=ak h
 simp only [maxLen] at hcm
 have H0:=Mem.start w
 go_enter Tryz.func30,Tryz.ntmps30
 refine sk fun _ K1=>rl ?_
 refine nt (K1 _ _ (sk fun _ K2=>rl ?_))
 refine nt (K2 _ _ (sk fun _ K3=>sk fun _ K4=>rl ?_))
 refine nt (K4 _ _ (wp_block ?_))
 have H5:=Mem.dw H0 w.heap.size 98 23
 go_loopw [3,4] (fun x3 x4 wr=>∃ k:Nat,∃ os:List b4,∃ A9:Option Addr,∃ c9:Nat,x3=.slice A9 os.length c9∧x4=.int .i64 (k:Int)∧(k≤l.length)∧(os.map (·.1)=l.take k)∧(∀ p∈os,okH p.1.1∧aK w w.heap.size p.1.2 p.2.1 p.2.2)∧Mem w wr [aq (w.heap.size) 98 23 (.slice A9 os.length c9) (os).length ((os).flatMap tV)]) (fun x3 x4 _=>l.length-(intOf x4).toNat)
 case atStart=>exact ⟨0,([]),none,0,rfl,rfl,by omega,(by rfl),(fun _ h=>by cases h),H5⟩
 case round =>
  obtain ⟨wo6,rfl⟩:∃ wo6,wo6=wr:=⟨_,rfl⟩
  obtain ⟨k,os,A9,c9,rfl,rfl,hk,hos,hlo,H7⟩:=hrel
  have hol:os.length=k:=by have h9:=congrArg List.length hos;rw [xat,xaJ] at h9;omega
  refine sk fun _ K9=>sk fun _ K10=>rl ?_
  by_cases p11:(k:Int)<((l.length:Nat):Int)
  ·refine rv (aA (decide_eq_true p11)) ?_
   refine nt (K10 _ _ (ct (ks (K9 _ _ (sk fun _ K12=>wp_block ?_)))))
   obtain ⟨b13,o14,rfl,hlt16,hE15⟩:=hA (by omega)
   obtain ⟨x17,hx18⟩:=gx (l:=l) (j:=k)
   have hd19:=ay hx18
   obtain ⟨cs,hr20,ha21⟩:=hE15 (k) x17 hx18
   obtain ⟨v22,v23,rfl,xo24,xd25⟩:=bP.1 ha21
   obtain ⟨A26,c27,rfl,hlc27,hmc27,_,hA28⟩:=ak xd25.ins
   obtain ⟨A29,c30,rfl,hlc30,hmc30,_,hA31⟩:=ak xd25.rcp
   simp only [maxLen] at hmc27 hmc30
   refine Fre.cq (X:=Bel) 13 [(23,xx wo6.heap.size x17 (.slice A26 x17.2.2.1.length c27) (.slice A29 x17.2.2.2.length c30))] (by kernel_rfl) (by kernel_rfl) (by intro p hp;simp only [xax,xaP,or_false] at hp;subst hp;exact (zl _ _ _ _)) (by simp) (by simp) ?_
   simp only [xaI,xaR,xaH,xaQ]
   refine Fre.rmd ?_
   refine Fre.mvv (fun _ _=>dy (k) Tryz.underlying22 cI) ?_
   refine Fre.mvv (v:=.pointer (some ⟨b13,o14+k*23,none⟩)) (fun _ _=>by kernel_rfl) ?_
   refine Fre.mvv (fun W9 hW9=>xld (cr (Mem.range (Mem.call H7 hW9) hr20 hlt16)) Tryz.underlying34 (cP xo24)) ?_
   refine Fre.mvv (fun _ _=>dy (k) Tryz.underlying22 cI) ?_
   refine Fre.mvv (v:=.pointer (some ⟨b13,o14+k*23+20,none⟩)) (fun _ _=>by kernel_rfl) ?_
   refine Fre.mvv (fun W9 hW9=>xld (cg xo24 (Mem.range (Mem.call H7 hW9) hr20 hlt16)) Tryz.underlying26 (bL x17.2 (.slice A26 x17.2.2.1.length c27) (.slice A29 x17.2.2.2.length c30))) ?_
   refine Fre.mvv (fun W9 _=>vw (.tmp 16) (.tmp 21) rfl (c:=x17.1) (d:=x17.2) xo24 rfl rfl W9) ?_
   refine Fre.fP 23 _ (by kernel_rfl) (by kernel_rfl) rfl rfl (fun W9 hW9=>wY (.tmp 22) rfl _ xo24 rfl (Below.size hW9)) ?_
   refine Fre.rmd ?_
   intro w32 hx34
   dsimp only [Fre.ended,xas]
   rintro u9 ⟨r9,rfl,hr9,hk9⟩
   simp only [xad,xaa,xac,xab]
   have H33:=Mem.call H7 hx34
   obtain ⟨inm98,iq98,ir98,is98,it98⟩:=info_parts wU
   refine aD rfl _ _ 40 rfl (w.heap.size) 98 _ _ 23 88 Tryz.underlying40 iq98 ir98 is98 it98 rfl (by decide) (.slice A9 os.length c9) ((os).length) ((os).flatMap tV) (Mem.own H33 0 rfl) ((some ⟨r9,0,none⟩)) (1) (1) (([(x17,(xag A26 x17.2.2.1.length c27),(xag A29 x17.2.2.2.length c30))]).flatMap tV) (su (f:=tV) (p:=(x17,(xag A26 x17.2.2.1.length c27),(xag A29 x17.2.2.2.length c30))) (bl (n:=23) (m:=1) hk9 (dh xo24) (Cc x17 rfl rfl))) ?hmt35 ?hbt35 ?hzt35 rfl rfl ?_
   case hmt35=>simp only [maxLen];omega
   case hbt35=>omega
   case hzt35=>exact (Mem.below H33).size
   intro u38 w36 ow41 gr42 hp43
   refine rn ?_
   have ow41:w36.ownsRow (w.heap.size) 98 23 u38 (os++[(x17,(xag A26 x17.2.2.1.length c27),(xag A29 x17.2.2.2.length c30))]).length ((os++[(x17,(xag A26 x17.2.2.1.length c27),(xag A29 x17.2.2.2.length c30))]).flatMap tV):=by first | simpa using ow41 | simpa [tV] using ow41 | (simp at ow41 ⊢;exact ow41)
   obtain ⟨A39,c40,rfl⟩:=aI ow41
   have H37:=Mem.app H33 0 rfl ow41 gr42 hp43
   clear ow41 gr42 hp43
   refine rn ?_
   refine wpList_nil ?_
   refine al (ab (K12 _ _ (rl ?_)))
   refine rv (aL (((k+1:Nat):Int))) ?_
   refine wpList_nil ?_
   refine ab ?_
   show _∧_
   go_roundw
   case rel=>exact ⟨(k+1),((os++[(x17,(xag A26 x17.2.2.1.length c27),(xag A29 x17.2.2.2.length c30))])),A39,c40,rfl,rfl,by omega,(pt hos hx18 rfl),(zj hlo ⟨xo24,xd25⟩),H37⟩
   case measure=>simp [intOf];omega
  ·have he44:=bJ (l:=l) (j:=k) (by omega)
   refine rv (aA (decide_eq_false p11)) ?_
   refine nt (K10 _ _ (cf (wp_exit (ai (ai (ax (ab (K3 _ _ (sk fun _ K45=>rl ?_)))))))))
   refine nt (K45 _ _ (rt ?_))
   have hke:k=l.length:=by omega
   rw [hke,xaB] at hos
   exact ⟨_,os,rfl,hos,hlo,H7⟩
theorem tm (w:World) (B B2:Nat) (ls:List b4) (A:Option Addr) (c:Nat) (ho:w.ownsRow B2 59 23 (.slice A ls.length c) ls.length (ls.flatMap tV)) (hle:∀ p∈ls,okH p.1.1∧cO w B p.1.2 p.2.1 p.2.2) (l:List Itm) (v:Value) (h:bB.At w w.heap.size [v] l) (hl:∀ x∈l,x.2.2.1.length≤1000000∧x.2.2.2.length≤1000000) (hls:ls.map (·.1)=l) (hn:l.length≤1000000) :
  Calls Tryz.prog 49 #[.slice A ls.length c,v] w fun e w'=>e=.returned (.bool true)∧Below w.heap.size w w':=by
 have hok:∀ p∈ls,okH p.1.1∧p.2.1.oneCell'=true∧p.2.2.oneCell'=true:=fun p hp=>⟨(hle p hp).1,((hle p hp).2.at_ (xai _)).iy⟩
 have hll:ls.length=l.length:=by rw [← hls,xat]
 obtain ⟨A2,c2,rfl,_,hcm2,_,hA2⟩:=ak h
 simp only [maxLen] at hcm2
 have H0:=Mem.start w
 go_enter Tryz.func49,Tryz.ntmps49
 refine sk fun _ K1=>rl ?_
 refine nt (K1 _ _ (sk fun _ K2=>sk fun _ K3=>rl ?_))
 refine nt (K3 _ _ (wp_block ?_))
 go_loopw [5] (fun x5 wr=>∃ j:Nat,x5=.int .i64 (j:Int)∧(j≤l.length)∧Mem w wr []) (fun x5 _=>l.length-(intOf x5).toNat)
 case atStart=>exact ⟨0,rfl,by omega,H0⟩
 case round =>
  obtain ⟨wo4,rfl⟩:∃ wo4,wo4=wr:=⟨_,rfl⟩
  obtain ⟨j,rfl,hj,H5⟩:=hrel
  refine sk fun _ K7=>sk fun _ K8=>rl ?_
  by_cases p9:(j:Int)<((l.length:Nat):Int)
  ·refine rv (aA (decide_eq_true p9)) ?_
   refine nt (K8 _ _ (ct (ks (K7 _ _ (sk fun _ K10=>wp_block (sk fun _ K11=>?_))))))
   obtain ⟨b12,rfl,hlt15⟩:=aE ho (by omega)
   obtain ⟨p16,hx17⟩:∃ x,ls[j]?=some x:=⟨_,xaj (by omega)⟩
   have ok18:=hok _ (xak hx17)
   obtain ⟨b19,o20,rfl,hlt22,hE21⟩:=hA2 (by omega)
   obtain ⟨x23,hx24⟩:=gx (l:=l) (j:=j)
   have hd25:=ay hx24
   obtain ⟨cs,hr26,ha27⟩:=hE21 (j) x23 hx24
   obtain ⟨v28,v29,rfl,xo30,xd31⟩:=bP.1 ha27
   obtain ⟨A32,c33,rfl,hlc33,hmc33,_,hA34⟩:=ak xd31.ins
   obtain ⟨A35,c36,rfl,hlc36,hmc36,_,hA37⟩:=ak xd31.rcp
   simp only [maxLen] at hmc33 hmc36
   have hxy:=Au hls hx17 hx24
   refine Fre.aV (X:=Bel) [] (by kernel_rfl) (by kernel_rfl) (by simp) (by simp) (by simp) ?_
   refine Fre.rmd ?_
   refine Fre.mvv (fun _ _=>aT (j) Tryz.underlying22 cI) ?_
   refine Fre.mvv (v:=.pointer (some ⟨b12,j*23,none⟩)) (fun _ _=>by kernel_rfl) ?_
   refine Fre.mvv (fun W9 hW9=>xld (cr (Mem.range (Mem.call H5 hW9) (dO (f:=tV) (by decide) ho (fun p hp=>dh (x:=p.1) (hok p hp).1) hx17) (aB ho rfl).2)) Tryz.underlying34 (cP ok18.1)) ?_
   refine Fre.mvv (fun _ _=>dy (j) Tryz.underlying22 cI) ?_
   refine Fre.mvv (v:=.pointer (some ⟨b19,o20+j*23,none⟩)) (fun _ _=>by kernel_rfl) ?_
   refine Fre.mvv (fun W9 hW9=>xld (cr (Mem.range (Mem.call H5 hW9) hr26 hlt22)) Tryz.underlying34 (cP xo30)) ?_
   refine Fre.mvv (fun W9 _=>dK 34 34 (.tmp 16) (.tmp 21) rfl (bv p16.1.1).toArray (bv x23.1).toArray rfl rfl (by kernel_rfl) _ W9 (by have h9:=cW (p16.1.1) (x23.1) ok18.1 xo30 W9;rwa [show decide _=true from (decide_eq_true (congrArg (·.1) hxy))] at h9)) ?_
   refine Fre.mvv (fun _ _=>aT (j) Tryz.underlying22 cI) ?_
   refine Fre.mvv (v:=.pointer (some ⟨b12,j*23+20,none⟩)) (fun _ _=>by kernel_rfl) ?_
   refine Fre.mvv (fun W9 hW9=>xld (cg ok18.1 (Mem.range (Mem.call H5 hW9) (dO (f:=tV) (by decide) ho (fun p hp=>dh (x:=p.1) (hok p hp).1) hx17) (aB ho rfl).2)) Tryz.underlying26 (bL p16.1.2 p16.2.1 p16.2.2)) ?_
   refine Fre.mvv (fun _ _=>dy (j) Tryz.underlying22 cI) ?_
   refine Fre.mvv (v:=.pointer (some ⟨b19,o20+j*23+20,none⟩)) (fun _ _=>by kernel_rfl) ?_
   refine Fre.mvv (fun W9 hW9=>xld (cg xo30 (Mem.range (Mem.call H5 hW9) hr26 hlt22)) Tryz.underlying26 (bL x23.2 (.slice A32 x23.2.2.1.length c33) (.slice A35 x23.2.2.2.length c36))) ?_
   refine Fre.mc (fun W9 hW9=>vS W9 x23.2 p16.1.2 (congrArg (·.2) hxy) _ _ _ _ B ((hle _ (xak hx17)).2.old (Mem.call H5 hW9)) (Mem.drv (Mem.call H5 hW9) xd31) (hl x23 (xak hx24)).1 (hl x23 (xak hx24)).2) ?_
   refine Fre.rmd ?_
   intro w38 hx40
   dsimp only [Fre.ended,xas]
   have H39:=Mem.call H5 hx40
   refine ab (K11 _ _ (cf ?_))
   refine wp_skip ?_
   refine al (ab (K10 _ _ (rl ?_)))
   refine rv (aL (((j+1:Nat):Int))) ?_
   refine wpList_nil ?_
   refine ab ?_
   show _∧_
   go_roundw
   case rel=>exact ⟨(j+1),rfl,by omega,H39⟩
   case measure=>simp [intOf];omega
  ·have he41:=bJ (l:=l) (j:=j) (by omega)
   refine rv (aA (decide_eq_false p9)) ?_
   refine nt (K8 _ _ (cf (wp_exit (ai (ai (ax (ab (K2 _ _ (sk fun _ K42=>rl ?_)))))))))
   refine nt (K42 _ _ (rt ?_))
   exact ⟨rfl,Mem.below H5⟩
end Go.Proofs.YtomnhnmciopiiaaGreat
end
section
namespace Go.Proofs.YtomnhnmciopiiaaGreat
open Go
theorem jd:∀ x:List UInt8,xaF x x=false
 | []=>rfl
 | a :: x=>by
  have ih:=jd x
  simp [xaF,ih]
theorem j3:∀ x y z:List UInt8,xaF x y=true→xaF y z=true→xaF x z=true
 | [],[],_,h,_=>by simp [xaF] at h
 | [],_ :: _,[],_,h=>by simp [xaF] at h
 | [],_ :: _,_ :: _,_,_=>rfl
 | _ :: _,[],_,h,_=>by simp [xaF] at h
 | _ :: _,_ :: _,[],_,h=>by simp [xaF] at h
 | a :: x,b :: y,c :: z,h,k=>by
  have ih:=j3 x y z
  simp only [xaF,Bool.or_eq_true,decide_eq_true_eq,xaG,beq_iff_eq] at h k ⊢
  rcases h with h | ⟨rfl,h⟩
  ·rcases k with k | ⟨rfl,k⟩
   ·exact .inl (UInt8.lt_trans h k)
   ·exact .inl h
  ·rcases k with k | ⟨rfl,k⟩
   ·exact .inl k
   ·exact .inr ⟨rfl,ih h k⟩
theorem rI (x y:List UInt8):xaF x y=true∨x=y∨xaF y x=true:=by
 have h:=ir x y
 cases hx:xaF x y with
 | true=>exact .inl rfl
 | false =>
  rw [hx] at h
  simp only [Bool.not_false,xbe] at h
  by_cases e:x=y
  ·exact .inr (.inl e)
  ·refine .inr (.inr ?_)
   rw [← h]
   simpa using e
def bZ (a b:Pth):Bool:=if a.1=b.1 then xaF a.2.data.toList b.2.data.toList else xaF a.1 b.1
theorem sJ {x y:ByteArray} (h:x.data.toList=y.data.toList):x=y:=by
 cases x;cases y
 simp only [ByteArray.mk.injEq]
 exact Array.ext' h
theorem dT (a:Pth):bZ a a=false:=by simp [bZ,jd]
theorem ey {a b c:Pth} (h:bZ a b=true) (k:bZ b c=true):bZ a c=true:=by
 unfold bZ at h k ⊢
 by_cases e1:a.1=b.1
 ·rw [if_pos e1] at h
  by_cases e2:b.1=c.1
  ·rw [if_pos e2] at k
   rw [if_pos (e1.trans e2)]
   exact j3 _ _ _ h k
  ·rw [if_neg e2] at k
   rw [if_neg (by rw [e1];exact e2),e1]
   exact k
 ·rw [if_neg e1] at h
  by_cases e2:b.1=c.1
  ·rw [if_pos e2] at k
   rw [if_neg (by rw [← e2];exact e1),← e2]
   exact h
  ·rw [if_neg e2] at k
   have h9:=j3 _ _ _ h k
   have e3:¬ a.1=c.1:=fun e=>by rw [e,jd] at h9;cases h9
   rw [if_neg e3]
   exact h9
theorem gW (a b:Pth):bZ a b=true∨a=b∨bZ b a=true:=by
 unfold bZ
 by_cases e:a.1=b.1
 ·rw [if_pos e,if_pos e.symm]
  rcases rI a.2.data.toList b.2.data.toList with h | h | h
  ·exact .inl h
  ·exact .inr (.inl (Prod.ext e (sJ h)))
  ·exact .inr (.inr h)
 ·rw [if_neg e,if_neg (fun h=>e h.symm)]
  rcases rI a.1 b.1 with h | h | h
  ·exact .inl h
  ·exact absurd h e
  ·exact .inr (.inr h)
theorem jk {a b:Pth} (h:bZ a b=true):bZ b a=false:=by
 cases k:bZ b a with
 | false=>rfl
 | true=>have h9:=ey h k;rw [dT] at h9;cases h9
def gz (l:List Pth):Prop:=l.Pairwise fun a b=>bZ a b=true
def mq (x:Pth):List Pth→List Pth
 | []=>[x]
 | y :: l=>if bZ x y then x :: y :: l else if x=y then y :: l else y :: mq x l
def bV (l:List Pth):List Pth:=l.foldr mq []
theorem nL (x:Pth):∀ (l:List Pth) (y:Pth),y∈mq x l↔y=x∨y∈l
 | [],y=>by simp [mq]
 | z :: l,y=>by
  unfold mq
  split
  ·simp
  ·split
   ·rename_i e
    subst e
    simp
   ·rw [xax,nL x l y,xax]
    constructor
    ·rintro (h | h | h)
     ·exact .inr (.inl h)
     ·exact .inl h
     ·exact .inr (.inr h)
    ·rintro (h | h | h)
     ·exact .inr (.inl h)
     ·exact .inl h
     ·exact .inr (.inr h)
theorem mf (x:Pth):∀ {l:List Pth},gz l→gz (mq x l)
 | [],_=>List.pairwise_singleton _ _
 | y :: l,h=>by
  have h':=xa2.1 h
  unfold mq
  split
  ·rename_i hx
   refine xa2.2 ⟨fun z hz=>?_,h⟩
   rcases xax.1 hz with rfl | hz
   ·exact hx
   ·exact ey hx (h'.1 z hz)
  ·rename_i hx
   split
   ·exact h
   ·rename_i hne
    refine xa2.2 ⟨fun z hz=>?_,mf x h'.2⟩
    rcases (nL x l z).1 hz with rfl | hz
    ·rcases gW z y with h1 | h1 | h1
     ·exact absurd h1 hx
     ·exact absurd h1 hne
     ·exact h1
    ·exact h'.1 z hz
theorem eL:∀ l:List Pth,gz (bV l)
 | []=>List.Pairwise.nil
 | x :: l=>mf x (eL l)
theorem er:∀ (l:List Pth) (y:Pth),y∈bV l↔y∈l
 | [],y=>by simp [bV]
 | x :: l,y=>by
  show y∈mq x (bV l)↔_
  rw [nL,er l y,xax]
theorem ob:∀ {a b:List Pth},gz a→gz b→(∀ x,x∈a↔x∈b)→a=b
 | [],[],_,_,_=>rfl
 | [],y :: b,_,_,h=>absurd ((h y).2 (.head _)) (by simp)
 | x :: a,[],_,_,h=>absurd ((h x).1 (.head _)) (by simp)
 | x :: a,y :: b,ha,hb,h=>by
  have ha':=xa2.1 ha
  have hb':=xa2.1 hb
  have e:x=y:=by
   rcases xax.1 ((h x).1 (.head _)) with e | h1
   ·exact e
   ·rcases xax.1 ((h y).2 (.head _)) with e | h2
    ·exact e.symm
    ·have h3:=hb'.1 x h1
     have h4:=ha'.1 y h2
     rw [jk h3] at h4
     cases h4
  subst e
  have hnot:∀ {l:List Pth},(∀ z∈l,bZ x z=true)→x ∉ l:=fun hl hx=>by
   have h9:=hl x hx
   rw [dT] at h9
   cases h9
  rw [ob ha'.2 hb'.2 fun z=>?_]
  constructor
  ·intro hz
   rcases xax.1 ((h z).1 (.tail _ hz)) with rfl | h1
   ·exact absurd hz (hnot ha'.1)
   ·exact h1
  ·intro hz
   rcases xax.1 ((h z).2 (.tail _ hz)) with rfl | h1
   ·exact absurd hz (hnot hb'.1)
   ·exact h1
theorem qO {l:List Pth} (h:gz l):l.Nodup:=h.imp fun hab e=>by subst e;rw [dT] at hab;cases hab
theorem sq {a l:List Pth} (h:gz a) (hm:∀ x,x∈a↔x∈l):a=bV l:=ob h (eL l) fun x=>(hm x).trans (er l x).symm
theorem so {a b:List Pth} (h:∀ x,x∈a↔x∈b):bV a=bV b:=sq (eL a) fun x=>(er a x).trans (h x)
theorem l4 (x:Pth):∀ l:List Pth,(mq x l).length≤l.length+1
 | []=>by simp [mq]
 | y :: l=>by
  have:=l4 x l
  unfold mq
  split
  ·simp
  ·split
   ·simp
   ·simp;omega
theorem iq:∀ l:List Pth,(bV l).length≤l.length
 | []=>by simp [bV]
 | x :: l=>by
  have h1:=iq l
  have h2:=l4 x (bV l)
  show (mq x (bV l)).length≤_
  simp only [xaE]
  omega
section
attribute [local instance] Classical.propDecidable
noncomputable def et (l:List Pth):List Pth:=l.foldl (fun out x=>if x∈out then out else out++[x]) []
theorem j7 (l:List Pth) (x:Pth):et (l++[x])=if x∈et l then et l else et l++[x]:=by
 unfold et
 rw [List.foldl_append]
 rfl
theorem px (l:List Pth) (y:Pth):y∈et l↔y∈l:=by
 have h:∀ (l out:List Pth),y∈l.foldl (fun out x=>if x∈out then out else out++[x]) out↔y∈out∨y∈l:=by
  intro l
  induction l with
  | nil=>intro out;simp
  | cons x l ih =>
   intro out
   rw [List.foldl_cons,ih]
   split
   ·rename_i hx
    constructor
    ·rintro (h | h)
     ·exact .inl h
     ·exact .inr (.tail _ h)
    ·rintro (h | h)
     ·exact .inl h
     ·rcases xax.1 h with rfl | h
      ·exact .inl hx
      ·exact .inr h
   ·simp only [xau,xax,xaP,or_false]
    constructor
    ·rintro ((h | h) | h)
     ·exact .inl h
     ·exact .inr (.inl h)
     ·exact .inr (.inr h)
    ·rintro (h | h | h)
     ·exact .inl (.inl h)
     ·exact .inl (.inr h)
     ·exact .inr h
 simpa [et] using h l []
theorem me (l:List Pth):(et l).Nodup:=by
 have h:∀ (l out:List Pth),out.Nodup→(l.foldl (fun out x=>if x∈out then out else out++[x]) out).Nodup:=by
  intro l
  induction l with
  | nil=>intro out h;exact h
  | cons x l ih =>
   intro out ho
   rw [List.foldl_cons]
   apply ih
   split
   ·exact ho
   ·rename_i hx
    refine xbq.2 ⟨ho,by simp,?_⟩
    rintro a ha b hb rfl
    rw [xan.1 hb] at ha
    exact hx ha
 exact h l [] List.nodup_nil
end
def eR (last:Option Pth) (x:Pth):Bool:=match last with | none=>true | some y=>bZ y x
def fV (best:Option Pth) (x:Pth):Bool:=match best with | none=>true | some b=>bZ x b
def gC (last:Option Pth):List Pth→Option Pth→Option Pth
 | [],best=>best
 | x :: l,best=>gC last l (if eR last x&&fV best x then some x else best)
theorem jc (last:Option Pth):∀ (l:List Pth) (best:Option Pth),(∀ b,best=some b→∀ y,last=some y→bZ y b=true) →
  (∀ b,gC last l best=some b→(b∈l∨best=some b)∧(∀ y,last=some y→bZ y b=true)∧(∀ x∈l,(∀ y,last=some y→bZ y x=true)→bZ x b=false)∧∀ x,best=some x→bZ x b=false) ∧
  (gC last l best=none→best=none∧∀ x∈l,¬ ∀ y,last=some y→bZ y x=true)
 | [],best,hb=>⟨fun b h=>⟨.inr h,hb b h,(fun x hx=>by cases hx),fun x hx=>by rw [show gC last [] best=best from rfl,hx] at h;rw [xao h];exact dT _⟩,fun h=>⟨h,fun x hx=>by cases hx⟩⟩
 | x :: l,best,hb=>by
  have hab:eR last x=true↔∀ y,last=some y→bZ y x=true:=by
   cases last with
   | none=>simp [eR]
   | some y=>simp [eR]
  unfold gC
  by_cases hc:(eR last x&&fV best x)=true
  ·rw [if_pos hc]
   rw [xaG,hab] at hc
   have ih:=jc last l (some x) (fun b h=>by rw [← xao h];exact hc.1)
   refine ⟨fun b h=>?_,fun h=>absurd (ih.2 h).1 (by simp)⟩
   obtain ⟨h1,h2,h3,h4⟩:=ih.1 b h
   refine ⟨?_,h2,fun z hz hz2=>?_,fun z hz=>?_⟩
   ·rcases h1 with h1 | h1
    ·exact .inl (.tail _ h1)
    ·exact .inl (by rw [xao h1];exact .head _)
   ·rcases xax.1 hz with rfl | hz
    ·exact h4 _ rfl
    ·exact h3 z hz hz2
   ·subst hz
    have hxz:bZ x z=true:=by simpa [fV] using hc.2
    cases hzb:bZ z b with
    | false=>rfl
    | true =>
     have h9:=h4 x rfl
     rw [ey hxz hzb] at h9
     cases h9
  ·rw [if_neg hc]
   have ih:=jc last l best hb
   rw [xaG,hab] at hc
   refine ⟨fun b h=>?_,fun h=>?_⟩
   ·obtain ⟨h1,h2,h3,h4⟩:=ih.1 b h
    refine ⟨h1.imp_left (.tail _),h2,fun z hz hz2=>?_,h4⟩
    rcases xax.1 hz with rfl | hz
    ·cases hbest:best with
     | none=>exact absurd ⟨hz2,by rw [hbest];rfl⟩ hc
     | some b0 =>
      have hzb0:bZ z b0=false:=by
       cases h8:bZ z b0 with
       | false=>rfl
       | true=>exact absurd ⟨hz2,by rw [hbest];exact h8⟩ hc
      cases h8:bZ z b with
      | false=>rfl
      | true =>
       have h7:=h4 b0 hbest
       rcases gW b b0 with h6 | h6 | h6
       ·rw [ey h8 h6] at hzb0
        cases hzb0
       ·rw [h6,hzb0] at h8
        cases h8
       ·rw [h6] at h7
        cases h7
    ·exact h3 z hz hz2
   ·obtain ⟨h1,h2⟩:=ih.2 h
    refine ⟨h1,fun z hz=>?_⟩
    rcases xax.1 hz with rfl | hz
    ·exact fun h9=>hc ⟨h9,by rw [h1];rfl⟩
    ·exact h2 z hz
theorem rG {l out rest:List Pth} (h:bV l=out++rest):gC out.getLast? l none=rest.head?:=by
 have hr:gz (out++rest):=h▸eL l
 obtain ⟨hr1,hr2,hr3⟩:=xa7.1 hr
 have hlast:∀ x∈l,(∀ y,out.getLast?=some y→bZ y x=true)↔x∈rest:=by
  intro x hx
  have hx2:x∈out++rest:=h▸(er l x).2 hx
  constructor
  ·intro h9
   rcases xau.1 hx2 with h8 | h8
   ·exfalso
    have hne:out ≠ []:=xbI h8
    have h7:=h9 _ (List.getLast?_eq_some_getLast hne)
    by_cases e:x=out.getLast hne
    ·rw [← e,dT] at h7
     cases h7
    ·have e2:=List.dropLast_concat_getLast hne
     have h6:x∈out.dropLast++[out.getLast hne]:=by rw [e2];exact h8
     rcases xau.1 h6 with h5 | h5
     ·have h4:gz (out.dropLast++[out.getLast hne]):=by rw [e2];exact hr1
      have h3:=(xa7.1 h4).2.2 x h5 _ (xan.2 rfl)
      rw [jk h3] at h7
      cases h7
     ·exact e (xan.1 h5)
   ·exact h8
  ·intro h9 y hy
   exact hr3 y (List.mem_of_getLast? hy) x h9
 have hs:=jc out.getLast? l none (fun b h=>by cases h)
 cases hb:gC out.getLast? l none with
 | none =>
  have h1:=(hs.2 hb).2
  cases rest with
  | nil=>rfl
  | cons x rest =>
   have hx:x∈l:=(er l x).1 (h▸List.mem_append_right _ (.head _))
   exact absurd ((hlast x hx).2 (.head _)) (h1 x hx)
 | some b =>
  obtain ⟨h1,h2,h3,_⟩:=hs.1 b hb
  have hbl:b∈l:=h1.resolve_right (by simp)
  have hbr:=(hlast b hbl).1 h2
  cases rest with
  | nil=>cases hbr
  | cons x rest =>
   have hx:x∈l:=(er l x).1 (h▸List.mem_append_right _ (.head _))
   rcases xax.1 hbr with e | h9
   ·rw [e];rfl
   ·have h8:=(xa2.1 hr2).1 b h9
    have h7:=h3 x hx ((hlast x hx).2 (.head _))
    rw [h8] at h7
    cases h7
end Go.Proofs.YtomnhnmciopiiaaGreat
end
section
namespace Go.Proofs.YtomnhnmciopiiaaGreat
open Go.Shelf
def Tryz.oG:Go.Shelf.Ren:=⟨fun | 6=>122 | 15=>165 | 14=>164 | 28=>194 | 29=>195 | 20=>186 | 21=>187 | 22=>188 | 23=>189 | 24=>190 | 25=>191 | 26=>192 | 27=>193 | 46=>206 | 47=>207 | 48=>208 | 49=>209 | 50=>210 | 57=>217 | n=>n,fun | 22=>72 | 24=>83 | 25=>185 | 3=>3 | 39=>139 | 0=>0 | 53=>193 | 55=>188 | 4=>4 | 46=>297 | 45=>296 | 50=>177 | 5=>5 | 9=>9 | 66=>311 | 70=>315 | 76=>324 | 77=>325 | n=>n,fun | n=>n⟩
theorem Tryz.pJ:Go.Proofs.SlLaysF0.n6 Tryz.prog Tryz.oG:={
 mixed:=by kernel_rfl
 f6:=⟨Tryz.f122.name,by decide,Tryz.func122.trans (congrArg some (by kernel_rfl))⟩
 f14:=⟨Tryz.f164.name,by decide,Tryz.func164.trans (congrArg some (by kernel_rfl))⟩
 f15:=Tryz.func165.trans (congrArg some (by kernel_rfl))
 f20:=⟨Tryz.f186.name,by decide,Tryz.func186.trans (congrArg some (by kernel_rfl))⟩
 f21:=⟨Tryz.f187.name,by decide,Tryz.func187.trans (congrArg some (by kernel_rfl))⟩
 f22:=⟨Tryz.f188.name,by decide,Tryz.func188.trans (congrArg some (by kernel_rfl))⟩
 f23:=⟨Tryz.f189.name,by decide,Tryz.func189.trans (congrArg some (by kernel_rfl))⟩
 f24:=⟨Tryz.f190.name,by decide,Tryz.func190.trans (congrArg some (by kernel_rfl))⟩
 f25:=⟨Tryz.f191.name,by decide,Tryz.func191.trans (congrArg some (by kernel_rfl))⟩
 f26:=⟨Tryz.f192.name,by decide,Tryz.func192.trans (congrArg some (by kernel_rfl))⟩
 f27:=⟨Tryz.f193.name,by decide,Tryz.func193.trans (congrArg some (by kernel_rfl))⟩
 f28:=Tryz.func194.trans (congrArg some (by kernel_rfl))
 f29:=Tryz.func195.trans (congrArg some (by kernel_rfl))
 f46:=⟨Tryz.f206.name,by decide,Tryz.func206.trans (congrArg some (by kernel_rfl))⟩
 f47:=Tryz.func207.trans (congrArg some (by kernel_rfl))
 f48:=Tryz.func208.trans (congrArg some (by kernel_rfl))
 f49:=⟨Tryz.f209.name,by decide,Tryz.func209.trans (congrArg some (by kernel_rfl))⟩
 f50:=⟨Tryz.f210.name,by decide,Tryz.func210.trans (congrArg some (by kernel_rfl))⟩
 f57:=⟨Tryz.f217.name,by decide,Tryz.func217.trans (congrArg some (by kernel_rfl))⟩
 t0:=Tryz.underlying0
 a0:=Tryz.isAgg0
 z0:=Tryz.sizeOf0
 v0:=Tryz.zeroValue0
 t3:=Tryz.underlying3
 a3:=Tryz.isAgg3
 z3:=Tryz.sizeOf3
 v3:=Tryz.zeroValue3
 t4:=Tryz.underlying4
 a4:=Tryz.isAgg4
 z4:=Tryz.sizeOf4
 v4:=Tryz.zeroValue4
 t5:=Tryz.underlying5
 a5:=Tryz.isAgg5
 z5:=Tryz.sizeOf5
 v5:=Tryz.zeroValue5
 t9:=Tryz.underlying9
 a9:=Tryz.isAgg9
 z9:=Tryz.sizeOf9
 v9:=Tryz.zeroValue9
 t22:=Tryz.underlying72
 a22:=Tryz.isAgg72
 z22:=Tryz.sizeOf72
 v22:=Tryz.zeroValue72
 t25:=Tryz.underlying185
 a25:=Tryz.isAgg185
 z25:=Tryz.sizeOf185
 v25:=Tryz.zeroValue185
 t39:=Tryz.underlying139
 a39:=Tryz.isAgg139
 z39:=Tryz.sizeOf139
 v39:=Tryz.zeroValue139
 t45:=Tryz.underlying296
 a45:=Tryz.isAgg296
 z45:=Tryz.sizeOf296
 v45:=Tryz.zeroValue296
 t46:=Tryz.underlying297
 a46:=Tryz.isAgg297
 z46:=Tryz.sizeOf297
 v46:=Tryz.zeroValue297
 t50:=Tryz.underlying177
 a50:=Tryz.isAgg177
 z50:=Tryz.sizeOf177
 v50:=Tryz.zeroValue177
 t53:=Tryz.underlying193
 a53:=Tryz.isAgg193
 z53:=Tryz.sizeOf193
 v53:=Tryz.zeroValue193
 t55:=Tryz.underlying188
 a55:=Tryz.isAgg188
 z55:=Tryz.sizeOf188
 v55:=Tryz.zeroValue188
 t66:=Tryz.underlying311
 a66:=Tryz.isAgg311
 z66:=Tryz.sizeOf311
 v66:=Tryz.zeroValue311
 t70:=Tryz.underlying315
 a70:=Tryz.isAgg315
 z70:=Tryz.sizeOf315
 v70:=Tryz.zeroValue315
 t76:=Tryz.underlying324
 a76:=Tryz.isAgg324
 z76:=Tryz.sizeOf324
 v76:=Tryz.zeroValue324
 t77:=Tryz.underlying325
 a77:=Tryz.isAgg325
 z77:=Tryz.sizeOf325
 v77:=Tryz.zeroValue325 }
end Go.Proofs.YtomnhnmciopiiaaGreat
end
section
namespace Go.Proofs.YtomnhnmciopiiaaGreat
open Go Go.RowKit
def mj (x y:List UInt8):Int:=xb7 x y
def vm (x y:Pth):Int:=if x.1=y.1 then mj x.2.data.toList y.2.data.toList else mj x.1 y.1
theorem lp:∀ x y:List UInt8,decide (mj x y<0)=xaF x y
 | [],[]=>rfl
 | [],_ :: _=>rfl
 | _ :: _,[]=>rfl
 | a :: x,b :: y=>by
  have ih:=lp x y
  unfold mj at ih ⊢
  unfold xb7 xaF
  by_cases h:a<b
  ·simp [h]
  ·rw [if_neg h]
   by_cases h2:b<a
   ·rw [if_pos h2]
    have hne:¬ a=b:=fun e=>by subst e;exact h h2
    simp [h,hne]
   ·rw [if_neg h2,ih]
    have e:a=b:=by
     apply UInt8.toNat_inj.1
     have k1:¬ a.toNat<b.toNat:=fun k=>h (xbj.2 k)
     have k2:¬ b.toNat<a.toNat:=fun k=>h2 (xbj.2 k)
     omega
    simp [e]
theorem uA:∀ x y:List UInt8,mj x y=if xaF x y=true then -1 else if xaF y x=true then 1 else 0
 | [],[]=>rfl
 | [],_ :: _=>rfl
 | _ :: _,[]=>rfl
 | a :: x,b :: y=>by
  have ih:=uA x y
  unfold mj at ih ⊢
  unfold xb7
  simp only [xaF]
  by_cases h:a<b
  ·simp [h]
  ·by_cases h2:b<a
   ·have hne:¬ a=b:=fun e=>by subst e;exact h h2
    simp [h,h2,hne]
   ·have e:a=b:=by
     apply UInt8.toNat_inj.1
     have k1:¬ a.toNat<b.toNat:=fun k=>h (xbj.2 k)
     have k2:¬ b.toNat<a.toNat:=fun k=>h2 (xbj.2 k)
     omega
    subst e
    simp [h,ih]
theorem vn (x y:Pth):decide (vm x y<0)=bZ x y:=by
 unfold vm bZ
 split
 ·exact lp _ _
 ·exact lp _ _
theorem q5 (x:List UInt8):Lib.bytesOf (x.map fun b=>(b.toNat:Int))=x:=by
 unfold Lib.bytesOf
 rw [List.map_map]
 conv=>rhs;rw [← List.map_id x]
 refine List.map_congr_left fun b _=>?_
 simp
theorem pH {P:Program} (w:World) (x:List UInt8) (b off:Nat) (h:w.rangeAt b off (bv x)):(Extern.Bytes.loadBytes ⟨b,off,none⟩ x.length .empty).run P w=.ok ⟨x.toArray⟩ w:=by
 have hl:=Lib.run_loadBytesX (P:=P) w (x.map fun b=>(b.toNat:Int)) ⟨b,off,none⟩ .empty (fun j z hj=>by
  have e:(⟨b,off,none⟩:Addr).add j=⟨b,off+j,none⟩:=by unfold Addr.add;split<;>simp_all
  rw [e]
  refine h j _ ?_
  rw [xaD] at hj
  cases hx:x[j]? with
  | none=>rw [hx] at hj;cases hj
  | some u =>
   rw [hx] at hj
   have hj:=xao hj
   simp [bv,hx,← hj])
 rw [xat,q5] at hl
 rw [hl]
 congr 1
 apply ByteArray.ext
 show (#[]:Array UInt8)++x.toArray=x.toArray
 simp
theorem kW {P:Program} (w:World) (x y:List UInt8) (b1 o1 c1 b2 o2 c2:Nat) (h1:w.rangeAt b1 o1 (bv x)) (h2:w.rangeAt b2 o2 (bv y)) :
  (xb1 #[.slice (some ⟨b1,o1,none⟩) x.length c1,.slice (some ⟨b2,o2,none⟩) y.length c2]).run P w=.ok (.int .i64 (mj x y)) w:=by
 change Sem.run P (do pure (goInt (Extern.BytealgCompare.cmp (← xbW (.slice (some ⟨b1,o1,none⟩) x.length c1)) (← xbW (.slice (some ⟨b2,o2,none⟩) y.length c2))))) w=_
 simp only [xbW,xaK,xaN,xbd,pH w x b1 o1 h1,pH w y b2 o2 h2]
 rw [Lib.cmp_eq]
 rfl
theorem lh (w:World) (x y:List UInt8) (b1 o1 c1 b2 o2 c2:Nat) (h1:w.rangeAt b1 o1 (bv x)) (h2:w.rangeAt b2 o2 (bv y)) :
  Calls Tryz.prog 167 #[.slice (some ⟨b1,o1,none⟩) x.length c1,.slice (some ⟨b2,o2,none⟩) y.length c2] w fun e w'=>e=.returned (.int .i64 (mj x y))∧w'=w:=by
 have hr:=kW (P:=Tryz.prog) w x y b1 o1 c1 b2 o2 c2 h1 h2
 generalize mj x y=r at hr ⊢
 go_enter Tryz.func167,Tryz.ntmps167
 go_wp2
 rw [run_callFunc_extern Tryz.func197 (by kernel_rfl) (by kernel_rfl) (by kernel_rfl) (e:=xb1) (by kernel_rfl),hr]
 simp only [xbd]
 rw [xbP]
 go_wp2
 go_ret
 exact ⟨rfl,rfl⟩
theorem ou (w:World) (x y:ByteArray) :
  Calls Tryz.prog 166 #[.string x,.string y] w fun e w'=>e=.returned (.int .i64 (mj x.data.toList y.data.toList))∧w'=w:=by
 have e1:mj x.data.toList y.data.toList=if xaF x.toList y.toList=true then -1 else if xaF y.toList x.toList=true then 1 else 0:=by
  rw [xbY,xbY]
  exact uA _ _
 rw [e1]
 have h3:=ir x.toList y.toList
 clear e1
 go_enter Tryz.func166,Tryz.ntmps166
 cases hA:xaF x.toList y.toList<;>cases hB:xaF y.toList x.toList
 ·go_wp2
  all_goals first | (exfalso;simp_all;done) | (go_ret;simp_all;done)
 ·go_wp2
  all_goals first | (exfalso;simp_all;done) | (go_ret;simp_all;done)
 ·go_wp2
  all_goals first | (exfalso;simp_all;done) | (go_ret;simp_all;done)
 ·go_wp2
  all_goals first | (exfalso;simp_all;done) | (go_ret;simp_all;done)
def Drn (w w':World):Prop:=∃ n,w'=w.drewN n
instance:Fre.cV Drn where
 refl:=fun w=>⟨0,rfl⟩
 trans:=fun a b c ⟨n,h1⟩ ⟨m,h2⟩=>⟨n+m,by rw [h2,h1,World.drewN_drewN]⟩
 drew:=fun w=>⟨1,rfl⟩
attribute [local irreducible] wpList
theorem wJ (x y:Pth) (hx:okP x) (hy:okP y) (W:World) :
  Calls Tryz.prog 123 #[.agg (pC x).toArray,.agg (pC y).toArray] W fun e w'=>e=.returned (.int .i64 (vm x y))∧∃ q os',w'=xct (W.drewN q) os':=by
 obtain ⟨w1,hw1⟩:∃ w1,w1=W.alloc (.cells (pC x).toArray 83):=⟨_,rfl⟩
 obtain ⟨w2,hw2⟩:∃ w2,w2=w1.alloc (.cells (pC y).toArray 83):=⟨_,rfl⟩
 have n1:hI W w1 83 (pC x).toArray:=hw1▸cF _ _ _
 have n2:hI w1 w2 83 (pC y).toArray:=hw2▸cF _ _ _
 have b2:=n2.blk
 have b1:=n1.blk.below n2.below n1.blk.lt
 have fin:∃ q os',w2=xct (W.drewN q) os':=⟨0,_,by rw [hw2,hw1,xcf,xcf,Go.Sort.grow_grow];rfl⟩
 go_enter Tryz.func123,Tryz.ntmps123
 refine wp_seq_k fun K1 h1=>?_
 refine rl ?_
 refine rvw (v:=.pointer (some ⟨W.heap.size,0,none⟩)) (w':=w1) (by rw [hw1];kernel_rfl) ?_
 refine rn ?_
 refine rvw (v:=.pointer (some ⟨w1.heap.size,0,none⟩)) (w':=w2) (by rw [hw2];kernel_rfl) ?_
 refine rn ?_
 refine nt (h1 _ _ ?_)
 refine wp_seq_k fun K2 h2=>?_
 refine wp_seq_k fun K3 h3=>?_
 refine rl ?_
 refine rv (v:=.pointer (some ⟨W.heap.size,0,none⟩)) (by kernel_rfl) ?_
 refine rv (xld (qJ (Blk.range b1)) Tryz.underlying34 (by rw [bvL,hx.1];kernel_rfl)) ?_
 refine rv (v:=.pointer (some ⟨w1.heap.size,0,none⟩)) (by kernel_rfl) ?_
 refine rv (xld (qJ (Blk.range b2)) Tryz.underlying34 (by rw [bvL,hy.1];kernel_rfl)) ?_
 by_cases p:x.1=y.1
 ·refine rv (Ch (cW x.1 y.1 hx.1 hy.1 w2) (decide_eq_true p)) ?_
  refine nt (h3 _ _ ?_)
  refine ct ?_
  refine wp_seq_k fun K4 h4=>?_
  refine rl ?_
  refine rv (v:=.pointer (some ⟨W.heap.size,20,none⟩)) (by kernel_rfl) ?_
  refine rv (xlc (range_cell (sa hx (Blk.range b1))) Tryz.underlying9) ?_
  refine rv (v:=.pointer (some ⟨w1.heap.size,20,none⟩)) (by kernel_rfl) ?_
  refine rv (xlc (range_cell (sa hy (Blk.range b2))) Tryz.underlying9) ?_
  refine pX (by kernel_rfl) _ _ (by kernel_rfl) (ou w2 x.2 y.2) ?_
  rintro e w7 ⟨rfl,rfl⟩
  refine ⟨_,rfl,rn ?_⟩
  refine nt (h4 _ _ ?_)
  refine wp_ret ?_
  simp only [Exit.then]
  refine bodyPost_ret (results_tmp rfl _ _ _) rfl ?_
  exact ⟨by unfold vm;rw [if_pos p];rfl,fin⟩
 ·refine rv (Ch (cW x.1 y.1 hx.1 hy.1 w2) (decide_eq_false p)) ?_
  refine nt (h3 _ _ ?_)
  refine cf ?_
  refine ks (h2 _ _ ?_)
  refine wp_seq_k fun K5 h5=>?_
  refine Fre.aV (X:=Drn) [] (by kernel_rfl) (by kernel_rfl) (by simp) (by simp) (by simp) ?_
  refine Fre.mvv (v:=.pointer (some ⟨W.heap.size,0,none⟩)) (fun _ _=>by kernel_rfl) ?_
  refine Fre.mvv (v:=.slice (some ⟨W.heap.size,0,none⟩) 20 20) (fun _ _=>by kernel_rfl) ?_
  refine Fre.mvv (v:=.pointer (some ⟨w1.heap.size,0,none⟩)) (fun _ _=>by kernel_rfl) ?_
  refine Fre.mvv (v:=.slice (some ⟨w1.heap.size,0,none⟩) 20 20) (fun _ _=>by kernel_rfl) ?_
  refine Fre.dB (.int .i64 (mj x.1 y.1)) 167 #[.slice (some ⟨W.heap.size,0,none⟩) 20 20,.slice (some ⟨w1.heap.size,0,none⟩) 20 20] (by kernel_rfl) (by kernel_rfl) (by kernel_rfl) (fun _=>by kernel_rfl) (fun W9 hW9=>?_) ?_
  ·obtain ⟨n,rfl⟩:=hW9
   have h9:=lh (w2.drewN n) x.1 y.1 W.heap.size 0 20 w1.heap.size 0 20 (qJ (Blk.range (b1.drewN n))) (qJ (Blk.range (b2.drewN n)))
   rw [hx.1,hy.1] at h9
   exact h9.mono fun e w' ⟨e1,e2⟩=>⟨e1,0,e2⟩
  refine Fre.rmd ?_
  rintro w9 ⟨n,rfl⟩
  dsimp only [Fre.ended,xas]
  refine ab (h5 _ _ ?_)
  refine wp_ret ?_
  refine bodyPost_ret (results_tmp rfl _ _ _) rfl ?_
  refine ⟨by unfold vm;rw [if_neg p];rfl,?_⟩
  obtain ⟨q,os,e⟩:=fin
  exact ⟨q+n,os,by rw [e];show xct ((W.drewN q).drewN n) os=_;rw [World.drewN_drewN]⟩
end Go.Proofs.YtomnhnmciopiiaaGreat
end
section
namespace Go.Proofs.YtomnhnmciopiiaaGreat
open Go Go.RowKit
section
variable {α:Type} [Inhabited α] {enc:α→List Value} {k:Nat}
omit [Inhabited α] in
theorem o6 (hk:∀ x,(enc x).length=k):∀ (l:List α) (j:Nat) (x:α) (i:Nat) (v:Value),l[j]?=some x→(enc x)[i]?=some v→(l.flatMap enc)[j*k+i]?=some v
 | [],j,x,i,v,h,_=>by simp at h
 | y :: l,0,x,i,v,h,hv=>by
  simp at h
  subst h
  have hi:=(xah.1 hv).1
  rw [List.flatMap_cons,Nat.zero_mul,Nat.zero_add,List.getElem?_append_left hi]
  exact hv
 | y :: l,j+1,x,i,v,h,hv=>by
  have ih:=o6 hk l j x i v (by simpa using h) hv
  rw [List.flatMap_cons,List.getElem?_append_right (by rw [hk,Nat.add_mul];omega),hk]
  have e:(j+1)*k+i-k=j*k+i:=by rw [Nat.add_mul];omega
  rw [e]
  exact ih
theorem nk (hk:∀ x,(enc x).length=k) (d:Array α):(xbl enc k d).toList=d.toList.flatMap enc:=by
 apply List.ext_getElem?
 intro t
 have hl:(d.toList.flatMap enc).length=d.size*k:=by
  rw [List.length_flatMap]
  have:∀ l:List α,(l.map fun x=>(enc x).length).sum=l.length*k:=by
   intro l
   induction l with
   | nil=>simp
   | cons x l ih=>rw [List.map_cons,List.sum_cons,ih,hk,xaE,Nat.add_mul];omega
  rw [this,xbh]
 by_cases ht:t<d.size*k
 ·have h0:0<k:=by
   rcases Nat.eq_zero_or_pos k with h | h
   ·subst h;simp at ht
   ·exact h
  have hj:t / k<d.size:=(Nat.div_lt_iff_lt_mul h0).2 ht
  have hi:t % k<k:=Nat.mod_lt _ h0
  have e1:(xbl enc k d)[t]! = (enc d[t / k]!)[t % k]!:=Go.Sort.get_flatK enc k d t ht
  have hs:t<(xbl enc k d).size:=by rw [xbH];exact ht
  rw [getElem!_pos (xbl enc k d) t hs] at e1
  rw [xaM,xa5 hs,e1]
  have hx:d.toList[t / k]?=some d[t / k]!:=by
   rw [xaM,xa5 hj,getElem!_pos d (t / k) hj]
  have hv:(enc d[t / k]!)[t % k]?=some ((enc d[t / k]!)[t % k]!):=by
   have hlt:t % k<(enc d[t / k]!).length:=by rw [hk];exact hi
   rw [xaj hlt,getElem!_pos (enc d[t / k]!) (t % k) hlt]
  have h9:=o6 hk d.toList (t / k) _ (t % k) _ hx hv
  rw [Nat.div_add_mod' t k] at h9
  exact h9.symm
 ·rw [xbi (l:=d.toList.flatMap enc) (by rw [hl];omega),xbi (by rw [xbh,xbH];omega)]
theorem vH (hk:∀ x,(enc x).length=k) {w:World} {g:Nat} {t:TypeId} {cur:Array Value} (hb:Blk w g t cur) (d:Array α) (hc:cur.toList.take (d.size*k)=d.toList.flatMap enc):Go.Sort.HoldsK enc k w g 0 d:=by
 intro j hj
 rw [xbH] at hj
 have hs:j<(xbl enc k d).size:=by rw [xbH];exact hj
 have e:(xbl enc k d).toList[j]?=some ((xbl enc k d)[j]!):=by
  rw [xaM,xa5 hs,getElem!_pos (xbl enc k d) j hs]
 rw [nk hk,← hc,List.getElem?_take_of_lt hj,xaM] at e
 refine ⟨?_,?_⟩
 ·rw [Nat.zero_add,hb.cell,e]
  rfl
 ·rw [Nat.zero_add]
  exact hb.frozen j
theorem AK (hk:∀ x,(enc x).length=k) {w:World} {g:Nat} {t:TypeId} {cur:Array Value} (hb:Blk w g t cur) (d:Array α) (n:Nat) (os:Array Obj) (hs:d.size*k≤cur.size) :
  ∃ cur',Blk (sortWorldK enc k w g 0 n d os) g t cur'∧cur'.size=cur.size∧cur'.toList.take (d.size*k)=d.toList.flatMap enc∧w.grownBy (sortWorldK enc k w g 0 n d os) (some g):=by
 have hF:(xbl enc k d).size=d.size*k:=xbH enc k d
 have hg:(w.heap.modify g (Go.Sort.onCells (xbK id 0 (xbl enc k d))))[g]?=some (.cells (xbK id 0 (xbl enc k d) cur) t (0,0)):=by
  rw [Array.getElem?_modify,if_pos rfl,(show w.heap[g]?=_ from hb)]
  rfl
 refine ⟨xbK id 0 (xbl enc k d) cur,?_,by simp [xbK],?_,⟨rfl,rfl,rfl,?_,fun b hl hne=>?_⟩⟩
 ·show ((w.heap.modify g _)++os)[g]?=_
  rw [xb4 (by rw [xb5];exact hb.lt)]
  exact hg
 ·rw [← nk hk]
  apply List.ext_getElem?
  intro j
  by_cases hj:j<d.size*k
  ·rw [List.getElem?_take_of_lt hj,xaM,xaM]
   unfold xbK
   rw [Array.getElem?_mapIdx,xa5 (by omega:j<cur.size),Option.map_some,if_pos ⟨Nat.zero_le _,by omega⟩,Nat.sub_zero]
   rw [getElem!_pos (xbl enc k d) j (by omega),xa5 (by omega)]
   rfl
  ·rw [xbi (by rw [xaJ];omega),xbi (by rw [xbh];omega)]
 ·show w.heap.size≤((w.heap.modify g _)++os).size
  rw [Array.size_append,xb5]
  omega
 ·show ((w.heap.modify g _)++os)[b]?=_
  rw [xb4 (by rw [xb5];exact hl),Array.getElem?_modify,if_neg (fun e=>hne (by rw [e]))]
end
end Go.Proofs.YtomnhnmciopiiaaGreat
end
section
namespace Go.Proofs.YtomnhnmciopiiaaGreat
open Go Go.RowKit
abbrev pR:={p:Pth // okP p}
instance:Inhabited pR:=⟨⟨dW,eN⟩⟩
def zU (x:pR):List Value:=pC x.1
def cfO (x y:pR):Int:=vm x.1 y.1
theorem ltO (x y:pR):Go.Proofs.ltOf cfO x y=bZ x.1 y.1:=vn x.1 y.1
theorem Cf:Go.Sort.SWO (Go.Proofs.ltOf cfO) where
 irrefl x:=by rw [ltO];exact dT _
 trans x y z h1 h2:=by rw [ltO] at *;exact ey h1 h2
 ntrans x y z h1 h2:=by
  rw [ltO] at *
  cases h:bZ x.1 z.1 with
  | false=>rfl
  | true =>
   rcases gW x.1 y.1 with h3 | h3 | h3
   ·rw [h1] at h3;cases h3
   ·rw [h3,h2] at h;cases h
   ·rw [ey h3 h] at h2;cases h2
theorem Cq (x y:pR) (h1:Go.Proofs.ltOf cfO x y=false) (h2:Go.Proofs.ltOf cfO y x=false):x=y:=by
 rw [ltO] at *
 rcases gW x.1 y.1 with h3 | h3 | h3
 ·rw [h1] at h3;cases h3
 ·exact Subtype.ext h3
 ·rw [h2] at h3;cases h3
theorem Cl (blk off size:Nat) (w:World):Go.Proofs.CmpLays Tryz.prog 123 #[] zU 21 cfO blk off size w :=
 fun _ _ _ _ x y=>wJ x.1 y.1 x.2 y.2 _
def nF (l:List Pth) (h:∀ p∈l,okP p):List pR:=l.pmap Subtype.mk h
theorem vX (l:List Pth) (h:∀ p∈l,okP p):(nF l h).map (·.1)=l:=by
 unfold nF
 rw [List.map_pmap]
 simp
theorem rj (l:List pR):l.flatMap zU=(l.map (·.1)).flatMap pC:=by
 rw [List.flatMap_map]
 rfl
theorem qz (l:List pR) (hn:(l.map (·.1)).Nodup):(l.mergeSort fun x y=>!(Go.Proofs.ltOf cfO) y x).map (·.1)=bV (l.map (·.1)):=by
 have hp:=List.mergeSort_perm l fun x y=>!(Go.Proofs.ltOf cfO) y x
 have hs:=List.pairwise_mergeSort (le:=fun x y=>!(Go.Proofs.ltOf cfO) y x) (fun a b c h1 h2=>by
  simp only [Bool.not_eq_true'] at *
  exact Cf.ntrans _ _ _ h2 h1) (fun a b=>by
  rw [ltO,ltO]
  cases h:bZ b.1 a.1 with
  | false=>rfl
  | true=>rw [jk h];rfl) l
 have hm:=hp.map (·.1)
 have hnd:=hm.symm.nodup hn
 refine sq ?_ fun x=>hm.mem_iff
 unfold gz
 rw [List.pairwise_map]
 have h2:(l.mergeSort fun x y=>!(Go.Proofs.ltOf cfO) y x).Pairwise fun a b=>a.1 ≠ b.1:=List.pairwise_map.1 hnd
 refine (hs.and h2).imp fun {a b} ⟨h3,h4⟩=>?_
 simp only [Bool.not_eq_true',ltO] at h3
 rcases gW a.1 b.1 with h | h | h
 ·exact h
 ·exact absurd h h4
 ·rw [h] at h3;cases h3
theorem fM {l:List Pth} (h:l.Nodup):(bV l).length=l.length :=
 List.Perm.length_eq ((List.perm_ext_iff_of_nodup (qO (eL l)) h).2 fun x=>er l x)
theorem oF (w:World) (B:Nat) (l:List Pth) (hok:∀ p∈l,okP p) (hnd:l.Nodup) (hn:l.length≤1000000) (A:Option Addr) (cap:Nat) (ho:w.ownsRow B 83 21 (.slice A l.length cap) l.length (l.flatMap pC)) :
  Calls Tryz.prog 122 #[.slice A l.length cap,.func (.func 123) #[] #[]] w fun e w'=>e=.returned (.tuple #[])∧w'.ownsRow B 83 21 (.slice A l.length cap) l.length ((bV l).flatMap pC)∧w.grownBy w' (xag A l.length cap).ownBlock:=by
 rcases Nat.eq_zero_or_pos l.length with h0 | h0
 ·obtain rfl:=xcc.1 h0
  have h9:=AnyF.slices_SortFunc_none Tryz.pJ A cap (.func (.func 123) #[] #[]) w
  refine h9.mono fun e w' ⟨h1,h2⟩=>?_
  subst h2
  exact ⟨h1,ho,World.grownBy.refl _ _⟩
 ·obtain ⟨hlen,hf⟩:=ho
  rcases hf with ⟨_,h⟩ | ⟨g,cap',cur,e,hB,hb,hc,hm,hs,ht⟩
  ·omega
  injection e with e1 e2 e3
  subst e1 e3
  have hmap:=vX l hok
  have hsz:(nF l hok).toArray.size=l.length:=by rw [xal];have:=congrArg List.length hmap;rwa [xat] at this
  have hfl:∀ x:pR,(zU x).length=21:=fun x=>bQ x.2
  have hblk:Blk w g 83 cur:=hb
  have hH:=vH hfl hblk (nF l hok).toArray (by rw [hsz,ht,xcs,rj,hmap])
  have hcon:=AnyQ.slices_SortFunc_total Tryz.pJ 21 Tryz.isAgg83 Tryz.sizeOf83 zU hfl (fun x=>jj x.1) cfO Cf 123 #[] g 0 cap (nF l hok).toArray w (enters_of Tryz.func123 (by kernel_rfl) rfl) (Cl g 0 _ w) hH hblk.lt (by rw [hsz];omega) Cq
  rw [hsz] at hcon
  refine Calls.mono hcon ?_
  rintro e w' ⟨h1,n,os,rfl⟩
  have hd:(((nF l hok).toArray.toList.mergeSort fun x y=>!(Go.Proofs.ltOf cfO) y x).toArray).size=l.length:=by
   rw [xal,List.length_mergeSort]
   exact hsz
  obtain ⟨cur',k1,k2,k3,k4⟩:=AK (t:=83) hfl hblk (((nF l hok).toArray.toList.mergeSort fun x y=>!(Go.Proofs.ltOf cfO) y x).toArray) n os (by rw [hd,hs];exact xa8 21 hc)
  have hl9:(bV l).length=l.length:=fM hnd
  rw [hd,xcs,rj,qz _ (by rw [hmap];exact hnd),hmap] at k3
  refine ⟨h1,⟨?_,.inr ⟨g,cap,cur',rfl,hB,k1,hc,hm,by rw [k2,hs],k3⟩⟩,k4⟩
  have e9:cur'.toList.length=cap*21:=by rw [xbh,k2,hs]
  rw [← k3,xaJ,e9]
  exact Nat.min_eq_left (xa8 21 hc)
end Go.Proofs.YtomnhnmciopiiaaGreat
end
section
namespace Go.Proofs.YtomnhnmciopiiaaGreat
open Go Go.RowKit Go.Maps
attribute [local irreducible] wpList
theorem ik:(Tryz.prog.info? 83).map (fun i=>(i.zero,i.size,i.bytes))=some (some (.agg zcP),21,40):=by kernel_rfl
theorem y5 {w:World} {B:Nat} {v:Value} {l:List Pth} (h:gZ.At w B [v] l):∀ p∈l,okP p:=fun p hp=>by
 obtain ⟨A,cap,rfl,_,_,_,hA⟩:=ak h
 obtain ⟨j,hj⟩:=xaO hp
 obtain ⟨b,off,_,_,hE⟩:=hA (List.length_pos_of_mem hp)
 obtain ⟨cs,_,h9⟩:=hE j p hj
 exact (cG.1 h9).2
theorem Cg:(Tryz.prog.info? 182).map (·.size)=some (#[]:Array Value).size:=by kernel_rfl
theorem zv:(Tryz.prog.info? 182).map (·.size)=some ([]:List Value).toArray.size:=by kernel_rfl
def unV (_:Unit):Value:=.agg #[]
def iK (l:List Pth):List (Pth×Unit):=l.map fun p=>(p,())
theorem od (l:List Pth) (x:Pth):(aX (iK l) x).isSome=true↔x∈l:=by
 constructor
 ·intro h
  obtain ⟨u,hu⟩:=Option.isSome_iff_exists.1 h
  obtain ⟨p,hp,e⟩:=xav.1 (nM hu)
  injection e with e1 _
  rw [← e1]
  exact hp
 ·intro h
  cases hm:aX (iK l) x with
  | some v=>rfl
  | none=>exact absurd rfl (gR.1 hm (x,()) (xav.2 ⟨x,h,rfl⟩))
theorem zn {l:List Pth} {x:Pth} (h:x ∉ l):jH (iK l) x ()=iK (l++[x]):=by
 rw [kM]
 ·simp [iK]
 ·cases hm:aX (iK l) x with
  | none=>rfl
  | some v=>exact absurd ((od l x).1 (by rw [hm];rfl)) h
theorem xf {w:World} {g:Nat} {l:List Pth} (h:bH pV okP unV w g (iK l)) {x:Pth} (hx:okP x) {b:Bool} (hb:(aX (iK l) x).isSome=b):(xbG 181 (.map (some g)) (.agg (pC x).toArray) true).run Tryz.prog w=.ok (.tuple #[.agg #[],.bool b]) w:=by
 have h9:=h.look_ok jm (x:=x) hx Tryz.underlying181 (z:=.agg #[]) (by kernel_rfl)
 rw [hb] at h9
 have e:((aX (iK l) x).map unV).getD (.agg #[])=.agg #[]:=by cases aX (iK l) x<;>rfl
 rw [e] at h9
 exact h9
theorem yQ {l:List Pth} {k:Nat} {x:Pth} {os:List Pth} (ho:os=et (l.take k)) (hx:l[k]?=some x) (hm:x∈os):os=et (l.take (k+1)):=by
 rw [xaz,hx]
 show os=et (l.take k++[x])
 rw [j7,← ho,if_pos hm]
theorem AD {l:List Pth} {k:Nat} {x:Pth} {os:List Pth} (ho:os=et (l.take k)) (hx:l[k]?=some x) (hm:x ∉ os):os++[x]=et (l.take (k+1)):=by
 rw [xaz,hx]
 show os++[x]=et (l.take k++[x])
 rw [j7,← ho,if_neg hm]
theorem yP (l:List Pth):(et l).length≤l.length:=by
 have h:∀ k,k≤l.length→(et (l.take k)).length≤k:=by
  intro k
  induction k with
  | zero=>intro _;simp [et]
  | succ k ih =>
   intro hk
   have hx:l[k]?=some l[k]:=xaj (by omega)
   rw [xaz,hx]
   show (et (l.take k++[l[k]])).length≤_
   rw [j7]
   have:=ih (by omega)
   split
   ·omega
   ·rw [xap,xa0];omega
 have h9:=h l.length (xai _)
 rwa [xaB] at h9
theorem AE {l:List Pth} (h:∀ p∈l,okP p):∀ p∈et l,okP p:=fun p hp=>h p ((px l p).1 hp)
theorem uf (w:World) (l:List Pth) (v:Value) (h:gZ.At w w.heap.size [v] l) (hn:l.length≤1000000) :
  Calls Tryz.prog 79 #[v] w fun e w'=>∃ A c,e=.returned (.slice A (bV l).length c)∧Mem w w' [aq w.heap.size 83 21 (.slice A (bV l).length c) (bV l).length ((bV l).flatMap pC)]:=by
 have hok:=y5 h
 obtain ⟨A,cap,rfl,_,hcm,_,hA⟩:=ak h
 simp only [maxLen] at hcm
 have H0:=Mem.start w
 go_enter Tryz.func79,Tryz.ntmps79
 refine sk fun _ K1=>rl ?_
 refine nt (K1 _ _ (sk fun _ K2=>rl ?_))
 refine mw pV okP unV rfl 181 rfl ?_
 intro w3 hn
 have H4:=Mem.BK H0 hn
 clear hn
 refine rn ?_
 refine nt (K2 _ _ (sk fun _ K5=>sk fun _ K6=>rl ?_))
 refine nt (K6 _ _ (wp_block ?_))
 have H7:=Mem.dw H4 w.heap.size 83 21
 go_loopw [2,11] (fun x2 x11 wr=>∃ k:Nat,∃ os:List Pth,∃ A9:Option Addr,∃ c9:Nat,x2=.slice A9 os.length c9∧x11=.int .i64 (k:Int)∧(k≤l.length)∧(os=et (l.take k))∧Mem w wr [aq (w.heap.size) 83 21 (.slice A9 os.length c9) (os).length ((os).flatMap pC),wh pV okP unV w.heap.size (iK os)]) (fun x2 x11 _=>l.length-(intOf x11).toNat)
 case atStart=>exact ⟨0,([]),none,0,rfl,rfl,by omega,(by rfl),H7⟩
 case round =>
  obtain ⟨wo8,rfl⟩:∃ wo8,wo8=wr:=⟨_,rfl⟩
  obtain ⟨k,os,A9,c9,rfl,rfl,hk,hos,H9⟩:=hrel
  have hol:os.length≤k:=by have h9:=yP (l.take k);rw [← hos,xaJ] at h9;omega
  refine sk fun _ K11=>rl ?_
  by_cases p12:(k:Int)<((l.length:Nat):Int)
  ·refine rv (aA (decide_eq_true p12)) ?_
   refine nt (K11 _ _ (sk fun _ K13=>ct (ks (K13 _ _ (sk fun _ K14=>wp_block (sk fun _ K15=>rl ?_))))))
   obtain ⟨b16,o17,rfl,hlt19,hE18⟩:=hA (by omega)
   obtain ⟨x20,hx21⟩:=gx (l:=l) (j:=k)
   have hd22:=ay hx21
   obtain ⟨cs,hr23,ha24⟩:=hE18 (k) x20 hx21
   obtain ⟨rfl,ok25⟩:=cG.1 ha24
   refine rv (dy (k) Tryz.underlying72 b8) ?_
   refine rv (xld (Mem.range H9 hr23 hlt19) Tryz.underlying83 (cj ok25)) ?_
   refine nz 83 zcP fun w26 hn_=>?_
   have H27:=Mem.bh H9 hn_
   refine rn ?_
   refine stb (Mem.blk H27 0 rfl) (eQ ok25) (dr zA (eQ ok25)) (r8 x20) fun w28 hk_ hg_=>?_
   have H29:=Mem.st H27 0 rfl hk_ hg_
   refine rn ?_
   refine nt (K15 _ _ (sk fun _ K30=>rl ?_))
   refine rv (xld (Blk.range (Mem.blk H29 0 rfl)) Tryz.underlying83 (cj ok25)) ?_
   obtain ⟨b31,hb31⟩:∃ b,(aX (iK os) x20).isSome=b:=⟨_,rfl⟩
   refine rv (dJ 181 (.tmp 16) (.tmp 17) true rfl _ _ _ rfl rfl (xf (Mem.map H29 2 rfl) ok25 hb31)) ?_
   refine nz 182 #[] fun w32 hn_=>?_
   have H33:=Mem.bh H29 hn_
   refine rn ?_
   refine stb (Mem.blk H33 0 rfl) zv (dr Cg zv) (by simp) fun w34 hk_ hg_=>?_
   have H35:=Mem.st H33 0 rfl hk_ hg_
   refine rn ?_
   refine nt (K30 _ _ (sk fun _ K36=>rl ?_))
   refine rv uo ?_
   refine nt (K36 _ _ ?_)
   cases b31
   ·refine ct (sk fun _ K37=>rl ?_)
    refine rv (xld (Blk.range (Mem.blk H35 1 rfl)) Tryz.underlying83 (cj ok25)) ?_
    refine rv (v:=.agg #[]) (by kernel_rfl) ?_
    have hnm:x20 ∉ os:=fun h=>by have h9:=(od os x20).2 h;rw [hb31] at h9;cases h9
    refine oI rfl 181 (.tmp 23) (.tmp 24) (.tmp 25) rfl jm (Mem.map H35 3 rfl) (key:=x20) ok25 Tryz.underlying181 () rfl rfl rfl ?_
    intro w38 hm9 ht9
    rw [zn hnm] at hm9
    have H39:=Mem.BQ H35 3 rfl hm9 ht9
    clear hm9 ht9
    refine rn ?_
    refine nt (K37 _ _ (rl ?_))
    refine rv (xld (Blk.range (Mem.blk H39 1 rfl)) Tryz.underlying83 (cj ok25)) ?_
    refine aG rfl 72 (.tmp 27) rfl 83 21 (.agg zcP) (.agg (pC x20).toArray) rfl Tryz.underlying72 b8 (by decide) (by decide) (fun w=>by kernel_rfl) (by rw [Value.cells,xal,bQ ok25]) ?_
    intro w40 hn
    have H41:=Mem.bh H39 hn
    clear hn
    refine rn ?_
    obtain ⟨inm83,iq83,ir83,is83,it83⟩:=info_parts ik
    refine aD rfl _ _ 72 rfl (w.heap.size) 83 _ _ 21 40 Tryz.underlying72 iq83 ir83 is83 it83 rfl (by decide) (.slice A9 os.length c9) ((os).length) ((os).flatMap pC) (Mem.own H41 3 rfl) ((some ⟨w38.heap.size,0,none⟩)) (1) (1) (pC x20) (bl (n:=21) (m:=1) (Mem.blk H41 0 rfl) (bQ ok25) (jj x20)) ?hmt42 ?hbt42 ?hzt42 rfl rfl ?_
    case hmt42=>simp only [maxLen];omega
    case hbt42=>omega
    case hzt42=>exact (Mem.below H41).size
    intro u45 w43 ow48 gr49 hp50
    refine rn ?_
    have ow48:w43.ownsRow (w.heap.size) 83 21 u45 (os++[x20]).length ((os++[x20]).flatMap pC):=by first | simpa using ow48 | simpa [pC] using ow48 | (simp at ow48 ⊢;exact ow48)
    obtain ⟨A46,c47,rfl⟩:=aI ow48
    have H44:=Mem.app H41 3 rfl ow48 gr49 hp50
    clear ow48 gr49 hp50
    refine rn ?_
    refine wpList_nil ?_
    refine al (ab (K14 _ _ (rl ?_)))
    refine rv (aL (((k+1:Nat):Int))) ?_
    refine wpList_nil ?_
    have H51:=Mem.pick H44 [3,4] (by decide) rfl
    refine ab ?_
    show _∧_
    go_roundw
    case rel=>exact ⟨(k+1),((os++[x20])),A46,c47,rfl,rfl,by omega,(AD hos hx21 hnm),H51⟩
    case measure=>simp [intOf];omega
   ·refine cf ?_
    refine wp_skip ?_
    refine al (ab (K14 _ _ (rl ?_)))
    refine rv (aL (((k+1:Nat):Int))) ?_
    refine wpList_nil ?_
    have H52:=Mem.pick H35 [2,3] (by decide) rfl
    refine ab ?_
    show _∧_
    go_roundw
    case rel=>exact ⟨(k+1),os,A9,c9,rfl,rfl,by omega,(yQ hos hx21 ((od os _).1 hb31)),H52⟩
    case measure=>simp [intOf];omega
  ·have he53:=bJ (l:=l) (j:=k) (by omega)
   refine rv (aA (decide_eq_false p12)) ?_
   refine nt (K11 _ _ (sk fun _ K54=>cf (wp_exit (ai (ai (ax (ab (K5 _ _ (sk fun _ K55=>rl ?_)))))))))
   have hke:k=l.length:=by omega
   rw [hke,xaB] at hos
   refine ac (oF wo8 w.heap.size os (hos▸AE hok) (hos▸me l) (by omega) A9 c9 (Mem.own H9 0 rfl)) ?_
   rintro e w56 ⟨rfl,ho9,hg9⟩
   refine ⟨_,rfl,rn ?_⟩
   have H57:=Mem.upd H9 0 rfl hg9 (fun _ hb=>hb) (cM _ _ _ _ _ _) ho9 (fun b hb=>.inl hb)
   refine nt (K55 _ _ (sk fun _ K59=>rl ?_))
   refine nt (K59 _ _ (rt ?_))
   have hso:bV os=bV l:=so fun x=>by rw [hos];exact px l x
   have hsl:(bV l).length=os.length:=by rw [← hso];exact fM (hos▸me l)
   refine ⟨A9,c9,by rw [hsl];rfl,?_⟩
   rw [hsl,← hso]
   exact (Mem.pick H57 [0] (by decide) rfl)
end Go.Proofs.YtomnhnmciopiiaaGreat
end
section
namespace Go.Proofs.YtomnhnmciopiiaaGreat
open Go Go.RowKit Go.Maps
attribute [local irreducible] wpList
theorem gd {P:Program} {ρ:Operand→Value} {o:Oper} (ty e:TypeId) (x i:Operand) (ho:o.op=.indexAddr ty x i) (b off n k:Nat) (hx:ρ x=.pointer (some ⟨b,off,none⟩)) (hi:ρ i=.int .i64 (k:Int)) (hk:k<n) (hu:P.underlying ty=some (.array n e)) (hs:(P.info? e).map (·.size)=some 1) (w:World) :
  (execOp ρ o).run P w=.ok (.value (.pointer (some ⟨b,off+k,none⟩))) w:=by
 have e2:P.elem ty=e:=by simp [Program.elem,hu]
 have e3:P.arrayLen ty=n:=by simp [Program.arrayLen,hu]
 unfold execOp
 simp only [ho,hx,hi,xaK,xaN,run_indexAt_array w ty _ .i64 (k:Int) (by rw [e2,e3];exact hu),e2,e3,if_pos (show (0:Int)≤(k:Int)∧(k:Int)<(n:Int) from ⟨by omega,by omega⟩)]
 cases hq:P.info? e with
 | none=>simp [hq] at hs
 | some j =>
  have h1:j.size=1:=by simpa [hq] using hs
  simp [sizeOf,typeInfo,hq,h1,Addr.add_mid]
def l5:List UInt8→List UInt8→Bool→Bool
 | a :: x,b :: y,d=>if a=b then l5 x y d else decide ((a.toNat:Int)<(b.toNat:Int))
 | _,_,d=>d
theorem yy:∀ (x y:List UInt8) (d:Bool),x.length=y.length→(if x=y then d else xaF x y)=l5 x y d
 | [],[],d,_=>rfl
 | a :: x,[],d,h=>by simp at h
 | [],b :: y,d,h=>by simp at h
 | a :: x,b :: y,d,h=>by
  have ih:=yy x y d (by simpa using h)
  unfold l5
  by_cases e:a=b
  ·subst e
   rw [if_pos rfl,← ih]
   by_cases e2:x=y
   ·subst e2
    rw [if_pos rfl,if_pos rfl]
   ·rw [if_neg e2,if_neg (fun h=>e2 (List.cons.inj h).2)]
    simp [xaF]
  ·rw [if_neg e,if_neg (fun h=>e (List.cons.inj h).1)]
   have hb:(a == b)=false:=beq_eq_false_iff_ne.2 e
   simp only [xaF,hb,xaZ,Bool.or_false]
   rw [decide_eq_decide,xbj]
   omega
theorem AI {x y:Pth} (hx:okP x) (hy:okP y):bZ x y=l5 x.1 y.1 (xaF x.2.toList y.2.toList):=by
 rw [← yy _ _ _ (hx.1.trans hy.1.symm),xbY,xbY]
 rfl
theorem nE {a b:List UInt8} {k:Nat} {u v:UInt8} {d:Bool} (ha:a[k]?=some u) (hb:b[k]?=some v):l5 (a.drop k) (b.drop k) d=if (u.toNat:Int)=(v.toNat:Int) then l5 (a.drop (k+1)) (b.drop (k+1)) d else decide ((u.toNat:Int)<(v.toNat:Int)):=by
 rw [ay ha,ay hb]
 show (if u=v then _ else _)=_
 by_cases h:u=v
 ·subst h;rw [if_pos rfl,if_pos rfl]
 ·rw [if_neg h,if_neg (fun e=>h (UInt8.toNat_inj.1 (by omega)))]
theorem bv_cell {x:List UInt8} {w:World} {b o k:Nat} {u:UInt8} (h:w.rangeAt b o (bv x)) (hx:x[k]?=some u):w.rangeAt b (o+k) [.int .u8 (u.toNat:Int)]:=fun j v hj=>by
 cases j with
 | zero =>
  simp only [List.getElem?_cons_zero,Option.some.injEq] at hj
  subst hj
  exact h k _ (by simp [bv,hx])
 | succ j=>simp at hj
theorem lN (w:World) (x y:Pth) (hx:okP x) (hy:okP y) (b9:Bool) (hb9:bZ x y=b9) :
  Calls Tryz.prog 124 #[.agg (pC x).toArray,.agg (pC y).toArray] w fun e w'=>e=.returned (.bool b9)∧Below w.heap.size w w':=by
 rw [AI hx hy] at hb9
 obtain ⟨dn,hdn⟩:∃ d,d=xaF x.2.toList y.2.toList:=⟨_,rfl⟩
 rw [← hdn] at hb9
 have HEQ0:l5 (x.1.drop 0) (y.1.drop 0) dn=b9:=hb9
 have H0:=Mem.start w
 go_enter Tryz.func124,Tryz.ntmps124
 refine sk fun _ K1=>rl ?_
 refine bx 83 (pC x) fun w2 hn_=>?_
 have H3:=Mem.bh H0 hn_
 refine rn ?_
 refine bx 83 (pC y) fun w4 hn_=>?_
 have H5:=Mem.bh H3 hn_
 refine rn ?_
 refine nt (K1 _ _ (sk fun _ K6=>sk fun _ K7=>rl ?_))
 refine nt (K7 _ _ (wp_block ?_))
 go_loopw [5] (fun x5 wr=>∃ k:Nat,x5=.int .i64 (k:Int)∧(k≤20)∧(l5 (x.1.drop k) (y.1.drop k) dn=b9)∧Mem w wr [cC (w2.heap.size) 83 (pC y).toArray,cC (w.heap.size) 83 (pC x).toArray]) (fun x5 _=>20-(intOf x5).toNat)
 case atStart=>exact ⟨0,rfl,by omega,HEQ0,H5⟩
 case round =>
  obtain ⟨wo8,rfl⟩:∃ wo8,wo8=wr:=⟨_,rfl⟩
  obtain ⟨k,rfl,hk,HEQ,H9⟩:=hrel
  refine sk fun _ K11=>sk fun _ K12=>rl ?_
  by_cases p13:(k:Int)<20
  ·refine rv (aA (decide_eq_true p13)) ?_
   refine nt (K12 _ _ (ct (ks (K11 _ _ (sk fun _ K14=>wp_block (sk fun _ K15=>?_))))))
   obtain ⟨u16,hu17⟩:∃ u,x.1[k]?=some u:=⟨_,xaj (by rw [hx.1];omega)⟩
   obtain ⟨u18,hu19⟩:∃ u,y.1[k]?=some u:=⟨_,xaj (by rw [hy.1];omega)⟩
   refine Fre.aV (X:=Bel) [] (by kernel_rfl) (by kernel_rfl) (by simp) (by simp) (by simp) ?_
   refine Fre.rmd ?_
   refine Fre.mvv (v:=.pointer (some ⟨w.heap.size,0,none⟩)) (fun _ _=>by kernel_rfl) ?_
   refine Fre.mvv (fun W9 _=>gd 34 5 (.tmp 11) (.tmp 10) rfl w.heap.size 0 20 k rfl rfl (by omega) Tryz.underlying34 uX W9) ?_
   refine Fre.mvv (fun W9 hW9=>xlc (range_cell (bv_cell (qJ (Blk.range (Mem.blk (Mem.call H9 hW9) 1 rfl))) hu17)) Tryz.underlying5) ?_
   refine Fre.mvv (v:=.pointer (some ⟨w2.heap.size,0,none⟩)) (fun _ _=>by kernel_rfl) ?_
   refine Fre.mvv (fun W9 _=>gd 34 5 (.tmp 15) (.tmp 14) rfl w2.heap.size 0 20 k rfl rfl (by omega) Tryz.underlying34 uX W9) ?_
   refine Fre.mvv (fun W9 hW9=>xlc (range_cell (bv_cell (qJ (Blk.range (Mem.blk (Mem.call H9 hW9) 0 rfl))) hu19)) Tryz.underlying5) ?_
   by_cases p20:(u16.toNat:Int)=(u18.toNat:Int)
   ·have hst:=nE (d:=dn) hu17 hu19
    rw [if_pos p20,HEQ] at hst
    refine Fre.mvv (fun _ _=>sC (decide_eq_true p20)) ?_
    intro w21 hx23
    dsimp only [Fre.ended,xas]
    have H22:=Mem.call H9 hx23
    refine ab (K15 _ _ (cf ?_))
    refine wp_skip ?_
    refine al (ab (K14 _ _ (rl ?_)))
    refine rv (aL (((k+1:Nat):Int))) ?_
    refine wpList_nil ?_
    refine ab ?_
    show _∧_
    go_roundw
    case rel=>exact ⟨(k+1),rfl,by omega,hst.symm,H22⟩
    case measure=>simp [intOf];omega
   ·have hst:=nE (d:=dn) hu17 hu19
    rw [if_neg p20,HEQ] at hst
    refine Fre.mvv (fun _ _=>sC (decide_eq_false p20)) ?_
    intro w24 hx26
    dsimp only [Fre.ended,xas]
    have H25:=Mem.call H9 hx26
    refine ab (K15 _ _ (ct (sk fun _ K27=>?_)))
    refine Fre.aV (X:=Bel) [] (by kernel_rfl) (by kernel_rfl) (by simp) (by simp) (by simp) ?_
    refine Fre.rmd ?_
    refine Fre.mvv (v:=.pointer (some ⟨w.heap.size,0,none⟩)) (fun _ _=>by kernel_rfl) ?_
    refine Fre.mvv (fun W9 _=>gd 34 5 (.tmp 20) (.tmp 19) rfl w.heap.size 0 20 k rfl rfl (by omega) Tryz.underlying34 uX W9) ?_
    refine Fre.mvv (fun W9 hW9=>xlc (range_cell (bv_cell (qJ (Blk.range (Mem.blk (Mem.call H25 hW9) 1 rfl))) hu17)) Tryz.underlying5) ?_
    refine Fre.mvv (v:=.pointer (some ⟨w2.heap.size,0,none⟩)) (fun _ _=>by kernel_rfl) ?_
    refine Fre.mvv (fun W9 _=>gd 34 5 (.tmp 24) (.tmp 23) rfl w2.heap.size 0 20 k rfl rfl (by omega) Tryz.underlying34 uX W9) ?_
    refine Fre.mvv (fun W9 hW9=>xlc (range_cell (bv_cell (qJ (Blk.range (Mem.blk (Mem.call H25 hW9) 0 rfl))) hu19)) Tryz.underlying5) ?_
    refine Fre.mvv (fun _ _=>aA rfl) ?_
    intro w28 hx30
    dsimp only [Fre.ended,xas]
    have H29:=Mem.call H25 hx30
    refine ab (K27 _ _ (rt ?_))
    refine ⟨?_,Mem.below H29⟩
    rw [hst]
    rfl
  ·refine rv (aA (decide_eq_false p13)) ?_
   refine nt (K12 _ _ (cf (wp_exit (ai (ai (ax (ab (K6 _ _ (sk fun _ K31=>rl ?_)))))))))
   refine rp w.heap.size 20 ?_
   refine rv (xlc (range_cell (sa hx (Blk.range (Mem.blk H9 1 rfl)))) Tryz.underlying9) ?_
   refine rp w2.heap.size 20 ?_
   refine rv (xlc (range_cell (sa hy (Blk.range (Mem.blk H9 0 rfl)))) Tryz.underlying9) ?_
   obtain ⟨b32,hb32⟩:∃ b,xaF (x.2).toList (y.2).toList=b:=⟨_,rfl⟩
   refine rv (zX 9 9 (.tmp 29) (.tmp 31) rfl (x.2) (y.2) rfl rfl _ hb32 wo8) ?_
   refine nt (K31 _ _ (rt ?_))
   have hke:k=20:=by omega
   rw [hke,List.drop_of_length_le (by rw [hx.1];omega)] at HEQ
   refine ⟨?_,Mem.below H9⟩
   rw [← HEQ,hdn,hb32]
   rfl
end Go.Proofs.YtomnhnmciopiiaaGreat
end
section
namespace Go.Proofs.YtomnhnmciopiiaaGreat
open Go Go.RowKit Go.Maps
attribute [local irreducible] wpList
def eB:List Nam→List Pth
 | []=>[]
 | x :: l=>(if x.2.2.2=true then [] else [x.2.1])++eB l
theorem ss (a b:List Nam):eB (a++b)=eB a++eB b:=by
 induction a with
 | nil=>rfl
 | cons x a ih=>simp [eB,ih]
theorem uZ {l:List Nam} {k:Nat} {x:Nam} {os:List Pth} (ho:os=eB (l.take k)) (hx:l[k]?=some x) (hb:x.2.2.2=true):os=eB (l.take (k+1)):=by
 rw [xaz,hx,ss,← ho]
 simp [eB,hb]
theorem zq {l:List Nam} {k:Nat} {x:Nam} {os:List Pth} (ho:os=eB (l.take k)) (hx:l[k]?=some x) (hb:x.2.2.2=false):os++[x.2.1]=eB (l.take (k+1)):=by
 rw [xaz,hx,ss,← ho]
 simp [eB,hb]
theorem qS (l:List Nam):(eB l).length≤l.length:=by
 induction l with
 | nil=>simp [eB]
 | cons x l ih=>simp only [eB,xap,xaE];split<;>simp<;>omega
theorem uh {l:List Nam} (h:∀ x∈l,okN x):∀ p∈eB l,okP p:=by
 induction l with
 | nil=>intro p hp;cases hp
 | cons x l ih =>
  intro p hp
  simp only [eB] at hp
  rcases xau.1 hp with hp | hp
  ·split at hp
   ·cases hp
   ·rw [xan.1 hp];exact (h x (.head _)).2.1
  ·exact ih (fun y hy=>h y (.tail _ hy)) p hp
theorem y0 {w:World} {B n cap:Nat} {A:Option Addr} {l:List Pth} (h:w.ownsRow B 83 21 (.slice A l.length cap) l.length (l.flatMap pC)) (ha:∀ p∈l,okP p):gZ.At w w.heap.size [.slice A l.length cap] l :=
 dg (L:=mG) (f:=pC) (by decide) h _ (xai _) fun x hx=>cG.2 ⟨rfl,ha x hx⟩
theorem mE {w:World} {B:Nat} {v:Value} {l:List Nam} (h:dv.At w B [v] l):∀ x∈l,okN x:=fun p hp=>by
 obtain ⟨A,cap,rfl,_,_,_,hA⟩:=ak h
 obtain ⟨j,hj⟩:=xaO hp
 obtain ⟨b,off,_,_,hE⟩:=hA (List.length_pos_of_mem hp)
 obtain ⟨cs,_,h9⟩:=hE j p hj
 exact (bw.1 h9).2
theorem sr (w:World) (d:Drv) (v1 v2:Value) (h:aK w w.heap.size d v1 v2) (hn:d.2.1.length≤1000000) :
  Calls Tryz.prog 43 #[.agg (dC d v1 v2).toArray] w fun e w'=>∃ B A c,e=.returned (.slice A (bV (eB d.2.1)).length c)∧Mem w w' [aq B 83 21 (.slice A (bV (eB d.2.1)).length c) (bV (eB d.2.1)).length ((bV (eB d.2.1)).flatMap pC)]:=by
 obtain ⟨A,cap,rfl,_,hcm,_,hA⟩:=ak h.ins
 obtain ⟨A2,cap2,rfl,_,hcm2,_,hA2⟩:=ak h.rcp
 simp only [maxLen] at hcm hcm2
 have H0:=Mem.start w
 go_enter Tryz.func43,Tryz.ntmps43
 refine sk fun _ K1=>rl ?_
 refine bx 26 (dC d (.slice A d.2.1.length cap) (.slice A2 d.2.2.length cap2)) fun w2 hn_=>?_
 have H3:=Mem.bh H0 hn_
 refine rn ?_
 refine nt (K1 _ _ (sk fun _ K4=>rl ?_))
 refine nt (K4 _ _ (sk fun _ K5=>sk fun _ K6=>rl ?_))
 refine rp w.heap.size 1 ?_
 refine rv (xlc (range_cell (cD (Blk.range (Mem.blk H3 0 rfl)))) Tryz.underlying23) ?_
 refine nt (K6 _ _ (wp_block ?_))
 have H7:=Mem.dw H3 w.heap.size 83 21
 go_loopw [3,9] (fun x3 x9 wr=>∃ k:Nat,∃ os:List Pth,∃ A9:Option Addr,∃ c9:Nat,x3=.slice A9 os.length c9∧x9=.int .i64 (k:Int)∧(k≤d.2.1.length)∧(os=eB (d.2.1.take k))∧Mem w wr [aq (w.heap.size) 83 21 (.slice A9 os.length c9) (os).length ((os).flatMap pC),cC (w.heap.size) 26 (dC d (.slice A d.2.1.length cap) (.slice A2 d.2.2.length cap2)).toArray]) (fun x3 x9 _=>d.2.1.length-(intOf x9).toNat)
 case atStart=>exact ⟨0,([]),none,0,rfl,rfl,by omega,(by rfl),H7⟩
 case round =>
  obtain ⟨wo8,rfl⟩:∃ wo8,wo8=wr:=⟨_,rfl⟩
  obtain ⟨k,os,A9,c9,rfl,rfl,hk,hos,H9⟩:=hrel
  have hol:os.length≤k:=by have h9:=qS (d.2.1.take k);rw [← hos,xaJ] at h9;omega
  refine sk fun _ K11=>rl ?_
  by_cases p12:(k:Int)<((d.2.1.length:Nat):Int)
  ·refine rv (aA (decide_eq_true p12)) ?_
   refine nt (K11 _ _ (sk fun _ K13=>ct (ks (K13 _ _ (sk fun _ K14=>wp_block (sk fun _ K15=>rl ?_))))))
   obtain ⟨b16,o17,rfl,hlt19,hE18⟩:=hA (by omega)
   obtain ⟨x20,hx21⟩:=gx (l:=d.2.1) (j:=k)
   have hd22:=ay hx21
   obtain ⟨cs,hr23,ha24⟩:=hE18 (k) x20 hx21
   obtain ⟨rfl,ok25⟩:=bw.1 ha24
   refine rv (dy (k) Tryz.underlying23 aY) ?_
   refine rv (xld (Mem.range H9 hr23 hlt19) Tryz.underlying87 (dD ok25)) ?_
   refine nz 87 zcN fun w26 hn_=>?_
   have H27:=Mem.bh H9 hn_
   refine rn ?_
   refine stb (Mem.blk H27 0 rfl) (iJ ok25) (dr om (iJ ok25)) (tw x20) fun w28 hk_ hg_=>?_
   have H29:=Mem.st H27 0 rfl hk_ hg_
   refine rn ?_
   refine nt (K15 _ _ (sk fun _ K30=>rl ?_))
   refine rp wo8.heap.size 1 ?_
   refine rp wo8.heap.size 42 ?_
   obtain ⟨b31,hb31⟩:∃ b,x20.2.2.2=b:=⟨_,rfl⟩
   refine rv (v:=.bool b31) (by rw [← hb31];exact (exec_load_cell 4 (.tmp 14) rfl ⟨wo8.heap.size,42,none⟩ rfl _ _ w28 Tryz.underlying4 rfl (range_cell (iI ok25.2 (cS (Blk.range (Mem.blk H29 0 rfl))))))) ?_
   refine rv uo ?_
   refine nt (K30 _ _ ?_)
   cases b31
   ·refine ct (rl ?_)
    refine rp wo8.heap.size 1 ?_
    refine rp wo8.heap.size 1 ?_
    refine rv (xld (jX (cS (Blk.range (Mem.blk H29 0 rfl)))) Tryz.underlying83 (cj ok25.2.1)) ?_
    refine aG rfl 72 (.tmp 20) rfl 83 21 (.agg zcP) (.agg (pC x20.2.1).toArray) rfl Tryz.underlying72 b8 (by decide) (by decide) (fun w=>by kernel_rfl) (by rw [Value.cells,xal,bQ ok25.2.1]) ?_
    intro w32 hn
    have H33:=Mem.bh H29 hn
    clear hn
    refine rn ?_
    obtain ⟨inm83,iq83,ir83,is83,it83⟩:=info_parts ik
    refine aD rfl _ _ 72 rfl (w.heap.size) 83 _ _ 21 40 Tryz.underlying72 iq83 ir83 is83 it83 rfl (by decide) (.slice A9 os.length c9) ((os).length) ((os).flatMap pC) (Mem.own H33 2 rfl) ((some ⟨w28.heap.size,0,none⟩)) (1) (1) (pC x20.2.1) (bl (n:=21) (m:=1) (Mem.blk H33 0 rfl) (bQ ok25.2.1) (jj x20.2.1)) ?hmt34 ?hbt34 ?hzt34 rfl rfl ?_
    case hmt34=>simp only [maxLen];omega
    case hbt34=>omega
    case hzt34=>exact (Mem.below H33).size
    intro u37 w35 ow40 gr41 hp42
    refine rn ?_
    have ow40:w35.ownsRow (w.heap.size) 83 21 u37 (os++[x20.2.1]).length ((os++[x20.2.1]).flatMap pC):=by first | simpa using ow40 | simpa [pC] using ow40 | (simp at ow40 ⊢;exact ow40)
    obtain ⟨A38,c39,rfl⟩:=aI ow40
    have H36:=Mem.app H33 2 rfl ow40 gr41 hp42
    clear ow40 gr41 hp42
    refine rn ?_
    refine wpList_nil ?_
    refine al (ab (K14 _ _ (rl ?_)))
    refine rv (aL (((k+1:Nat):Int))) ?_
    refine wpList_nil ?_
    have H43:=Mem.pick H36 [2,3] (by decide) rfl
    refine ab ?_
    show _∧_
    go_roundw
    case rel=>exact ⟨(k+1),((os++[x20.2.1])),A38,c39,rfl,rfl,by omega,(zq hos hx21 hb31),H43⟩
    case measure=>simp [intOf];omega
   ·refine cf ?_
    refine wp_skip ?_
    refine al (ab (K14 _ _ (rl ?_)))
    refine rv (aL (((k+1:Nat):Int))) ?_
    refine wpList_nil ?_
    have H44:=Mem.pick H29 [1,2] (by decide) rfl
    refine ab ?_
    show _∧_
    go_roundw
    case rel=>exact ⟨(k+1),os,A9,c9,rfl,rfl,by omega,(uZ hos hx21 hb31),H44⟩
    case measure=>simp [intOf];omega
  ·have he45:=bJ (l:=d.2.1) (j:=k) (by omega)
   refine rv (aA (decide_eq_false p12)) ?_
   refine nt (K11 _ _ (sk fun _ K46=>cf (wp_exit (ai (ai (ax (ab (K5 _ _ (sk fun _ K47=>rl ?_)))))))))
   have hke:k=d.2.1.length:=by omega
   rw [hke,xaB] at hos
   have hno:=mE h.ins
   refine ac (uf wo8 os _ (y0 (n:=0) (Mem.own H9 0 rfl) (hos▸uh hno)) (by omega)) ?_
   rintro e w48 ⟨A8,c8,rfl,hm8⟩
   refine ⟨_,rfl,rn ?_⟩
   have H49:=Mem.seq H9 hm8
   refine rn ?_
   refine nt (K47 _ _ (rt ?_))
   subst hos
   exact ⟨_,A8,c8,rfl,(Mem.pick H49 [0] (by decide) rfl)⟩
end Go.Proofs.YtomnhnmciopiiaaGreat
end
section
namespace Go.Proofs.YtomnhnmciopiiaaGreat
open Go Go.RowKit Go.Maps
attribute [local irreducible] wpList
def B7:Value→Nat
 | .slice _ n _=>n
 | _=>0
theorem vf {l:List Pth} {x:Pth} (h:∀ p∈l,okP p) (hx:okP x):∀ p∈l++[x],okP p:=fun p hp=>by
 rcases xau.1 hp with hp | hp
 ·exact h p hp
 ·rw [xan.1 hp];exact hx
def lT (f:Bool) (b:Pth):Option Pth:=if f=true then some b else none
theorem en {last:Option Pth} {l:List Pth} {k:Nat} {x:Pth} {best r:Option Pth} (h:gC last (l.drop k) best=r) (hx:l[k]?=some x):gC last (l.drop (k+1)) (if eR last x&&fV best x then some x else best)=r:=by
 rw [ay hx] at h
 exact h
theorem vU {l:List Pth} (h:l.length=0):l.getLast?=none:=by rw [xcc.1 h];rfl
theorem vV {l:List Pth} {x:Pth} (h:l[l.length-1]?=some x):l.getLast?=some x:=by rw [List.getLast?_eq_getElem?];exact h
theorem ue {l os rest:List Pth} (h:bV l=os++rest):os.length≤l.length:=by
 have h1:=iq l
 rw [h,xap] at h1
 omega
theorem sh (w:World) (l:List Pth) (v:Value) (h:gZ.At w w.heap.size [v] l) (hn:l.length≤1000000) :
  Calls Tryz.prog 80 #[v] w fun e w'=>∃ A c,e=.returned (.slice A (bV l).length c)∧Mem w w' [aq w.heap.size 83 21 (.slice A (bV l).length c) (bV l).length ((bV l).flatMap pC)]:=by
 obtain ⟨A,cap,rfl,_,hcm,_,hA⟩:=ak h
 simp only [maxLen] at hcm
 have H0:=Mem.start w
 go_enter Tryz.func80,Tryz.ntmps80
 refine sk fun _ K1=>rl ?_
 refine nt (K1 _ _ (sk fun _ K2=>rl ?_))
 refine nt (K2 _ _ (sk fun _ K3=>wp_block ?_))
 have H4:=Mem.dw H0 w.heap.size 83 21
 go_loopw [3] (fun x3 wr=>∃ os:List Pth,∃ A9:Option Addr,∃ c9:Nat,∃ rest:List Pth,x3=.slice A9 os.length c9∧(bV l=os++rest)∧(∀ p∈os,okP p)∧Mem w wr [aq (w.heap.size) 83 21 (.slice A9 os.length c9) (os).length ((os).flatMap pC)]) (fun x3 _=>l.length+1-B7 x3)
 case atStart=>exact ⟨([]),none,0,(bV l),rfl,(by rfl),(fun _ h=>by cases h),H4⟩
 case round =>
  obtain ⟨wo5,rfl⟩:∃ wo5,wo5=wr:=⟨_,rfl⟩
  obtain ⟨os,A9,c9,rest,rfl,hrs,hall,H6⟩:=hrel
  refine sk fun _ K8=>sk fun _ K9=>rl ?_
  by_cases p10:((os.length:Nat):Int)≤((l.length:Nat):Int)
  ·refine rv (Cr (decide_eq_true p10)) ?_
   refine nt (K9 _ _ (ct (ks (K8 _ _ (wp_block (sk fun _ K11=>rl ?_))))))
   refine nt (K11 _ _ (sk fun _ K12=>rl ?_))
   refine nz 83 zcP fun w13 hn_=>?_
   have H14:=Mem.bh H6 hn_
   refine rn ?_
   refine nt (K12 _ _ (sk fun _ K15=>sk fun _ K16=>rl ?_))
   refine nt (K16 _ _ (wp_block ?_))
   go_loopw [4,6] (fun x4 x6 wr=>∃ k:Nat,∃ fb:Bool,∃ bp:Pth,x4=.bool fb∧x6=.int .i64 (k:Int)∧(k≤l.length)∧(okP bp)∧(gC os.getLast? (l.drop k) (lT fb bp)=rest.head?)∧Mem w wr [cC (wo5.heap.size) 83 (pC bp).toArray,aq (w.heap.size) 83 21 (.slice A9 os.length c9) (os).length ((os).flatMap pC)]) (fun x4 x6 _=>l.length-(intOf x6).toNat)
   case atStart=>exact ⟨0,false,dW,rfl,rfl,by omega,eN,(rG hrs),H14⟩
   case round =>
    obtain ⟨wo17,rfl⟩:∃ wo17,wo17=wr:=⟨_,rfl⟩
    obtain ⟨k,fb,bp,rfl,rfl,hk,hbp,HEQ,H18⟩:=hrel
    refine sk fun _ K20=>sk fun _ K21=>rl ?_
    by_cases p22:(k:Int)<((l.length:Nat):Int)
    ·refine rv (aA (decide_eq_true p22)) ?_
     refine nt (K21 _ _ (ct (ks (K20 _ _ (sk fun _ K23=>wp_block (sk fun _ K24=>?_))))))
     refine Fre.aV (X:=Bel) [] (by kernel_rfl) (by kernel_rfl) (by simp) (by simp) (by simp) ?_
     refine Fre.rmd ?_
     by_cases p25:((os.length:Nat):Int)=0
     ·have hlast:os.getLast?=none:=vU (by omega)
      refine Fre.mvv (fun _ _=>gG (decide_eq_true p25)) ?_
      intro w26 hx28
      dsimp only [Fre.ended,xas]
      have H27:=Mem.call H18 hx28
      refine ab (K24 _ _ (sk fun _ K29=>?_))
      refine Fre.aV (X:=Bel) [] (by kernel_rfl) (by kernel_rfl) (by simp) (by simp) (by simp) ?_
      refine Fre.rmd ?_
      refine Fre.mvv (fun _ _=>uo) ?_
      cases fb
      ·refine Fre.rmd ?_
       intro w30 hx32
       dsimp only [Fre.ended,xas]
       have H31:=Mem.call H27 hx32
       refine ab (K29 _ _ (ct (sk fun _ K33=>rl ?_)))
       obtain ⟨b34,o35,rfl,hlt37,hE36⟩:=hA (by omega)
       obtain ⟨x38,hx39⟩:=gx (l:=l) (j:=k)
       have hd40:=ay hx39
       obtain ⟨cs,hr41,ha42⟩:=hE36 (k) x38 hx39
       obtain ⟨rfl,ok43⟩:=cG.1 ha42
       refine rv (dy (k) Tryz.underlying72 b8) ?_
       refine rv (xld (Mem.range H31 hr41 hlt37) Tryz.underlying83 (cj ok43)) ?_
       refine stb (Mem.blk H31 0 rfl) (eQ ok43) (dr (eQ hbp) (eQ ok43)) (r8 x38) fun w44 hk_ hg_=>?_
       have H45:=Mem.st H31 0 rfl hk_ hg_
       refine rn ?_
       refine nt (K33 _ _ (rl ?_))
       refine wpList_nil ?_
       refine al (ab (K23 _ _ (rl ?_)))
       refine rv (aL (((k+1:Nat):Int))) ?_
       refine wpList_nil ?_
       refine ab ?_
       show _∧_
       go_roundw
       case rel=>exact ⟨(k+1),true,x38,rfl,rfl,by omega,ok43,(by have h9:=en HEQ hx39;simp only [eR,fV,lT,hlast,↓reduceIte,xbc,xa9] at h9 ⊢;exact h9),H45⟩
       case measure=>simp [intOf];omega
      ·refine Fre.rmd ?_
       obtain ⟨b46,o47,rfl,hlt49,hE48⟩:=hA (by omega)
       obtain ⟨x50,hx51⟩:=gx (l:=l) (j:=k)
       have hd52:=ay hx51
       obtain ⟨cs,hr53,ha54⟩:=hE48 (k) x50 hx51
       obtain ⟨rfl,ok55⟩:=cG.1 ha54
       refine Fre.mvv (fun _ _=>dy (k) Tryz.underlying72 b8) ?_
       refine Fre.mvv (fun W9 hW9=>xld (Mem.range (Mem.call H27 hW9) hr53 hlt49) Tryz.underlying83 (cj ok55)) ?_
       refine Fre.mvv (fun W9 hW9=>xld (Blk.range (Mem.blk (Mem.call H27 hW9) 0 rfl)) Tryz.underlying83 (cj hbp)) ?_
       obtain ⟨b56,hb56⟩:∃ b,bZ x50 bp=b:=⟨_,rfl⟩
       refine Fre.mc (fun W9 hW9=>lN W9 x50 bp ok55 hbp b56 hb56) ?_
       refine Fre.rmd ?_
       cases b56
       ·refine Fre.rmd ?_
        intro w57 hx59
        dsimp only [Fre.ended,xas]
        have H58:=Mem.call H27 hx59
        refine ab (K29 _ _ (cf ?_))
        refine wp_skip ?_
        refine al (ab (K23 _ _ (rl ?_)))
        refine rv (aL (((k+1:Nat):Int))) ?_
        refine wpList_nil ?_
        refine ab ?_
        show _∧_
        go_roundw
        case rel=>exact ⟨(k+1),true,bp,rfl,rfl,by omega,hbp,(by have h9:=en HEQ hx51;simp only [eR,fV,lT,hlast,hb56,↓reduceIte,xbp,xa9] at h9 ⊢;exact h9),H58⟩
        case measure=>simp [intOf];omega
       ·refine Fre.rmd ?_
        intro w60 hx62
        dsimp only [Fre.ended,xas]
        have H61:=Mem.call H27 hx62
        refine ab (K29 _ _ (ct (sk fun _ K63=>rl ?_)))
        refine rv (dy (k) Tryz.underlying72 b8) ?_
        refine rv (xld (Mem.range H61 hr53 hlt49) Tryz.underlying83 (cj ok55)) ?_
        refine stb (Mem.blk H61 0 rfl) (eQ ok55) (dr (eQ hbp) (eQ ok55)) (r8 x50) fun w64 hk_ hg_=>?_
        have H65:=Mem.st H61 0 rfl hk_ hg_
        refine rn ?_
        refine nt (K63 _ _ (rl ?_))
        refine wpList_nil ?_
        refine al (ab (K23 _ _ (rl ?_)))
        refine rv (aL (((k+1:Nat):Int))) ?_
        refine wpList_nil ?_
        refine ab ?_
        show _∧_
        go_roundw
        case rel=>exact ⟨(k+1),true,x50,rfl,rfl,by omega,ok55,(by have h9:=en HEQ hx51;simp only [eR,fV,lT,hlast,hb56,↓reduceIte,xbc] at h9 ⊢;exact h9),H65⟩
        case measure=>simp [intOf];omega
     ·refine Fre.mvv (fun _ _=>gG (decide_eq_false p25)) ?_
      refine Fre.mvv (fun _ _=>xr (((os.length-1:Nat):Int))) ?_
      obtain ⟨b66,rfl,hlt69⟩:=aE (Mem.own H18 1 rfl) (by omega)
      obtain ⟨x70,hx71⟩:=gx (l:=os) (j:=os.length-1)
      have hd72:=ay hx71
      have ok73:=hall _ (xak hx71)
      have hlast:os.getLast?=some x70:=vV hx71
      refine Fre.mvv (fun _ _=>aT (os.length-1) Tryz.underlying72 b8) ?_
      refine Fre.mvv (fun W9 hW9=>xld (dO (f:=pC) (by decide) (Mem.own (Mem.call H18 hW9) 1 rfl) (fun z hz=>bQ (hall z hz)) hx71) Tryz.underlying83 (cj ok73)) ?_
      obtain ⟨b74,o75,rfl,hlt77,hE76⟩:=hA (by omega)
      obtain ⟨x78,hx79⟩:=gx (l:=l) (j:=k)
      have hd80:=ay hx79
      obtain ⟨cs,hr81,ha82⟩:=hE76 (k) x78 hx79
      obtain ⟨rfl,ok83⟩:=cG.1 ha82
      refine Fre.mvv (fun _ _=>dy (k) Tryz.underlying72 b8) ?_
      refine Fre.mvv (fun W9 hW9=>xld (Mem.range (Mem.call H18 hW9) hr81 hlt77) Tryz.underlying83 (cj ok83)) ?_
      obtain ⟨b84,hb84⟩:∃ b,bZ x70 x78=b:=⟨_,rfl⟩
      refine Fre.mc (fun W9 hW9=>lN W9 x70 x78 ok73 ok83 b84 hb84) ?_
      refine Fre.rmd ?_
      cases b84
      ·refine Fre.rmd ?_
       intro w85 hx87
       dsimp only [Fre.ended,xas]
       have H86:=Mem.call H18 hx87
       refine ab (K24 _ _ (sk fun _ K88=>?_))
       refine Fre.aV (X:=Bel) [] (by kernel_rfl) (by kernel_rfl) (by simp) (by simp) (by simp) ?_
       refine Fre.rmd ?_
       intro w89 hx91
       dsimp only [Fre.ended,xas]
       have H90:=Mem.call H86 hx91
       refine ab (K88 _ _ (cf ?_))
       refine wp_skip ?_
       refine al (ab (K23 _ _ (rl ?_)))
       refine rv (aL (((k+1:Nat):Int))) ?_
       refine wpList_nil ?_
       refine ab ?_
       show _∧_
       go_roundw
       case rel=>exact ⟨(k+1),fb,bp,rfl,rfl,by omega,hbp,(by have h9:=en HEQ hx79;simp only [eR,fV,lT,hlast,hb84,↓reduceIte,xaZ,xa9] at h9 ⊢;exact h9),H90⟩
       case measure=>simp [intOf];omega
      ·refine Fre.rmd ?_
       intro w92 hx94
       dsimp only [Fre.ended,xas]
       have H93:=Mem.call H18 hx94
       refine ab (K24 _ _ (sk fun _ K95=>?_))
       refine Fre.aV (X:=Bel) [] (by kernel_rfl) (by kernel_rfl) (by simp) (by simp) (by simp) ?_
       refine Fre.rmd ?_
       refine Fre.mvv (fun _ _=>uo) ?_
       cases fb
       ·refine Fre.rmd ?_
        intro w96 hx98
        dsimp only [Fre.ended,xas]
        have H97:=Mem.call H93 hx98
        refine ab (K95 _ _ (ct (sk fun _ K99=>rl ?_)))
        refine rv (dy (k) Tryz.underlying72 b8) ?_
        refine rv (xld (Mem.range H97 hr81 hlt77) Tryz.underlying83 (cj ok83)) ?_
        refine stb (Mem.blk H97 0 rfl) (eQ ok83) (dr (eQ hbp) (eQ ok83)) (r8 x78) fun w100 hk_ hg_=>?_
        have H101:=Mem.st H97 0 rfl hk_ hg_
        refine rn ?_
        refine nt (K99 _ _ (rl ?_))
        refine wpList_nil ?_
        refine al (ab (K23 _ _ (rl ?_)))
        refine rv (aL (((k+1:Nat):Int))) ?_
        refine wpList_nil ?_
        refine ab ?_
        show _∧_
        go_roundw
        case rel=>exact ⟨(k+1),true,x78,rfl,rfl,by omega,ok83,(by have h9:=en HEQ hx79;simp only [eR,fV,lT,hlast,hb84,↓reduceIte,xbc,xa9] at h9 ⊢;exact h9),H101⟩
        case measure=>simp [intOf];omega
       ·refine Fre.rmd ?_
        refine Fre.mvv (fun _ _=>dy (k) Tryz.underlying72 b8) ?_
        refine Fre.mvv (fun W9 hW9=>xld (Mem.range (Mem.call H93 hW9) hr81 hlt77) Tryz.underlying83 (cj ok83)) ?_
        refine Fre.mvv (fun W9 hW9=>xld (Blk.range (Mem.blk (Mem.call H93 hW9) 0 rfl)) Tryz.underlying83 (cj hbp)) ?_
        obtain ⟨b102,hb102⟩:∃ b,bZ x78 bp=b:=⟨_,rfl⟩
        refine Fre.mc (fun W9 hW9=>lN W9 x78 bp ok83 hbp b102 hb102) ?_
        refine Fre.rmd ?_
        cases b102
        ·refine Fre.rmd ?_
         intro w103 hx105
         dsimp only [Fre.ended,xas]
         have H104:=Mem.call H93 hx105
         refine ab (K95 _ _ (cf ?_))
         refine wp_skip ?_
         refine al (ab (K23 _ _ (rl ?_)))
         refine rv (aL (((k+1:Nat):Int))) ?_
         refine wpList_nil ?_
         refine ab ?_
         show _∧_
         go_roundw
         case rel=>exact ⟨(k+1),true,bp,rfl,rfl,by omega,hbp,(by have h9:=en HEQ hx79;simp only [eR,fV,lT,hlast,hb84,hb102,↓reduceIte,xbp,xa9] at h9 ⊢;exact h9),H104⟩
         case measure=>simp [intOf];omega
        ·refine Fre.rmd ?_
         intro w106 hx108
         dsimp only [Fre.ended,xas]
         have H107:=Mem.call H93 hx108
         refine ab (K95 _ _ (ct (sk fun _ K109=>rl ?_)))
         refine rv (dy (k) Tryz.underlying72 b8) ?_
         refine rv (xld (Mem.range H107 hr81 hlt77) Tryz.underlying83 (cj ok83)) ?_
         refine stb (Mem.blk H107 0 rfl) (eQ ok83) (dr (eQ hbp) (eQ ok83)) (r8 x78) fun w110 hk_ hg_=>?_
         have H111:=Mem.st H107 0 rfl hk_ hg_
         refine rn ?_
         refine nt (K109 _ _ (rl ?_))
         refine wpList_nil ?_
         refine al (ab (K23 _ _ (rl ?_)))
         refine rv (aL (((k+1:Nat):Int))) ?_
         refine wpList_nil ?_
         refine ab ?_
         show _∧_
         go_roundw
         case rel=>exact ⟨(k+1),true,x78,rfl,rfl,by omega,ok83,(by have h9:=en HEQ hx79;simp only [eR,fV,lT,hlast,hb84,hb102,↓reduceIte,xbc] at h9 ⊢;exact h9),H111⟩
         case measure=>simp [intOf];omega
    ·have he112:=bJ (l:=l) (j:=k) (by omega)
     refine rv (aA (decide_eq_false p22)) ?_
     refine nt (K21 _ _ (cf (wp_exit (ai (ai (ax (ab (K15 _ _ (sk fun _ K113=>sk fun _ K114=>rl ?_)))))))))
     refine rv uo ?_
     refine nt (K114 _ _ ?_)
     cases fb
     ·refine ct (sk fun _ K115=>rl ?_)
      refine nt (K115 _ _ (rt ?_))
      have hke:k=l.length:=by omega
      rw [hke,List.drop_length] at HEQ
      have hr0:rest=[]:=by cases rest with | nil=>rfl | cons a r=>cases HEQ
      rw [hr0,xaT] at hrs
      rw [hrs]
      exact ⟨A9,c9,rfl,(Mem.pick H18 [1] (by decide) rfl)⟩
     ·refine cf (ks (K113 _ _ (rl ?_)))
      refine rv (xld (Blk.range (Mem.blk H18 0 rfl)) Tryz.underlying83 (cj hbp)) ?_
      refine aG rfl 72 (.tmp 56) rfl 83 21 (.agg zcP) (.agg (pC bp).toArray) rfl Tryz.underlying72 b8 (by decide) (by decide) (fun w=>by kernel_rfl) (by rw [Value.cells,xal,bQ hbp]) ?_
      intro w116 hn
      have H117:=Mem.bh H18 hn
      clear hn
      refine rn ?_
      obtain ⟨inm83,iq83,ir83,is83,it83⟩:=info_parts ik
      refine aD rfl _ _ 72 rfl (w.heap.size) 83 _ _ 21 40 Tryz.underlying72 iq83 ir83 is83 it83 rfl (by decide) (.slice A9 os.length c9) ((os).length) ((os).flatMap pC) (Mem.own H117 2 rfl) ((some ⟨wo17.heap.size,0,none⟩)) (1) (1) (pC bp) (bl (n:=21) (m:=1) (Mem.blk H117 0 rfl) (bQ hbp) (jj bp)) ?hmt118 ?hbt118 ?hzt118 rfl rfl ?_
      case hmt118=>simp only [maxLen];omega
      case hbt118=>omega
      case hzt118=>exact (Mem.below H117).size
      intro u121 w119 ow124 gr125 hp126
      refine rn ?_
      have ow124:w119.ownsRow (w.heap.size) 83 21 u121 (os++[bp]).length ((os++[bp]).flatMap pC):=by first | simpa using ow124 | simpa [pC] using ow124 | (simp at ow124 ⊢;exact ow124)
      obtain ⟨A122,c123,rfl⟩:=aI ow124
      have H120:=Mem.app H117 2 rfl ow124 gr125 hp126
      clear ow124 gr125 hp126
      refine rn ?_
      refine wpList_nil ?_
      refine al ?_
      have hke:k=l.length:=by omega
      rw [hke,List.drop_length] at HEQ
      obtain ⟨rest9,hr9⟩:∃ r,rest=bp :: r:=by cases rest with | nil=>cases HEQ | cons a r=>exact ⟨r,by injection HEQ with HEQ;rw [HEQ]⟩
      have hrs9:bV l=(os++[bp])++rest9:=by rw [hrs,hr9,List.append_assoc];rfl
      have H127:=Mem.pick H120 [2] (by decide) rfl
      refine ab ?_
      show _∧_
      go_roundw
      case rel=>exact ⟨((os++[bp])),A122,c123,rest9,rfl,hrs9,(vf hall hbp),H127⟩
      case measure=>simp [B7];omega
  ·exact absurd (ue hrs) (by omega)
end Go.Proofs.YtomnhnmciopiiaaGreat
end
section
namespace Go.Proofs.YtomnhnmciopiiaaGreat
open Go Go.RowKit Go.Maps
attribute [local irreducible] wpList
theorem qR (w:World) (d:Drv) (v1 v2:Value) (h:aK w w.heap.size d v1 v2) (hn:d.2.1.length≤1000000) :
  Calls Tryz.prog 45 #[.agg (dC d v1 v2).toArray] w fun e w'=>∃ B A c,e=.returned (.slice A (bV (eB d.2.1)).length c)∧Mem w w' [aq B 83 21 (.slice A (bV (eB d.2.1)).length c) (bV (eB d.2.1)).length ((bV (eB d.2.1)).flatMap pC)]:=by
 obtain ⟨A,cap,rfl,_,hcm,_,hA⟩:=ak h.ins
 obtain ⟨A2,cap2,rfl,_,hcm2,_,hA2⟩:=ak h.rcp
 simp only [maxLen] at hcm hcm2
 have H0:=Mem.start w
 go_enter Tryz.func45,Tryz.ntmps45
 refine sk fun _ K1=>rl ?_
 refine bx 26 (dC d (.slice A d.2.1.length cap) (.slice A2 d.2.2.length cap2)) fun w2 hn_=>?_
 have H3:=Mem.bh H0 hn_
 refine rn ?_
 refine nt (K1 _ _ (sk fun _ K4=>rl ?_))
 refine nt (K4 _ _ (sk fun _ K5=>sk fun _ K6=>rl ?_))
 refine nt (K6 _ _ (wp_block ?_))
 have H7:=Mem.dw H3 w.heap.size 83 21
 go_loopw [3,4] (fun x3 x4 wr=>∃ k:Nat,∃ os:List Pth,∃ A9:Option Addr,∃ c9:Nat,x3=.slice A9 os.length c9∧x4=.int .i64 (k:Int)∧(k≤d.2.1.length)∧(os=eB (d.2.1.take k))∧Mem w wr [aq (w.heap.size) 83 21 (.slice A9 os.length c9) (os).length ((os).flatMap pC),cC (w.heap.size) 26 (dC d (.slice A d.2.1.length cap) (.slice A2 d.2.2.length cap2)).toArray]) (fun x3 x4 _=>d.2.1.length-(intOf x4).toNat)
 case atStart=>exact ⟨0,([]),none,0,rfl,rfl,by omega,(by rfl),H7⟩
 case round =>
  obtain ⟨wo8,rfl⟩:∃ wo8,wo8=wr:=⟨_,rfl⟩
  obtain ⟨k,os,A9,c9,rfl,rfl,hk,hos,H9⟩:=hrel
  have hol:os.length≤k:=by have h9:=qS (d.2.1.take k);rw [← hos,xaJ] at h9;omega
  refine sk fun _ K11=>sk fun _ K12=>rl ?_
  refine rp w.heap.size 1 ?_
  refine rv (xlc (range_cell (cD (Blk.range (Mem.blk H9 1 rfl)))) Tryz.underlying23) ?_
  by_cases p13:(k:Int)<((d.2.1.length:Nat):Int)
  ·refine rv (aA (decide_eq_true p13)) ?_
   refine nt (K12 _ _ (ct (ks (K11 _ _ (sk fun _ K14=>wp_block (sk fun _ K15=>rl ?_))))))
   refine rp w.heap.size 1 ?_
   refine rv (xlc (range_cell (cD (Blk.range (Mem.blk H9 1 rfl)))) Tryz.underlying23) ?_
   obtain ⟨b16,o17,rfl,hlt19,hE18⟩:=hA (by omega)
   obtain ⟨x20,hx21⟩:=gx (l:=d.2.1) (j:=k)
   have hd22:=ay hx21
   obtain ⟨cs,hr23,ha24⟩:=hE18 (k) x20 hx21
   obtain ⟨rfl,ok25⟩:=bw.1 ha24
   refine rv (dy (k) Tryz.underlying23 aY) ?_
   refine rp b16 (o17+k*43+1) ?_
   refine rp b16 (o17+k*43+1+41) ?_
   obtain ⟨b26,hb26⟩:∃ b,x20.2.2.2=b:=⟨_,rfl⟩
   refine rv (v:=.bool b26) (by rw [← hb26];exact (exec_load_cell 4 (.tmp 17) rfl ⟨b16,o17+k*43+1+41,none⟩ rfl _ _ wo8 Tryz.underlying4 rfl (range_cell (iI ok25.2 (cS (Mem.range H9 hr23 hlt19)))))) ?_
   refine rv uo ?_
   refine nt (K15 _ _ ?_)
   cases b26
   ·refine ct (rl ?_)
    refine rp w.heap.size 1 ?_
    refine rv (xlc (range_cell (cD (Blk.range (Mem.blk H9 1 rfl)))) Tryz.underlying23) ?_
    refine rv (dy (k) Tryz.underlying23 aY) ?_
    refine rp b16 (o17+k*43+1) ?_
    refine rp b16 (o17+k*43+1) ?_
    refine rv (xld (jX (cS (Mem.range H9 hr23 hlt19))) Tryz.underlying83 (cj ok25.2.1)) ?_
    refine aG rfl 72 (.tmp 27) rfl 83 21 (.agg zcP) (.agg (pC x20.2.1).toArray) rfl Tryz.underlying72 b8 (by decide) (by decide) (fun w=>by kernel_rfl) (by rw [Value.cells,xal,bQ ok25.2.1]) ?_
    intro w27 hn
    have H28:=Mem.bh H9 hn
    clear hn
    refine rn ?_
    obtain ⟨inm83,iq83,ir83,is83,it83⟩:=info_parts ik
    refine aD rfl _ _ 72 rfl (w.heap.size) 83 _ _ 21 40 Tryz.underlying72 iq83 ir83 is83 it83 rfl (by decide) (.slice A9 os.length c9) ((os).length) ((os).flatMap pC) (Mem.own H28 1 rfl) ((some ⟨wo8.heap.size,0,none⟩)) (1) (1) (pC x20.2.1) (bl (n:=21) (m:=1) (Mem.blk H28 0 rfl) (bQ ok25.2.1) (jj x20.2.1)) ?hmt29 ?hbt29 ?hzt29 rfl rfl ?_
    case hmt29=>simp only [maxLen];omega
    case hbt29=>omega
    case hzt29=>exact (Mem.below H28).size
    intro u32 w30 ow35 gr36 hp37
    refine rn ?_
    have ow35:w30.ownsRow (w.heap.size) 83 21 u32 (os++[x20.2.1]).length ((os++[x20.2.1]).flatMap pC):=by first | simpa using ow35 | simpa [pC] using ow35 | (simp at ow35 ⊢;exact ow35)
    obtain ⟨A33,c34,rfl⟩:=aI ow35
    have H31:=Mem.app H28 1 rfl ow35 gr36 hp37
    clear ow35 gr36 hp37
    refine rn ?_
    refine wpList_nil ?_
    refine al (ab (K14 _ _ (rl ?_)))
    refine rv (aL (((k+1:Nat):Int))) ?_
    refine wpList_nil ?_
    have H38:=Mem.pick H31 [1,2] (by decide) rfl
    refine ab ?_
    show _∧_
    go_roundw
    case rel=>exact ⟨(k+1),((os++[x20.2.1])),A33,c34,rfl,rfl,by omega,(zq hos hx21 hb26),H38⟩
    case measure=>simp [intOf];omega
   ·refine cf ?_
    refine wp_skip ?_
    refine al (ab (K14 _ _ (rl ?_)))
    refine rv (aL (((k+1:Nat):Int))) ?_
    refine wpList_nil ?_
    refine ab ?_
    show _∧_
    go_roundw
    case rel=>exact ⟨(k+1),os,A9,c9,rfl,rfl,by omega,(uZ hos hx21 hb26),H9⟩
    case measure=>simp [intOf];omega
  ·have he39:=bJ (l:=d.2.1) (j:=k) (by omega)
   refine rv (aA (decide_eq_false p13)) ?_
   refine nt (K12 _ _ (cf (wp_exit (ai (ai (ax (ab (K5 _ _ (sk fun _ K40=>rl ?_)))))))))
   have hke:k=d.2.1.length:=by omega
   rw [hke,xaB] at hos
   have hno:=mE h.ins
   refine ac (sh wo8 os _ (y0 (n:=0) (Mem.own H9 0 rfl) (hos▸uh hno)) (by omega)) ?_
   rintro e w41 ⟨A8,c8,rfl,hm8⟩
   refine ⟨_,rfl,rn ?_⟩
   have H42:=Mem.seq H9 hm8
   refine rn ?_
   refine nt (K40 _ _ (rt ?_))
   subst hos
   exact ⟨_,A8,c8,rfl,(Mem.pick H42 [0] (by decide) rfl)⟩
end Go.Proofs.YtomnhnmciopiiaaGreat
end
