/- Part 9 of the texts of one proof. -/
import Derived.Test.YtomnhnmciopiiaaGreatMMT8
set_option maxRecDepth 100000
set_option linter.unusedVariables false
set_option linter.unusedSimpArgs false
set_option maxHeartbeats 40000000
open Go.Act renaming put → xae
open And renaming intro → xad
open Go.RowKit.Below renaming refl → xao
open Bool renaming and_eq_true → xaw
open ByteArray renaming data_append → xbz, size_append → xaM
open Int renaming tmod_eq_emod_of_nonneg → xbt, toNat_natCast → xbr
open Go.IntKind renaming wrap → xbA
open List renaming append_assoc → xaR, drop → xaE, drop_succ_cons → xay, drop_zero → xaK, eq_nil_of_length_eq_zero → xaT, getD_eq_getElem?_getD → xaX, getElem?_eq_getElem → xai, length_append → xak, length_cons → xaF, length_singleton → xbq, length_take → xaN, mem_append → xax, mem_cons → xaD, mem_of_getElem? → xaj, mem_singleton → xan, not_mem_nil → xaS, range → xaf, setIfInBounds_toArray → xaa, set_cons_succ → xac, set_cons_zero → xab, size_toArray → xal, take_add_one → xaB, take_length → xaG, take_of_length_le → xav, take_succ_cons → xau, take_zero → xaC
open Nat renaming div_div_eq_div_mul → xbX, le_refl → xag, pow_add → xb6
open Option.some renaming inj → xam
open Go.Utf8 renaming decode → xbL
open Go.Value renaming cells → xaU
section
namespace Go.Proofs.YtomnhnmciopiiaaGreat
open Go Go.RowKit Go.Maps
instance Hc:DecidableEq Inp:=inferInstance
instance Hd:DecidableEq Nam:=instDecidableEqProd
instance G2:DecidableEq (List Nam):=instDecidableEqList
instance Hb:DecidableEq Drv:=instDecidableEqProd
theorem eL {x:Nam} (h:okN x):(Tryz.prog.info? 87).map (·.size)=some (nC x).length:=by rw [cV h];kernel_rfl
theorem kX {x:Nam} (h:okN x):(Tryz.prog.info? 87).map (·.size)=some (nC x).toArray.size:=by rw [xal];exact eL h
theorem zS (x:Nam):(nC x).toArray.all (·.oneCell')=true:=all_oneCell_toArray (fj x)
theorem yC {h:Hsh} (hh:okH h):KL Tryz.prog 2 34 (bv h):=F1 Tryz.underlying34 Tryz.underlying5 fS il hh
theorem Eh {p:Pth} (hp:okP p):KL Tryz.prog 3 83 (pC p):=by
 have hl:(bv p.1).length=20:=by rw [bvL];exact hp.1
 refine mY Tryz.underlying83 (by kernel_rfl) (by rw [fK hp,lk]) [(34,0,bv p.1),(9,20,[.string p.2])] (by kernel_rfl) ?_ ?_
 ·intro q hq
  simp only [xaD,xaS,or_false] at hq
  rcases hq with rfl | rfl
  ·exact yC hp.1
  ·exact (Cn Tryz.underlying9 fp _ hp.2).mono (by omega)
 ·intro q hq
  simp only [xaD,xaS,or_false] at hq
  rcases hq with rfl | rfl
  ·simp [pC,hl]
  ·simp [pC,hl]
theorem Ck {x:Inp} (hx:okI x):KL Tryz.prog 4 85 (iC x):=by
 have hl:(pC x.1).length=21:=fK hx.1
 have hl2:(bv x.2.1).length=20:=by rw [bvL];exact hx.2
 refine mY Tryz.underlying85 (by kernel_rfl) (by simp only [iC,xak,hl,hl2,xaF,List.length_nil];kernel_rfl) [(83,0,pC x.1),(34,21,bv x.2.1),(4,41,[.bool x.2.2])] (by kernel_rfl) ?_ ?_
 ·intro q hq
  simp only [xaD,xaS,or_false] at hq
  rcases hq with rfl | rfl | rfl
  ·exact Eh hx.1
  ·exact (yC hx.2).mono (by omega)
  ·exact (Eg Tryz.underlying4 (by kernel_rfl) _).mono (by omega)
 ·intro q hq
  simp only [xaD,xaS,or_false] at hq
  rcases hq with rfl | rfl | rfl
  ·simp [iC,hl]
  ·simp [iC,hl,hl2]
  ·unfold iC
   rw [← xaR,List.drop_left' (by simp [hl,hl2])]
   rfl
theorem Cm {x:Nam} (hx:okN x):KL Tryz.prog 5 87 (nC x):=by
 refine mY Tryz.underlying87 (by kernel_rfl) (by rw [cV hx];kernel_rfl) [(9,0,[.string x.1]),(85,1,iC x.2)] (by kernel_rfl) ?_ ?_
 ·intro q hq
  simp only [xaD,xaS,or_false] at hq
  rcases hq with rfl | rfl
  ·exact (Cn Tryz.underlying9 fp _ hx.1).mono (by omega)
  ·exact Ck hx.2
 ·intro q hq
  simp only [xaD,xaS,or_false] at hq
  rcases hq with rfl | rfl
  ·simp [nC]
  ·simp [nC]
theorem FO {a b:Inp} (ha:okI a) (hb:okI b) (h:iC a=iC b):a=b:=by
 unfold iC at h
 have h1:=List.append_inj h (by rw [fK ha.1,fK hb.1])
 have h2:=List.append_inj h1.2 (by rw [bvL,bvL];exact ha.2.trans hb.2.symm)
 have e1:=CS h1.1
 have e2:=wh h2.1
 have e3:a.2.2=b.2.2:=by simpa using h2.2
 exact Prod.ext e1 (Prod.ext e2 e3)
theorem F4 {a b:Nam} (ha:okN a) (hb:okN b) (h:nC a=nC b):a=b:=by
 unfold nC at h
 injection h with h1 h2
 injection h1 with h1
 exact Prod.ext h1 (FO ha.2 hb.2 h2)
theorem j4 (a b:Nam) (ha:okN a) (hb:okN b) (w:World):(Op.equal 87 (.agg (nC a).toArray) (.agg (nC b).toArray)).run Tryz.prog w=.ok (decide (a=b)) w:=by
 obtain ⟨r,h1,h2⟩:=GI (P:=Tryz.prog) (m:=5) (Keyed.of_law (deep_law_laid laidOut (m:=5) (by omega) (of_decide_eq_true (by kernel_rfl)) (by kernel_rfl) (by kernel_rfl))) (Cm ha) (Cm hb) (of_decide_eq_true (by kernel_rfl)) (by kernel_rfl) (by omega) (by kernel_rfl) (by kernel_rfl) w
 have:r=decide (a=b):=by
  rw [Bool.eq_iff_iff,h2,decide_eq_true_iff]
  exact ⟨F4 ha hb,fun e=>by rw [e]⟩
 rw [← this]
 exact h1
theorem CD (a b:Nam) (ha:okN a) (hb:okN b) (w:World):(binOp .neq 87 (.agg (nC a).toArray) (.agg (nC b).toArray)).run Tryz.prog w=.ok (.bool (!decide (a=b))) w:=y1 (j4 a b ha hb w)
theorem lZ {w:World} {B:Nat} {cs:List Value} {x:Int}:(Lay.int 5 .u8).At w B cs x↔cs=[.int .u8 x]∧(Lit.int .u8 x).wf=true:=Iff.rfl
theorem AL (w:World) (a b:List Nam) (A B:Option Addr) (ca cb:Nat) (ha:dW.At w w.heap.size [.slice A a.length ca] a) (hb:dW.At w w.heap.size [.slice B b.length cb] b) :
  Calls Tryz.prog 77 #[.slice A a.length ca,.slice B b.length cb] w fun e w'=>e=.returned (.bool (decide (a=b)))∧Below w.heap.size w w':=by
 obtain ⟨A',ca',e,_,hcm,_,hA⟩:=aj ha
 injection e with e1 e2 e3
 subst e1 e3
 obtain ⟨B',cb',e,_,_,_,hB⟩:=aj hb
 injection e with e1 e4 e3
 subst e1 e3
 clear ha hb e2 e4
 have k9:(a.length:Int)≤9223372036854775807:=by simp only [maxLen] at hcm;omega
 clear hcm
 by_cases hlen:a.length=b.length
 ·rw [← hlen]
  have HA:=ab hA
  have HB:=ab hB
  have HLN:=ab hlen
  clear hA hB hlen
  have H0:=ab (Mem.start w)
  go_enter Tryz.func77,Tryz.ntmps77
  go_wp2_with fail
  go_loopw [5] (fun x5 wr=>∃ j:Nat,j≤a.length∧x5=.int .i64 (j:Int)∧a.take j=b.take j∧Mem w wr []) (fun x5 _=>a.length-(intOf x5).toNat)
  case atStart=>exact ⟨0,by omega,rfl,rfl,H0.out⟩
  case round =>
   obtain ⟨wo,rfl⟩:∃ wo,wo=wr:=⟨_,rfl⟩
   obtain ⟨j,hj,rfl,htk,hm⟩:=hrel
   have HM:=ab hm
   have HT:=ab htk
   clear hm htk
   have j0:(0:Int)≤(j:Int):=by omega
   by_cases hj2:j<a.length
   ·have j1:(j:Int)<(a.length:Int):=by omega
    obtain ⟨x,hx⟩:∃ x,a[j]?=some x:=⟨_,xai (by omega)⟩
    obtain ⟨p,o1,rfl,hltp,hE⟩:=HA.out (by omega)
    obtain ⟨cs,hrx,hatx⟩:=hE j x hx
    clear hE
    obtain ⟨y,hy⟩:∃ y,b[j]?=some y:=⟨_,xai (by have:=HLN.out;omega)⟩
    obtain ⟨q,o2,rfl,hltq,hE⟩:=HB.out (by have:=HLN.out;omega)
    obtain ⟨cs2,hry,haty⟩:=hE j y hy
    obtain ⟨rfl,hxo⟩:=bZ.1 hatx
    obtain ⟨rfl,hyo⟩:=bZ.1 haty
    have HX:=ab (xad hrx (xad hltp hx))
    have HY:=ab (xad hry (xad hltq hy))
    clear hrx hltp hx hry hltq hy hE hatx haty
    obtain ⟨bd,hbd⟩:∃ bd,bd=decide (x=y):=⟨_,rfl⟩
    have HBD:=ab hbd
    clear hbd
    cases bd
    ·go_wp2_with fail
     refine Fre.b4 (X:=Bel) 8 [] (by kernel_rfl) (by kernel_rfl) (by simp) (by simp) (by simp) ?_
     simp only [xau,xaC,xay,xaK]
     refine Fre.ag (.slice (some ⟨p,o1,none⟩) a.length ca) (by kernel_rfl) (by kernel_rfl) (by kernel_rfl) (fun _ _=>by kernel_rfl) ?_
     simp only [xae,xaa,xab,xac]
     refine Fre.ag (.int .i64 (j:Int)) (by kernel_rfl) (by kernel_rfl) (by kernel_rfl) (fun _ _=>by kernel_rfl) ?_
     simp only [xae,xaa,xab,xac]
     refine Fre.ag (.pointer (some ⟨p,o1+j*43,none⟩)) (by kernel_rfl) (by kernel_rfl) (by kernel_rfl) (fun W9 hW9=>(bQ 23 87 (.tmp 17) (.tmp 18) rfl p o1 a.length ca j rfl rfl hj2 43 Tryz.underlying23 bz W9)) ?_
     simp only [xae,xaa,xab,xac]
     refine Fre.ag (.agg (nC x).toArray) (by kernel_rfl) (by kernel_rfl) (by kernel_rfl) (fun W9 hW9=>(ai 87 (.tmp 19) rfl p (o1+j*43) rfl (nC x) _ W9 (Mem.range (Mem.call HM.out hW9) HX.out.1 HX.out.2.1) Tryz.underlying87 rfl (eL hxo))) ?_
     simp only [xae,xaa,xab,xac]
     refine Fre.ag (.slice (some ⟨q,o2,none⟩) a.length cb) (by kernel_rfl) (by kernel_rfl) (by kernel_rfl) (fun _ _=>by kernel_rfl) ?_
     simp only [xae,xaa,xab,xac]
     refine Fre.ag (.int .i64 (j:Int)) (by kernel_rfl) (by kernel_rfl) (by kernel_rfl) (fun _ _=>by kernel_rfl) ?_
     simp only [xae,xaa,xab,xac]
     refine Fre.ag (.pointer (some ⟨q,o2+j*43,none⟩)) (by kernel_rfl) (by kernel_rfl) (by kernel_rfl) (fun W9 hW9=>(bQ 23 87 (.tmp 21) (.tmp 22) rfl q o2 a.length cb j rfl rfl hj2 43 Tryz.underlying23 bz W9)) ?_
     simp only [xae,xaa,xab,xac]
     refine Fre.ag (.agg (nC y).toArray) (by kernel_rfl) (by kernel_rfl) (by kernel_rfl) (fun W9 hW9=>(ai 87 (.tmp 23) rfl q (o2+j*43) rfl (nC y) _ W9 (Mem.range (Mem.call HM.out hW9) HY.out.1 HY.out.2.1) Tryz.underlying87 rfl (eL hyo))) ?_
     simp only [xae,xaa,xab,xac]
     intro w1 hx
     dsimp only [Fre.ended,xaE]
     have H1:=ab (Mem.call HM.out hx)
     clear hx
     go_wp2_with (((with_reducible refine ae 25 ?_);(refine aa rfl (.bool true) w1 (dz .neq 87 (.tmp 20) (.tmp 24) _ rfl (nC x).toArray (nC y).toArray rfl rfl (by kernel_rfl) _ (fun W=>by have h9:=CD x y hxo hyo W;rw [← HBD.out] at h9;exact h9) w1) ?_)))
     go_ret
     refine ⟨?_,Mem.below H1.out⟩
     have hne:¬ a=b:=by
      rintro rfl
      have h1:=HX.out.2.2
      rw [HY.out.2.2] at h1
      exact of_decide_eq_false HBD.out.symm (xam h1).symm
     rw [decide_eq_false hne];rfl
    ·go_wp2_with fail
     refine Fre.b4 (X:=Bel) 8 [] (by kernel_rfl) (by kernel_rfl) (by simp) (by simp) (by simp) ?_
     simp only [xau,xaC,xay,xaK]
     refine Fre.ag (.slice (some ⟨p,o1,none⟩) a.length ca) (by kernel_rfl) (by kernel_rfl) (by kernel_rfl) (fun _ _=>by kernel_rfl) ?_
     simp only [xae,xaa,xab,xac]
     refine Fre.ag (.int .i64 (j:Int)) (by kernel_rfl) (by kernel_rfl) (by kernel_rfl) (fun _ _=>by kernel_rfl) ?_
     simp only [xae,xaa,xab,xac]
     refine Fre.ag (.pointer (some ⟨p,o1+j*43,none⟩)) (by kernel_rfl) (by kernel_rfl) (by kernel_rfl) (fun W9 hW9=>(bQ 23 87 (.tmp 17) (.tmp 18) rfl p o1 a.length ca j rfl rfl hj2 43 Tryz.underlying23 bz W9)) ?_
     simp only [xae,xaa,xab,xac]
     refine Fre.ag (.agg (nC x).toArray) (by kernel_rfl) (by kernel_rfl) (by kernel_rfl) (fun W9 hW9=>(ai 87 (.tmp 19) rfl p (o1+j*43) rfl (nC x) _ W9 (Mem.range (Mem.call HM.out hW9) HX.out.1 HX.out.2.1) Tryz.underlying87 rfl (eL hxo))) ?_
     simp only [xae,xaa,xab,xac]
     refine Fre.ag (.slice (some ⟨q,o2,none⟩) a.length cb) (by kernel_rfl) (by kernel_rfl) (by kernel_rfl) (fun _ _=>by kernel_rfl) ?_
     simp only [xae,xaa,xab,xac]
     refine Fre.ag (.int .i64 (j:Int)) (by kernel_rfl) (by kernel_rfl) (by kernel_rfl) (fun _ _=>by kernel_rfl) ?_
     simp only [xae,xaa,xab,xac]
     refine Fre.ag (.pointer (some ⟨q,o2+j*43,none⟩)) (by kernel_rfl) (by kernel_rfl) (by kernel_rfl) (fun W9 hW9=>(bQ 23 87 (.tmp 21) (.tmp 22) rfl q o2 a.length cb j rfl rfl hj2 43 Tryz.underlying23 bz W9)) ?_
     simp only [xae,xaa,xab,xac]
     refine Fre.ag (.agg (nC y).toArray) (by kernel_rfl) (by kernel_rfl) (by kernel_rfl) (fun W9 hW9=>(ai 87 (.tmp 23) rfl q (o2+j*43) rfl (nC y) _ W9 (Mem.range (Mem.call HM.out hW9) HY.out.1 HY.out.2.1) Tryz.underlying87 rfl (eL hyo))) ?_
     simp only [xae,xaa,xab,xac]
     intro w2 hx
     dsimp only [Fre.ended,xaE]
     have H2:=ab (Mem.call HM.out hx)
     clear hx
     go_wp2_with (((with_reducible refine ae 25 ?_);(refine aa rfl (.bool false) w2 (dz .neq 87 (.tmp 20) (.tmp 24) _ rfl (nC x).toArray (nC y).toArray rfl rfl (by kernel_rfl) _ (fun W=>by have h9:=CD x y hxo hyo W;rw [← HBD.out] at h9;exact h9) w2) ?_)))
     go_roundw
     case rel=>exact ⟨j+1,by omega,by go_num,(by rw [xaB,xaB,HT.out,HX.out.2.2,HY.out.2.2,of_decide_eq_true HBD.out.symm]),H2.out⟩
     case measure=>simp [intOf];omega
   ·obtain rfl:j=a.length:=by omega
    go_wp2_with fail
    go_ret
    refine ⟨?_,Mem.below HM.out⟩
    have:a=b:=by
     have h2:=HT.out
     rwa [xav (xag _),xav (by have:=HLN.out;omega)] at h2
    rw [decide_eq_true this];rfl
 ·have hne:¬ (a.length:Int)=(b.length:Int):=by omega
  have hd:decide (a=b)=false:=decide_eq_false (by rintro rfl;exact hlen rfl)
  rw [hd]
  clear hA hB
  go_enter Tryz.func77,Tryz.ntmps77
  go_wp2_with fail
  go_ret
  exact ⟨rfl,xao _ _⟩
theorem AK (w:World) (a b:List Int) (A B:Option Addr) (ca cb:Nat) (ha:cA.At w w.heap.size [.slice A a.length ca] a) (hb:cA.At w w.heap.size [.slice B b.length cb] b) :
  Calls Tryz.prog 78 #[.slice A a.length ca,.slice B b.length cb] w fun e w'=>e=.returned (.bool (decide (a=b)))∧Below w.heap.size w w':=by
 obtain ⟨A',ca',e,_,hcm,_,hA⟩:=aj ha
 injection e with e1 e2 e3
 subst e1 e3
 obtain ⟨B',cb',e,_,_,_,hB⟩:=aj hb
 injection e with e1 e4 e3
 subst e1 e3
 clear ha hb e2 e4
 have k9:(a.length:Int)≤9223372036854775807:=by simp only [maxLen] at hcm;omega
 clear hcm
 by_cases hlen:a.length=b.length
 ·rw [← hlen]
  have HA:=ab hA
  have HB:=ab hB
  have HLN:=ab hlen
  clear hA hB hlen
  have H0:=ab (Mem.start w)
  go_enter Tryz.func78,Tryz.ntmps78
  go_wp2_with fail
  go_loopw [5] (fun x5 wr=>∃ j:Nat,j≤a.length∧x5=.int .i64 (j:Int)∧a.take j=b.take j∧Mem w wr []) (fun x5 _=>a.length-(intOf x5).toNat)
  case atStart=>exact ⟨0,by omega,rfl,rfl,H0.out⟩
  case round =>
   obtain ⟨wo,rfl⟩:∃ wo,wo=wr:=⟨_,rfl⟩
   obtain ⟨j,hj,rfl,htk,hm⟩:=hrel
   have HM:=ab hm
   have HT:=ab htk
   clear hm htk
   have j0:(0:Int)≤(j:Int):=by omega
   by_cases hj2:j<a.length
   ·have j1:(j:Int)<(a.length:Int):=by omega
    obtain ⟨x,hx⟩:∃ x,a[j]?=some x:=⟨_,xai (by omega)⟩
    obtain ⟨p,o1,rfl,hltp,hE⟩:=HA.out (by omega)
    obtain ⟨cs,hrx,hatx⟩:=hE j x hx
    clear hE
    obtain ⟨y,hy⟩:∃ y,b[j]?=some y:=⟨_,xai (by have:=HLN.out;omega)⟩
    obtain ⟨q,o2,rfl,hltq,hE⟩:=HB.out (by have:=HLN.out;omega)
    obtain ⟨cs2,hry,haty⟩:=hE j y hy
    obtain ⟨rfl,hxo⟩:=lZ.1 hatx
    obtain ⟨rfl,hyo⟩:=lZ.1 haty
    have HX:=ab (xad hrx (xad hltp hx))
    have HY:=ab (xad hry (xad hltq hy))
    clear hrx hltp hx hry hltq hy hE hatx haty
    by_cases hxy:x=y
    ·subst hxy
     have HBD:=ab (show true=decide (x=x) from (decide_eq_true rfl).symm)
     go_wp2_with fail
     refine Fre.b4 (X:=Bel) 8 [] (by kernel_rfl) (by kernel_rfl) (by simp) (by simp) (by simp) ?_
     simp only [xau,xaC,xay,xaK]
     refine Fre.ag (.slice (some ⟨p,o1,none⟩) a.length ca) (by kernel_rfl) (by kernel_rfl) (by kernel_rfl) (fun _ _=>by kernel_rfl) ?_
     simp only [xae,xaa,xab,xac]
     refine Fre.ag (.int .i64 (j:Int)) (by kernel_rfl) (by kernel_rfl) (by kernel_rfl) (fun _ _=>by kernel_rfl) ?_
     simp only [xae,xaa,xab,xac]
     refine Fre.ag (.pointer (some ⟨p,o1+j*1,none⟩)) (by kernel_rfl) (by kernel_rfl) (by kernel_rfl) (fun W9 hW9=>(bQ 24 5 (.tmp 17) (.tmp 18) rfl p o1 a.length ca j rfl rfl hj2 1 Tryz.underlying24 (by kernel_rfl) W9)) ?_
     simp only [xae,xaa,xab,xac]
     refine Fre.ag (.int .u8 x) (by kernel_rfl) (by kernel_rfl) (by kernel_rfl) (fun W9 hW9=>(exec_load_cell 5 (.tmp 19) rfl ⟨p,o1+j*1,none⟩ rfl _ _ W9 Tryz.underlying5 rfl (range_cell (Mem.range (Mem.call HM.out hW9) HX.out.1 HX.out.2.1)))) ?_
     simp only [xae,xaa,xab,xac]
     refine Fre.ag (.slice (some ⟨q,o2,none⟩) a.length cb) (by kernel_rfl) (by kernel_rfl) (by kernel_rfl) (fun _ _=>by kernel_rfl) ?_
     simp only [xae,xaa,xab,xac]
     refine Fre.ag (.int .i64 (j:Int)) (by kernel_rfl) (by kernel_rfl) (by kernel_rfl) (fun _ _=>by kernel_rfl) ?_
     simp only [xae,xaa,xab,xac]
     refine Fre.ag (.pointer (some ⟨q,o2+j*1,none⟩)) (by kernel_rfl) (by kernel_rfl) (by kernel_rfl) (fun W9 hW9=>(bQ 24 5 (.tmp 21) (.tmp 22) rfl q o2 a.length cb j rfl rfl hj2 1 Tryz.underlying24 (by kernel_rfl) W9)) ?_
     simp only [xae,xaa,xab,xac]
     refine Fre.ag (.int .u8 x) (by kernel_rfl) (by kernel_rfl) (by kernel_rfl) (fun W9 hW9=>(exec_load_cell 5 (.tmp 23) rfl ⟨q,o2+j*1,none⟩ rfl _ _ W9 Tryz.underlying5 rfl (range_cell (Mem.range (Mem.call HM.out hW9) HY.out.1 HY.out.2.1)))) ?_
     simp only [xae,xaa,xab,xac]
     intro w1 hx
     dsimp only [Fre.ended,xaE]
     have H1:=ab (Mem.call HM.out hx)
     clear hx
     go_wp2_with fail
     go_roundw
     case rel=>exact ⟨j+1,by omega,by go_num,(by rw [xaB,xaB,HT.out,HX.out.2.2,HY.out.2.2]),H1.out⟩
     case measure=>simp [intOf];omega
    ·have HBD:=ab (decide_eq_false hxy).symm
     go_wp2_with fail
     refine Fre.b4 (X:=Bel) 8 [] (by kernel_rfl) (by kernel_rfl) (by simp) (by simp) (by simp) ?_
     simp only [xau,xaC,xay,xaK]
     refine Fre.ag (.slice (some ⟨p,o1,none⟩) a.length ca) (by kernel_rfl) (by kernel_rfl) (by kernel_rfl) (fun _ _=>by kernel_rfl) ?_
     simp only [xae,xaa,xab,xac]
     refine Fre.ag (.int .i64 (j:Int)) (by kernel_rfl) (by kernel_rfl) (by kernel_rfl) (fun _ _=>by kernel_rfl) ?_
     simp only [xae,xaa,xab,xac]
     refine Fre.ag (.pointer (some ⟨p,o1+j*1,none⟩)) (by kernel_rfl) (by kernel_rfl) (by kernel_rfl) (fun W9 hW9=>(bQ 24 5 (.tmp 17) (.tmp 18) rfl p o1 a.length ca j rfl rfl hj2 1 Tryz.underlying24 (by kernel_rfl) W9)) ?_
     simp only [xae,xaa,xab,xac]
     refine Fre.ag (.int .u8 x) (by kernel_rfl) (by kernel_rfl) (by kernel_rfl) (fun W9 hW9=>(exec_load_cell 5 (.tmp 19) rfl ⟨p,o1+j*1,none⟩ rfl _ _ W9 Tryz.underlying5 rfl (range_cell (Mem.range (Mem.call HM.out hW9) HX.out.1 HX.out.2.1)))) ?_
     simp only [xae,xaa,xab,xac]
     refine Fre.ag (.slice (some ⟨q,o2,none⟩) a.length cb) (by kernel_rfl) (by kernel_rfl) (by kernel_rfl) (fun _ _=>by kernel_rfl) ?_
     simp only [xae,xaa,xab,xac]
     refine Fre.ag (.int .i64 (j:Int)) (by kernel_rfl) (by kernel_rfl) (by kernel_rfl) (fun _ _=>by kernel_rfl) ?_
     simp only [xae,xaa,xab,xac]
     refine Fre.ag (.pointer (some ⟨q,o2+j*1,none⟩)) (by kernel_rfl) (by kernel_rfl) (by kernel_rfl) (fun W9 hW9=>(bQ 24 5 (.tmp 21) (.tmp 22) rfl q o2 a.length cb j rfl rfl hj2 1 Tryz.underlying24 (by kernel_rfl) W9)) ?_
     simp only [xae,xaa,xab,xac]
     refine Fre.ag (.int .u8 y) (by kernel_rfl) (by kernel_rfl) (by kernel_rfl) (fun W9 hW9=>(exec_load_cell 5 (.tmp 23) rfl ⟨q,o2+j*1,none⟩ rfl _ _ W9 Tryz.underlying5 rfl (range_cell (Mem.range (Mem.call HM.out hW9) HY.out.1 HY.out.2.1)))) ?_
     simp only [xae,xaa,xab,xac]
     intro w2 hx
     dsimp only [Fre.ended,xaE]
     have H2:=ab (Mem.call HM.out hx)
     clear hx
     go_wp2_with fail
     go_ret
     refine ⟨?_,Mem.below H2.out⟩
     have hne:¬ a=b:=by
      rintro rfl
      have h1:=HX.out.2.2
      rw [HY.out.2.2] at h1
      exact of_decide_eq_false HBD.out.symm (xam h1).symm
     rw [decide_eq_false hne];rfl
   ·obtain rfl:j=a.length:=by omega
    go_wp2_with fail
    go_ret
    refine ⟨?_,Mem.below HM.out⟩
    have:a=b:=by
     have h2:=HT.out
     rwa [xav (xag _),xav (by have:=HLN.out;omega)] at h2
    rw [decide_eq_true this];rfl
 ·have hne:¬ (a.length:Int)=(b.length:Int):=by omega
  have hd:decide (a=b)=false:=decide_eq_false (by rintro rfl;exact hlen rfl)
  rw [hd]
  clear hA hB
  go_enter Tryz.func78,Tryz.ntmps78
  go_wp2_with fail
  go_ret
  exact ⟨rfl,xao _ _⟩
end Go.Proofs.YtomnhnmciopiiaaGreat
end
section
namespace Go.Proofs.YtomnhnmciopiiaaGreat
open Go Go.RowKit Go.Maps
def tw:Lay Itm:=Lay.struct 98 (.cons gW (.cons pg .nil)) fun x=>(x.1,x.2,())
def eg:Lay (List Itm):=Lay.slice 40 tw
theorem eN {w:World} {B:Nat} {cs:List Value} {x:Itm}:tw.At w B cs x↔∃ v1 v2,cs=tC x v1 v2∧okH x.1∧au w B x.2 v1 v2:=by
 constructor
 ·rintro ⟨c1,d1,rfl,⟨rfl,h1⟩,c2,d2,rfl,h2,h3⟩
  have h3:d2=[]:=h3
  subst h3
  obtain ⟨v1,v2,rfl,h5⟩:=jb.1 h2
  exact ⟨v1,v2,by simp [tC],h1,h5⟩
 ·rintro ⟨v1,v2,rfl,h1,h2⟩
  exact ⟨bv x.1,dC x.2 v1 v2,rfl,⟨rfl,h1⟩,dC x.2 v1 v2,[],by simp,jb.2 ⟨v1,v2,rfl,h2⟩,rfl⟩
theorem dM:(Tryz.prog.info? 98).map (·.size)=some 23:=by kernel_rfl
theorem EL {x:Itm} {v1 v2:Value} (h:okH x.1):(Tryz.prog.info? 98).map (·.size)=some (tC x v1 v2).length:=by rw [cl h];kernel_rfl
theorem Gz (w:World) (B:Nat):au w B (⟨#[]⟩,[],[]) (.slice none 0 0) (.slice none 0 0) :=
 ⟨Nat.zero_le _,⟨none,0,rfl,xag _,Nat.zero_le _,(fun _=>rfl),fun h=>absurd h (by simp)⟩,⟨none,0,rfl,xag _,Nat.zero_le _,(fun _=>rfl),fun h=>absurd h (by simp)⟩⟩
theorem AA {l:List Hsh} {k:Nat} {z c:Hsh} (h:l[k]?=some z) (hn:c ∉ l.take k) (hz:¬ z=c):c ∉ l.take (k+1):=by
 rw [xaB,h]
 intro hm
 rcases xax.1 hm with hm | hm
 ·exact hn hm
 ·simp at hm
  first | exact hz hm | exact hz hm.symm
theorem jv (w:World) (l:List Hsh) (v:Value) (h:cT.At w w.heap.size [v] l) (c:Hsh) (hc:okH c) (b:Bool) (hb:decide (c∈l)=b) :
  Calls Tryz.prog 76 #[v,.agg (bv c).toArray] w fun e w'=>e=.returned (.bool b)∧Below w.heap.size w w':=by
 obtain ⟨A,cap,rfl,_,hcm,_,hA⟩:=aj h
 have k9:(l.length:Int)≤9223372036854775807:=by simp only [maxLen] at hcm;omega
 have HA:=ab hA
 have HBB:=ab hb
 clear h hA hcm hb
 have H0:=ab (Mem.start w)
 go_enter Tryz.func76,Tryz.ntmps76
 go_wp2_with (((with_reducible refine ae 3 ?_);(refine aF rfl 34 (.tmp 1) rfl (bv c).toArray rfl ?_);intro w1 hn;have H1:=ab (Mem.aM H0.out hn);clear hn;simp only [xae,xaa,xab,xac]))
 go_loopw [5] (fun x5 wr=>∃ j:Nat,j≤l.length∧x5=.int .i64 (j:Int)∧c ∉ l.take j∧Mem w wr [bh w.heap.size 34 (bv c).toArray]) (fun x5 _=>l.length-(intOf x5).toNat)
 case atStart=>exact ⟨0,by omega,rfl,(by simp),H1.out⟩
 case round =>
  obtain ⟨wo,rfl⟩:∃ wo,wo=wr:=⟨_,rfl⟩
  obtain ⟨j,hj,rfl,hni,hm⟩:=hrel
  have HM:=ab hm
  have HN:=ab hni
  clear hm hni
  have j0:(0:Int)≤(j:Int):=by omega
  by_cases hj2:j<l.length
  ·have j1:(j:Int)<(l.length:Int):=by omega
   obtain ⟨x,hx⟩:∃ x,l[j]?=some x:=⟨_,xai (by omega)⟩
   obtain ⟨b,off,rfl,hltb,hE⟩:=HA.out (by omega)
   obtain ⟨cs,hrx,hatx⟩:=hE j x hx
   clear hE
   obtain ⟨rfl,xo⟩:=ep.1 hatx
   have HX:=ab (xad hrx (xad hltb hx))
   clear hrx hltb hx hatx
   cases hq:decide (x=c)
   ·have HC:=ab hq
    clear hq
    go_wp2_with fail
    refine Fre.cC (X:=Bel) [] (by kernel_rfl) (by kernel_rfl) (by simp) (by simp) (by simp) ?_
    refine Fre.ag (.slice (some ⟨b,off,none⟩) l.length cap) (by kernel_rfl) (by kernel_rfl) (by kernel_rfl) (fun _ _=>by kernel_rfl) ?_
    simp only [xae,xaa,xab,xac]
    refine Fre.ag (.int .i64 (j:Int)) (by kernel_rfl) (by kernel_rfl) (by kernel_rfl) (fun _ _=>by kernel_rfl) ?_
    simp only [xae,xaa,xab,xac]
    refine Fre.ag (.pointer (some ⟨b,off+j*20,none⟩)) (by kernel_rfl) (by kernel_rfl) (by kernel_rfl) (fun W9 hW9=>(bQ 27 34 (.tmp 12) (.tmp 13) rfl b off l.length cap j rfl rfl hj2 20 Tryz.underlying27 cr W9)) ?_
    simp only [xae,xaa,xab,xac]
    refine Fre.ag (.agg (bv x).toArray) (by kernel_rfl) (by kernel_rfl) (by kernel_rfl) (fun W9 hW9=>(ai 34 (.tmp 14) rfl b (off+j*20) rfl (bv x) _ W9 (Mem.range (Mem.call HM.out hW9) HX.out.1 HX.out.2.1) Tryz.underlying34 rfl (bN xo))) ?_
    simp only [xae,xaa,xab,xac]
    refine Fre.ag (.agg (bv c).toArray) (by kernel_rfl) (by kernel_rfl) (by kernel_rfl) (fun W9 hW9=>(ai 34 (.tmp 3) rfl w.heap.size (0) rfl (bv c) _ W9 (Blk.range (Mem.blk (Mem.call HM.out hW9) 0 rfl)) Tryz.underlying34 rfl (bN hc))) ?_
    simp only [xae,xaa,xab,xac]
    refine Fre.ag (.bool false) (by kernel_rfl) (by kernel_rfl) (by kernel_rfl) (fun W9 hW9=>(dG 34 34 (.tmp 15) (.tmp 16) rfl (bv x).toArray (bv c).toArray rfl rfl (by kernel_rfl) false W9 (by have h9:=dc x c xo hc W9;rwa [HC.out] at h9))) ?_
    simp only [xae,xaa,xab,xac]
    intro w2 hx
    dsimp only [Fre.ended,xaE]
    have H2:=ab (Mem.call HM.out hx)
    clear hx
    go_wp2_with fail
    go_roundw
    case rel=>exact ⟨j+1,by omega,by go_num,AA HX.out.2.2 HN.out (of_decide_eq_false HC.out),H2.out⟩
    case measure=>simp [intOf];omega
   ·have HC:=ab hq
    clear hq
    go_wp2_with fail
    refine Fre.cC (X:=Bel) [] (by kernel_rfl) (by kernel_rfl) (by simp) (by simp) (by simp) ?_
    refine Fre.ag (.slice (some ⟨b,off,none⟩) l.length cap) (by kernel_rfl) (by kernel_rfl) (by kernel_rfl) (fun _ _=>by kernel_rfl) ?_
    simp only [xae,xaa,xab,xac]
    refine Fre.ag (.int .i64 (j:Int)) (by kernel_rfl) (by kernel_rfl) (by kernel_rfl) (fun _ _=>by kernel_rfl) ?_
    simp only [xae,xaa,xab,xac]
    refine Fre.ag (.pointer (some ⟨b,off+j*20,none⟩)) (by kernel_rfl) (by kernel_rfl) (by kernel_rfl) (fun W9 hW9=>(bQ 27 34 (.tmp 12) (.tmp 13) rfl b off l.length cap j rfl rfl hj2 20 Tryz.underlying27 cr W9)) ?_
    simp only [xae,xaa,xab,xac]
    refine Fre.ag (.agg (bv x).toArray) (by kernel_rfl) (by kernel_rfl) (by kernel_rfl) (fun W9 hW9=>(ai 34 (.tmp 14) rfl b (off+j*20) rfl (bv x) _ W9 (Mem.range (Mem.call HM.out hW9) HX.out.1 HX.out.2.1) Tryz.underlying34 rfl (bN xo))) ?_
    simp only [xae,xaa,xab,xac]
    refine Fre.ag (.agg (bv c).toArray) (by kernel_rfl) (by kernel_rfl) (by kernel_rfl) (fun W9 hW9=>(ai 34 (.tmp 3) rfl w.heap.size (0) rfl (bv c) _ W9 (Blk.range (Mem.blk (Mem.call HM.out hW9) 0 rfl)) Tryz.underlying34 rfl (bN hc))) ?_
    simp only [xae,xaa,xab,xac]
    refine Fre.ag (.bool true) (by kernel_rfl) (by kernel_rfl) (by kernel_rfl) (fun W9 hW9=>(dG 34 34 (.tmp 15) (.tmp 16) rfl (bv x).toArray (bv c).toArray rfl rfl (by kernel_rfl) true W9 (by have h9:=dc x c xo hc W9;rwa [HC.out] at h9))) ?_
    simp only [xae,xaa,xab,xac]
    intro w3 hx
    dsimp only [Fre.ended,xaE]
    have H3:=ab (Mem.call HM.out hx)
    clear hx
    go_wp2_with fail
    have hin:decide (c∈l)=true:=decide_eq_true (by have h9:=xaj HX.out.2.2;rwa [of_decide_eq_true HC.out] at h9)
    have hbt:=HBB.out.symm.trans hin
    go_ret
    exact ⟨by rw [hbt];rfl,Mem.below H3.out⟩
  ·obtain rfl:j=l.length:=by omega
   have hni:=HN.out
   rw [xaG] at hni
   have hbt:=HBB.out.symm.trans (decide_eq_false hni)
   clear hni
   go_wp2_with fail
   go_ret
   exact ⟨by rw [hbt];rfl,Mem.below HM.out⟩
theorem mf {l:List Itm} {c:Hsh} {z:Itm} (h:aY l c=some z):findD l c=z.2:=by
 unfold findD
 unfold aY at h
 rw [h]
 rfl
theorem eE {x:Nam} {w:World} {b o:Nat} (h:w.rangeAt b o (nC x)):w.rangeAt b (o+1) (iC x.2):=ig (pre:=[.string x.1]) (post:=[]) h (by simp [nC]) rfl
theorem mX {x:Inp} (hx:okI x) {w:World} {b o:Nat} (h:w.rangeAt b o (iC x)):w.rangeAt b (o+21) (bv x.2.1):=ig (pre:=pC x.1) (post:=[.bool x.2.2]) h rfl (fK hx.1)
theorem kV {x:Inp} (hx:okI x) {w:World} {b o:Nat} (h:w.rangeAt b o (iC x)):w.rangeAt b (o+41) [.bool x.2.2]:=ig (pre:=pC x.1++bv x.2.1) (post:=[]) h (by simp [iC]) (by rw [xak,fK hx.1,bvL,hx.2])
theorem FP {x:Inp} (hx:okI x):(iC x).length=42:=by
 unfold iC
 rw [xak,xak,fK hx.1,bvL,hx.2]
 rfl
theorem sV {x:Inp} (hx:okI x):(Tryz.prog.info? 85).map (·.size)=some (iC x).length:=by rw [FP hx];kernel_rfl
theorem rT {x:Inp} (hx:okI x):(Tryz.prog.info? 85).map (·.size)=some (iC x).toArray.size:=by rw [xal];exact sV hx
theorem FN (x:Inp):(iC x).toArray.all (·.oneCell')=true:=all_oneCell_toArray fun v hv=>fj (⟨#[]⟩,x) v (List.mem_cons_of_mem _ hv)
theorem ye:(Tryz.prog.info? 85).map (·.size)=some zcI.size:=by kernel_rfl
theorem nr {w:World} {B:Nat} {u:Value} {l:List Hsh} (h:w.ownsRow B 34 20 u l.length (l.flatMap bv)) (hl:∀ x∈l,okH x):cT.At w w.heap.size [u] l :=
 ie (L:=gW) (f:=bv) (by decide) h _ (xag _) fun x hx=>ep.2 ⟨rfl,hl x hx⟩
theorem yn {l:List Nam} {c:Hsh} (h:c∈aA l):∃ x∈l,x.2.2.1=c:=by
 unfold aA at h
 have:∀ (l:List Nam) (out:List Hsh),c∈l.foldl (fun out x=>if x.2.2.2=true∧x.2.2.1 ∉ out then out++[x.2.2.1] else out) out→c∈out∨∃ x∈l,x.2.2.1=c:=by
  intro l
  induction l with
  | nil=>exact fun out h=>.inl h
  | cons x l ih =>
   intro out h
   rw [List.foldl_cons] at h
   rcases ih _ h with h | ⟨y,hy,h⟩
   ·split at h
    ·rcases xax.1 h with h | h
     ·exact .inl h
     ·exact .inr ⟨x,by simp,(xan.1 h).symm⟩
    ·exact .inl h
   ·exact .inr ⟨y,List.mem_cons_of_mem _ hy,h⟩
 rcases this l [] h with h | h
 ·cases h
 ·exact h
theorem jL (w:World) (d:Drv) (v1 v2:Value) (h:au w w.heap.size d v1 v2) (hl:d.2.1.length≤1000000) :
  Calls Tryz.prog 47 #[.agg (dC d v1 v2).toArray] w fun e w'=>∃ A cap,e=.returned (.slice A (aA d.2.1).length cap)∧Mem w w' [ax w.heap.size 34 20 (.slice A (aA d.2.1).length cap) (aA d.2.1).length ((aA d.2.1).flatMap bv)]:=by
 have o2:=h.dK.2
 have hok:∀ x∈d.2.1,okN x:=h.Ey
 have HOK:=ab hok
 obtain ⟨A,cap,rfl,_,_,_,hA⟩:=aj h.ins
 have HA:=ab hA
 clear h hA hok
 obtain ⟨inm,hih,hq0,hq1,hq2⟩:=info_parts fU
 have HJ:=ab (xad hih (xad hq0 (xad hq1 hq2)))
 clear hih hq0 hq1 hq2
 have H0:=ab (Mem.start w)
 go_enter Tryz.func47,Tryz.ntmps47
 go_wp2_with (((with_reducible refine ae 1 ?_);(refine aF rfl 26 (.tmp 0) rfl (dC d (.slice A d.2.1.length cap) v2).toArray rfl ?_);intro w1 hn;have H1:=ab (Mem.aM H0.out hn);clear hn;simp only [xae,xaa,xab,xac]))
 go_loopw [3,4] (fun x3 x4 wr=>∃ (j:Nat) (A2:Option Addr) (c2:Nat),j≤d.2.1.length∧x3=.slice A2 (aA (d.2.1.take j)).length c2∧x4=.int .i64 (j:Int)∧Mem w wr [ax w.heap.size 34 20 (.slice A2 (aA (d.2.1.take j)).length c2) (aA (d.2.1.take j)).length ((aA (d.2.1.take j)).flatMap bv),bh w.heap.size 26 (dC d (.slice A d.2.1.length cap) v2).toArray]) (fun _ x4 _=>d.2.1.length-(intOf x4).toNat)
 case atStart=>exact ⟨0,none,0,by omega,rfl,rfl,(Mem.dE H1.out _ _ _)⟩
 case round =>
  obtain ⟨wo,rfl⟩:∃ wo,wo=wr:=⟨_,rfl⟩
  obtain ⟨j,A2,c2,hj,rfl,rfl,hm⟩:=hrel
  have HM:=ab hm
  clear hm
  have j0:(0:Int)≤(j:Int):=by omega
  have hcl:=im d.2.1 j
  by_cases hj2:j<d.2.1.length
  ·have j1:(j:Int)<(d.2.1.length:Int):=by omega
   obtain ⟨x,hx⟩:∃ x,d.2.1[j]?=some x:=⟨_,xai (by omega)⟩
   obtain ⟨b,off,rfl,hltb,hE⟩:=HA.out (by omega)
   obtain ⟨cs,hrx,hatx⟩:=hE j x hx
   clear hE
   obtain ⟨rfl,xo⟩:=bZ.1 hatx
   have hst:=rF d.2.1 j x hx
   have HX:=ab (xad hrx (xad hltb hx))
   clear hrx hltb hx hatx
   have hho:∀ z∈aA (d.2.1.take j),okH z:=fun z hz=>by
    obtain ⟨y,hy,rfl⟩:=yn hz
    exact (HOK.out y (List.mem_of_mem_take hy)).2.2
   have HHO:=ab hho
   clear hho
   obtain ⟨is_,his⟩:∃ b,x.2.2.2=b:=⟨_,rfl⟩
   cases is_
   ·rw [if_neg (by rw [his];simp)] at hst
    go_wp2_with (first | ((with_reducible refine ae 8 ?_);(refine aa rfl ((.slice (some ⟨b,off,none⟩) d.2.1.length cap)) wo (exec_load_cell 23 (.tmp 7) rfl ⟨w.heap.size,1,none⟩ rfl _ _ wo Tryz.underlying23 rfl (range_cell (dg (Blk.range (Mem.blk HM.out 1 rfl))))) ?_)) | ((with_reducible refine ae 14 ?_);(refine aa rfl ((.slice (some ⟨b,off,none⟩) d.2.1.length cap)) wo (exec_load_cell 23 (.tmp 13) rfl ⟨w.heap.size,1,none⟩ rfl _ _ wo Tryz.underlying23 rfl (range_cell (dg (Blk.range (Mem.blk HM.out 1 rfl))))) ?_)) | ((with_reducible refine ae 16 ?_);(refine aa rfl (.pointer (some ⟨b,off+j*43,none⟩)) wo (bQ 23 87 (.tmp 14) (.tmp 15) rfl b off d.2.1.length cap j rfl rfl hj2 43 Tryz.underlying23 bz wo) ?_)) | ((with_reducible refine ae 18 ?_);(refine aa rfl (.agg (iC x.2).toArray) wo (ai 85 (.tmp 17) rfl b (off+j*43+1) rfl (iC x.2) _ wo (eE (Mem.range HM.out HX.out.1 HX.out.2.1)) Tryz.underlying85 rfl (sV xo.2)) ?_)) | ((with_reducible refine ae 5 ?_);(refine aC rfl 85 zcI (by kernel_rfl) ?_);intro w2 hn;have H2:=ab (Mem.aM HM.out hn);clear hn;simp only [xae,xaa,xab,xac]) | ((with_reducible refine aV 5 18 ?_);(with_reducible refine ak rfl 85 (.tmp 5) (.tmp 18) rfl wo.heap.size zcI (iC x.2).toArray 85 (Mem.blk H2.out 0 rfl) ?_ ?_ ?_ ?_ ?_ ?_);(exact (rT xo.2));(exact bP ye (rT xo.2));(exact (FN x.2));rfl;rfl;intro w3 hk hg;have H3:=ab (Mem.st H2.out 0 rfl hk hg);clear hk hg;simp only [xae]) | ((with_reducible refine ae 20 ?_);(refine aa rfl (.bool false) w3 (by rw [← his];exact exec_load_cell 4 (.tmp 19) rfl ⟨wo.heap.size,41,none⟩ rfl _ _ w3 Tryz.underlying4 rfl (range_cell (kV xo.2 (Blk.range (Mem.blk H3.out 0 rfl))))) ?_)))
    go_roundw
    case rel=>exact ⟨j+1,A2,c2,by omega,by rw [hst],by go_num,by rw [hst];exact Mem.pick H3.out [1,2] (by decide) rfl⟩
    case measure=>simp [intOf];omega
   ·cases hq:decide (x.2.2.1∈aA (d.2.1.take j))
    ·have hq9:=of_decide_eq_false hq
     have HC:=ab hq
     clear hq
     rw [if_pos ⟨his,hq9⟩] at hst
     go_wp2_with (first | ((with_reducible refine ae 8 ?_);(refine aa rfl ((.slice (some ⟨b,off,none⟩) d.2.1.length cap)) wo (exec_load_cell 23 (.tmp 7) rfl ⟨w.heap.size,1,none⟩ rfl _ _ wo Tryz.underlying23 rfl (range_cell (dg (Blk.range (Mem.blk HM.out 1 rfl))))) ?_)) | ((with_reducible refine ae 14 ?_);(refine aa rfl ((.slice (some ⟨b,off,none⟩) d.2.1.length cap)) wo (exec_load_cell 23 (.tmp 13) rfl ⟨w.heap.size,1,none⟩ rfl _ _ wo Tryz.underlying23 rfl (range_cell (dg (Blk.range (Mem.blk HM.out 1 rfl))))) ?_)) | ((with_reducible refine ae 16 ?_);(refine aa rfl (.pointer (some ⟨b,off+j*43,none⟩)) wo (bQ 23 87 (.tmp 14) (.tmp 15) rfl b off d.2.1.length cap j rfl rfl hj2 43 Tryz.underlying23 bz wo) ?_)) | ((with_reducible refine ae 18 ?_);(refine aa rfl (.agg (iC x.2).toArray) wo (ai 85 (.tmp 17) rfl b (off+j*43+1) rfl (iC x.2) _ wo (eE (Mem.range HM.out HX.out.1 HX.out.2.1)) Tryz.underlying85 rfl (sV xo.2)) ?_)) | ((with_reducible refine ae 5 ?_);(refine aC rfl 85 zcI (by kernel_rfl) ?_);intro w4 hn;have H4:=ab (Mem.aM HM.out hn);clear hn;simp only [xae,xaa,xab,xac]) | ((with_reducible refine aV 5 18 ?_);(with_reducible refine ak rfl 85 (.tmp 5) (.tmp 18) rfl wo.heap.size zcI (iC x.2).toArray 85 (Mem.blk H4.out 0 rfl) ?_ ?_ ?_ ?_ ?_ ?_);(exact (rT xo.2));(exact bP ye (rT xo.2));(exact (FN x.2));rfl;rfl;intro w5 hk hg;have H5:=ab (Mem.st H4.out 0 rfl hk hg);clear hk hg;simp only [xae]) | ((with_reducible refine ae 20 ?_);(refine aa rfl (.bool true) w5 (by rw [← his];exact exec_load_cell 4 (.tmp 19) rfl ⟨wo.heap.size,41,none⟩ rfl _ _ w5 Tryz.underlying4 rfl (range_cell (kV xo.2 (Blk.range (Mem.blk H5.out 0 rfl))))) ?_)) | ((with_reducible refine ae 24 ?_);(refine ay (by kernel_rfl) (.agg (bv x.2.2.1).toArray) w5 (ai 34 (.tmp 23) rfl wo.heap.size (21) rfl (bv x.2.2.1) _ w5 (mX xo.2 (Blk.range (Mem.blk H5.out 0 rfl))) Tryz.underlying34 rfl (bN xo.2.2)) ?_)))
     refine (jv w5 (aA (d.2.1.take j)) _ (nr (Mem.own H5.out 1 rfl) HHO.out) x.2.2.1 xo.2.2 false HC.out).mono ?_
     rintro e w6 ⟨rfl,hb⟩
     dsimp only
     have H6:=ab (Mem.call H5.out hb)
     clear hb
     go_wp2_with (first | ((with_reducible refine ae 30 ?_);(refine aa rfl (.agg (bv x.2.2.1).toArray) w6 (ai 34 (.tmp 29) rfl wo.heap.size (21) rfl (bv x.2.2.1) _ w6 (mX xo.2 (Blk.range (Mem.blk H6.out 0 rfl))) Tryz.underlying34 rfl (bN xo.2.2)) ?_)) | ((with_reducible refine ae 31 ?_);(refine aO rfl 27 (.tmp 30) rfl 34 20 (.agg zcH) (.agg (bv x.2.2.1).toArray) rfl Tryz.underlying27 cr (by decide) (by decide) (fun w=>by kernel_rfl) (by rw [xaU,xal,bvL];exact xo.2.2) ?_);intro w7 hn;have H7:=ab (Mem.aM H6.out hn);clear hn;simp only [xae,xaa,xab,xac]) | (at_builtin;((with_reducible refine ae 32 ?_);refine aE rfl _ _ 27 rfl w.heap.size 34 _ _ 20 20 Tryz.underlying27 HJ.out.1 HJ.out.2.1 HJ.out.2.2.1 HJ.out.2.2.2 rfl (by decide) ((.slice A2 (aA (d.2.1.take j)).length c2)) ((aA (d.2.1.take j)).length) ((aA (d.2.1.take j)).flatMap bv) (Mem.own H7.out 2 rfl) ((some ⟨w6.heap.size,0,none⟩)) (1) (1) (bv x.2.2.1) (bU (n:=20) (m:=1) (Mem.blk H7.out 0 rfl) (by rw [bvL];exact xo.2.2) (bv1 _)) ?hm1 ?hb1 ?hz1 rfl rfl ?_)))
     case hm1=>simp only [maxLen];omega
     case hb1=>omega
     case hz1=>exact (Mem.below H7.out).size
     intro u9 w8 own9 gr9 hp9
     have own8:w8.ownsRow w.heap.size 34 20 u9 (aA (d.2.1.take j)++[x.2.2.1]).length ((aA (d.2.1.take j)++[x.2.2.1]).flatMap bv):=by simpa using own9
     obtain ⟨A9,c9,rfl⟩:=aI own8
     have H8:=ab (Mem.app H7.out 2 rfl own8 gr9 hp9)
     clear own9 own8 gr9 hp9
     go_wp2_with fail
     go_roundw
     case rel=>exact ⟨j+1,A9,c9,by omega,by rw [hst],by go_num,by rw [hst];exact Mem.pick H8.out [2,3] (by decide) rfl⟩
     case measure=>simp [intOf];omega
    ·have hq9:=of_decide_eq_true hq
     have HC:=ab hq
     clear hq
     rw [if_neg (by rintro ⟨_,h⟩;exact h hq9)] at hst
     go_wp2_with (first | ((with_reducible refine ae 8 ?_);(refine aa rfl ((.slice (some ⟨b,off,none⟩) d.2.1.length cap)) wo (exec_load_cell 23 (.tmp 7) rfl ⟨w.heap.size,1,none⟩ rfl _ _ wo Tryz.underlying23 rfl (range_cell (dg (Blk.range (Mem.blk HM.out 1 rfl))))) ?_)) | ((with_reducible refine ae 14 ?_);(refine aa rfl ((.slice (some ⟨b,off,none⟩) d.2.1.length cap)) wo (exec_load_cell 23 (.tmp 13) rfl ⟨w.heap.size,1,none⟩ rfl _ _ wo Tryz.underlying23 rfl (range_cell (dg (Blk.range (Mem.blk HM.out 1 rfl))))) ?_)) | ((with_reducible refine ae 16 ?_);(refine aa rfl (.pointer (some ⟨b,off+j*43,none⟩)) wo (bQ 23 87 (.tmp 14) (.tmp 15) rfl b off d.2.1.length cap j rfl rfl hj2 43 Tryz.underlying23 bz wo) ?_)) | ((with_reducible refine ae 18 ?_);(refine aa rfl (.agg (iC x.2).toArray) wo (ai 85 (.tmp 17) rfl b (off+j*43+1) rfl (iC x.2) _ wo (eE (Mem.range HM.out HX.out.1 HX.out.2.1)) Tryz.underlying85 rfl (sV xo.2)) ?_)) | ((with_reducible refine ae 5 ?_);(refine aC rfl 85 zcI (by kernel_rfl) ?_);intro w9 hn;have H9:=ab (Mem.aM HM.out hn);clear hn;simp only [xae,xaa,xab,xac]) | ((with_reducible refine aV 5 18 ?_);(with_reducible refine ak rfl 85 (.tmp 5) (.tmp 18) rfl wo.heap.size zcI (iC x.2).toArray 85 (Mem.blk H9.out 0 rfl) ?_ ?_ ?_ ?_ ?_ ?_);(exact (rT xo.2));(exact bP ye (rT xo.2));(exact (FN x.2));rfl;rfl;intro w10 hk hg;have H10:=ab (Mem.st H9.out 0 rfl hk hg);clear hk hg;simp only [xae]) | ((with_reducible refine ae 20 ?_);(refine aa rfl (.bool true) w10 (by rw [← his];exact exec_load_cell 4 (.tmp 19) rfl ⟨wo.heap.size,41,none⟩ rfl _ _ w10 Tryz.underlying4 rfl (range_cell (kV xo.2 (Blk.range (Mem.blk H10.out 0 rfl))))) ?_)) | ((with_reducible refine ae 24 ?_);(refine ay (by kernel_rfl) (.agg (bv x.2.2.1).toArray) w10 (ai 34 (.tmp 23) rfl wo.heap.size (21) rfl (bv x.2.2.1) _ w10 (mX xo.2 (Blk.range (Mem.blk H10.out 0 rfl))) Tryz.underlying34 rfl (bN xo.2.2)) ?_)))
     refine (jv w10 (aA (d.2.1.take j)) _ (nr (Mem.own H10.out 1 rfl) HHO.out) x.2.2.1 xo.2.2 true HC.out).mono ?_
     rintro e w11 ⟨rfl,hb⟩
     dsimp only
     have H11:=ab (Mem.call H10.out hb)
     clear hb
     go_wp2_with fail
     go_roundw
     case rel=>exact ⟨j+1,A2,c2,by omega,by rw [hst],by go_num,by rw [hst];exact Mem.pick H11.out [1,2] (by decide) rfl⟩
     case measure=>simp [intOf];omega
  ·obtain rfl:j=d.2.1.length:=by omega
   rw [xaG] at HM
   go_wp2_with (((with_reducible refine ae 8 ?_);(refine aa rfl ((.slice A d.2.1.length cap)) wo (exec_load_cell 23 (.tmp 7) rfl ⟨w.heap.size,1,none⟩ rfl _ _ wo Tryz.underlying23 rfl (range_cell (dg (Blk.range (Mem.blk HM.out 1 rfl))))) ?_)))
   go_wp2_with fail
   go_ret
   exact ⟨A2,c2,rfl,Mem.pick HM.out [0] (by decide) rfl⟩
end Go.Proofs.YtomnhnmciopiiaaGreat
end
section
namespace Go.Proofs.YtomnhnmciopiiaaGreat
open Go Go.RowKit Go.Maps
theorem pj {ρ:Operand→Value} {o:Oper} (t:TypeId) (x y z:Operand) (ho:o.op=.slice t x (some y) (some z) none) (k:Int) (hx:ρ x=.string fD) (hy:ρ y=.int .u8 k) (hz:ρ z=.int .u8 (k+1)) (h0:0≤k) (h1:k<16) (ht:Tryz.prog.underlying t=some .string) (w:World) :
  (execOp ρ o).run Tryz.prog w=.ok (.value (.string ⟨#[bJ k]⟩)) w:=by
 refine iq t x (some y) (some z) none ho _ (fun W=>?_) w
 rw [hx,Option.map_some,Option.map_some,hy,hz,run_sliceAt_string _ t _ _ _ _ ht]
 have h:=run_slice_string (P:=Tryz.prog) W t fD .u8 .u8 k (k+1) ht h0 (by omega) (by rw [show fD.size=16 from rfl];omega)
 refine h.trans ?_
 obtain ⟨n,rfl⟩:=Int.eq_ofNat_of_zero_le h0
 have h3:∀ k:Fin 16,fD.extract k.val (k.val+1)=⟨#[bJ (k.val:Int)]⟩:=by decide
 have h4:=h3 ⟨n,by omega⟩
 dsimp only at h4
 rw [show ((n:Int)+1).toNat=n+1 by omega,xbr,h4]
theorem BF {l:List Int} {j:Nat} {c:Int} (h:l[j]?=some c):(⟨(cQ (l.take (j+1))).toArray⟩:ByteArray)=(⟨(cQ (l.take j)).toArray⟩++⟨#[bJ (c / 16)]⟩)++⟨#[bJ (c % 16)]⟩:=by
 rw [xaB,h,cQ,List.flatMap_append]
 apply ByteArray.ext
 simp [cQ,xbz]
theorem Ds (x:Int) (h0:0≤x) (h1:x≤255):xbA .u8 x=x:=by
 simp [xbA,IntKind.signed,IntKind.bits]
 omega
theorem po {P:Program} {ρ:Operand→Value} {o:Oper} (x y:Operand) (t r:TypeId) (ho:o.op=.binOp .quo t x y r) (c:Int) (hx:ρ x=.int .u8 c) (hy:ρ y=.int .u8 16) (h0:0≤c) (h1:c≤255) (W:World):(execOp ρ o).run P W=.ok (.value (.int .u8 (c / 16))) W:=by
 unfold execOp
 simp [ho,hx,hy,go_sem,eqGuard,binOp]
 rw [Int.tdiv_eq_ediv_of_nonneg h0,Ds _ (by omega) (by omega)]
theorem pq {P:Program} {ρ:Operand→Value} {o:Oper} (x y:Operand) (t r:TypeId) (ho:o.op=.binOp .rem t x y r) (c:Int) (hx:ρ x=.int .u8 c) (hy:ρ y=.int .u8 16) (h0:0≤c) (h1:c≤255) (W:World):(execOp ρ o).run P W=.ok (.value (.int .u8 (c % 16))) W:=by
 unfold execOp
 simp [ho,hx,hy,go_sem,eqGuard,binOp]
 rw [xbt h0]
theorem rN {P:Program} {ρ:Operand→Value} {o:Oper} (x y:Operand) (t r:TypeId) (ho:o.op=.binOp .add t x y r) (c:Int) (hx:ρ x=.int .u8 c) (hy:ρ y=.int .u8 1) (h0:0≤c) (h1:c≤254) (W:World):(execOp ρ o).run P W=.ok (.value (.int .u8 (c+1))) W:=by
 unfold execOp
 simp [ho,hx,hy,go_sem,eqGuard,binOp]
 rw [Ds _ (by omega) (by omega)]
theorem vw (w:World) (l:List Int) (v:Value) (h:cA.At w w.heap.size [v] l) (hl:l.length≤1000000) :
  Calls Tryz.prog 90 #[v] w fun e w'=>e=.returned (.string ⟨(di l).toArray⟩)∧Below w.heap.size w w':=by
 obtain ⟨A,cap,rfl,_,_,_,hA⟩:=aj h
 have HA:=ab hA
 clear h hA
 have H0:=ab (Mem.start w)
 go_enter Tryz.func90,Tryz.ntmps90
 go_wp2_with fail
 go_loopw [4,5] (fun x4 x5 wr=>∃ j:Nat,j≤l.length∧x4=.string ⟨(cQ (l.take j)).toArray⟩∧x5=.int .i64 (j:Int)∧Mem w wr []) (fun _ x5 _=>l.length-(intOf x5).toNat)
 case atStart=>exact ⟨0,by omega,rfl,rfl,H0.out⟩
 case round =>
  obtain ⟨wo,rfl⟩:∃ wo,wo=wr:=⟨_,rfl⟩
  obtain ⟨j,hj,rfl,rfl,hm⟩:=hrel
  have HM:=ab hm
  clear hm
  have j0:(0:Int)≤(j:Int):=by omega
  by_cases hj2:j<l.length
  ·have j1:(j:Int)<(l.length:Int):=by omega
   obtain ⟨c,hc⟩:∃ c,l[j]?=some c:=⟨_,xai (by omega)⟩
   obtain ⟨b,off,rfl,hltb,hE⟩:=HA.out (by omega)
   obtain ⟨cs,hrc,hatc⟩:=hE j c hc
   clear hE
   obtain ⟨rfl,co⟩:=lZ.1 hatc
   have hc9:0≤c∧c≤255:=by simp [Lit.wf,IntKind.min,IntKind.max,IntKind.signed,IntKind.bits] at co;omega
   obtain ⟨c0,c1⟩:=hc9
   have HX:=ab (xad hrc (xad hltb hc))
   have hsl:(cQ (l.take j)).length≤2*l.length:=by rw [jN,xaN];omega
   clear hrc hltb hc hatc
   obtain ⟨S,hS⟩:∃ S:ByteArray,S=⟨(cQ (l.take j)).toArray⟩:=⟨_,rfl⟩
   have hSn:S.size≤2000000:=by rw [hS];show (cQ (l.take j)).toArray.size≤_;rw [xal];omega
   rw [← hS]
   have HSS:=ab hS
   clear hS hsl
   go_wp2_with fail
   refine Fre.cC (X:=Bel) [] (by kernel_rfl) (by kernel_rfl) (by simp) (by simp) (by simp) ?_
   refine Fre.ag (.string S) (by kernel_rfl) (by kernel_rfl) (by kernel_rfl) (fun _ _=>by kernel_rfl) ?_
   simp only [xae,xaa,xab,xac]
   refine Fre.ag (.string fD) (by kernel_rfl) (by kernel_rfl) (by kernel_rfl) (fun _ _=>by kernel_rfl) ?_
   simp only [xae,xaa,xab,xac]
   refine Fre.ag (.slice (some ⟨b,off,none⟩) l.length cap) (by kernel_rfl) (by kernel_rfl) (by kernel_rfl) (fun _ _=>by kernel_rfl) ?_
   simp only [xae,xaa,xab,xac]
   refine Fre.ag (.int .i64 (j:Int)) (by kernel_rfl) (by kernel_rfl) (by kernel_rfl) (fun _ _=>by kernel_rfl) ?_
   simp only [xae,xaa,xab,xac]
   refine Fre.ag (.pointer (some ⟨b,off+j*1,none⟩)) (by kernel_rfl) (by kernel_rfl) (by kernel_rfl) (fun W9 hW9=>(bQ 24 5 (.tmp 14) (.tmp 15) rfl b off l.length cap j rfl rfl hj2 1 Tryz.underlying24 (by kernel_rfl) W9)) ?_
   simp only [xae,xaa,xab,xac]
   refine Fre.ag (.int .u8 c) (by kernel_rfl) (by kernel_rfl) (by kernel_rfl) (fun W9 hW9=>(exec_load_cell 5 (.tmp 16) rfl ⟨b,off+j*1,none⟩ rfl _ _ W9 Tryz.underlying5 rfl (range_cell (Mem.range (Mem.call HM.out hW9) HX.out.1 HX.out.2.1)))) ?_
   simp only [xae,xaa,xab,xac]
   refine Fre.ag (.int .u8 (c / 16)) (by kernel_rfl) (by kernel_rfl) (by kernel_rfl) (fun W9 hW9=>po (.tmp 17) (.const (.int .u8 16)) 5 5 rfl c rfl rfl c0 c1 W9) ?_
   simp only [xae,xaa,xab,xac]
   refine Fre.ag (.slice (some ⟨b,off,none⟩) l.length cap) (by kernel_rfl) (by kernel_rfl) (by kernel_rfl) (fun _ _=>by kernel_rfl) ?_
   simp only [xae,xaa,xab,xac]
   refine Fre.ag (.int .i64 (j:Int)) (by kernel_rfl) (by kernel_rfl) (by kernel_rfl) (fun _ _=>by kernel_rfl) ?_
   simp only [xae,xaa,xab,xac]
   refine Fre.ag (.pointer (some ⟨b,off+j*1,none⟩)) (by kernel_rfl) (by kernel_rfl) (by kernel_rfl) (fun W9 hW9=>(bQ 24 5 (.tmp 19) (.tmp 20) rfl b off l.length cap j rfl rfl hj2 1 Tryz.underlying24 (by kernel_rfl) W9)) ?_
   simp only [xae,xaa,xab,xac]
   refine Fre.ag (.int .u8 c) (by kernel_rfl) (by kernel_rfl) (by kernel_rfl) (fun W9 hW9=>(exec_load_cell 5 (.tmp 21) rfl ⟨b,off+j*1,none⟩ rfl _ _ W9 Tryz.underlying5 rfl (range_cell (Mem.range (Mem.call HM.out hW9) HX.out.1 HX.out.2.1)))) ?_
   simp only [xae,xaa,xab,xac]
   refine Fre.ag (.int .u8 (c / 16)) (by kernel_rfl) (by kernel_rfl) (by kernel_rfl) (fun W9 hW9=>po (.tmp 22) (.const (.int .u8 16)) 5 5 rfl c rfl rfl c0 c1 W9) ?_
   simp only [xae,xaa,xab,xac]
   refine Fre.ag (.int .u8 (c / 16+1)) (by kernel_rfl) (by kernel_rfl) (by kernel_rfl) (fun W9 hW9=>rN (.tmp 23) (.const (.int .u8 1)) 5 5 rfl (c / 16) rfl rfl (by omega) (by omega) W9) ?_
   simp only [xae,xaa,xab,xac]
   refine Fre.ag (.string ⟨#[bJ (c / 16)]⟩) (by kernel_rfl) (by kernel_rfl) (by kernel_rfl) (fun W9 hW9=>pj 9 (.tmp 13) (.tmp 18) (.tmp 24) rfl (c / 16) rfl rfl rfl (by omega) (by omega) Tryz.underlying9 W9) ?_
   simp only [xae,xaa,xab,xac]
   refine Fre.ag (.string (S++⟨#[bJ (c / 16)]⟩)) (by kernel_rfl) (by kernel_rfl) (by kernel_rfl) (fun W9 hW9=>bG 9 (.tmp 12) (.tmp 25) 9 rfl (S) (⟨#[bJ (c / 16)]⟩) rfl rfl (by show S.size+1≤_;omega) W9) ?_
   simp only [xae,xaa,xab,xac]
   refine Fre.ag (.string fD) (by kernel_rfl) (by kernel_rfl) (by kernel_rfl) (fun _ _=>by kernel_rfl) ?_
   simp only [xae,xaa,xab,xac]
   refine Fre.ag (.slice (some ⟨b,off,none⟩) l.length cap) (by kernel_rfl) (by kernel_rfl) (by kernel_rfl) (fun _ _=>by kernel_rfl) ?_
   simp only [xae,xaa,xab,xac]
   refine Fre.ag (.int .i64 (j:Int)) (by kernel_rfl) (by kernel_rfl) (by kernel_rfl) (fun _ _=>by kernel_rfl) ?_
   simp only [xae,xaa,xab,xac]
   refine Fre.ag (.pointer (some ⟨b,off+j*1,none⟩)) (by kernel_rfl) (by kernel_rfl) (by kernel_rfl) (fun W9 hW9=>(bQ 24 5 (.tmp 28) (.tmp 29) rfl b off l.length cap j rfl rfl hj2 1 Tryz.underlying24 (by kernel_rfl) W9)) ?_
   simp only [xae,xaa,xab,xac]
   refine Fre.ag (.int .u8 c) (by kernel_rfl) (by kernel_rfl) (by kernel_rfl) (fun W9 hW9=>(exec_load_cell 5 (.tmp 30) rfl ⟨b,off+j*1,none⟩ rfl _ _ W9 Tryz.underlying5 rfl (range_cell (Mem.range (Mem.call HM.out hW9) HX.out.1 HX.out.2.1)))) ?_
   simp only [xae,xaa,xab,xac]
   refine Fre.ag (.int .u8 (c % 16)) (by kernel_rfl) (by kernel_rfl) (by kernel_rfl) (fun W9 hW9=>pq (.tmp 31) (.const (.int .u8 16)) 5 5 rfl c rfl rfl c0 c1 W9) ?_
   simp only [xae,xaa,xab,xac]
   refine Fre.ag (.slice (some ⟨b,off,none⟩) l.length cap) (by kernel_rfl) (by kernel_rfl) (by kernel_rfl) (fun _ _=>by kernel_rfl) ?_
   simp only [xae,xaa,xab,xac]
   refine Fre.ag (.int .i64 (j:Int)) (by kernel_rfl) (by kernel_rfl) (by kernel_rfl) (fun _ _=>by kernel_rfl) ?_
   simp only [xae,xaa,xab,xac]
   refine Fre.ag (.pointer (some ⟨b,off+j*1,none⟩)) (by kernel_rfl) (by kernel_rfl) (by kernel_rfl) (fun W9 hW9=>(bQ 24 5 (.tmp 33) (.tmp 34) rfl b off l.length cap j rfl rfl hj2 1 Tryz.underlying24 (by kernel_rfl) W9)) ?_
   simp only [xae,xaa,xab,xac]
   refine Fre.ag (.int .u8 c) (by kernel_rfl) (by kernel_rfl) (by kernel_rfl) (fun W9 hW9=>(exec_load_cell 5 (.tmp 35) rfl ⟨b,off+j*1,none⟩ rfl _ _ W9 Tryz.underlying5 rfl (range_cell (Mem.range (Mem.call HM.out hW9) HX.out.1 HX.out.2.1)))) ?_
   simp only [xae,xaa,xab,xac]
   refine Fre.ag (.int .u8 (c % 16)) (by kernel_rfl) (by kernel_rfl) (by kernel_rfl) (fun W9 hW9=>pq (.tmp 36) (.const (.int .u8 16)) 5 5 rfl c rfl rfl c0 c1 W9) ?_
   simp only [xae,xaa,xab,xac]
   refine Fre.ag (.int .u8 (c % 16+1)) (by kernel_rfl) (by kernel_rfl) (by kernel_rfl) (fun W9 hW9=>rN (.tmp 37) (.const (.int .u8 1)) 5 5 rfl (c % 16) rfl rfl (by omega) (by omega) W9) ?_
   simp only [xae,xaa,xab,xac]
   refine Fre.ag (.string ⟨#[bJ (c % 16)]⟩) (by kernel_rfl) (by kernel_rfl) (by kernel_rfl) (fun W9 hW9=>pj 9 (.tmp 27) (.tmp 32) (.tmp 38) rfl (c % 16) rfl rfl rfl (by omega) (by omega) Tryz.underlying9 W9) ?_
   simp only [xae,xaa,xab,xac]
   refine Fre.ag (.string ((S++⟨#[bJ (c / 16)]⟩)++⟨#[bJ (c % 16)]⟩)) (by kernel_rfl) (by kernel_rfl) (by kernel_rfl) (fun W9 hW9=>bG 9 (.tmp 26) (.tmp 39) 9 rfl ((S++⟨#[bJ (c / 16)]⟩)) (⟨#[bJ (c % 16)]⟩) rfl rfl (by rw [xaM];show S.size+1+1≤_;omega) W9) ?_
   simp only [xae,xaa,xab,xac]
   refine Fre.ag (.string ((S++⟨#[bJ (c / 16)]⟩)++⟨#[bJ (c % 16)]⟩)) (by kernel_rfl) (by kernel_rfl) (by kernel_rfl) (fun _ _=>by kernel_rfl) ?_
   simp only [xae,xaa,xab,xac]
   intro w1 hx
   dsimp only [Fre.ended,xaE]
   have H1:=ab (Mem.call HM.out hx)
   clear hx
   go_wp2_with fail
   go_roundw
   case rel=>exact ⟨j+1,by omega,by rw [BF HX.out.2.2,HSS.out],by go_num,H1.out⟩
   case measure=>simp [intOf];omega
  ·obtain rfl:j=l.length:=by omega
   by_cases hl0:l=[]
   ·subst hl0
    go_wp2_with fail
    go_ret
    exact ⟨rfl,Mem.below HM.out⟩
   ·obtain ⟨S,hS⟩:∃ S:ByteArray,S=⟨(cQ l).toArray⟩:=⟨_,rfl⟩
    rw [xaG,← hS]
    have hp:(⟨(di l).toArray⟩:ByteArray)=S:=by unfold di;rw [if_neg hl0,hS]
    have hne:¬ S=⟨#[]⟩:=fun h=>by
     have h1:(cQ l).length=0:=by rw [← xal,← show (⟨(cQ l).toArray⟩:ByteArray).size=(cQ l).toArray.size from rfl,← hS,h];rfl
     rw [jN] at h1
     exact hl0 (xaT (by omega))
    have HP:=ab hp
    clear hp hS
    go_wp2_with (((with_reducible refine ae 42 ?_);(refine aa rfl (.bool false) wo (j5 9 9 (.tmp 41) (.const (.string { data:=#[] })) rfl S { data:=#[] } rfl rfl false (decide_eq_false hne) wo) ?_)))
    go_ret
    exact ⟨by rw [HP.out];rfl,Mem.below HM.out⟩
end Go.Proofs.YtomnhnmciopiiaaGreat
end
section
namespace Go.Proofs.YtomnhnmciopiiaaGreat
open Go Go.RowKit Go.Maps
def sE (h:Hsh) (k:Nat):Nat:=(h.getD (k / 8) 0).toNat / 2 ^ (k % 8) % 2
def part (h:Hsh) (i:Nat):Nat→Nat
 | 0=>0
 | t+1=>2*part h i t+sE h (5*i+(4-t))
theorem ym (h:Hsh) (k:Nat):sE h k<2:=Nat.mod_lt _ (by decide)
theorem yH (h:Hsh) (i:Nat):∀ t,part h i t<2 ^ t
 | 0=>by simp [part]
 | t+1=>by
  have h1:=yH h i t
  have h2:=ym h (5*i+(4-t))
  rw [part,Nat.pow_succ]
  omega
def ee (h:Hsh) (j:Nat):List UInt8:=(xaf j).map fun i=>dk (part h i 5)
theorem rb (h:Hsh) (j:Nat):(⟨(ee h (j+1)).toArray⟩:ByteArray)=⟨(ee h j).toArray⟩++⟨#[dk (part h j 5)]⟩:=by
 rw [ee,List.range_succ,List.map_append]
 apply ByteArray.ext
 simp [ee,xbz]
theorem td (h:Hsh) (j:Nat):(ee h j).length=j:=by simp [ee]
theorem DL (h:Hsh) (k:Nat):(wrap64 (((h[k / 8]?.getD 0).toNat:Nat):Int) / 2 ^ (k % 8)).tmod 2=((sE h k:Nat):Int):=by
 have h1:=UInt8.toNat_lt (h[k / 8]?.getD 0)
 have h2:wrap64 (((h[k / 8]?.getD 0).toNat:Nat):Int)=(((h[k / 8]?.getD 0).toNat:Nat):Int):=by unfold wrap64;omega
 rw [h2]
 unfold sE
 rw [xaX]
 generalize (h[k / 8]?.getD 0).toNat=n
 have h3:((n:Int) / 2 ^ (k % 8))=((n / 2 ^ (k % 8):Nat):Int):=by rw [Int.natCast_ediv,Int.natCast_pow];rfl
 rw [h3,xbt (Int.natCast_nonneg _)]
 rfl
theorem CX (h:Hsh) (hh:okH h) (k:Nat) (hk:k<160) (w:World) :
  Calls Tryz.prog 131 #[.agg (bv h).toArray,.int .i64 (k:Int)] w fun e w'=>e=.returned (.int .i64 (sE h k:Int))∧Below w.heap.size w w':=by
 have k0:(0:Int)≤(k:Int):=by omega
 have k1:(k:Int)<160:=by omega
 have q1:k / 8<20:=by omega
 have q2:((k / 8:Nat):Int)<20:=by omega
 have hb:(bv h).toArray[k / 8]?=some (.int .u8 ((h.getD (k / 8) 0).toNat:Int)):=by
  have hl:k / 8<h.length:=by rw [show h.length=20 from hh];exact q1
  simp [bv,List.getD,xai hl]
 have HB:=ab hb
 clear hb
 have H0:=ab (Mem.start w)
 go_enter Tryz.func131,Tryz.ntmps131
 go_wp2_with (first | ((with_reducible refine ae 2 ?_);(refine aF rfl 34 (.tmp 0) rfl (bv h).toArray rfl ?_);intro w1 hn;have H1:=ab (Mem.aM H0.out hn);clear hn;simp only [xae,xaa,xab,xac]) | ((with_reducible refine ae 8 ?_);(refine aa rfl (.int .u8 ((h.getD (k / 8) 0).toNat:Int)) w1 (exec_load_cell 5 (.tmp 7) rfl ⟨w.heap.size,k / 8,none⟩ rfl _ _ w1 Tryz.underlying5 rfl ((Blk.cell (Mem.blk H1.out 0 rfl) (k / 8)).trans HB.out)) ?_)))
 go_ret
 exact ⟨congrArg (fun x=>Ending.returned (Value.int .i64 x)) (DL h k),Mem.below H1.out⟩
theorem Gl (h:Hsh) (hh:okH h) (z:Int) (k:Nat) (hk:k<160) (hz:z=(k:Int)) (w:World) :
  Calls Tryz.prog 131 #[.agg (bv h).toArray,.int .i64 z] w fun e w'=>e=.returned (.int .i64 (sE h k:Int))∧Below w.heap.size w w':=hz▸CX h hh k hk w
def oZ:ByteArray:=⟨#[48,49,50,51,52,53,54,55,56,57,97,98,99,100,102,103,104,105,106,107,108,109,110,112,113,114,115,118,119,120,121,122]⟩
theorem uu {ρ:Operand→Value} {o:Oper} (t:TypeId) (x y z:Operand) (ho:o.op=.slice t x (some y) (some z) none) (n:Nat) (hx:ρ x=.string oZ) (hy:ρ y=.int .i64 (n:Int)) (hz:ρ z=.int .i64 ((n:Int)+1)) (h1:n<32) (ht:Tryz.prog.underlying t=some .string) (w:World) :
  (execOp ρ o).run Tryz.prog w=.ok (.value (.string ⟨#[dk n]⟩)) w:=by
 refine iq t x (some y) (some z) none ho _ (fun W=>?_) w
 rw [hx,Option.map_some,Option.map_some,hy,hz,run_sliceAt_string _ t _ _ _ _ ht]
 have h:=run_slice_string (P:=Tryz.prog) W t oZ .i64 .i64 (n:Int) ((n:Int)+1) ht (by omega) (by omega) (by rw [show oZ.size=32 from rfl];omega)
 refine h.trans ?_
 have h3:∀ k:Fin 32,oZ.extract k.val (k.val+1)=⟨#[dk k.val]⟩:=by decide
 have h4:=h3 ⟨n,h1⟩
 dsimp only at h4
 rw [show ((n:Int)+1).toNat=n+1 by omega,xbr,h4]
theorem tB (h:Hsh) (hh:okH h) (w:World) :
  Calls Tryz.prog 88 #[.agg (bv h).toArray] w fun e w'=>e=.returned (.string ⟨(ee h 32).toArray⟩)∧Below w.heap.size w w':=by
 have H0:=ab (Mem.start w)
 go_enter Tryz.func88,Tryz.ntmps88
 go_wp2_with (((with_reducible refine ae 1 ?_);(refine aF rfl 34 (.tmp 0) rfl (bv h).toArray rfl ?_);intro w1 hn;have H1:=ab (Mem.aM H0.out hn);clear hn;simp only [xae,xaa,xab,xac]))
 go_loopw [3,4] (fun x3 x4 wr=>∃ j:Nat,j≤32∧x3=.string ⟨(ee h j).toArray⟩∧x4=.int .i64 (j:Int)∧Mem w wr [bh w.heap.size 34 (bv h).toArray]) (fun _ x4 _=>32-(intOf x4).toNat)
 case atStart=>exact ⟨0,by omega,rfl,rfl,H1.out⟩
 case round =>
  obtain ⟨wo,rfl⟩:∃ wo,wo=wr:=⟨_,rfl⟩
  obtain ⟨j,hj,rfl,rfl,hm⟩:=hrel
  have HM:=ab hm
  clear hm
  have j0:(0:Int)≤(j:Int):=by omega
  by_cases hj2:j<32
  ·have j1:(j:Int)<32:=by omega
   have hsl:(ee h j).length=j:=td h j
   obtain ⟨S,hS⟩:∃ S:ByteArray,S=⟨(ee h j).toArray⟩:=⟨_,rfl⟩
   have hSn:S.size≤32:=by rw [hS];show (ee h j).toArray.size≤_;rw [xal];omega
   rw [← hS]
   have HSS:=ab hS
   clear hS hsl
   go_wp2_with fail
   go_loopw [5,6] (fun x5 x6 wr=>∃ t:Nat,t≤5∧x5=.int .i64 (part h j t:Int)∧x6=.int .i64 (4-(t:Int))∧Mem w wr [bh w.heap.size 34 (bv h).toArray]) (fun _ x6 _=>(intOf x6+1).toNat)
   case atStart=>exact ⟨0,by omega,rfl,rfl,HM.out⟩
   case round =>
    obtain ⟨wi,rfl⟩:∃ wi,wi=wr:=⟨_,rfl⟩
    obtain ⟨t,ht,rfl,rfl,hm⟩:=hrel
    have HI:=ab hm
    clear hm
    have hpl:=yH h j t
    by_cases ht2:t<5
    ·have t1:(0:Int)≤4-(t:Int):=by omega
     have t2:4-(t:Int)≤4:=by omega
     have hp9:part h j t<32:=by have:2 ^ t≤2 ^ 4:=Nat.pow_le_pow_right (by decide) (by omega);omega
     have hbl:=ym h (5*j+(4-t))
     have hpt:part h j (t+1)=2*part h j t+sE h (5*j+(4-t)):=rfl
     obtain ⟨n,hn⟩:∃ n,n=part h j t:=⟨_,rfl⟩
     rw [← hn] at hp9 hpt
     rw [← hn]
     have HN:=ab hn
     clear hn hpl
     go_wp2_with (((with_reducible refine ae 17 ?_);(refine aa rfl (.agg (bv h).toArray) wi (ai 34 (.tmp 1) rfl w.heap.size (0) rfl (bv h) _ wi (Blk.range (Mem.blk HI.out 0 rfl)) Tryz.underlying34 rfl (bN hh)) ?_)))
     refine (Gl h hh _ (5*j+(4-t)) (by omega) (by omega) wi).mono ?_
     rintro e w2 ⟨rfl,hb⟩
     dsimp only
     have H2:=ab (Mem.call HI.out hb)
     clear hb
     go_wp2_with fail
     go_roundw
     case rel=>exact ⟨t+1,by omega,by rw [hpt];go_num,by go_num,H2.out⟩
     case measure=>simp [intOf];omega
    ·obtain rfl:t=5:=by omega
     have hp9:part h j 5<32:=hpl
     obtain ⟨n,hn⟩:∃ n,n=part h j 5:=⟨_,rfl⟩
     rw [← hn] at hp9
     rw [← hn]
     have HN:=ab hn
     clear hn hpl
     go_wp2_with (first | ((with_reducible refine ae 28 ?_);(refine aa rfl (.string ⟨#[dk n]⟩) wi (uu 9 (.const (.string oZ)) (.tmp 25) (.tmp 27) rfl n rfl rfl rfl hp9 Tryz.underlying9 wi) ?_)) | ((with_reducible refine ae 29 ?_);(refine aa rfl (.string (S++⟨#[dk n]⟩)) wi (bG 9 (.tmp 24) (.tmp 28) 9 rfl S ⟨#[dk n]⟩ rfl rfl (by show S.size+1≤_;omega) wi) ?_)))
     go_roundw
     case rel=>exact ⟨j+1,by omega,by rw [rb,HSS.out,HN.out],by go_num,HI.out⟩
     case measure=>simp [intOf];omega
  ·obtain rfl:j=32:=by omega
   go_wp2_with fail
   go_ret
   exact ⟨rfl,Mem.below HM.out⟩
end Go.Proofs.YtomnhnmciopiiaaGreat
end
section
namespace Go.Proofs.YtomnhnmciopiiaaGreat
open Go Go.RowKit
def leN:List UInt8→Nat
 | []=>0
 | b :: l=>b.toNat+256*leN l
theorem yF (N a b c:Nat) (h:b+c≤a):N % 2 ^ a / 2 ^ b % 2 ^ c=N / 2 ^ b % 2 ^ c:=by
 have e:a=b+(a-b):=by omega
 rw [e,xb6,Nat.mod_mul_right_div_self]
 exact Nat.mod_mod_of_dvd _ (Nat.pow_dvd_pow 2 (by omega))
def Em (N:Nat) (i:Nat):UInt8:=dk (N / 2 ^ (5*i) % 2 ^ 5)
structure DrI (N T:Nat) (s:Nat×Nat×List UInt8):Prop where
 len:5*s.2.2.length+s.2.1=8*T
 val:s.1=N % 2 ^ (8*T) / 2 ^ (5*s.2.2.length)
 out:s.2.2=(xaf s.2.2.length).map (Em N)
theorem rI {N T:Nat}:∀ (f v m:Nat) (o:List UInt8),DrI N T (v,m,o)→m<5*f+5→DrI N T (drain f v m o)∧(drain f v m o).2.1<5
 | 0,v,m,o,h,hm=>⟨h,by show m<5;omega⟩
 | f+1,v,m,o,h,hm=>by
  rw [drain]
  split
  ·rename_i h5
   obtain ⟨h1,h2,h3⟩:=h
   dsimp only at h1 h2 h3
   refine rI f _ _ _ ⟨?_,?_,?_⟩ (by omega)
   ·dsimp only
    rw [xak,xbq]
    omega
   ·dsimp only
    rw [xak,xbq,h2,Nat.mul_add,xb6,← xbX]
   ·dsimp only
    rw [xak,xbq,List.range_succ,List.map_append,← h3]
    congr 1
    rw [List.map_singleton,Em,h2]
    congr 2
    have:=yF N (8*T) (5*o.length) 5 (by omega)
    rw [← this]
  ·exact ⟨h,by dsimp only;omega⟩
theorem Di {N T:Nat} {b:UInt8} {s:Nat×Nat×List UInt8} (h:DrI N T s) (hm:s.2.1<5) (hb:N / 2 ^ (8*T) % 256=b.toNat):DrI N (T+1) (iv s b)∧(iv s b).2.1<5:=by
 obtain ⟨v,m,o⟩:=s
 obtain ⟨h1,h2,h3⟩:=h
 dsimp only at h1 h2 h3 hm
 refine rI 2 _ _ _ ⟨?_,?_,h3⟩ (by dsimp only;omega)
 ·dsimp only
  omega
 ·dsimp only
  have e:2 ^ (8*(T+1))=2 ^ (8*T)*256:=by rw [Nat.mul_add,xb6]
  have e2:2 ^ (8*T)=2 ^ (5*o.length)*2 ^ m:=by rw [← xb6,h1]
  rw [e,Nat.mod_mul,hb,h2]
  conv=>rhs;rw [show 2 ^ (8*T)*b.toNat=2 ^ (5*o.length)*(2 ^ m*b.toNat) by rw [e2,Nat.mul_assoc]]
  rw [Nat.add_mul_div_left _ _ (Nat.two_pow_pos _),Nat.mul_comm (2 ^ m)]
theorem uA {N:Nat}:∀ (l:List UInt8) (T:Nat) (s:Nat×Nat×List UInt8),DrI N T s→s.2.1<5→N / 2 ^ (8*T)=leN l→DrI N (T+l.length) (l.foldl iv s)∧(l.foldl iv s).2.1<5
 | [],T,s,h,hm,_=>⟨h,hm⟩
 | b :: l,T,s,h,hm,hN=>by
  have hb9:=UInt8.toNat_lt b
  have hb:N / 2 ^ (8*T) % 256=b.toNat:=by rw [hN,leN];omega
  obtain ⟨h1,h2⟩:=Di h hm hb
  have hN2:N / 2 ^ (8*(T+1))=leN l:=by
   rw [Nat.mul_add,xb6,← xbX,hN,leN]
   omega
  have h3:=uA l (T+1) (iv s b) h1 h2 hN2
  rw [xaF,List.foldl_cons,show T+(l.length+1)=T+1+l.length by omega]
  exact h3
theorem uP {h:Hsh} (hh:okH h):aU h=(xaf 32).map (Em (leN h)):=by
 have h0:DrI (leN h) 0 (0,0,[]):=⟨rfl,by simp [Nat.mod_one],rfl⟩
 obtain ⟨h1,h2⟩:=uA (N:=leN h) h 0 (0,0,[]) h0 (by decide) (by simp)
 have hl:h.length=20:=hh
 have h3:=h1.len
 rw [hl] at h3
 have h4:(h.foldl iv (0,0,[])).2.2.length=32:=by omega
 have h5:=h1.out
 rw [h4] at h5
 exact h5
theorem yD:∀ (h:List UInt8) (q:Nat),leN h / 256 ^ q % 256=(h.getD q 0).toNat
 | [],q=>by simp [leN]
 | b :: l,0=>by simp [leN]
 | b :: l,q+1=>by
  have hb:=UInt8.toNat_lt b
  have ih:=yD l q
  rw [Nat.pow_succ,Nat.mul_comm,← xbX,leN,show (b.toNat+256*leN l) / 256=leN l by omega,ih]
  simp
theorem DK (h:Hsh) (k:Nat):sE h k=leN h / 2 ^ k % 2:=by
 unfold sE
 rw [← yD h (k / 8)]
 have e:2 ^ k=256 ^ (k / 8)*2 ^ (k % 8):=by
  rw [show (256:Nat)=2 ^ 8 from rfl,← Nat.pow_mul,← xb6]
  congr 1
  omega
 rw [e,← xbX]
 have:=yF (leN h / 256 ^ (k / 8)) 8 (k % 8) 1 (by omega)
 simpa using this
theorem CU (h:Hsh) (i:Nat):part h i 5=leN h / 2 ^ (5*i) % 2 ^ 5:=by
 simp only [part,DK]
 have e:∀ r,leN h / 2 ^ (5*i+r)=leN h / 2 ^ (5*i) / 2 ^ r:=fun r=>by rw [xb6,xbX]
 simp only [e]
 generalize leN h / 2 ^ (5*i)=X
 omega
theorem uQ {h:Hsh} (hh:okH h):ee h 32=aU h:=by
 rw [uP hh,ee]
 refine List.map_congr_left fun i _=>?_
 rw [CU,Em]
theorem tA (h:Hsh) (hh:okH h) (w:World) :
  Calls Tryz.prog 88 #[.agg (bv h).toArray] w fun e w'=>e=.returned (.string ⟨(aU h).toArray⟩)∧Below w.heap.size w w':=by
 rw [← uQ hh]
 exact tB h hh w
end Go.Proofs.YtomnhnmciopiiaaGreat
end
section
namespace Go.Proofs.YtomnhnmciopiiaaGreat
open Go Go.RowKit Go.Maps
theorem bV (c lo hi:Int) (b:Bool) (hb:(decide (lo≤c)&&decide (c≤hi))=b) (w:World):Calls Tryz.prog 173 #[.int .u8 c,.int .u8 lo,.int .u8 hi] w fun e w'=>e=.returned (.bool b)∧w'=w:=by
 subst hb
 by_cases h1:lo≤c
 ·by_cases h2:c≤hi
  ·rw [decide_eq_true h1,decide_eq_true h2]
   go_enter Tryz.func173,Tryz.ntmps173
   go_wp2_with fail
   go_ret
   exact ⟨rfl,rfl⟩
  ·rw [decide_eq_true h1,decide_eq_false h2]
   go_enter Tryz.func173,Tryz.ntmps173
   go_wp2_with fail
   go_ret
   exact ⟨rfl,rfl⟩
 ·rw [decide_eq_false h1]
  go_enter Tryz.func173,Tryz.ntmps173
  go_wp2_with fail
  go_ret
  exact ⟨rfl,rfl⟩
def sgN (n:Nat):Bool:=(decide (97≤n)&&decide (n≤122))||((decide (65≤n)&&decide (n≤90))||((decide (48≤n)&&decide (n≤57))||(decide (n=46)||(decide (n=95)||(decide (n=43)||decide (n=45))))))
theorem Gp {n:Nat} (h:((97:Int)≤(n:Int)∧(n:Int)≤122)∨((65:Int)≤(n:Int)∧(n:Int)≤90)∨((48:Int)≤(n:Int)∧(n:Int)≤57)):sgN n=true:=by
 unfold sgN
 rcases h with h | h | h
 ·rw [decide_eq_true (show 97≤n by omega),decide_eq_true (show n≤122 by omega)];rfl
 ·rw [decide_eq_true (show 65≤n by omega),decide_eq_true (show n≤90 by omega)];simp
 ·rw [decide_eq_true (show 48≤n by omega),decide_eq_true (show n≤57 by omega)];simp
theorem ES {n:Nat} (h:(n:Int)=46∨(n:Int)=95∨(n:Int)=43∨(n:Int)=45):sgN n=true:=by
 rcases h with h | h | h | h
 ·rw [show n=46 by omega];rfl
 ·rw [show n=95 by omega];rfl
 ·rw [show n=43 by omega];rfl
 ·rw [show n=45 by omega];rfl
theorem vX {a b n:Nat} (h:¬ ((a:Int)≤(n:Int)∧(n:Int)≤(b:Int))):(decide (a≤n)&&decide (n≤b))=false:=by
 rw [Bool.and_eq_false_iff,decide_eq_false_iff_not,decide_eq_false_iff_not]
 omega
theorem GR {n:Nat} (h0:¬ ((97:Int)≤(n:Int)∧(n:Int)≤122)) (h1:¬ ((65:Int)≤(n:Int)∧(n:Int)≤90)) (h2:¬ ((48:Int)≤(n:Int)∧(n:Int)≤57)) (h3:¬ (n:Int)=46) (h4:¬ (n:Int)=95) (h5:¬ (n:Int)=43) (h6:¬ (n:Int)=45):sgN n=false:=by
 unfold sgN
 rw [vX h0,vX h1,vX h2,decide_eq_false (show ¬ n=46 by omega),decide_eq_false (show ¬ n=95 by omega),decide_eq_false (show ¬ n=43 by omega),decide_eq_false (show ¬ n=45 by omega)]
 rfl
theorem GS:∀ c:Fin 256,jx (c.val:Int)=sgN c.val:=by decide +kernel
def G8 (s:ByteArray) (p:Nat):Prop:=∀ k,p≤k→(h:k<s.size)→sgN (s[k].toNat)=true
theorem kj (s:ByteArray):∀ f pos,s.size≤pos+f→(fh s f pos=true↔G8 s pos)
 | 0,pos,h=>⟨fun _ k hk hks=>by omega,fun _=>rfl⟩
 | f+1,pos,h=>by
  by_cases hp:pos<s.size
  ·rw [fh,if_pos hp,xaw]
   by_cases ha:(s[pos]'hp).toNat<128
   ·rw [decode_ascii s pos hp ha,kj s f (pos+1) (by omega)]
    have e:jx ((s[pos]'hp).toNat:Int)=sgN (s[pos]'hp).toNat:=GS ⟨(s[pos]'hp).toNat,by omega⟩
    rw [e]
    refine ⟨fun ⟨h1,h2⟩ k hk hks=>?_,fun h1=>⟨h1 pos (xag _) hp,fun k hk hks=>h1 k (by omega) hks⟩⟩
    by_cases he:k=pos
    ·subst he;exact h1
    ·exact h2 k (by omega) hks
   ·have hd:=(decode_high s pos hp (by omega)).1
    have e1:jx ((xbL s pos).1:Int)=false:=by unfold jx;rw [decide_eq_false (by omega)];rfl
    rw [e1]
    refine ⟨fun ⟨h1,_⟩=>(by cases h1),fun h1=>?_⟩
    have h2:=h1 pos (xag _) hp
    unfold sgN at h2
    simp at h2
    omega
  ·refine ⟨fun _ k hk hks=>by omega,fun _=>nR s _ pos hp⟩
theorem gh {s:ByteArray} {j:Nat} (hj:j<s.size) (h:∀ k,k<j→(h:k<s.size)→sgN (s[k].toNat)=true) (hs:sgN (s[j].toNat)=true):∀ k,k<j+1→(h:k<s.size)→sgN (s[k].toNat)=true:=fun k hk hks=>by
 by_cases he:k=j
 ·subst he;exact hs
 ·exact h k (by omega) hks
theorem Et {s:ByteArray} {j:Nat} (hj:j<s.size) (hs:sgN (s[j].toNat)=false):cy s=false:=by
 have h1:¬ fh s s.size 0=true:=fun h=>by
  have:=(kj s s.size 0 (by omega)).1 h j (by omega) hj
  rw [hs] at this
  cases this
 unfold cy
 rw [(Bool.not_eq_true _).mp h1]
 rfl
theorem zT {s:ByteArray} (h:∀ k,k<s.size→(h:k<s.size)→sgN (s[k].toNat)=true):cy s=gJ s:=by
 unfold cy
 rw [(kj s s.size 0 (by omega)).2 fun k _ hks=>h k hks hks]
 rfl
theorem AB (s:ByteArray) (hs:s.size≤maxLen) (w:World):Calls Tryz.prog 130 #[.string s] w fun e w'=>e=.returned (.bool (cy s))∧w'=w:=by
 have hs9:s.size≤9223372036854775807:=by simp only [maxLen] at hs;omega
 go_enter Tryz.func130,Tryz.ntmps130
 go_wp2_with fail
 go_loopw [3] (fun x3 wr=>∃ j:Nat,j≤s.size∧x3=.int .i64 (j:Int)∧(∀ k,k<j→(h:k<s.size)→sgN (s[k].toNat)=true)∧wr=w) (fun x3 _=>s.size-(intOf x3).toNat)
 case atStart=>exact ⟨0,by omega,rfl,(fun k hk=>by omega),rfl⟩
 case round =>
  obtain ⟨j,hj,rfl,hall,rfl⟩:=hrel
  have HALL:=ab hall
  clear hall
  have j0:(0:Int)≤(j:Int):=by omega
  by_cases hj2:j<s.size
  ·have j1:(j:Int)<(s.size:Int):=by omega
   go_wp2_with fail
   by_cases hc0:(97:Int)≤(s[j].toNat:Int)∧(s[j].toNat:Int)≤122
   ·have hc0:(97:Int)≤(s[j].toNat:Int)∧(s[j].toNat:Int)≤122:=hc0
    refine (bV (s[j].toNat:Int) 97 122 true (by rw [decide_eq_true (show (97:Int)≤(s[j].toNat:Int) by omega),decide_eq_true (show (s[j].toNat:Int)≤122 by omega)];rfl) wr).mono ?_
    rintro e wz ⟨rfl,hwz⟩
    rw [hwz]
    clear hwz
    dsimp only
    go_wp2_with fail
    go_roundw
    case rel=>exact ⟨j+1,by omega,by go_num,gh hj2 HALL.out (Gp (.inl hc0)),(by trivial)⟩
    case measure=>simp [intOf];omega
   ·by_cases hc1:(65:Int)≤(s[j].toNat:Int)∧(s[j].toNat:Int)≤90
    ·have hc1:(65:Int)≤(s[j].toNat:Int)∧(s[j].toNat:Int)≤90:=hc1
     refine (bV (s[j].toNat:Int) 97 122 false (by by_cases hx:(97:Int)≤(s[j].toNat:Int);(rw [decide_eq_true hx,decide_eq_false (show ¬ (s[j].toNat:Int)≤122 by omega)];rfl);(rw [decide_eq_false hx];rfl)) wr).mono ?_
     rintro e wz ⟨rfl,hwz⟩
     rw [hwz]
     clear hwz
     dsimp only
     go_wp2_with fail
     refine (bV (s[j].toNat:Int) 65 90 true (by rw [decide_eq_true (show (65:Int)≤(s[j].toNat:Int) by omega),decide_eq_true (show (s[j].toNat:Int)≤90 by omega)];rfl) wr).mono ?_
     rintro e wz ⟨rfl,hwz⟩
     rw [hwz]
     clear hwz
     dsimp only
     go_wp2_with fail
     go_roundw
     case rel=>exact ⟨j+1,by omega,by go_num,gh hj2 HALL.out (Gp (.inr (.inl hc1))),(by trivial)⟩
     case measure=>simp [intOf];omega
    ·by_cases hc2:(48:Int)≤(s[j].toNat:Int)∧(s[j].toNat:Int)≤57
     ·have hc2:(48:Int)≤(s[j].toNat:Int)∧(s[j].toNat:Int)≤57:=hc2
      refine (bV (s[j].toNat:Int) 97 122 false (by by_cases hx:(97:Int)≤(s[j].toNat:Int);(rw [decide_eq_true hx,decide_eq_false (show ¬ (s[j].toNat:Int)≤122 by omega)];rfl);(rw [decide_eq_false hx];rfl)) wr).mono ?_
      rintro e wz ⟨rfl,hwz⟩
      rw [hwz]
      clear hwz
      dsimp only
      go_wp2_with fail
      refine (bV (s[j].toNat:Int) 65 90 false (by by_cases hx:(65:Int)≤(s[j].toNat:Int);(rw [decide_eq_true hx,decide_eq_false (show ¬ (s[j].toNat:Int)≤90 by omega)];rfl);(rw [decide_eq_false hx];rfl)) wr).mono ?_
      rintro e wz ⟨rfl,hwz⟩
      rw [hwz]
      clear hwz
      dsimp only
      go_wp2_with fail
      refine (bV (s[j].toNat:Int) 48 57 true (by rw [decide_eq_true (show (48:Int)≤(s[j].toNat:Int) by omega),decide_eq_true (show (s[j].toNat:Int)≤57 by omega)];rfl) wr).mono ?_
      rintro e wz ⟨rfl,hwz⟩
      rw [hwz]
      clear hwz
      dsimp only
      go_wp2_with fail
      go_roundw
      case rel=>exact ⟨j+1,by omega,by go_num,gh hj2 HALL.out (Gp (.inr (.inr hc2))),(by trivial)⟩
      case measure=>simp [intOf];omega
     ·by_cases hs3:(s[j].toNat:Int)=46
      ·have HS:=ab hs3
       clear hs3
       refine (bV (s[j].toNat:Int) 97 122 false (by by_cases hx:(97:Int)≤(s[j].toNat:Int);(rw [decide_eq_true hx,decide_eq_false (show ¬ (s[j].toNat:Int)≤122 by omega)];rfl);(rw [decide_eq_false hx];rfl)) wr).mono ?_
       rintro e wz ⟨rfl,hwz⟩
       rw [hwz]
       clear hwz
       dsimp only
       go_wp2_with fail
       refine (bV (s[j].toNat:Int) 65 90 false (by by_cases hx:(65:Int)≤(s[j].toNat:Int);(rw [decide_eq_true hx,decide_eq_false (show ¬ (s[j].toNat:Int)≤90 by omega)];rfl);(rw [decide_eq_false hx];rfl)) wr).mono ?_
       rintro e wz ⟨rfl,hwz⟩
       rw [hwz]
       clear hwz
       dsimp only
       go_wp2_with fail
       refine (bV (s[j].toNat:Int) 48 57 false (by by_cases hx:(48:Int)≤(s[j].toNat:Int);(rw [decide_eq_true hx,decide_eq_false (show ¬ (s[j].toNat:Int)≤57 by omega)];rfl);(rw [decide_eq_false hx];rfl)) wr).mono ?_
       rintro e wz ⟨rfl,hwz⟩
       rw [hwz]
       clear hwz
       dsimp only
       have hs3:=HS.out
       go_wp2_with fail
       go_roundw
       case rel=>exact ⟨j+1,by omega,by go_num,gh hj2 HALL.out (ES (.inl hs3)),(by trivial)⟩
       case measure=>simp [intOf];omega
      ·by_cases hs4:(s[j].toNat:Int)=95
       ·have HS:=ab hs4
        clear hs4
        refine (bV (s[j].toNat:Int) 97 122 false (by by_cases hx:(97:Int)≤(s[j].toNat:Int);(rw [decide_eq_true hx,decide_eq_false (show ¬ (s[j].toNat:Int)≤122 by omega)];rfl);(rw [decide_eq_false hx];rfl)) wr).mono ?_
        rintro e wz ⟨rfl,hwz⟩
        rw [hwz]
        clear hwz
        dsimp only
        go_wp2_with fail
        refine (bV (s[j].toNat:Int) 65 90 false (by by_cases hx:(65:Int)≤(s[j].toNat:Int);(rw [decide_eq_true hx,decide_eq_false (show ¬ (s[j].toNat:Int)≤90 by omega)];rfl);(rw [decide_eq_false hx];rfl)) wr).mono ?_
        rintro e wz ⟨rfl,hwz⟩
        rw [hwz]
        clear hwz
        dsimp only
        go_wp2_with fail
        refine (bV (s[j].toNat:Int) 48 57 false (by by_cases hx:(48:Int)≤(s[j].toNat:Int);(rw [decide_eq_true hx,decide_eq_false (show ¬ (s[j].toNat:Int)≤57 by omega)];rfl);(rw [decide_eq_false hx];rfl)) wr).mono ?_
        rintro e wz ⟨rfl,hwz⟩
        rw [hwz]
        clear hwz
        dsimp only
        have hs4:=HS.out
        go_wp2_with fail
        go_roundw
        case rel=>exact ⟨j+1,by omega,by go_num,gh hj2 HALL.out (ES (.inr (.inl hs4))),(by trivial)⟩
        case measure=>simp [intOf];omega
       ·by_cases hs5:(s[j].toNat:Int)=43
        ·have HS:=ab hs5
         clear hs5
         refine (bV (s[j].toNat:Int) 97 122 false (by by_cases hx:(97:Int)≤(s[j].toNat:Int);(rw [decide_eq_true hx,decide_eq_false (show ¬ (s[j].toNat:Int)≤122 by omega)];rfl);(rw [decide_eq_false hx];rfl)) wr).mono ?_
         rintro e wz ⟨rfl,hwz⟩
         rw [hwz]
         clear hwz
         dsimp only
         go_wp2_with fail
         refine (bV (s[j].toNat:Int) 65 90 false (by by_cases hx:(65:Int)≤(s[j].toNat:Int);(rw [decide_eq_true hx,decide_eq_false (show ¬ (s[j].toNat:Int)≤90 by omega)];rfl);(rw [decide_eq_false hx];rfl)) wr).mono ?_
         rintro e wz ⟨rfl,hwz⟩
         rw [hwz]
         clear hwz
         dsimp only
         go_wp2_with fail
         refine (bV (s[j].toNat:Int) 48 57 false (by by_cases hx:(48:Int)≤(s[j].toNat:Int);(rw [decide_eq_true hx,decide_eq_false (show ¬ (s[j].toNat:Int)≤57 by omega)];rfl);(rw [decide_eq_false hx];rfl)) wr).mono ?_
         rintro e wz ⟨rfl,hwz⟩
         rw [hwz]
         clear hwz
         dsimp only
         have hs5:=HS.out
         go_wp2_with fail
         go_roundw
         case rel=>exact ⟨j+1,by omega,by go_num,gh hj2 HALL.out (ES (.inr (.inr (.inl hs5)))),(by trivial)⟩
         case measure=>simp [intOf];omega
        ·by_cases hs6:(s[j].toNat:Int)=45
         ·have HS:=ab hs6
          clear hs6
          refine (bV (s[j].toNat:Int) 97 122 false (by by_cases hx:(97:Int)≤(s[j].toNat:Int);(rw [decide_eq_true hx,decide_eq_false (show ¬ (s[j].toNat:Int)≤122 by omega)];rfl);(rw [decide_eq_false hx];rfl)) wr).mono ?_
          rintro e wz ⟨rfl,hwz⟩
          rw [hwz]
          clear hwz
          dsimp only
          go_wp2_with fail
          refine (bV (s[j].toNat:Int) 65 90 false (by by_cases hx:(65:Int)≤(s[j].toNat:Int);(rw [decide_eq_true hx,decide_eq_false (show ¬ (s[j].toNat:Int)≤90 by omega)];rfl);(rw [decide_eq_false hx];rfl)) wr).mono ?_
          rintro e wz ⟨rfl,hwz⟩
          rw [hwz]
          clear hwz
          dsimp only
          go_wp2_with fail
          refine (bV (s[j].toNat:Int) 48 57 false (by by_cases hx:(48:Int)≤(s[j].toNat:Int);(rw [decide_eq_true hx,decide_eq_false (show ¬ (s[j].toNat:Int)≤57 by omega)];rfl);(rw [decide_eq_false hx];rfl)) wr).mono ?_
          rintro e wz ⟨rfl,hwz⟩
          rw [hwz]
          clear hwz
          dsimp only
          have hs6:=HS.out
          go_wp2_with fail
          go_roundw
          case rel=>exact ⟨j+1,by omega,by go_num,gh hj2 HALL.out (ES (.inr (.inr (.inr hs6)))),(by trivial)⟩
          case measure=>simp [intOf];omega
         ·refine (bV (s[j].toNat:Int) 97 122 false (by by_cases hx:(97:Int)≤(s[j].toNat:Int);(rw [decide_eq_true hx,decide_eq_false (show ¬ (s[j].toNat:Int)≤122 by omega)];rfl);(rw [decide_eq_false hx];rfl)) wr).mono ?_
          rintro e wz ⟨rfl,hwz⟩
          rw [hwz]
          clear hwz
          dsimp only
          go_wp2_with fail
          refine (bV (s[j].toNat:Int) 65 90 false (by by_cases hx:(65:Int)≤(s[j].toNat:Int);(rw [decide_eq_true hx,decide_eq_false (show ¬ (s[j].toNat:Int)≤90 by omega)];rfl);(rw [decide_eq_false hx];rfl)) wr).mono ?_
          rintro e wz ⟨rfl,hwz⟩
          rw [hwz]
          clear hwz
          dsimp only
          go_wp2_with fail
          refine (bV (s[j].toNat:Int) 48 57 false (by by_cases hx:(48:Int)≤(s[j].toNat:Int);(rw [decide_eq_true hx,decide_eq_false (show ¬ (s[j].toNat:Int)≤57 by omega)];rfl);(rw [decide_eq_false hx];rfl)) wr).mono ?_
          rintro e wz ⟨rfl,hwz⟩
          rw [hwz]
          clear hwz
          dsimp only
          go_wp2_with fail
          case roundEnd=>exfalso;simp only [bne_eq_false_iff_eq] at *;omega
          have hnm:cy s=false:=Et hj2 (GR hc0 hc1 hc2 hs3 hs4 hs5 hs6)
          go_ret
          exact ⟨by rw [hnm];rfl,rfl⟩
  ·obtain rfl:j=s.size:=by omega
   have hnr:=zT HALL.out
   have HNR:=ab hnr
   clear hnr
   by_cases h0:s=⟨#[]⟩
   ·subst h0
    have e0:gJ ⟨#[]⟩=false:=by kernel_rfl
    rw [e0] at HNR
    go_wp2_with fail
    go_ret
    exact ⟨by rw [HNR.out];rfl,rfl⟩
   ·have h1:0<s.size:=by
     rcases Nat.eq_zero_or_pos s.size with h | h
     ·exact absurd (by cases s with | mk a=>simp [ByteArray.size] at h;rw [h]) h0
     ·exact h
    have hem:s.toList.isEmpty=false:=by
     cases hem:s.toList.isEmpty with
     | false=>rfl
     | true =>
      have:=List.isEmpty_iff.1 hem
      exact absurd (by rw [← ByteArray.size_data,← Array.length_toList];have e:s.data.toList=s.toList:=(ByteArray.toList_eq s).symm;rw [e,this];rfl) (Nat.pos_iff_ne_zero.1 h1)
    have p1:(s.size:Int) > 0:=by omega
    by_cases h24:(s.size:Int)≤24
    ·have e:gJ s=((s[0].toNat:Int) != 46):=by unfold gJ;rw [hem,decide_eq_true h24,dif_pos h1];rfl
     rw [e] at HNR
     go_wp2_with fail
     go_ret
     exact ⟨by rw [HNR.out];rfl,rfl⟩
    ·have e:gJ s=false:=by unfold gJ;rw [hem,decide_eq_false h24];rfl
     rw [e] at HNR
     go_wp2_with fail
     go_ret
     exact ⟨by rw [HNR.out];rfl,rfl⟩
end Go.Proofs.YtomnhnmciopiiaaGreat
end
section
namespace Go.Proofs.YtomnhnmciopiiaaGreat
open Go Go.RowKit Go.Maps
theorem mE (s:ByteArray) (hs:s.size≤maxLen) (b:Bool) (hb:cy s=b) (w:World):Calls Tryz.prog 130 #[.string s] w fun e w'=>e=.returned (.bool b)∧w'=w:=hb▸AB s hs w
theorem xE {p:Pth} (hp:okP p):(Tryz.prog.info? 83).map (·.size)=some (pC p).length:=by rw [fK hp];kernel_rfl
theorem Hi {p:Pth} {w:World} {b o:Nat} (h:w.rangeAt b o (pC p)):w.rangeAt b o (bv p.1):=da (c2:=[.string p.2]) h
theorem EA {p:Pth} (hp:okP p) {w:World} {b o:Nat} (h:w.rangeAt b o (pC p)):w.rangeAt b (o+20) [.string p.2]:=ig (pre:=bv p.1) (post:=[]) h (by simp [pC]) (by rw [bvL];exact hp.1)
theorem qy (h:Hsh) (hh:okH h) (S:ByteArray) (hS:S=⟨(aU h).toArray⟩) (w:World) :
  Calls Tryz.prog 88 #[.agg (bv h).toArray] w fun e w'=>e=.returned (.string S)∧Below w.heap.size w w':=hS▸tA h hh w
theorem AF (p:Pth) (hp:okP p) (hn:cy p.2=true) (w:World) :
  Calls Tryz.prog 89 #[.agg (pC p).toArray] w fun e w'=>e=.returned (.tuple #[.string (ix p),.int .i64 0])∧Below w.heap.size w w':=by
 have hll:=ei p.1
 have hl20:p.1.length=20:=hp.1
 have hn24:=ez hn
 obtain ⟨S,hS⟩:∃ S:ByteArray,S=⟨(aU p.1).toArray⟩:=⟨_,rfl⟩
 have hSn:S.size≤40:=by rw [hS];show (aU p.1).toArray.size≤_;rw [xal];omega
 have hpS:ix p=(S++⟨#[45]⟩)++p.2:=by rw [hS];rfl
 have HS:=ab hS
 have HPS:=ab hpS
 have HN:=ab hn
 clear hll hS hpS hn
 have H0:=ab (Mem.start w)
 go_enter Tryz.func89,Tryz.ntmps89
 go_wp2_with (first | ((with_reducible refine ae 1 ?_);(refine aF rfl 83 (.tmp 0) rfl (pC p).toArray rfl ?_);intro w1 hn;have H1:=ab (Mem.aM H0.out hn);clear hn;simp only [xae,xaa,xab,xac]) | ((with_reducible refine ae 5 ?_);(refine aa rfl (.string p.2) w1 (exec_load_cell 9 (.tmp 4) rfl ⟨w.heap.size,20,none⟩ rfl _ _ w1 Tryz.underlying9 rfl (range_cell (EA hp (Blk.range (Mem.blk H1.out 0 rfl))))) ?_)))
 refine (mE p.2 hp.2 true HN.out w1).mono ?_
 rintro e wz ⟨rfl,hwz⟩
 rw [hwz]
 clear hwz
 dsimp only
 go_wp2_with fail
 refine Fre.cC (X:=Bel) [] (by kernel_rfl) (by kernel_rfl) (by simp) (by simp) (by simp) ?_
 refine Fre.ag (.pointer (some ⟨w.heap.size,0,none⟩)) (by kernel_rfl) (by kernel_rfl) (by kernel_rfl) (fun _ _=>by kernel_rfl) ?_
 simp only [xae,xaa,xab,xac]
 refine Fre.ag (.agg (bv p.1).toArray) (by kernel_rfl) (by kernel_rfl) (by kernel_rfl) (fun W9 hW9=>(ai 34 (.tmp 8) rfl w.heap.size (0) rfl (bv p.1) _ W9 (Hi (Blk.range (Mem.blk (Mem.call H1.out hW9) 0 rfl))) Tryz.underlying34 rfl (bN hp.1))) ?_
 simp only [xae,xaa,xab,xac]
 refine Fre.fZ (.string S) 88 #[.agg (bv p.1).toArray] (by kernel_rfl) (by kernel_rfl) (by kernel_rfl) (fun W9=>by kernel_rfl) (fun W9 hW9=>qy p.1 hp.1 S HS.out W9) ?_
 simp only [xae,xaa,xab,xac]
 refine Fre.ag (.string (S++⟨#[45]⟩)) (by kernel_rfl) (by kernel_rfl) (by kernel_rfl) (fun W9 hW9=>bG 9 (.tmp 10) (.const (.string ⟨#[45]⟩)) 9 rfl (S) (⟨#[45]⟩) rfl rfl (by show S.size+1≤_;omega) W9) ?_
 simp only [xae,xaa,xab,xac]
 refine Fre.ag (.pointer (some ⟨w.heap.size,20,none⟩)) (by kernel_rfl) (by kernel_rfl) (by kernel_rfl) (fun _ _=>by kernel_rfl) ?_
 simp only [xae,xaa,xab,xac]
 refine Fre.ag (.string p.2) (by kernel_rfl) (by kernel_rfl) (by kernel_rfl) (fun W9 hW9=>(exec_load_cell 9 (.tmp 12) rfl ⟨w.heap.size,20,none⟩ rfl _ _ W9 Tryz.underlying9 rfl (range_cell (EA hp (Blk.range (Mem.blk (Mem.call H1.out hW9) 0 rfl)))))) ?_
 simp only [xae,xaa,xab,xac]
 refine Fre.ag (.string ((S++⟨#[45]⟩)++p.2)) (by kernel_rfl) (by kernel_rfl) (by kernel_rfl) (fun W9 hW9=>bG 9 (.tmp 11) (.tmp 13) 9 rfl ((S++⟨#[45]⟩)) (p.2) rfl rfl (by rw [xaM];show S.size+1+_≤_;omega) W9) ?_
 simp only [xae,xaa,xab,xac]
 refine Fre.ag (.string ((S++⟨#[45]⟩)++p.2)) (by kernel_rfl) (by kernel_rfl) (by kernel_rfl) (fun _ _=>by kernel_rfl) ?_
 simp only [xae,xaa,xab,xac]
 refine Fre.ag (.int .i64 0) (by kernel_rfl) (by kernel_rfl) (by kernel_rfl) (fun _ _=>by kernel_rfl) ?_
 simp only [xae,xaa,xab,xac]
 intro w2 hx
 dsimp only [Fre.ended,xaE]
 have H2:=ab (Mem.call H1.out hx)
 clear hx
 go_wp2_with fail
 refine bodyPost_ret (bu (r1:=.tmp 2) (r2:=.tmp 3) rfl ⟨rfl,rfl,trivial⟩) rfl ?_
 exact ⟨by rw [HPS.out];rfl,Mem.below H2.out⟩
end Go.Proofs.YtomnhnmciopiiaaGreat
end
section
namespace Go.Proofs.YtomnhnmciopiiaaGreat
open Go Go.RowKit Go.Maps
theorem mr {x:Nam} {w:World} {b o:Nat} (h:w.rangeAt b o (nC x)):w.rangeAt b o [.string x.1]:=da (c2:=iC x.2) h
theorem pL {x:Inp} {w:World} {b o:Nat} (h:w.rangeAt b o (iC x)):w.rangeAt b o (pC x.1):=da (c2:=bv x.2.1++[.bool x.2.2]) h
theorem tI:(Tryz.prog.info? 87).map (·.size)=some zcN.size:=by kernel_rfl
end Go.Proofs.YtomnhnmciopiiaaGreat
end
