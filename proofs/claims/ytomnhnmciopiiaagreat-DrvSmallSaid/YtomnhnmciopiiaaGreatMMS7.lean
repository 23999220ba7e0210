/- Part 7 of the texts of one proof. -/
import Derived.Test.YtomnhnmciopiiaaGreatMMS6
set_option maxRecDepth 100000
set_option linter.unusedVariables false
set_option linter.unusedSimpArgs false
set_option maxHeartbeats 40000000
open Go.Act renaming put → xad
open And renaming intro → xae
open Array renaming length_toList → xbh
open Go.RowKit.Below renaming refl → xaq
open Bool renaming and_eq_true → xaG
open ByteArray renaming data_append → xbm, size_append → xaC
open Go.IntKind renaming wrap → xbf
open List renaming drop → xas, drop_succ_cons → xaH, drop_zero → xaQ, eq_nil_of_length_eq_zero → xa4, getElem?_eq_getElem → xaj, getElem?_eq_some_iff → xah, length_append → xap, length_cons → xaE, length_singleton → xa0, length_take → xaJ, mem_append → xau, mem_cons → xax, mem_map → xav, mem_of_getElem? → xak, mem_singleton → xan, not_mem_nil → xaP, range → xaf, setIfInBounds_toArray → xaa, set_cons_succ → xab, set_cons_zero → xac, size_toArray → xal, take_add_one → xaz, take_length → xaB, take_succ_cons → xaI, take_zero → xaR
open Nat renaming div_div_eq_div_mul → xbA, le_refl → xai, le_trans → xay, pow_add → xbF
open Option.some renaming inj → xao
open Go.Program renaming keyLits → xbC
open Go.Result renaming andThen_ok → xaA
open Go.Sem renaming run_bind → xaK, run_pure → xaN
open Go.Utf8 renaming decode → xbr
section
namespace Go.Proofs.YtomnhnmciopiiaaGreat
open Go Go.RowKit Go.Maps
section
variable {P:Program}
def KL (P:Program) (k:Nat) (t:TypeId) (cs:List Value):Prop:=cs.length=P.cellsOf t∧∀ d,k≤d→∃ L,P.keyLits d t cs=some L
theorem KL.mono {k k':Nat} {t:TypeId} {cs:List Value} (h:KL P k t cs) (hk:k≤k'):KL P k' t cs:=⟨h.1,fun d hd=>h.2 d (xay hk hd)⟩
theorem Ai {t:TypeId} (ht:P.underlying t=some .bool) (hc:P.cellsOf t=1) (b:Bool):KL P 1 t [.bool b]:=⟨by rw [hc];rfl,fun d hd=>by
 obtain ⟨d,rfl⟩:∃ e,d=e+1:=⟨d-1,by omega⟩
 unfold xbC
 simp [ht]⟩
theorem yv {t:TypeId} (ht:P.underlying t=some .string) (hc:P.cellsOf t=1) (s:ByteArray) (hs:s.size≤maxLen):KL P 1 t [.string s]:=⟨by rw [hc];rfl,fun d hd=>by
 obtain ⟨d,rfl⟩:∃ e,d=e+1:=⟨d-1,by omega⟩
 unfold xbC
 simp [ht,hs]⟩
theorem BD {t e:TypeId} {n:Nat} (ht:P.underlying t=some (.array n e)) (he:P.underlying e=some (.int .u8)) (hc:P.cellsOf t=n) (h1:P.cellsOf e=1) {h:List UInt8} (hl:h.length=n):KL P 2 t (bv h):=⟨by rw [bvL,hc];exact hl,fun d hd=>by
 obtain ⟨d,rfl⟩:∃ e,d=e+2:=⟨d-2,by omega⟩
 exact jb d ht he hc h1 hl⟩
theorem rP {α β:Type} (f:α→Option β):∀ (l:List α),(∀ x∈l,∃ y,f x=some y)→∃ ys,l.mapM f=some ys
 | [],_=>⟨[],rfl⟩
 | x :: l,h=>by
  obtain ⟨y,hy⟩:=h x (by simp)
  obtain ⟨ys,hys⟩:=rP f l fun z hz=>h z (by simp [hz])
  exact ⟨y :: ys,by rw [List.mapM_cons,hy,hys];rfl⟩
theorem lB {t : TypeId} {fs : Array Field} {k : Nat} {cs : List Value} (ht : P.underlying t = some (.struct fs)) (hn : fs.all (·.name != "_") = true) (hlen : cs.length = P.cellsOf t) (parts : List (TypeId × Nat × List Value))
  (hp:fs.toList.map (fun f=>(f.type,f.offset))=parts.map fun p=>(p.1,p.2.1)) (hk:∀ p∈parts,KL P k p.1 p.2.2) (hc:∀ p∈parts,(cs.drop p.2.1).take p.2.2.length=p.2.2):KL P (k+1) t cs:=⟨hlen,fun d hd=>by
 obtain ⟨d,rfl⟩:∃ e,d=e+1:=⟨d-1,by omega⟩
 obtain ⟨ys,hys⟩:=rP (fun f:Field=>P.keyLits d f.type ((cs.drop f.offset).take (P.cellsOf f.type))) fs.toList fun f hf=>by
  have hm:(f.type,f.offset)∈parts.map fun p=>(p.1,p.2.1):=by
   rw [← hp]
   exact xav.2 ⟨f,hf,rfl⟩
  obtain ⟨p,hpm,e⟩:=xav.1 hm
  injection e with e1 e2
  obtain ⟨L,hL⟩:=(hk p hpm).2 d (by omega)
  refine ⟨L,?_⟩
  rw [← e1,← e2,← (hk p hpm).1,hc p hpm,hL]
 unfold xbC
 rw [ht]
 have hlen':=hlen
 cases cs with
 | nil =>
  simp only []
  rw [if_pos ⟨hlen',hn⟩,hys]
  exact ⟨_,rfl⟩
 | cons x cs =>
  simp only []
  rw [if_pos ⟨hlen',hn⟩,hys]
  exact ⟨_,rfl⟩⟩
theorem yt {k:Nat} {t:TypeId} {cs:List Value} (h:KL P k t cs) (hd:k≤P.types.size+1) (hkt:P.keyType t=true) (hrow:(match P.underlying t with | some (.array _ _) | some (.struct _)=>true | _=>false)=true):∃ l,keyOf P t (.agg cs.toArray)=some l:=by
 obtain ⟨L,hL⟩:=h.2 _ hd
 have hf:(Value.agg cs.toArray).formed P t=true:=by
  unfold Value.formed
  cases hu:P.underlying t with
  | none=>rw [hu] at hrow;cases hrow
  | some d=>cases d<;>simp_all [h.1]
 unfold keyOf
 cases hu:P.underlying t with
 | none=>rw [hu] at hrow;cases hrow
 | some d =>
  rw [hu] at hrow
  cases d<;>first | (cases hrow;done) | (simp only [hkt,hf,Bool.and_self,if_true,Value.cells,hL];exact ⟨_,rfl⟩)
theorem B6 {k m:Nat} {t:TypeId} (K:Keyed P t) {a b:List Value} (ha:KL P k t a) (hb:KL P k t b) (hd:k≤P.types.size+1) (hkt:P.keyType t=true) (hm:m≤10000) (hka:P.keyTypeAt m t=true) (hrow:(match P.underlying t with | some (.array _ _) | some (.struct _)=>true | _=>false)=true) (w:World) :
  ∃ r:Bool,(Op.equal t (.agg a.toArray) (.agg b.toArray)).run P w=.ok r w∧(r=true↔a=b):=by
 obtain ⟨la,h1⟩:=yt ha hd hkt hrow
 obtain ⟨lb,h2⟩:=yt hb hd hkt hrow
 obtain ⟨r,h3,h4⟩:=run_equal_deep (P:=P) w hm hka hrow h1 h2
 refine ⟨r,h3,?_⟩
 rw [h4]
 constructor
 ·intro e
  subst e
  have:=K.inj h1 h2
  injection this with this
  simpa using this
 ·intro e
  subst e
  rw [h1] at h2
  injection h2
theorem vj {t:TypeId} {a b:Array Value} {r:Bool} {w:World} (h:(Op.equal t (.agg a) (.agg b)).run P w=.ok r w):(binOp .neq t (.agg a) (.agg b)).run P w=.ok (.bool (!r)) w:=by
 simp only [binOp,xaK,h,xaA,xaN]
end
end Go.Proofs.YtomnhnmciopiiaaGreat
end
section
namespace Go.Proofs.YtomnhnmciopiiaaGreat
open Go Go.RowKit Go.Maps
instance Cn:DecidableEq Inp:=inferInstance
instance Co:DecidableEq Nam:=instDecidableEqProd
instance Cj:DecidableEq (List Nam):=instDecidableEqList
instance Cm:DecidableEq Drv:=instDecidableEqProd
theorem dD {x:Nam} (h:okN x):(Tryz.prog.info? 87).map (·.size)=some (nC x).length:=by rw [da h];kernel_rfl
theorem iJ {x:Nam} (h:okN x):(Tryz.prog.info? 87).map (·.size)=some (nC x).toArray.size:=by rw [xal];exact dD h
theorem tw (x:Nam):(nC x).toArray.all (·.oneCell')=true:=all_oneCell_toArray (fQ x)
theorem uK {h:Hsh} (hh:okH h):KL Tryz.prog 2 34 (bv h):=BD Tryz.underlying34 Tryz.underlying5 fI mT hh
theorem Aj {p:Pth} (hp:okP p):KL Tryz.prog 3 83 (pC p):=by
 have hl:(bv p.1).length=20:=by rw [bvL];exact hp.1
 refine lB Tryz.underlying83 (by kernel_rfl) (by rw [bQ hp,jV]) [(34,0,bv p.1),(9,20,[.string p.2])] (by kernel_rfl) ?_ ?_
 ·intro q hq
  simp only [xax,xaP,or_false] at hq
  rcases hq with rfl | rfl
  ·exact uK hp.1
  ·exact (yv Tryz.underlying9 lk _ hp.2).mono (by omega)
 ·intro q hq
  simp only [xax,xaP,or_false] at hq
  rcases hq with rfl | rfl
  ·simp [pC,hl]
  ·simp [pC,hl]
theorem yr {x:Inp} (hx:okI x):KL Tryz.prog 4 85 (iC x):=by
 have hl:(pC x.1).length=21:=bQ hx.1
 have hl2:(bv x.2.1).length=20:=by rw [bvL];exact hx.2
 refine lB Tryz.underlying85 (by kernel_rfl) (by simp only [iC,xap,hl,hl2,xaE,List.length_nil];kernel_rfl) [(83,0,pC x.1),(34,21,bv x.2.1),(4,41,[.bool x.2.2])] (by kernel_rfl) ?_ ?_
 ·intro q hq
  simp only [xax,xaP,or_false] at hq
  rcases hq with rfl | rfl | rfl
  ·exact Aj hx.1
  ·exact (uK hx.2).mono (by omega)
  ·exact (Ai Tryz.underlying4 (by kernel_rfl) _).mono (by omega)
 ·intro q hq
  simp only [xax,xaP,or_false] at hq
  rcases hq with rfl | rfl | rfl
  ·simp [iC,hl]
  ·simp [iC,hl,hl2]
  ·unfold iC
   rw [← List.append_assoc,List.drop_left' (by simp [hl,hl2])]
   rfl
theorem yu {x:Nam} (hx:okN x):KL Tryz.prog 5 87 (nC x):=by
 refine lB Tryz.underlying87 (by kernel_rfl) (by rw [da hx];kernel_rfl) [(9,0,[.string x.1]),(85,1,iC x.2)] (by kernel_rfl) ?_ ?_
 ·intro q hq
  simp only [xax,xaP,or_false] at hq
  rcases hq with rfl | rfl
  ·exact (yv Tryz.underlying9 lk _ hx.1).mono (by omega)
  ·exact yr hx.2
 ·intro q hq
  simp only [xax,xaP,or_false] at hq
  rcases hq with rfl | rfl
  ·simp [nC]
  ·simp [nC]
theorem BA {a b:Inp} (ha:okI a) (hb:okI b) (h:iC a=iC b):a=b:=by
 unfold iC at h
 have h1:=List.append_inj h (by rw [bQ ha.1,bQ hb.1])
 have h2:=List.append_inj h1.2 (by rw [bvL,bvL];exact ha.2.trans hb.2.symm)
 have e1:=y1 h1.1
 have e2:=sI h2.1
 have e3:a.2.2=b.2.2:=by simpa using h2.2
 exact Prod.ext e1 (Prod.ext e2 e3)
theorem BG {a b:Nam} (ha:okN a) (hb:okN b) (h:nC a=nC b):a=b:=by
 unfold nC at h
 injection h with h1 h2
 injection h1 with h1
 exact Prod.ext h1 (BA ha.2 hb.2 h2)
theorem iT (a b:Nam) (ha:okN a) (hb:okN b) (w:World):(Op.equal 87 (.agg (nC a).toArray) (.agg (nC b).toArray)).run Tryz.prog w=.ok (decide (a=b)) w:=by
 obtain ⟨r,h1,h2⟩:=B6 (P:=Tryz.prog) (m:=5) (Keyed.of_law (deep_law_laid laidOut (m:=5) (by omega) (of_decide_eq_true (by kernel_rfl)) (by kernel_rfl) (by kernel_rfl))) (yu ha) (yu hb) (of_decide_eq_true (by kernel_rfl)) (by kernel_rfl) (by omega) (by kernel_rfl) (by kernel_rfl) w
 have:r=decide (a=b):=by
  rw [Bool.eq_iff_iff,h2,decide_eq_true_iff]
  exact ⟨BG ha hb,fun e=>by rw [e]⟩
 rw [← this]
 exact h1
theorem yL (a b:Nam) (ha:okN a) (hb:okN b) (w:World):(binOp .neq 87 (.agg (nC a).toArray) (.agg (nC b).toArray)).run Tryz.prog w=.ok (.bool (!decide (a=b))) w:=vj (iT a b ha hb w)
theorem ku {w:World} {B:Nat} {cs:List Value} {x:Int}:(Lay.int 5 .u8).At w B cs x↔cs=[.int .u8 x]∧(Lit.int .u8 x).wf=true:=Iff.rfl
theorem xe (w:World) (a b:List Nam) (A B:Option Addr) (ca cb:Nat) (ha:dv.At w w.heap.size [.slice A a.length ca] a) (hb:dv.At w w.heap.size [.slice B b.length cb] b) :
  Calls Tryz.prog 77 #[.slice A a.length ca,.slice B b.length cb] w fun e w'=>e=.returned (.bool (decide (a=b)))∧Below w.heap.size w w':=by
 obtain ⟨A',ca',e,_,hcm,_,hA⟩:=ak ha
 injection e with e1 e2 e3
 subst e1 e3
 obtain ⟨B',cb',e,_,_,_,hB⟩:=ak hb
 injection e with e1 e4 e3
 subst e1 e3
 clear ha hb e2 e4
 have k9:(a.length:Int)≤9223372036854775807:=by simp only [maxLen] at hcm;omega
 clear hcm
 by_cases hlen:a.length=b.length
 ·rw [← hlen]
  have HA:=ah hA
  have HB:=ah hB
  have HLN:=ah hlen
  clear hA hB hlen
  have H0:=ah (Mem.start w)
  go_enter Tryz.func77,Tryz.ntmps77
  go_wp2_with fail
  go_loopw [5] (fun x5 wr=>∃ j:Nat,j≤a.length∧x5=.int .i64 (j:Int)∧a.take j=b.take j∧Mem w wr []) (fun x5 _=>a.length-(intOf x5).toNat)
  case atStart=>exact ⟨0,by omega,rfl,rfl,H0.out⟩
  case round =>
   obtain ⟨wo,rfl⟩:∃ wo,wo=wr:=⟨_,rfl⟩
   obtain ⟨j,hj,rfl,htk,hm⟩:=hrel
   have HM:=ah hm
   have HT:=ah htk
   clear hm htk
   have j0:(0:Int)≤(j:Int):=by omega
   by_cases hj2:j<a.length
   ·have j1:(j:Int)<(a.length:Int):=by omega
    obtain ⟨x,hx⟩:∃ x,a[j]?=some x:=⟨_,xaj (by omega)⟩
    obtain ⟨p,o1,rfl,hltp,hE⟩:=HA.out (by omega)
    obtain ⟨cs,hrx,hatx⟩:=hE j x hx
    clear hE
    obtain ⟨y,hy⟩:∃ y,b[j]?=some y:=⟨_,xaj (by have:=HLN.out;omega)⟩
    obtain ⟨q,o2,rfl,hltq,hE⟩:=HB.out (by have:=HLN.out;omega)
    obtain ⟨cs2,hry,haty⟩:=hE j y hy
    obtain ⟨rfl,hxo⟩:=bw.1 hatx
    obtain ⟨rfl,hyo⟩:=bw.1 haty
    have HX:=ah (xae hrx (xae hltp hx))
    have HY:=ah (xae hry (xae hltq hy))
    clear hrx hltp hx hry hltq hy hE hatx haty
    obtain ⟨bd,hbd⟩:∃ bd,bd=decide (x=y):=⟨_,rfl⟩
    have HBD:=ah hbd
    clear hbd
    cases bd
    ·go_wp2_with fail
     refine Fre.cq (X:=Bel) 8 [] (by kernel_rfl) (by kernel_rfl) (by simp) (by simp) (by simp) ?_
     simp only [xaI,xaR,xaH,xaQ]
     refine Fre.ae (.slice (some ⟨p,o1,none⟩) a.length ca) (by kernel_rfl) (by kernel_rfl) (by kernel_rfl) (fun _ _=>by kernel_rfl) ?_
     simp only [xad,xaa,xac,xab]
     refine Fre.ae (.int .i64 (j:Int)) (by kernel_rfl) (by kernel_rfl) (by kernel_rfl) (fun _ _=>by kernel_rfl) ?_
     simp only [xad,xaa,xac,xab]
     refine Fre.ae (.pointer (some ⟨p,o1+j*43,none⟩)) (by kernel_rfl) (by kernel_rfl) (by kernel_rfl) (fun W9 hW9=>(aU 23 87 (.tmp 17) (.tmp 18) rfl p o1 a.length ca j rfl rfl hj2 43 Tryz.underlying23 aY W9)) ?_
     simp only [xad,xaa,xac,xab]
     refine Fre.ae (.agg (nC x).toArray) (by kernel_rfl) (by kernel_rfl) (by kernel_rfl) (fun W9 hW9=>(aj 87 (.tmp 19) rfl p (o1+j*43) rfl (nC x) _ W9 (Mem.range (Mem.call HM.out hW9) HX.out.1 HX.out.2.1) Tryz.underlying87 rfl (dD hxo))) ?_
     simp only [xad,xaa,xac,xab]
     refine Fre.ae (.slice (some ⟨q,o2,none⟩) a.length cb) (by kernel_rfl) (by kernel_rfl) (by kernel_rfl) (fun _ _=>by kernel_rfl) ?_
     simp only [xad,xaa,xac,xab]
     refine Fre.ae (.int .i64 (j:Int)) (by kernel_rfl) (by kernel_rfl) (by kernel_rfl) (fun _ _=>by kernel_rfl) ?_
     simp only [xad,xaa,xac,xab]
     refine Fre.ae (.pointer (some ⟨q,o2+j*43,none⟩)) (by kernel_rfl) (by kernel_rfl) (by kernel_rfl) (fun W9 hW9=>(aU 23 87 (.tmp 21) (.tmp 22) rfl q o2 a.length cb j rfl rfl hj2 43 Tryz.underlying23 aY W9)) ?_
     simp only [xad,xaa,xac,xab]
     refine Fre.ae (.agg (nC y).toArray) (by kernel_rfl) (by kernel_rfl) (by kernel_rfl) (fun W9 hW9=>(aj 87 (.tmp 23) rfl q (o2+j*43) rfl (nC y) _ W9 (Mem.range (Mem.call HM.out hW9) HY.out.1 HY.out.2.1) Tryz.underlying87 rfl (dD hyo))) ?_
     simp only [xad,xaa,xac,xab]
     intro w1 hx
     dsimp only [Fre.ended,xas]
     have H1:=ah (Mem.call HM.out hx)
     clear hx
     go_wp2_with (((with_reducible refine ag 25 ?_);(refine aa rfl (.bool true) w1 (bU .neq 87 (.tmp 20) (.tmp 24) _ rfl (nC x).toArray (nC y).toArray rfl rfl (by kernel_rfl) _ (fun W=>by have h9:=yL x y hxo hyo W;rw [← HBD.out] at h9;exact h9) w1) ?_)))
     go_ret
     refine ⟨?_,Mem.below H1.out⟩
     have hne:¬ a=b:=by
      rintro rfl
      have h1:=HX.out.2.2
      rw [HY.out.2.2] at h1
      exact of_decide_eq_false HBD.out.symm (xao h1).symm
     rw [decide_eq_false hne];rfl
    ·go_wp2_with fail
     refine Fre.cq (X:=Bel) 8 [] (by kernel_rfl) (by kernel_rfl) (by simp) (by simp) (by simp) ?_
     simp only [xaI,xaR,xaH,xaQ]
     refine Fre.ae (.slice (some ⟨p,o1,none⟩) a.length ca) (by kernel_rfl) (by kernel_rfl) (by kernel_rfl) (fun _ _=>by kernel_rfl) ?_
     simp only [xad,xaa,xac,xab]
     refine Fre.ae (.int .i64 (j:Int)) (by kernel_rfl) (by kernel_rfl) (by kernel_rfl) (fun _ _=>by kernel_rfl) ?_
     simp only [xad,xaa,xac,xab]
     refine Fre.ae (.pointer (some ⟨p,o1+j*43,none⟩)) (by kernel_rfl) (by kernel_rfl) (by kernel_rfl) (fun W9 hW9=>(aU 23 87 (.tmp 17) (.tmp 18) rfl p o1 a.length ca j rfl rfl hj2 43 Tryz.underlying23 aY W9)) ?_
     simp only [xad,xaa,xac,xab]
     refine Fre.ae (.agg (nC x).toArray) (by kernel_rfl) (by kernel_rfl) (by kernel_rfl) (fun W9 hW9=>(aj 87 (.tmp 19) rfl p (o1+j*43) rfl (nC x) _ W9 (Mem.range (Mem.call HM.out hW9) HX.out.1 HX.out.2.1) Tryz.underlying87 rfl (dD hxo))) ?_
     simp only [xad,xaa,xac,xab]
     refine Fre.ae (.slice (some ⟨q,o2,none⟩) a.length cb) (by kernel_rfl) (by kernel_rfl) (by kernel_rfl) (fun _ _=>by kernel_rfl) ?_
     simp only [xad,xaa,xac,xab]
     refine Fre.ae (.int .i64 (j:Int)) (by kernel_rfl) (by kernel_rfl) (by kernel_rfl) (fun _ _=>by kernel_rfl) ?_
     simp only [xad,xaa,xac,xab]
     refine Fre.ae (.pointer (some ⟨q,o2+j*43,none⟩)) (by kernel_rfl) (by kernel_rfl) (by kernel_rfl) (fun W9 hW9=>(aU 23 87 (.tmp 21) (.tmp 22) rfl q o2 a.length cb j rfl rfl hj2 43 Tryz.underlying23 aY W9)) ?_
     simp only [xad,xaa,xac,xab]
     refine Fre.ae (.agg (nC y).toArray) (by kernel_rfl) (by kernel_rfl) (by kernel_rfl) (fun W9 hW9=>(aj 87 (.tmp 23) rfl q (o2+j*43) rfl (nC y) _ W9 (Mem.range (Mem.call HM.out hW9) HY.out.1 HY.out.2.1) Tryz.underlying87 rfl (dD hyo))) ?_
     simp only [xad,xaa,xac,xab]
     intro w2 hx
     dsimp only [Fre.ended,xas]
     have H2:=ah (Mem.call HM.out hx)
     clear hx
     go_wp2_with (((with_reducible refine ag 25 ?_);(refine aa rfl (.bool false) w2 (bU .neq 87 (.tmp 20) (.tmp 24) _ rfl (nC x).toArray (nC y).toArray rfl rfl (by kernel_rfl) _ (fun W=>by have h9:=yL x y hxo hyo W;rw [← HBD.out] at h9;exact h9) w2) ?_)))
     go_roundw
     case rel=>exact ⟨j+1,by omega,by go_num,(by rw [xaz,xaz,HT.out,HX.out.2.2,HY.out.2.2,of_decide_eq_true HBD.out.symm]),H2.out⟩
     case measure=>simp [intOf];omega
   ·obtain rfl:j=a.length:=by omega
    go_wp2_with fail
    go_ret
    refine ⟨?_,Mem.below HM.out⟩
    have:a=b:=by
     have h2:=HT.out
     rwa [List.take_of_length_le (xai _),List.take_of_length_le (by have:=HLN.out;omega)] at h2
    rw [decide_eq_true this];rfl
 ·have hne:¬ (a.length:Int)=(b.length:Int):=by omega
  have hd:decide (a=b)=false:=decide_eq_false (by rintro rfl;exact hlen rfl)
  rw [hd]
  clear hA hB
  go_enter Tryz.func77,Tryz.ntmps77
  go_wp2_with fail
  go_ret
  exact ⟨rfl,xaq _ _⟩
theorem xc (w:World) (a b:List Int) (A B:Option Addr) (ca cb:Nat) (ha:b5.At w w.heap.size [.slice A a.length ca] a) (hb:b5.At w w.heap.size [.slice B b.length cb] b) :
  Calls Tryz.prog 78 #[.slice A a.length ca,.slice B b.length cb] w fun e w'=>e=.returned (.bool (decide (a=b)))∧Below w.heap.size w w':=by
 obtain ⟨A',ca',e,_,hcm,_,hA⟩:=ak ha
 injection e with e1 e2 e3
 subst e1 e3
 obtain ⟨B',cb',e,_,_,_,hB⟩:=ak hb
 injection e with e1 e4 e3
 subst e1 e3
 clear ha hb e2 e4
 have k9:(a.length:Int)≤9223372036854775807:=by simp only [maxLen] at hcm;omega
 clear hcm
 by_cases hlen:a.length=b.length
 ·rw [← hlen]
  have HA:=ah hA
  have HB:=ah hB
  have HLN:=ah hlen
  clear hA hB hlen
  have H0:=ah (Mem.start w)
  go_enter Tryz.func78,Tryz.ntmps78
  go_wp2_with fail
  go_loopw [5] (fun x5 wr=>∃ j:Nat,j≤a.length∧x5=.int .i64 (j:Int)∧a.take j=b.take j∧Mem w wr []) (fun x5 _=>a.length-(intOf x5).toNat)
  case atStart=>exact ⟨0,by omega,rfl,rfl,H0.out⟩
  case round =>
   obtain ⟨wo,rfl⟩:∃ wo,wo=wr:=⟨_,rfl⟩
   obtain ⟨j,hj,rfl,htk,hm⟩:=hrel
   have HM:=ah hm
   have HT:=ah htk
   clear hm htk
   have j0:(0:Int)≤(j:Int):=by omega
   by_cases hj2:j<a.length
   ·have j1:(j:Int)<(a.length:Int):=by omega
    obtain ⟨x,hx⟩:∃ x,a[j]?=some x:=⟨_,xaj (by omega)⟩
    obtain ⟨p,o1,rfl,hltp,hE⟩:=HA.out (by omega)
    obtain ⟨cs,hrx,hatx⟩:=hE j x hx
    clear hE
    obtain ⟨y,hy⟩:∃ y,b[j]?=some y:=⟨_,xaj (by have:=HLN.out;omega)⟩
    obtain ⟨q,o2,rfl,hltq,hE⟩:=HB.out (by have:=HLN.out;omega)
    obtain ⟨cs2,hry,haty⟩:=hE j y hy
    obtain ⟨rfl,hxo⟩:=ku.1 hatx
    obtain ⟨rfl,hyo⟩:=ku.1 haty
    have HX:=ah (xae hrx (xae hltp hx))
    have HY:=ah (xae hry (xae hltq hy))
    clear hrx hltp hx hry hltq hy hE hatx haty
    by_cases hxy:x=y
    ·subst hxy
     have HBD:=ah (show true=decide (x=x) from (decide_eq_true rfl).symm)
     go_wp2_with fail
     refine Fre.cq (X:=Bel) 8 [] (by kernel_rfl) (by kernel_rfl) (by simp) (by simp) (by simp) ?_
     simp only [xaI,xaR,xaH,xaQ]
     refine Fre.ae (.slice (some ⟨p,o1,none⟩) a.length ca) (by kernel_rfl) (by kernel_rfl) (by kernel_rfl) (fun _ _=>by kernel_rfl) ?_
     simp only [xad,xaa,xac,xab]
     refine Fre.ae (.int .i64 (j:Int)) (by kernel_rfl) (by kernel_rfl) (by kernel_rfl) (fun _ _=>by kernel_rfl) ?_
     simp only [xad,xaa,xac,xab]
     refine Fre.ae (.pointer (some ⟨p,o1+j*1,none⟩)) (by kernel_rfl) (by kernel_rfl) (by kernel_rfl) (fun W9 hW9=>(aU 24 5 (.tmp 17) (.tmp 18) rfl p o1 a.length ca j rfl rfl hj2 1 Tryz.underlying24 (by kernel_rfl) W9)) ?_
     simp only [xad,xaa,xac,xab]
     refine Fre.ae (.int .u8 x) (by kernel_rfl) (by kernel_rfl) (by kernel_rfl) (fun W9 hW9=>(exec_load_cell 5 (.tmp 19) rfl ⟨p,o1+j*1,none⟩ rfl _ _ W9 Tryz.underlying5 rfl (range_cell (Mem.range (Mem.call HM.out hW9) HX.out.1 HX.out.2.1)))) ?_
     simp only [xad,xaa,xac,xab]
     refine Fre.ae (.slice (some ⟨q,o2,none⟩) a.length cb) (by kernel_rfl) (by kernel_rfl) (by kernel_rfl) (fun _ _=>by kernel_rfl) ?_
     simp only [xad,xaa,xac,xab]
     refine Fre.ae (.int .i64 (j:Int)) (by kernel_rfl) (by kernel_rfl) (by kernel_rfl) (fun _ _=>by kernel_rfl) ?_
     simp only [xad,xaa,xac,xab]
     refine Fre.ae (.pointer (some ⟨q,o2+j*1,none⟩)) (by kernel_rfl) (by kernel_rfl) (by kernel_rfl) (fun W9 hW9=>(aU 24 5 (.tmp 21) (.tmp 22) rfl q o2 a.length cb j rfl rfl hj2 1 Tryz.underlying24 (by kernel_rfl) W9)) ?_
     simp only [xad,xaa,xac,xab]
     refine Fre.ae (.int .u8 x) (by kernel_rfl) (by kernel_rfl) (by kernel_rfl) (fun W9 hW9=>(exec_load_cell 5 (.tmp 23) rfl ⟨q,o2+j*1,none⟩ rfl _ _ W9 Tryz.underlying5 rfl (range_cell (Mem.range (Mem.call HM.out hW9) HY.out.1 HY.out.2.1)))) ?_
     simp only [xad,xaa,xac,xab]
     intro w1 hx
     dsimp only [Fre.ended,xas]
     have H1:=ah (Mem.call HM.out hx)
     clear hx
     go_wp2_with fail
     go_roundw
     case rel=>exact ⟨j+1,by omega,by go_num,(by rw [xaz,xaz,HT.out,HX.out.2.2,HY.out.2.2]),H1.out⟩
     case measure=>simp [intOf];omega
    ·have HBD:=ah (decide_eq_false hxy).symm
     go_wp2_with fail
     refine Fre.cq (X:=Bel) 8 [] (by kernel_rfl) (by kernel_rfl) (by simp) (by simp) (by simp) ?_
     simp only [xaI,xaR,xaH,xaQ]
     refine Fre.ae (.slice (some ⟨p,o1,none⟩) a.length ca) (by kernel_rfl) (by kernel_rfl) (by kernel_rfl) (fun _ _=>by kernel_rfl) ?_
     simp only [xad,xaa,xac,xab]
     refine Fre.ae (.int .i64 (j:Int)) (by kernel_rfl) (by kernel_rfl) (by kernel_rfl) (fun _ _=>by kernel_rfl) ?_
     simp only [xad,xaa,xac,xab]
     refine Fre.ae (.pointer (some ⟨p,o1+j*1,none⟩)) (by kernel_rfl) (by kernel_rfl) (by kernel_rfl) (fun W9 hW9=>(aU 24 5 (.tmp 17) (.tmp 18) rfl p o1 a.length ca j rfl rfl hj2 1 Tryz.underlying24 (by kernel_rfl) W9)) ?_
     simp only [xad,xaa,xac,xab]
     refine Fre.ae (.int .u8 x) (by kernel_rfl) (by kernel_rfl) (by kernel_rfl) (fun W9 hW9=>(exec_load_cell 5 (.tmp 19) rfl ⟨p,o1+j*1,none⟩ rfl _ _ W9 Tryz.underlying5 rfl (range_cell (Mem.range (Mem.call HM.out hW9) HX.out.1 HX.out.2.1)))) ?_
     simp only [xad,xaa,xac,xab]
     refine Fre.ae (.slice (some ⟨q,o2,none⟩) a.length cb) (by kernel_rfl) (by kernel_rfl) (by kernel_rfl) (fun _ _=>by kernel_rfl) ?_
     simp only [xad,xaa,xac,xab]
     refine Fre.ae (.int .i64 (j:Int)) (by kernel_rfl) (by kernel_rfl) (by kernel_rfl) (fun _ _=>by kernel_rfl) ?_
     simp only [xad,xaa,xac,xab]
     refine Fre.ae (.pointer (some ⟨q,o2+j*1,none⟩)) (by kernel_rfl) (by kernel_rfl) (by kernel_rfl) (fun W9 hW9=>(aU 24 5 (.tmp 21) (.tmp 22) rfl q o2 a.length cb j rfl rfl hj2 1 Tryz.underlying24 (by kernel_rfl) W9)) ?_
     simp only [xad,xaa,xac,xab]
     refine Fre.ae (.int .u8 y) (by kernel_rfl) (by kernel_rfl) (by kernel_rfl) (fun W9 hW9=>(exec_load_cell 5 (.tmp 23) rfl ⟨q,o2+j*1,none⟩ rfl _ _ W9 Tryz.underlying5 rfl (range_cell (Mem.range (Mem.call HM.out hW9) HY.out.1 HY.out.2.1)))) ?_
     simp only [xad,xaa,xac,xab]
     intro w2 hx
     dsimp only [Fre.ended,xas]
     have H2:=ah (Mem.call HM.out hx)
     clear hx
     go_wp2_with fail
     go_ret
     refine ⟨?_,Mem.below H2.out⟩
     have hne:¬ a=b:=by
      rintro rfl
      have h1:=HX.out.2.2
      rw [HY.out.2.2] at h1
      exact of_decide_eq_false HBD.out.symm (xao h1).symm
     rw [decide_eq_false hne];rfl
   ·obtain rfl:j=a.length:=by omega
    go_wp2_with fail
    go_ret
    refine ⟨?_,Mem.below HM.out⟩
    have:a=b:=by
     have h2:=HT.out
     rwa [List.take_of_length_le (xai _),List.take_of_length_le (by have:=HLN.out;omega)] at h2
    rw [decide_eq_true this];rfl
 ·have hne:¬ (a.length:Int)=(b.length:Int):=by omega
  have hd:decide (a=b)=false:=decide_eq_false (by rintro rfl;exact hlen rfl)
  rw [hd]
  clear hA hB
  go_enter Tryz.func78,Tryz.ntmps78
  go_wp2_with fail
  go_ret
  exact ⟨rfl,xaq _ _⟩
end Go.Proofs.YtomnhnmciopiiaaGreat
end
section
namespace Go.Proofs.YtomnhnmciopiiaaGreat
open Go Go.RowKit Go.Maps
def qL:Lay Itm:=Lay.struct 98 (.cons gj (.cons sP .nil)) fun x=>(x.1,x.2,())
def eJ:Lay (List Itm):=Lay.slice 40 qL
theorem dx {w:World} {B:Nat} {cs:List Value} {x:Itm}:qL.At w B cs x↔∃ v1 v2,cs=tC x v1 v2∧okH x.1∧aK w B x.2 v1 v2:=by
 constructor
 ·rintro ⟨c1,d1,rfl,⟨rfl,h1⟩,c2,d2,rfl,h2,h3⟩
  have h3:d2=[]:=h3
  subst h3
  obtain ⟨v1,v2,rfl,h5⟩:=jv.1 h2
  exact ⟨v1,v2,by simp [tC],h1,h5⟩
 ·rintro ⟨v1,v2,rfl,h1,h2⟩
  exact ⟨bv x.1,dC x.2 v1 v2,rfl,⟨rfl,h1⟩,dC x.2 v1 v2,[],by simp,jv.2 ⟨v1,v2,rfl,h2⟩,rfl⟩
theorem cY:(Tryz.prog.info? 98).map (·.size)=some 23:=by kernel_rfl
theorem zz (w:World) (B:Nat):aK w B (⟨#[]⟩,[],[]) (.slice none 0 0) (.slice none 0 0) :=
 ⟨Nat.zero_le _,⟨none,0,rfl,xai _,Nat.zero_le _,(fun _=>rfl),fun h=>absurd h (by simp)⟩,⟨none,0,rfl,xai _,Nat.zero_le _,(fun _=>rfl),fun h=>absurd h (by simp)⟩⟩
theorem wV {l:List Hsh} {k:Nat} {z c:Hsh} (h:l[k]?=some z) (hn:c ∉ l.take k) (hz:¬ z=c):c ∉ l.take (k+1):=by
 rw [xaz,h]
 intro hm
 rcases xau.1 hm with hm | hm
 ·exact hn hm
 ·simp at hm
  first | exact hz hm | exact hz hm.symm
theorem fm (w:World) (l:List Hsh) (v:Value) (h:eW.At w w.heap.size [v] l) (c:Hsh) (hc:okH c) (b:Bool) (hb:decide (c∈l)=b) :
  Calls Tryz.prog 76 #[v,.agg (bv c).toArray] w fun e w'=>e=.returned (.bool b)∧Below w.heap.size w w':=by
 obtain ⟨A,cap,rfl,_,hcm,_,hA⟩:=ak h
 have k9:(l.length:Int)≤9223372036854775807:=by simp only [maxLen] at hcm;omega
 have HA:=ah hA
 have HBB:=ah hb
 clear h hA hcm hb
 have H0:=ah (Mem.start w)
 go_enter Tryz.func76,Tryz.ntmps76
 go_wp2_with (((with_reducible refine ag 3 ?_);(refine aW rfl 34 (.tmp 1) rfl (bv c).toArray rfl ?_);intro w1 hn;have H1:=ah (Mem.bh H0.out hn);clear hn;simp only [xad,xaa,xac,xab]))
 go_loopw [5] (fun x5 wr=>∃ j:Nat,j≤l.length∧x5=.int .i64 (j:Int)∧c ∉ l.take j∧Mem w wr [cC w.heap.size 34 (bv c).toArray]) (fun x5 _=>l.length-(intOf x5).toNat)
 case atStart=>exact ⟨0,by omega,rfl,(by simp),H1.out⟩
 case round =>
  obtain ⟨wo,rfl⟩:∃ wo,wo=wr:=⟨_,rfl⟩
  obtain ⟨j,hj,rfl,hni,hm⟩:=hrel
  have HM:=ah hm
  have HN:=ah hni
  clear hm hni
  have j0:(0:Int)≤(j:Int):=by omega
  by_cases hj2:j<l.length
  ·have j1:(j:Int)<(l.length:Int):=by omega
   obtain ⟨x,hx⟩:∃ x,l[j]?=some x:=⟨_,xaj (by omega)⟩
   obtain ⟨b,off,rfl,hltb,hE⟩:=HA.out (by omega)
   obtain ⟨cs,hrx,hatx⟩:=hE j x hx
   clear hE
   obtain ⟨rfl,xo⟩:=dt.1 hatx
   have HX:=ah (xae hrx (xae hltb hx))
   clear hrx hltb hx hatx
   cases hq:decide (x=c)
   ·have HC:=ah hq
    clear hq
    go_wp2_with fail
    refine Fre.aV (X:=Bel) [] (by kernel_rfl) (by kernel_rfl) (by simp) (by simp) (by simp) ?_
    refine Fre.ae (.slice (some ⟨b,off,none⟩) l.length cap) (by kernel_rfl) (by kernel_rfl) (by kernel_rfl) (fun _ _=>by kernel_rfl) ?_
    simp only [xad,xaa,xac,xab]
    refine Fre.ae (.int .i64 (j:Int)) (by kernel_rfl) (by kernel_rfl) (by kernel_rfl) (fun _ _=>by kernel_rfl) ?_
    simp only [xad,xaa,xac,xab]
    refine Fre.ae (.pointer (some ⟨b,off+j*20,none⟩)) (by kernel_rfl) (by kernel_rfl) (by kernel_rfl) (fun W9 hW9=>(aU 27 34 (.tmp 12) (.tmp 13) rfl b off l.length cap j rfl rfl hj2 20 Tryz.underlying27 cK W9)) ?_
    simp only [xad,xaa,xac,xab]
    refine Fre.ae (.agg (bv x).toArray) (by kernel_rfl) (by kernel_rfl) (by kernel_rfl) (fun W9 hW9=>(aj 34 (.tmp 14) rfl b (off+j*20) rfl (bv x) _ W9 (Mem.range (Mem.call HM.out hW9) HX.out.1 HX.out.2.1) Tryz.underlying34 rfl (cP xo))) ?_
    simp only [xad,xaa,xac,xab]
    refine Fre.ae (.agg (bv c).toArray) (by kernel_rfl) (by kernel_rfl) (by kernel_rfl) (fun W9 hW9=>(aj 34 (.tmp 3) rfl w.heap.size (0) rfl (bv c) _ W9 (Blk.range (Mem.blk (Mem.call HM.out hW9) 0 rfl)) Tryz.underlying34 rfl (cP hc))) ?_
    simp only [xad,xaa,xac,xab]
    refine Fre.ae (.bool false) (by kernel_rfl) (by kernel_rfl) (by kernel_rfl) (fun W9 hW9=>(bX 34 34 (.tmp 15) (.tmp 16) rfl (bv x).toArray (bv c).toArray rfl rfl (by kernel_rfl) false W9 (by have h9:=cW x c xo hc W9;rwa [HC.out] at h9))) ?_
    simp only [xad,xaa,xac,xab]
    intro w2 hx
    dsimp only [Fre.ended,xas]
    have H2:=ah (Mem.call HM.out hx)
    clear hx
    go_wp2_with fail
    go_roundw
    case rel=>exact ⟨j+1,by omega,by go_num,wV HX.out.2.2 HN.out (of_decide_eq_false HC.out),H2.out⟩
    case measure=>simp [intOf];omega
   ·have HC:=ah hq
    clear hq
    go_wp2_with fail
    refine Fre.aV (X:=Bel) [] (by kernel_rfl) (by kernel_rfl) (by simp) (by simp) (by simp) ?_
    refine Fre.ae (.slice (some ⟨b,off,none⟩) l.length cap) (by kernel_rfl) (by kernel_rfl) (by kernel_rfl) (fun _ _=>by kernel_rfl) ?_
    simp only [xad,xaa,xac,xab]
    refine Fre.ae (.int .i64 (j:Int)) (by kernel_rfl) (by kernel_rfl) (by kernel_rfl) (fun _ _=>by kernel_rfl) ?_
    simp only [xad,xaa,xac,xab]
    refine Fre.ae (.pointer (some ⟨b,off+j*20,none⟩)) (by kernel_rfl) (by kernel_rfl) (by kernel_rfl) (fun W9 hW9=>(aU 27 34 (.tmp 12) (.tmp 13) rfl b off l.length cap j rfl rfl hj2 20 Tryz.underlying27 cK W9)) ?_
    simp only [xad,xaa,xac,xab]
    refine Fre.ae (.agg (bv x).toArray) (by kernel_rfl) (by kernel_rfl) (by kernel_rfl) (fun W9 hW9=>(aj 34 (.tmp 14) rfl b (off+j*20) rfl (bv x) _ W9 (Mem.range (Mem.call HM.out hW9) HX.out.1 HX.out.2.1) Tryz.underlying34 rfl (cP xo))) ?_
    simp only [xad,xaa,xac,xab]
    refine Fre.ae (.agg (bv c).toArray) (by kernel_rfl) (by kernel_rfl) (by kernel_rfl) (fun W9 hW9=>(aj 34 (.tmp 3) rfl w.heap.size (0) rfl (bv c) _ W9 (Blk.range (Mem.blk (Mem.call HM.out hW9) 0 rfl)) Tryz.underlying34 rfl (cP hc))) ?_
    simp only [xad,xaa,xac,xab]
    refine Fre.ae (.bool true) (by kernel_rfl) (by kernel_rfl) (by kernel_rfl) (fun W9 hW9=>(bX 34 34 (.tmp 15) (.tmp 16) rfl (bv x).toArray (bv c).toArray rfl rfl (by kernel_rfl) true W9 (by have h9:=cW x c xo hc W9;rwa [HC.out] at h9))) ?_
    simp only [xad,xaa,xac,xab]
    intro w3 hx
    dsimp only [Fre.ended,xas]
    have H3:=ah (Mem.call HM.out hx)
    clear hx
    go_wp2_with fail
    have hin:decide (c∈l)=true:=decide_eq_true (by have h9:=xak HX.out.2.2;rwa [of_decide_eq_true HC.out] at h9)
    have hbt:=HBB.out.symm.trans hin
    go_ret
    exact ⟨by rw [hbt];rfl,Mem.below H3.out⟩
  ·obtain rfl:j=l.length:=by omega
   have hni:=HN.out
   rw [xaB] at hni
   have hbt:=HBB.out.symm.trans (decide_eq_false hni)
   clear hni
   go_wp2_with fail
   go_ret
   exact ⟨by rw [hbt];rfl,Mem.below HM.out⟩
theorem n4 {l:List Itm} {k:Nat} {z:Itm} {c:Hsh} (h:l[k]?=some z) (hn:∀ y∈l.take k,¬ y.1=c) (hz:¬ z.1=c):∀ y∈l.take (k+1),¬ y.1=c:=fun y hy=>by
 rw [xaz,h] at hy
 rcases xau.1 hy with hy | hy
 ·exact hn y hy
 ·rw [show y=z from by simpa using hy]
  exact hz
theorem za {l:List Itm} {k:Nat} {z:Itm} {c:Hsh} (h:l[k]?=some z) (hn:∀ y∈l.take k,¬ y.1=c) (hz:z.1=c):db l c=some z:=by
 unfold db
 have hk:=(xah.1 h).1
 have e:l=l.take k++z :: l.drop (k+1):=by
  rw [← (xah.1 h).2,← List.drop_eq_getElem_cons hk,List.take_append_drop]
 rw [e,List.find?_append,List.find?_eq_none.2 fun y hy=>by simpa using hn y hy,Option.none_or,List.find?_cons_of_pos (by simpa using hz)]
theorem zb {l:List Itm} {c:Hsh} (hn:∀ y∈l,¬ y.1=c):db l c=none:=List.find?_eq_none.2 fun y hy=>by simpa using hn y hy
theorem nf {l:List Itm} {c:Hsh} {z:Itm} (h:db l c=some z):findD l c=z.2:=by
 unfold findD
 unfold db at h
 rw [h]
 rfl
theorem wQ (w:World) (l:List Itm) (v:Value) (h:eJ.At w w.heap.size [v] l) (c:Hsh) (hc:okH c) (d:Drv) (hd:findD l c=d) (b9:Bool) (hb:(db l c).isSome=b9) :
  Calls Tryz.prog 32 #[v,.agg (bv c).toArray] w fun e w'=>∃ u1 u2,e=.returned (.tuple #[.agg (dC d u1 u2).toArray,.bool b9])∧aK w w.heap.size d u1 u2∧Below w.heap.size w w':=by
 obtain ⟨A,cap,rfl,_,hcm,_,hA⟩:=ak h
 have k9:(l.length:Int)≤9223372036854775807:=by simp only [maxLen] at hcm;omega
 have HA:=ah hA
 have HBB:=ah (xae hd hb)
 clear h hA hcm hd hb
 have H0:=ah (Mem.start w)
 go_enter Tryz.func32,Tryz.ntmps32
 go_wp2_with (first | ((with_reducible refine ag 3 ?_);(refine aW rfl 34 (.tmp 1) rfl (bv c).toArray rfl ?_);intro w1 hn;have H1:=ah (Mem.bh H0.out hn);clear hn;simp only [xad,xaa,xac,xab]) | ((with_reducible refine ag 4 ?_);(refine bq rfl 26 zcD (by kernel_rfl) ?_);intro w2 hn;have H2:=ah (Mem.bh H1.out hn);clear hn;simp only [xad,xaa,xac,xab]))
 go_loopw [6] (fun x6 wr=>∃ j:Nat,j≤l.length∧x6=.int .i64 (j:Int)∧(∀ y∈l.take j,¬ y.1=c)∧Mem w wr [cC w1.heap.size 26 zcD,cC w.heap.size 34 (bv c).toArray]) (fun x6 _=>l.length-(intOf x6).toNat)
 case atStart=>exact ⟨0,by omega,rfl,(fun y hy=>by simp at hy),H2.out⟩
 case round =>
  obtain ⟨wo,rfl⟩:∃ wo,wo=wr:=⟨_,rfl⟩
  obtain ⟨j,hj,rfl,hni,hm⟩:=hrel
  have HM:=ah hm
  have HN:=ah hni
  clear hm hni
  have j0:(0:Int)≤(j:Int):=by omega
  by_cases hj2:j<l.length
  ·have j1:(j:Int)<(l.length:Int):=by omega
   obtain ⟨x,hx⟩:∃ x,l[j]?=some x:=⟨_,xaj (by omega)⟩
   obtain ⟨b,off,rfl,hltb,hE⟩:=HA.out (by omega)
   obtain ⟨cs,hrx,hatx⟩:=hE j x hx
   clear hE
   obtain ⟨v1,v2,rfl,xo,xd⟩:=dx.1 hatx
   obtain ⟨o1,o2⟩:=xd.iy
   have HX:=ah (xae hrx (xae hltb (xae xd hx)))
   clear hrx hltb hx hatx xd
   cases hq:decide (x.1=c)
   ·have HC:=ah hq
    clear hq
    go_wp2_with fail
    refine Fre.aV (X:=Bel) [] (by kernel_rfl) (by kernel_rfl) (by simp) (by simp) (by simp) ?_
    refine Fre.ae (.slice (some ⟨b,off,none⟩) l.length cap) (by kernel_rfl) (by kernel_rfl) (by kernel_rfl) (fun _ _=>by kernel_rfl) ?_
    simp only [xad,xaa,xac,xab]
    refine Fre.ae (.int .i64 (j:Int)) (by kernel_rfl) (by kernel_rfl) (by kernel_rfl) (fun _ _=>by kernel_rfl) ?_
    simp only [xad,xaa,xac,xab]
    refine Fre.ae (.pointer (some ⟨b,off+j*23,none⟩)) (by kernel_rfl) (by kernel_rfl) (by kernel_rfl) (fun W9 hW9=>(aU 40 98 (.tmp 13) (.tmp 14) rfl b off l.length cap j rfl rfl hj2 23 Tryz.underlying40 cY W9)) ?_
    simp only [xad,xaa,xac,xab]
    refine Fre.ae (.pointer (some ⟨b,off+j*23,none⟩)) (by kernel_rfl) (by kernel_rfl) (by kernel_rfl) (fun _ _=>by kernel_rfl) ?_
    simp only [xad,xaa,xac,xab]
    refine Fre.ae (.agg (bv x.1).toArray) (by kernel_rfl) (by kernel_rfl) (by kernel_rfl) (fun W9 hW9=>(aj 34 (.tmp 16) rfl b (off+j*23) rfl (bv x.1) _ W9 (cr (Mem.range (Mem.call HM.out hW9) HX.out.1 HX.out.2.1)) Tryz.underlying34 rfl (cP xo))) ?_
    simp only [xad,xaa,xac,xab]
    refine Fre.ae (.agg (bv c).toArray) (by kernel_rfl) (by kernel_rfl) (by kernel_rfl) (fun W9 hW9=>(aj 34 (.tmp 3) rfl w.heap.size (0) rfl (bv c) _ W9 (Blk.range (Mem.blk (Mem.call HM.out hW9) 1 rfl)) Tryz.underlying34 rfl (cP hc))) ?_
    simp only [xad,xaa,xac,xab]
    refine Fre.ae (.bool false) (by kernel_rfl) (by kernel_rfl) (by kernel_rfl) (fun W9 hW9=>(bX 34 34 (.tmp 17) (.tmp 18) rfl (bv x.1).toArray (bv c).toArray rfl rfl (by kernel_rfl) false W9 (by have h9:=cW x.1 c xo hc W9;rwa [HC.out] at h9))) ?_
    simp only [xad,xaa,xac,xab]
    intro w3 hx
    dsimp only [Fre.ended,xas]
    have H3:=ah (Mem.call HM.out hx)
    clear hx
    go_wp2_with fail
    go_roundw
    case rel=>exact ⟨j+1,by omega,by go_num,n4 HX.out.2.2.2 HN.out (of_decide_eq_false HC.out),H3.out⟩
    case measure=>simp [intOf];omega
   ·have HC:=ah hq
    clear hq
    go_wp2_with fail
    refine Fre.aV (X:=Bel) [] (by kernel_rfl) (by kernel_rfl) (by simp) (by simp) (by simp) ?_
    refine Fre.ae (.slice (some ⟨b,off,none⟩) l.length cap) (by kernel_rfl) (by kernel_rfl) (by kernel_rfl) (fun _ _=>by kernel_rfl) ?_
    simp only [xad,xaa,xac,xab]
    refine Fre.ae (.int .i64 (j:Int)) (by kernel_rfl) (by kernel_rfl) (by kernel_rfl) (fun _ _=>by kernel_rfl) ?_
    simp only [xad,xaa,xac,xab]
    refine Fre.ae (.pointer (some ⟨b,off+j*23,none⟩)) (by kernel_rfl) (by kernel_rfl) (by kernel_rfl) (fun W9 hW9=>(aU 40 98 (.tmp 13) (.tmp 14) rfl b off l.length cap j rfl rfl hj2 23 Tryz.underlying40 cY W9)) ?_
    simp only [xad,xaa,xac,xab]
    refine Fre.ae (.pointer (some ⟨b,off+j*23,none⟩)) (by kernel_rfl) (by kernel_rfl) (by kernel_rfl) (fun _ _=>by kernel_rfl) ?_
    simp only [xad,xaa,xac,xab]
    refine Fre.ae (.agg (bv x.1).toArray) (by kernel_rfl) (by kernel_rfl) (by kernel_rfl) (fun W9 hW9=>(aj 34 (.tmp 16) rfl b (off+j*23) rfl (bv x.1) _ W9 (cr (Mem.range (Mem.call HM.out hW9) HX.out.1 HX.out.2.1)) Tryz.underlying34 rfl (cP xo))) ?_
    simp only [xad,xaa,xac,xab]
    refine Fre.ae (.agg (bv c).toArray) (by kernel_rfl) (by kernel_rfl) (by kernel_rfl) (fun W9 hW9=>(aj 34 (.tmp 3) rfl w.heap.size (0) rfl (bv c) _ W9 (Blk.range (Mem.blk (Mem.call HM.out hW9) 1 rfl)) Tryz.underlying34 rfl (cP hc))) ?_
    simp only [xad,xaa,xac,xab]
    refine Fre.ae (.bool true) (by kernel_rfl) (by kernel_rfl) (by kernel_rfl) (fun W9 hW9=>(bX 34 34 (.tmp 17) (.tmp 18) rfl (bv x.1).toArray (bv c).toArray rfl rfl (by kernel_rfl) true W9 (by have h9:=cW x.1 c xo hc W9;rwa [HC.out] at h9))) ?_
    simp only [xad,xaa,xac,xab]
    intro w4 hx
    dsimp only [Fre.ended,xas]
    have H4:=ah (Mem.call HM.out hx)
    clear hx
    go_wp2_with (first | ((with_reducible refine ag 22 ?_);(refine aa rfl (.pointer (some ⟨b,off+j*23,none⟩)) w4 (aU 40 98 (.tmp 20) (.tmp 21) rfl b off l.length cap j rfl rfl hj2 23 Tryz.underlying40 cY w4) ?_)) | ((with_reducible refine ag 24 ?_);(refine aa rfl (.agg (dC x.2 v1 v2).toArray) w4 (aj 26 (.tmp 23) rfl b (off+j*23+20) rfl (dC x.2 v1 v2) _ w4 (cg xo (Mem.range H4.out HX.out.1 HX.out.2.1)) Tryz.underlying26 rfl (bL x.2 v1 v2)) ?_)) | ((with_reducible refine bI 4 24 ?_);(with_reducible refine ar rfl 26 (.tmp 4) (.tmp 24) rfl w1.heap.size zcD (dC x.2 v1 v2).toArray 26 (Mem.blk H4.out 0 rfl) ?_ ?_ ?_ ?_ ?_ ?_);(exact (dF x.2 v1 v2));(exact dr fX (dF x.2 v1 v2));(exact (lq x.2 o1 o2));rfl;rfl;intro w5 hk hg;have H5:=ah (Mem.st H4.out 0 rfl hk hg);clear hk hg;simp only [xad,xaa,xac,xab]))
    have hfi:=za HX.out.2.2.2 HN.out (of_decide_eq_true HC.out)
    have hbt:b9=true:=HBB.out.2.symm.trans (by rw [hfi];rfl)
    have hdt:d=x.2:=HBB.out.1.symm.trans (nf hfi)
    subst hdt hbt
    refine bodyPost_ret (cB (r1:=.cell 4 26) (r2:=.tmp 5) rfl ⟨⟨_,rfl,im (Blk.range (cs:=dC x.2 v1 v2) (Mem.blk H5.out 0 rfl)) Tryz.underlying26 rfl (bL _ _ _)⟩,rfl,trivial⟩) rfl ?_
    exact ⟨v1,v2,rfl,HX.out.2.2.1,Mem.below H5.out⟩
  ·obtain rfl:j=l.length:=by omega
   have hni:=HN.out
   rw [xaB] at hni
   have hfi:=zb hni
   have hbt:b9=false:=HBB.out.2.symm.trans (by rw [hfi];rfl)
   have hdt:d=(⟨#[]⟩,[],[]):=HBB.out.1.symm.trans (re hfi)
   subst hbt hdt
   clear hni hfi
   go_wp2_with (first | ((with_reducible refine ag 25 ?_);(refine aa rfl (.agg (dC (⟨#[]⟩,[],[]) (.slice none 0 0) (.slice none 0 0)).toArray) wo (by kernel_rfl) ?_)) | ((with_reducible refine bI 4 25 ?_);(with_reducible refine ar rfl 26 (.tmp 4) (.tmp 25) rfl w1.heap.size zcD (dC (⟨#[]⟩,[],[]) (.slice none 0 0) (.slice none 0 0)).toArray 26 (Mem.blk HM.out 0 rfl) ?_ ?_ ?_ ?_ ?_ ?_);(exact (dF (⟨#[]⟩,[],[]) (.slice none 0 0) (.slice none 0 0)));(exact dr fX (dF (⟨#[]⟩,[],[]) (.slice none 0 0) (.slice none 0 0)));(exact (lq (⟨#[]⟩,[],[]) rfl rfl));rfl;rfl;intro w6 hk hg;have H6:=ah (Mem.st HM.out 0 rfl hk hg);clear hk hg;simp only [xad,xaa,xac,xab]))
   refine bodyPost_ret (cB (r1:=.cell 4 26) (r2:=.tmp 5) rfl ⟨⟨_,rfl,im (Blk.range (cs:=dC (⟨#[]⟩,[],[]) (.slice none 0 0) (.slice none 0 0)) (Mem.blk H6.out 0 rfl)) Tryz.underlying26 rfl (bL _ _ _)⟩,rfl,trivial⟩) rfl ?_
   exact ⟨_,_,rfl,zz _ _,Mem.below H6.out⟩
theorem cS {x:Nam} {w:World} {b o:Nat} (h:w.rangeAt b o (nC x)):w.rangeAt b (o+1) (iC x.2):=fH (pre:=[.string x.1]) (post:=[]) h (by simp [nC]) rfl
theorem lz {x:Inp} (hx:okI x) {w:World} {b o:Nat} (h:w.rangeAt b o (iC x)):w.rangeAt b (o+21) (bv x.2.1):=fH (pre:=pC x.1) (post:=[.bool x.2.2]) h rfl (bQ hx.1)
theorem iI {x:Inp} (hx:okI x) {w:World} {b o:Nat} (h:w.rangeAt b o (iC x)):w.rangeAt b (o+41) [.bool x.2.2]:=fH (pre:=pC x.1++bv x.2.1) (post:=[]) h (by simp [iC]) (by rw [xap,bQ hx.1,bvL,hx.2])
theorem BB {x:Inp} (hx:okI x):(iC x).length=42:=by
 unfold iC
 rw [xap,xap,bQ hx.1,bvL,hx.2]
 rfl
theorem qi {x:Inp} (hx:okI x):(Tryz.prog.info? 85).map (·.size)=some (iC x).length:=by rw [BB hx];kernel_rfl
theorem pa {x:Inp} (hx:okI x):(Tryz.prog.info? 85).map (·.size)=some (iC x).toArray.size:=by rw [xal];exact qi hx
theorem Bz (x:Inp):(iC x).toArray.all (·.oneCell')=true:=all_oneCell_toArray fun v hv=>fQ (⟨#[]⟩,x) v (List.mem_cons_of_mem _ hv)
theorem uq:(Tryz.prog.info? 85).map (·.size)=some zcI.size:=by kernel_rfl
theorem ji {w:World} {B:Nat} {u:Value} {l:List Hsh} (h:w.ownsRow B 34 20 u l.length (l.flatMap bv)) (hl:∀ x∈l,okH x):eW.At w w.heap.size [u] l :=
 dg (L:=gj) (f:=bv) (by decide) h _ (xai _) fun x hx=>dt.2 ⟨rfl,hl x hx⟩
theorem uy {l:List Nam} {c:Hsh} (h:c∈az l):∃ x∈l,x.2.2.1=c:=by
 unfold az at h
 have:∀ (l:List Nam) (out:List Hsh),c∈l.foldl (fun out x=>if x.2.2.2=true∧x.2.2.1 ∉ out then out++[x.2.2.1] else out) out→c∈out∨∃ x∈l,x.2.2.1=c:=by
  intro l
  induction l with
  | nil=>exact fun out h=>.inl h
  | cons x l ih =>
   intro out h
   rw [List.foldl_cons] at h
   rcases ih _ h with h | ⟨y,hy,h⟩
   ·split at h
    ·rcases xau.1 h with h | h
     ·exact .inl h
     ·exact .inr ⟨x,by simp,(xan.1 h).symm⟩
    ·exact .inl h
   ·exact .inr ⟨y,List.mem_cons_of_mem _ hy,h⟩
 rcases this l [] h with h | h
 ·cases h
 ·exact h
theorem eK (w:World) (d:Drv) (v1 v2:Value) (h:aK w w.heap.size d v1 v2) (hl:d.2.1.length≤1000000) :
  Calls Tryz.prog 47 #[.agg (dC d v1 v2).toArray] w fun e w'=>∃ A cap,e=.returned (.slice A (az d.2.1).length cap)∧Mem w w' [aq w.heap.size 34 20 (.slice A (az d.2.1).length cap) (az d.2.1).length ((az d.2.1).flatMap bv)]:=by
 have o2:=h.iy.2
 have hok:∀ x∈d.2.1,okN x:=h.Ca
 have HOK:=ah hok
 obtain ⟨A,cap,rfl,_,_,_,hA⟩:=ak h.ins
 have HA:=ah hA
 clear h hA hok
 obtain ⟨inm,hih,hq0,hq1,hq2⟩:=info_parts dM
 have HJ:=ah (xae hih (xae hq0 (xae hq1 hq2)))
 clear hih hq0 hq1 hq2
 have H0:=ah (Mem.start w)
 go_enter Tryz.func47,Tryz.ntmps47
 go_wp2_with (((with_reducible refine ag 1 ?_);(refine aW rfl 26 (.tmp 0) rfl (dC d (.slice A d.2.1.length cap) v2).toArray rfl ?_);intro w1 hn;have H1:=ah (Mem.bh H0.out hn);clear hn;simp only [xad,xaa,xac,xab]))
 go_loopw [3,4] (fun x3 x4 wr=>∃ (j:Nat) (A2:Option Addr) (c2:Nat),j≤d.2.1.length∧x3=.slice A2 (az (d.2.1.take j)).length c2∧x4=.int .i64 (j:Int)∧Mem w wr [aq w.heap.size 34 20 (.slice A2 (az (d.2.1.take j)).length c2) (az (d.2.1.take j)).length ((az (d.2.1.take j)).flatMap bv),cC w.heap.size 26 (dC d (.slice A d.2.1.length cap) v2).toArray]) (fun _ x4 _=>d.2.1.length-(intOf x4).toNat)
 case atStart=>exact ⟨0,none,0,by omega,rfl,rfl,(Mem.dw H1.out _ _ _)⟩
 case round =>
  obtain ⟨wo,rfl⟩:∃ wo,wo=wr:=⟨_,rfl⟩
  obtain ⟨j,A2,c2,hj,rfl,rfl,hm⟩:=hrel
  have HM:=ah hm
  clear hm
  have j0:(0:Int)≤(j:Int):=by omega
  have hcl:=dZ d.2.1 j
  by_cases hj2:j<d.2.1.length
  ·have j1:(j:Int)<(d.2.1.length:Int):=by omega
   obtain ⟨x,hx⟩:∃ x,d.2.1[j]?=some x:=⟨_,xaj (by omega)⟩
   obtain ⟨b,off,rfl,hltb,hE⟩:=HA.out (by omega)
   obtain ⟨cs,hrx,hatx⟩:=hE j x hx
   clear hE
   obtain ⟨rfl,xo⟩:=bw.1 hatx
   have hst:=oR d.2.1 j x hx
   have HX:=ah (xae hrx (xae hltb hx))
   clear hrx hltb hx hatx
   have hho:∀ z∈az (d.2.1.take j),okH z:=fun z hz=>by
    obtain ⟨y,hy,rfl⟩:=uy hz
    exact (HOK.out y (List.mem_of_mem_take hy)).2.2
   have HHO:=ah hho
   clear hho
   obtain ⟨is_,his⟩:∃ b,x.2.2.2=b:=⟨_,rfl⟩
   cases is_
   ·rw [if_neg (by rw [his];simp)] at hst
    go_wp2_with (first | ((with_reducible refine ag 8 ?_);(refine aa rfl ((.slice (some ⟨b,off,none⟩) d.2.1.length cap)) wo (exec_load_cell 23 (.tmp 7) rfl ⟨w.heap.size,1,none⟩ rfl _ _ wo Tryz.underlying23 rfl (range_cell (cD (Blk.range (Mem.blk HM.out 1 rfl))))) ?_)) | ((with_reducible refine ag 14 ?_);(refine aa rfl ((.slice (some ⟨b,off,none⟩) d.2.1.length cap)) wo (exec_load_cell 23 (.tmp 13) rfl ⟨w.heap.size,1,none⟩ rfl _ _ wo Tryz.underlying23 rfl (range_cell (cD (Blk.range (Mem.blk HM.out 1 rfl))))) ?_)) | ((with_reducible refine ag 16 ?_);(refine aa rfl (.pointer (some ⟨b,off+j*43,none⟩)) wo (aU 23 87 (.tmp 14) (.tmp 15) rfl b off d.2.1.length cap j rfl rfl hj2 43 Tryz.underlying23 aY wo) ?_)) | ((with_reducible refine ag 18 ?_);(refine aa rfl (.agg (iC x.2).toArray) wo (aj 85 (.tmp 17) rfl b (off+j*43+1) rfl (iC x.2) _ wo (cS (Mem.range HM.out HX.out.1 HX.out.2.1)) Tryz.underlying85 rfl (qi xo.2)) ?_)) | ((with_reducible refine ag 5 ?_);(refine bq rfl 85 zcI (by kernel_rfl) ?_);intro w2 hn;have H2:=ah (Mem.bh HM.out hn);clear hn;simp only [xad,xaa,xac,xab]) | ((with_reducible refine bI 5 18 ?_);(with_reducible refine ar rfl 85 (.tmp 5) (.tmp 18) rfl wo.heap.size zcI (iC x.2).toArray 85 (Mem.blk H2.out 0 rfl) ?_ ?_ ?_ ?_ ?_ ?_);(exact (pa xo.2));(exact dr uq (pa xo.2));(exact (Bz x.2));rfl;rfl;intro w3 hk hg;have H3:=ah (Mem.st H2.out 0 rfl hk hg);clear hk hg;simp only [xad]) | ((with_reducible refine ag 20 ?_);(refine aa rfl (.bool false) w3 (by rw [← his];exact exec_load_cell 4 (.tmp 19) rfl ⟨wo.heap.size,41,none⟩ rfl _ _ w3 Tryz.underlying4 rfl (range_cell (iI xo.2 (Blk.range (Mem.blk H3.out 0 rfl))))) ?_)))
    go_roundw
    case rel=>exact ⟨j+1,A2,c2,by omega,by rw [hst],by go_num,by rw [hst];exact Mem.pick H3.out [1,2] (by decide) rfl⟩
    case measure=>simp [intOf];omega
   ·cases hq:decide (x.2.2.1∈az (d.2.1.take j))
    ·have hq9:=of_decide_eq_false hq
     have HC:=ah hq
     clear hq
     rw [if_pos ⟨his,hq9⟩] at hst
     go_wp2_with (first | ((with_reducible refine ag 8 ?_);(refine aa rfl ((.slice (some ⟨b,off,none⟩) d.2.1.length cap)) wo (exec_load_cell 23 (.tmp 7) rfl ⟨w.heap.size,1,none⟩ rfl _ _ wo Tryz.underlying23 rfl (range_cell (cD (Blk.range (Mem.blk HM.out 1 rfl))))) ?_)) | ((with_reducible refine ag 14 ?_);(refine aa rfl ((.slice (some ⟨b,off,none⟩) d.2.1.length cap)) wo (exec_load_cell 23 (.tmp 13) rfl ⟨w.heap.size,1,none⟩ rfl _ _ wo Tryz.underlying23 rfl (range_cell (cD (Blk.range (Mem.blk HM.out 1 rfl))))) ?_)) | ((with_reducible refine ag 16 ?_);(refine aa rfl (.pointer (some ⟨b,off+j*43,none⟩)) wo (aU 23 87 (.tmp 14) (.tmp 15) rfl b off d.2.1.length cap j rfl rfl hj2 43 Tryz.underlying23 aY wo) ?_)) | ((with_reducible refine ag 18 ?_);(refine aa rfl (.agg (iC x.2).toArray) wo (aj 85 (.tmp 17) rfl b (off+j*43+1) rfl (iC x.2) _ wo (cS (Mem.range HM.out HX.out.1 HX.out.2.1)) Tryz.underlying85 rfl (qi xo.2)) ?_)) | ((with_reducible refine ag 5 ?_);(refine bq rfl 85 zcI (by kernel_rfl) ?_);intro w4 hn;have H4:=ah (Mem.bh HM.out hn);clear hn;simp only [xad,xaa,xac,xab]) | ((with_reducible refine bI 5 18 ?_);(with_reducible refine ar rfl 85 (.tmp 5) (.tmp 18) rfl wo.heap.size zcI (iC x.2).toArray 85 (Mem.blk H4.out 0 rfl) ?_ ?_ ?_ ?_ ?_ ?_);(exact (pa xo.2));(exact dr uq (pa xo.2));(exact (Bz x.2));rfl;rfl;intro w5 hk hg;have H5:=ah (Mem.st H4.out 0 rfl hk hg);clear hk hg;simp only [xad]) | ((with_reducible refine ag 20 ?_);(refine aa rfl (.bool true) w5 (by rw [← his];exact exec_load_cell 4 (.tmp 19) rfl ⟨wo.heap.size,41,none⟩ rfl _ _ w5 Tryz.underlying4 rfl (range_cell (iI xo.2 (Blk.range (Mem.blk H5.out 0 rfl))))) ?_)) | ((with_reducible refine ag 24 ?_);(refine aC (by kernel_rfl) (.agg (bv x.2.2.1).toArray) w5 (aj 34 (.tmp 23) rfl wo.heap.size (21) rfl (bv x.2.2.1) _ w5 (lz xo.2 (Blk.range (Mem.blk H5.out 0 rfl))) Tryz.underlying34 rfl (cP xo.2.2)) ?_)))
     refine (fm w5 (az (d.2.1.take j)) _ (ji (Mem.own H5.out 1 rfl) HHO.out) x.2.2.1 xo.2.2 false HC.out).mono ?_
     rintro e w6 ⟨rfl,hb⟩
     dsimp only
     have H6:=ah (Mem.call H5.out hb)
     clear hb
     go_wp2_with (first | ((with_reducible refine ag 30 ?_);(refine aa rfl (.agg (bv x.2.2.1).toArray) w6 (aj 34 (.tmp 29) rfl wo.heap.size (21) rfl (bv x.2.2.1) _ w6 (lz xo.2 (Blk.range (Mem.blk H6.out 0 rfl))) Tryz.underlying34 rfl (cP xo.2.2)) ?_)) | ((with_reducible refine ag 31 ?_);(refine aG rfl 27 (.tmp 30) rfl 34 20 (.agg zcH) (.agg (bv x.2.2.1).toArray) rfl Tryz.underlying27 cK (by decide) (by decide) (fun w=>by kernel_rfl) (by rw [Value.cells,xal,bvL];exact xo.2.2) ?_);intro w7 hn;have H7:=ah (Mem.bh H6.out hn);clear hn;simp only [xad,xaa,xac,xab]) | (at_builtin;((with_reducible refine ag 32 ?_);refine aD rfl _ _ 27 rfl w.heap.size 34 _ _ 20 20 Tryz.underlying27 HJ.out.1 HJ.out.2.1 HJ.out.2.2.1 HJ.out.2.2.2 rfl (by decide) ((.slice A2 (az (d.2.1.take j)).length c2)) ((az (d.2.1.take j)).length) ((az (d.2.1.take j)).flatMap bv) (Mem.own H7.out 2 rfl) ((some ⟨w6.heap.size,0,none⟩)) (1) (1) (bv x.2.2.1) (bl (n:=20) (m:=1) (Mem.blk H7.out 0 rfl) (by rw [bvL];exact xo.2.2) (bv1 _)) ?hm1 ?hb1 ?hz1 rfl rfl ?_)))
     case hm1=>simp only [maxLen];omega
     case hb1=>omega
     case hz1=>exact (Mem.below H7.out).size
     intro u9 w8 own9 gr9 hp9
     have own8:w8.ownsRow w.heap.size 34 20 u9 (az (d.2.1.take j)++[x.2.2.1]).length ((az (d.2.1.take j)++[x.2.2.1]).flatMap bv):=by simpa using own9
     obtain ⟨A9,c9,rfl⟩:=aI own8
     have H8:=ah (Mem.app H7.out 2 rfl own8 gr9 hp9)
     clear own9 own8 gr9 hp9
     go_wp2_with fail
     go_roundw
     case rel=>exact ⟨j+1,A9,c9,by omega,by rw [hst],by go_num,by rw [hst];exact Mem.pick H8.out [2,3] (by decide) rfl⟩
     case measure=>simp [intOf];omega
    ·have hq9:=of_decide_eq_true hq
     have HC:=ah hq
     clear hq
     rw [if_neg (by rintro ⟨_,h⟩;exact h hq9)] at hst
     go_wp2_with (first | ((with_reducible refine ag 8 ?_);(refine aa rfl ((.slice (some ⟨b,off,none⟩) d.2.1.length cap)) wo (exec_load_cell 23 (.tmp 7) rfl ⟨w.heap.size,1,none⟩ rfl _ _ wo Tryz.underlying23 rfl (range_cell (cD (Blk.range (Mem.blk HM.out 1 rfl))))) ?_)) | ((with_reducible refine ag 14 ?_);(refine aa rfl ((.slice (some ⟨b,off,none⟩) d.2.1.length cap)) wo (exec_load_cell 23 (.tmp 13) rfl ⟨w.heap.size,1,none⟩ rfl _ _ wo Tryz.underlying23 rfl (range_cell (cD (Blk.range (Mem.blk HM.out 1 rfl))))) ?_)) | ((with_reducible refine ag 16 ?_);(refine aa rfl (.pointer (some ⟨b,off+j*43,none⟩)) wo (aU 23 87 (.tmp 14) (.tmp 15) rfl b off d.2.1.length cap j rfl rfl hj2 43 Tryz.underlying23 aY wo) ?_)) | ((with_reducible refine ag 18 ?_);(refine aa rfl (.agg (iC x.2).toArray) wo (aj 85 (.tmp 17) rfl b (off+j*43+1) rfl (iC x.2) _ wo (cS (Mem.range HM.out HX.out.1 HX.out.2.1)) Tryz.underlying85 rfl (qi xo.2)) ?_)) | ((with_reducible refine ag 5 ?_);(refine bq rfl 85 zcI (by kernel_rfl) ?_);intro w9 hn;have H9:=ah (Mem.bh HM.out hn);clear hn;simp only [xad,xaa,xac,xab]) | ((with_reducible refine bI 5 18 ?_);(with_reducible refine ar rfl 85 (.tmp 5) (.tmp 18) rfl wo.heap.size zcI (iC x.2).toArray 85 (Mem.blk H9.out 0 rfl) ?_ ?_ ?_ ?_ ?_ ?_);(exact (pa xo.2));(exact dr uq (pa xo.2));(exact (Bz x.2));rfl;rfl;intro w10 hk hg;have H10:=ah (Mem.st H9.out 0 rfl hk hg);clear hk hg;simp only [xad]) | ((with_reducible refine ag 20 ?_);(refine aa rfl (.bool true) w10 (by rw [← his];exact exec_load_cell 4 (.tmp 19) rfl ⟨wo.heap.size,41,none⟩ rfl _ _ w10 Tryz.underlying4 rfl (range_cell (iI xo.2 (Blk.range (Mem.blk H10.out 0 rfl))))) ?_)) | ((with_reducible refine ag 24 ?_);(refine aC (by kernel_rfl) (.agg (bv x.2.2.1).toArray) w10 (aj 34 (.tmp 23) rfl wo.heap.size (21) rfl (bv x.2.2.1) _ w10 (lz xo.2 (Blk.range (Mem.blk H10.out 0 rfl))) Tryz.underlying34 rfl (cP xo.2.2)) ?_)))
     refine (fm w10 (az (d.2.1.take j)) _ (ji (Mem.own H10.out 1 rfl) HHO.out) x.2.2.1 xo.2.2 true HC.out).mono ?_
     rintro e w11 ⟨rfl,hb⟩
     dsimp only
     have H11:=ah (Mem.call H10.out hb)
     clear hb
     go_wp2_with fail
     go_roundw
     case rel=>exact ⟨j+1,A2,c2,by omega,by rw [hst],by go_num,by rw [hst];exact Mem.pick H11.out [1,2] (by decide) rfl⟩
     case measure=>simp [intOf];omega
  ·obtain rfl:j=d.2.1.length:=by omega
   rw [xaB] at HM
   go_wp2_with (((with_reducible refine ag 8 ?_);(refine aa rfl ((.slice A d.2.1.length cap)) wo (exec_load_cell 23 (.tmp 7) rfl ⟨w.heap.size,1,none⟩ rfl _ _ wo Tryz.underlying23 rfl (range_cell (cD (Blk.range (Mem.blk HM.out 1 rfl))))) ?_)))
   go_wp2_with fail
   go_ret
   exact ⟨A2,c2,rfl,Mem.pick HM.out [0] (by decide) rfl⟩
end Go.Proofs.YtomnhnmciopiiaaGreat
end
section
namespace Go.Proofs.YtomnhnmciopiiaaGreat
open Go Go.RowKit Go.Maps
theorem mZ {ρ:Operand→Value} {o:Oper} (t:TypeId) (x y z:Operand) (ho:o.op=.slice t x (some y) (some z) none) (k:Int) (hx:ρ x=.string eE) (hy:ρ y=.int .u8 k) (hz:ρ z=.int .u8 (k+1)) (h0:0≤k) (h1:k<16) (ht:Tryz.prog.underlying t=some .string) (w:World) :
  (execOp ρ o).run Tryz.prog w=.ok (.value (.string ⟨#[a6 k]⟩)) w:=by
 refine ie t x (some y) (some z) none ho _ (fun W=>?_) w
 rw [hx,Option.map_some,Option.map_some,hy,hz,run_sliceAt_string _ t _ _ _ _ ht]
 have h:=run_slice_string (P:=Tryz.prog) W t eE .u8 .u8 k (k+1) ht h0 (by omega) (by rw [show eE.size=16 from rfl];omega)
 refine h.trans ?_
 obtain ⟨n,rfl⟩:=Int.eq_ofNat_of_zero_le h0
 have h3:∀ k:Fin 16,eE.extract k.val (k.val+1)=⟨#[a6 (k.val:Int)]⟩:=by decide
 have h4:=h3 ⟨n,by omega⟩
 dsimp only at h4
 rw [show ((n:Int)+1).toNat=n+1 by omega,Int.toNat_natCast,h4]
theorem xM {l:List Int} {j:Nat} {c:Int} (h:l[j]?=some c):(⟨(ck (l.take (j+1))).toArray⟩:ByteArray)=(⟨(ck (l.take j)).toArray⟩++⟨#[a6 (c / 16)]⟩)++⟨#[a6 (c % 16)]⟩:=by
 rw [xaz,h,ck,List.flatMap_append]
 apply ByteArray.ext
 simp [ck,xbm]
theorem zy (x:Int) (h0:0≤x) (h1:x≤255):xbf .u8 x=x:=by
 simp [xbf,IntKind.signed,IntKind.bits]
 omega
theorem na {P:Program} {ρ:Operand→Value} {o:Oper} (x y:Operand) (t r:TypeId) (ho:o.op=.binOp .quo t x y r) (c:Int) (hx:ρ x=.int .u8 c) (hy:ρ y=.int .u8 16) (h0:0≤c) (h1:c≤255) (W:World):(execOp ρ o).run P W=.ok (.value (.int .u8 (c / 16))) W:=by
 unfold execOp
 simp [ho,hx,hy,go_sem,eqGuard,binOp]
 rw [Int.tdiv_eq_ediv_of_nonneg h0,zy _ (by omega) (by omega)]
theorem nc {P:Program} {ρ:Operand→Value} {o:Oper} (x y:Operand) (t r:TypeId) (ho:o.op=.binOp .rem t x y r) (c:Int) (hx:ρ x=.int .u8 c) (hy:ρ y=.int .u8 16) (h0:0≤c) (h1:c≤255) (W:World):(execOp ρ o).run P W=.ok (.value (.int .u8 (c % 16))) W:=by
 unfold execOp
 simp [ho,hx,hy,go_sem,eqGuard,binOp]
 rw [Int.tmod_eq_emod_of_nonneg h0]
theorem o0 {P:Program} {ρ:Operand→Value} {o:Oper} (x y:Operand) (t r:TypeId) (ho:o.op=.binOp .add t x y r) (c:Int) (hx:ρ x=.int .u8 c) (hy:ρ y=.int .u8 1) (h0:0≤c) (h1:c≤254) (W:World):(execOp ρ o).run P W=.ok (.value (.int .u8 (c+1))) W:=by
 unfold execOp
 simp [ho,hx,hy,go_sem,eqGuard,binOp]
 rw [zy _ (by omega) (by omega)]
theorem se (w:World) (l:List Int) (v:Value) (h:b5.At w w.heap.size [v] l) (hl:l.length≤1000000) :
  Calls Tryz.prog 90 #[v] w fun e w'=>e=.returned (.string ⟨(cH l).toArray⟩)∧Below w.heap.size w w':=by
 obtain ⟨A,cap,rfl,_,_,_,hA⟩:=ak h
 have HA:=ah hA
 clear h hA
 have H0:=ah (Mem.start w)
 go_enter Tryz.func90,Tryz.ntmps90
 go_wp2_with fail
 go_loopw [4,5] (fun x4 x5 wr=>∃ j:Nat,j≤l.length∧x4=.string ⟨(ck (l.take j)).toArray⟩∧x5=.int .i64 (j:Int)∧Mem w wr []) (fun _ x5 _=>l.length-(intOf x5).toNat)
 case atStart=>exact ⟨0,by omega,rfl,rfl,H0.out⟩
 case round =>
  obtain ⟨wo,rfl⟩:∃ wo,wo=wr:=⟨_,rfl⟩
  obtain ⟨j,hj,rfl,rfl,hm⟩:=hrel
  have HM:=ah hm
  clear hm
  have j0:(0:Int)≤(j:Int):=by omega
  by_cases hj2:j<l.length
  ·have j1:(j:Int)<(l.length:Int):=by omega
   obtain ⟨c,hc⟩:∃ c,l[j]?=some c:=⟨_,xaj (by omega)⟩
   obtain ⟨b,off,rfl,hltb,hE⟩:=HA.out (by omega)
   obtain ⟨cs,hrc,hatc⟩:=hE j c hc
   clear hE
   obtain ⟨rfl,co⟩:=ku.1 hatc
   have hc9:0≤c∧c≤255:=by simp [Lit.wf,IntKind.min,IntKind.max,IntKind.signed,IntKind.bits] at co;omega
   obtain ⟨c0,c1⟩:=hc9
   have HX:=ah (xae hrc (xae hltb hc))
   have hsl:(ck (l.take j)).length≤2*l.length:=by rw [iz,xaJ];omega
   clear hrc hltb hc hatc
   obtain ⟨S,hS⟩:∃ S:ByteArray,S=⟨(ck (l.take j)).toArray⟩:=⟨_,rfl⟩
   have hSn:S.size≤2000000:=by rw [hS];show (ck (l.take j)).toArray.size≤_;rw [xal];omega
   rw [← hS]
   have HSS:=ah hS
   clear hS hsl
   go_wp2_with fail
   refine Fre.aV (X:=Bel) [] (by kernel_rfl) (by kernel_rfl) (by simp) (by simp) (by simp) ?_
   refine Fre.ae (.string S) (by kernel_rfl) (by kernel_rfl) (by kernel_rfl) (fun _ _=>by kernel_rfl) ?_
   simp only [xad,xaa,xac,xab]
   refine Fre.ae (.string eE) (by kernel_rfl) (by kernel_rfl) (by kernel_rfl) (fun _ _=>by kernel_rfl) ?_
   simp only [xad,xaa,xac,xab]
   refine Fre.ae (.slice (some ⟨b,off,none⟩) l.length cap) (by kernel_rfl) (by kernel_rfl) (by kernel_rfl) (fun _ _=>by kernel_rfl) ?_
   simp only [xad,xaa,xac,xab]
   refine Fre.ae (.int .i64 (j:Int)) (by kernel_rfl) (by kernel_rfl) (by kernel_rfl) (fun _ _=>by kernel_rfl) ?_
   simp only [xad,xaa,xac,xab]
   refine Fre.ae (.pointer (some ⟨b,off+j*1,none⟩)) (by kernel_rfl) (by kernel_rfl) (by kernel_rfl) (fun W9 hW9=>(aU 24 5 (.tmp 14) (.tmp 15) rfl b off l.length cap j rfl rfl hj2 1 Tryz.underlying24 (by kernel_rfl) W9)) ?_
   simp only [xad,xaa,xac,xab]
   refine Fre.ae (.int .u8 c) (by kernel_rfl) (by kernel_rfl) (by kernel_rfl) (fun W9 hW9=>(exec_load_cell 5 (.tmp 16) rfl ⟨b,off+j*1,none⟩ rfl _ _ W9 Tryz.underlying5 rfl (range_cell (Mem.range (Mem.call HM.out hW9) HX.out.1 HX.out.2.1)))) ?_
   simp only [xad,xaa,xac,xab]
   refine Fre.ae (.int .u8 (c / 16)) (by kernel_rfl) (by kernel_rfl) (by kernel_rfl) (fun W9 hW9=>na (.tmp 17) (.const (.int .u8 16)) 5 5 rfl c rfl rfl c0 c1 W9) ?_
   simp only [xad,xaa,xac,xab]
   refine Fre.ae (.slice (some ⟨b,off,none⟩) l.length cap) (by kernel_rfl) (by kernel_rfl) (by kernel_rfl) (fun _ _=>by kernel_rfl) ?_
   simp only [xad,xaa,xac,xab]
   refine Fre.ae (.int .i64 (j:Int)) (by kernel_rfl) (by kernel_rfl) (by kernel_rfl) (fun _ _=>by kernel_rfl) ?_
   simp only [xad,xaa,xac,xab]
   refine Fre.ae (.pointer (some ⟨b,off+j*1,none⟩)) (by kernel_rfl) (by kernel_rfl) (by kernel_rfl) (fun W9 hW9=>(aU 24 5 (.tmp 19) (.tmp 20) rfl b off l.length cap j rfl rfl hj2 1 Tryz.underlying24 (by kernel_rfl) W9)) ?_
   simp only [xad,xaa,xac,xab]
   refine Fre.ae (.int .u8 c) (by kernel_rfl) (by kernel_rfl) (by kernel_rfl) (fun W9 hW9=>(exec_load_cell 5 (.tmp 21) rfl ⟨b,off+j*1,none⟩ rfl _ _ W9 Tryz.underlying5 rfl (range_cell (Mem.range (Mem.call HM.out hW9) HX.out.1 HX.out.2.1)))) ?_
   simp only [xad,xaa,xac,xab]
   refine Fre.ae (.int .u8 (c / 16)) (by kernel_rfl) (by kernel_rfl) (by kernel_rfl) (fun W9 hW9=>na (.tmp 22) (.const (.int .u8 16)) 5 5 rfl c rfl rfl c0 c1 W9) ?_
   simp only [xad,xaa,xac,xab]
   refine Fre.ae (.int .u8 (c / 16+1)) (by kernel_rfl) (by kernel_rfl) (by kernel_rfl) (fun W9 hW9=>o0 (.tmp 23) (.const (.int .u8 1)) 5 5 rfl (c / 16) rfl rfl (by omega) (by omega) W9) ?_
   simp only [xad,xaa,xac,xab]
   refine Fre.ae (.string ⟨#[a6 (c / 16)]⟩) (by kernel_rfl) (by kernel_rfl) (by kernel_rfl) (fun W9 hW9=>mZ 9 (.tmp 13) (.tmp 18) (.tmp 24) rfl (c / 16) rfl rfl rfl (by omega) (by omega) Tryz.underlying9 W9) ?_
   simp only [xad,xaa,xac,xab]
   refine Fre.ae (.string (S++⟨#[a6 (c / 16)]⟩)) (by kernel_rfl) (by kernel_rfl) (by kernel_rfl) (fun W9 hW9=>aZ 9 (.tmp 12) (.tmp 25) 9 rfl (S) (⟨#[a6 (c / 16)]⟩) rfl rfl (by show S.size+1≤_;omega) W9) ?_
   simp only [xad,xaa,xac,xab]
   refine Fre.ae (.string eE) (by kernel_rfl) (by kernel_rfl) (by kernel_rfl) (fun _ _=>by kernel_rfl) ?_
   simp only [xad,xaa,xac,xab]
   refine Fre.ae (.slice (some ⟨b,off,none⟩) l.length cap) (by kernel_rfl) (by kernel_rfl) (by kernel_rfl) (fun _ _=>by kernel_rfl) ?_
   simp only [xad,xaa,xac,xab]
   refine Fre.ae (.int .i64 (j:Int)) (by kernel_rfl) (by kernel_rfl) (by kernel_rfl) (fun _ _=>by kernel_rfl) ?_
   simp only [xad,xaa,xac,xab]
   refine Fre.ae (.pointer (some ⟨b,off+j*1,none⟩)) (by kernel_rfl) (by kernel_rfl) (by kernel_rfl) (fun W9 hW9=>(aU 24 5 (.tmp 28) (.tmp 29) rfl b off l.length cap j rfl rfl hj2 1 Tryz.underlying24 (by kernel_rfl) W9)) ?_
   simp only [xad,xaa,xac,xab]
   refine Fre.ae (.int .u8 c) (by kernel_rfl) (by kernel_rfl) (by kernel_rfl) (fun W9 hW9=>(exec_load_cell 5 (.tmp 30) rfl ⟨b,off+j*1,none⟩ rfl _ _ W9 Tryz.underlying5 rfl (range_cell (Mem.range (Mem.call HM.out hW9) HX.out.1 HX.out.2.1)))) ?_
   simp only [xad,xaa,xac,xab]
   refine Fre.ae (.int .u8 (c % 16)) (by kernel_rfl) (by kernel_rfl) (by kernel_rfl) (fun W9 hW9=>nc (.tmp 31) (.const (.int .u8 16)) 5 5 rfl c rfl rfl c0 c1 W9) ?_
   simp only [xad,xaa,xac,xab]
   refine Fre.ae (.slice (some ⟨b,off,none⟩) l.length cap) (by kernel_rfl) (by kernel_rfl) (by kernel_rfl) (fun _ _=>by kernel_rfl) ?_
   simp only [xad,xaa,xac,xab]
   refine Fre.ae (.int .i64 (j:Int)) (by kernel_rfl) (by kernel_rfl) (by kernel_rfl) (fun _ _=>by kernel_rfl) ?_
   simp only [xad,xaa,xac,xab]
   refine Fre.ae (.pointer (some ⟨b,off+j*1,none⟩)) (by kernel_rfl) (by kernel_rfl) (by kernel_rfl) (fun W9 hW9=>(aU 24 5 (.tmp 33) (.tmp 34) rfl b off l.length cap j rfl rfl hj2 1 Tryz.underlying24 (by kernel_rfl) W9)) ?_
   simp only [xad,xaa,xac,xab]
   refine Fre.ae (.int .u8 c) (by kernel_rfl) (by kernel_rfl) (by kernel_rfl) (fun W9 hW9=>(exec_load_cell 5 (.tmp 35) rfl ⟨b,off+j*1,none⟩ rfl _ _ W9 Tryz.underlying5 rfl (range_cell (Mem.range (Mem.call HM.out hW9) HX.out.1 HX.out.2.1)))) ?_
   simp only [xad,xaa,xac,xab]
   refine Fre.ae (.int .u8 (c % 16)) (by kernel_rfl) (by kernel_rfl) (by kernel_rfl) (fun W9 hW9=>nc (.tmp 36) (.const (.int .u8 16)) 5 5 rfl c rfl rfl c0 c1 W9) ?_
   simp only [xad,xaa,xac,xab]
   refine Fre.ae (.int .u8 (c % 16+1)) (by kernel_rfl) (by kernel_rfl) (by kernel_rfl) (fun W9 hW9=>o0 (.tmp 37) (.const (.int .u8 1)) 5 5 rfl (c % 16) rfl rfl (by omega) (by omega) W9) ?_
   simp only [xad,xaa,xac,xab]
   refine Fre.ae (.string ⟨#[a6 (c % 16)]⟩) (by kernel_rfl) (by kernel_rfl) (by kernel_rfl) (fun W9 hW9=>mZ 9 (.tmp 27) (.tmp 32) (.tmp 38) rfl (c % 16) rfl rfl rfl (by omega) (by omega) Tryz.underlying9 W9) ?_
   simp only [xad,xaa,xac,xab]
   refine Fre.ae (.string ((S++⟨#[a6 (c / 16)]⟩)++⟨#[a6 (c % 16)]⟩)) (by kernel_rfl) (by kernel_rfl) (by kernel_rfl) (fun W9 hW9=>aZ 9 (.tmp 26) (.tmp 39) 9 rfl ((S++⟨#[a6 (c / 16)]⟩)) (⟨#[a6 (c % 16)]⟩) rfl rfl (by rw [xaC];show S.size+1+1≤_;omega) W9) ?_
   simp only [xad,xaa,xac,xab]
   refine Fre.ae (.string ((S++⟨#[a6 (c / 16)]⟩)++⟨#[a6 (c % 16)]⟩)) (by kernel_rfl) (by kernel_rfl) (by kernel_rfl) (fun _ _=>by kernel_rfl) ?_
   simp only [xad,xaa,xac,xab]
   intro w1 hx
   dsimp only [Fre.ended,xas]
   have H1:=ah (Mem.call HM.out hx)
   clear hx
   go_wp2_with fail
   go_roundw
   case rel=>exact ⟨j+1,by omega,by rw [xM HX.out.2.2,HSS.out],by go_num,H1.out⟩
   case measure=>simp [intOf];omega
  ·obtain rfl:j=l.length:=by omega
   by_cases hl0:l=[]
   ·subst hl0
    go_wp2_with fail
    go_ret
    exact ⟨rfl,Mem.below HM.out⟩
   ·obtain ⟨S,hS⟩:∃ S:ByteArray,S=⟨(ck l).toArray⟩:=⟨_,rfl⟩
    rw [xaB,← hS]
    have hp:(⟨(cH l).toArray⟩:ByteArray)=S:=by unfold cH;rw [if_neg hl0,hS]
    have hne:¬ S=⟨#[]⟩:=fun h=>by
     have h1:(ck l).length=0:=by rw [← xal,← show (⟨(ck l).toArray⟩:ByteArray).size=(ck l).toArray.size from rfl,← hS,h];rfl
     rw [iz] at h1
     exact hl0 (xa4 (by omega))
    have HP:=ah hp
    clear hp hS
    go_wp2_with (((with_reducible refine ag 42 ?_);(refine aa rfl (.bool false) wo (kz 9 9 (.tmp 41) (.const (.string { data:=#[] })) rfl S { data:=#[] } rfl rfl false (decide_eq_false hne) wo) ?_)))
    go_ret
    exact ⟨by rw [HP.out];rfl,Mem.below HM.out⟩
end Go.Proofs.YtomnhnmciopiiaaGreat
end
section
namespace Go.Proofs.YtomnhnmciopiiaaGreat
open Go Go.RowKit Go.Maps
def p5 (h:Hsh) (k:Nat):Nat:=(h.getD (k / 8) 0).toNat / 2 ^ (k % 8) % 2
def part (h:Hsh) (i:Nat):Nat→Nat
 | 0=>0
 | t+1=>2*part h i t+p5 h (5*i+(4-t))
theorem uw (h:Hsh) (k:Nat):p5 h k<2:=Nat.mod_lt _ (by decide)
theorem uS (h:Hsh) (i:Nat):∀ t,part h i t<2 ^ t
 | 0=>by simp [part]
 | t+1=>by
  have h1:=uS h i t
  have h2:=uw h (5*i+(4-t))
  rw [part,Nat.pow_succ]
  omega
def df (h:Hsh) (j:Nat):List UInt8:=(xaf j).map fun i=>cJ (part h i 5)
theorem oA (h:Hsh) (j:Nat):(⟨(df h (j+1)).toArray⟩:ByteArray)=⟨(df h j).toArray⟩++⟨#[cJ (part h j 5)]⟩:=by
 rw [df,List.range_succ,List.map_append]
 apply ByteArray.ext
 simp [df,xbm]
theorem qs (h:Hsh) (j:Nat):(df h j).length=j:=by simp [df]
theorem zI (h:Hsh) (k:Nat):(wrap64 (((h[k / 8]?.getD 0).toNat:Nat):Int) / 2 ^ (k % 8)).tmod 2=((p5 h k:Nat):Int):=by
 have h1:=UInt8.toNat_lt (h[k / 8]?.getD 0)
 have h2:wrap64 (((h[k / 8]?.getD 0).toNat:Nat):Int)=(((h[k / 8]?.getD 0).toNat:Nat):Int):=by unfold wrap64;omega
 rw [h2]
 unfold p5
 rw [List.getD_eq_getElem?_getD]
 generalize (h[k / 8]?.getD 0).toNat=n
 have h3:((n:Int) / 2 ^ (k % 8))=((n / 2 ^ (k % 8):Nat):Int):=by rw [Int.natCast_ediv,Int.natCast_pow];rfl
 rw [h3,Int.tmod_eq_emod_of_nonneg (Int.natCast_nonneg _)]
 rfl
theorem y6 (h:Hsh) (hh:okH h) (k:Nat) (hk:k<160) (w:World) :
  Calls Tryz.prog 131 #[.agg (bv h).toArray,.int .i64 (k:Int)] w fun e w'=>e=.returned (.int .i64 (p5 h k:Int))∧Below w.heap.size w w':=by
 have k0:(0:Int)≤(k:Int):=by omega
 have k1:(k:Int)<160:=by omega
 have q1:k / 8<20:=by omega
 have q2:((k / 8:Nat):Int)<20:=by omega
 have hb:(bv h).toArray[k / 8]?=some (.int .u8 ((h.getD (k / 8) 0).toNat:Int)):=by
  have hl:k / 8<h.length:=by rw [show h.length=20 from hh];exact q1
  simp [bv,List.getD,xaj hl]
 have HB:=ah hb
 clear hb
 have H0:=ah (Mem.start w)
 go_enter Tryz.func131,Tryz.ntmps131
 go_wp2_with (first | ((with_reducible refine ag 2 ?_);(refine aW rfl 34 (.tmp 0) rfl (bv h).toArray rfl ?_);intro w1 hn;have H1:=ah (Mem.bh H0.out hn);clear hn;simp only [xad,xaa,xac,xab]) | ((with_reducible refine ag 8 ?_);(refine aa rfl (.int .u8 ((h.getD (k / 8) 0).toNat:Int)) w1 (exec_load_cell 5 (.tmp 7) rfl ⟨w.heap.size,k / 8,none⟩ rfl _ _ w1 Tryz.underlying5 rfl ((Blk.cell (Mem.blk H1.out 0 rfl) (k / 8)).trans HB.out)) ?_)))
 go_ret
 exact ⟨congrArg (fun x=>Ending.returned (Value.int .i64 x)) (zI h k),Mem.below H1.out⟩
theorem BR (h:Hsh) (hh:okH h) (z:Int) (k:Nat) (hk:k<160) (hz:z=(k:Int)) (w:World) :
  Calls Tryz.prog 131 #[.agg (bv h).toArray,.int .i64 z] w fun e w'=>e=.returned (.int .i64 (p5 h k:Int))∧Below w.heap.size w w':=hz▸y6 h hh k hk w
def mM:ByteArray:=⟨#[48,49,50,51,52,53,54,55,56,57,97,98,99,100,102,103,104,105,106,107,108,109,110,112,113,114,115,118,119,120,121,122]⟩
theorem ra {ρ:Operand→Value} {o:Oper} (t:TypeId) (x y z:Operand) (ho:o.op=.slice t x (some y) (some z) none) (n:Nat) (hx:ρ x=.string mM) (hy:ρ y=.int .i64 (n:Int)) (hz:ρ z=.int .i64 ((n:Int)+1)) (h1:n<32) (ht:Tryz.prog.underlying t=some .string) (w:World) :
  (execOp ρ o).run Tryz.prog w=.ok (.value (.string ⟨#[cJ n]⟩)) w:=by
 refine ie t x (some y) (some z) none ho _ (fun W=>?_) w
 rw [hx,Option.map_some,Option.map_some,hy,hz,run_sliceAt_string _ t _ _ _ _ ht]
 have h:=run_slice_string (P:=Tryz.prog) W t mM .i64 .i64 (n:Int) ((n:Int)+1) ht (by omega) (by omega) (by rw [show mM.size=32 from rfl];omega)
 refine h.trans ?_
 have h3:∀ k:Fin 32,mM.extract k.val (k.val+1)=⟨#[cJ k.val]⟩:=by decide
 have h4:=h3 ⟨n,h1⟩
 dsimp only at h4
 rw [show ((n:Int)+1).toNat=n+1 by omega,Int.toNat_natCast,h4]
theorem qQ (h:Hsh) (hh:okH h) (w:World) :
  Calls Tryz.prog 88 #[.agg (bv h).toArray] w fun e w'=>e=.returned (.string ⟨(df h 32).toArray⟩)∧Below w.heap.size w w':=by
 have H0:=ah (Mem.start w)
 go_enter Tryz.func88,Tryz.ntmps88
 go_wp2_with (((with_reducible refine ag 1 ?_);(refine aW rfl 34 (.tmp 0) rfl (bv h).toArray rfl ?_);intro w1 hn;have H1:=ah (Mem.bh H0.out hn);clear hn;simp only [xad,xaa,xac,xab]))
 go_loopw [3,4] (fun x3 x4 wr=>∃ j:Nat,j≤32∧x3=.string ⟨(df h j).toArray⟩∧x4=.int .i64 (j:Int)∧Mem w wr [cC w.heap.size 34 (bv h).toArray]) (fun _ x4 _=>32-(intOf x4).toNat)
 case atStart=>exact ⟨0,by omega,rfl,rfl,H1.out⟩
 case round =>
  obtain ⟨wo,rfl⟩:∃ wo,wo=wr:=⟨_,rfl⟩
  obtain ⟨j,hj,rfl,rfl,hm⟩:=hrel
  have HM:=ah hm
  clear hm
  have j0:(0:Int)≤(j:Int):=by omega
  by_cases hj2:j<32
  ·have j1:(j:Int)<32:=by omega
   have hsl:(df h j).length=j:=qs h j
   obtain ⟨S,hS⟩:∃ S:ByteArray,S=⟨(df h j).toArray⟩:=⟨_,rfl⟩
   have hSn:S.size≤32:=by rw [hS];show (df h j).toArray.size≤_;rw [xal];omega
   rw [← hS]
   have HSS:=ah hS
   clear hS hsl
   go_wp2_with fail
   go_loopw [5,6] (fun x5 x6 wr=>∃ t:Nat,t≤5∧x5=.int .i64 (part h j t:Int)∧x6=.int .i64 (4-(t:Int))∧Mem w wr [cC w.heap.size 34 (bv h).toArray]) (fun _ x6 _=>(intOf x6+1).toNat)
   case atStart=>exact ⟨0,by omega,rfl,rfl,HM.out⟩
   case round =>
    obtain ⟨wi,rfl⟩:∃ wi,wi=wr:=⟨_,rfl⟩
    obtain ⟨t,ht,rfl,rfl,hm⟩:=hrel
    have HI:=ah hm
    clear hm
    have hpl:=uS h j t
    by_cases ht2:t<5
    ·have t1:(0:Int)≤4-(t:Int):=by omega
     have t2:4-(t:Int)≤4:=by omega
     have hp9:part h j t<32:=by have:2 ^ t≤2 ^ 4:=Nat.pow_le_pow_right (by decide) (by omega);omega
     have hbl:=uw h (5*j+(4-t))
     have hpt:part h j (t+1)=2*part h j t+p5 h (5*j+(4-t)):=rfl
     obtain ⟨n,hn⟩:∃ n,n=part h j t:=⟨_,rfl⟩
     rw [← hn] at hp9 hpt
     rw [← hn]
     have HN:=ah hn
     clear hn hpl
     go_wp2_with (((with_reducible refine ag 17 ?_);(refine aa rfl (.agg (bv h).toArray) wi (aj 34 (.tmp 1) rfl w.heap.size (0) rfl (bv h) _ wi (Blk.range (Mem.blk HI.out 0 rfl)) Tryz.underlying34 rfl (cP hh)) ?_)))
     refine (BR h hh _ (5*j+(4-t)) (by omega) (by omega) wi).mono ?_
     rintro e w2 ⟨rfl,hb⟩
     dsimp only
     have H2:=ah (Mem.call HI.out hb)
     clear hb
     go_wp2_with fail
     go_roundw
     case rel=>exact ⟨t+1,by omega,by rw [hpt];go_num,by go_num,H2.out⟩
     case measure=>simp [intOf];omega
    ·obtain rfl:t=5:=by omega
     have hp9:part h j 5<32:=hpl
     obtain ⟨n,hn⟩:∃ n,n=part h j 5:=⟨_,rfl⟩
     rw [← hn] at hp9
     rw [← hn]
     have HN:=ah hn
     clear hn hpl
     go_wp2_with (first | ((with_reducible refine ag 28 ?_);(refine aa rfl (.string ⟨#[cJ n]⟩) wi (ra 9 (.const (.string mM)) (.tmp 25) (.tmp 27) rfl n rfl rfl rfl hp9 Tryz.underlying9 wi) ?_)) | ((with_reducible refine ag 29 ?_);(refine aa rfl (.string (S++⟨#[cJ n]⟩)) wi (aZ 9 (.tmp 24) (.tmp 28) 9 rfl S ⟨#[cJ n]⟩ rfl rfl (by show S.size+1≤_;omega) wi) ?_)))
     go_roundw
     case rel=>exact ⟨j+1,by omega,by rw [oA,HSS.out,HN.out],by go_num,HI.out⟩
     case measure=>simp [intOf];omega
  ·obtain rfl:j=32:=by omega
   go_wp2_with fail
   go_ret
   exact ⟨rfl,Mem.below HM.out⟩
end Go.Proofs.YtomnhnmciopiiaaGreat
end
section
namespace Go.Proofs.YtomnhnmciopiiaaGreat
open Go Go.RowKit
def leN:List UInt8→Nat
 | []=>0
 | b :: l=>b.toNat+256*leN l
theorem uO (N a b c:Nat) (h:b+c≤a):N % 2 ^ a / 2 ^ b % 2 ^ c=N / 2 ^ b % 2 ^ c:=by
 have e:a=b+(a-b):=by omega
 rw [e,xbF,Nat.mod_mul_right_div_self]
 exact Nat.mod_mod_of_dvd _ (Nat.pow_dvd_pow 2 (by omega))
def Ar (N:Nat) (i:Nat):UInt8:=cJ (N / 2 ^ (5*i) % 2 ^ 5)
structure DrI (N T:Nat) (s:Nat×Nat×List UInt8):Prop where
 len:5*s.2.2.length+s.2.1=8*T
 val:s.1=N % 2 ^ (8*T) / 2 ^ (5*s.2.2.length)
 out:s.2.2=(xaf s.2.2.length).map (Ar N)
theorem oW {N T:Nat}:∀ (f v m:Nat) (o:List UInt8),DrI N T (v,m,o)→m<5*f+5→DrI N T (drain f v m o)∧(drain f v m o).2.1<5
 | 0,v,m,o,h,hm=>⟨h,by show m<5;omega⟩
 | f+1,v,m,o,h,hm=>by
  rw [drain]
  split
  ·rename_i h5
   obtain ⟨h1,h2,h3⟩:=h
   dsimp only at h1 h2 h3
   refine oW f _ _ _ ⟨?_,?_,?_⟩ (by omega)
   ·dsimp only
    rw [xap,xa0]
    omega
   ·dsimp only
    rw [xap,xa0,h2,Nat.mul_add,xbF,← xbA]
   ·dsimp only
    rw [xap,xa0,List.range_succ,List.map_append,← h3]
    congr 1
    rw [List.map_singleton,Ar,h2]
    congr 2
    have:=uO N (8*T) (5*o.length) 5 (by omega)
    rw [← this]
  ·exact ⟨h,by dsimp only;omega⟩
theorem zt {N T:Nat} {b:UInt8} {s:Nat×Nat×List UInt8} (h:DrI N T s) (hm:s.2.1<5) (hb:N / 2 ^ (8*T) % 256=b.toNat):DrI N (T+1) (fO s b)∧(fO s b).2.1<5:=by
 obtain ⟨v,m,o⟩:=s
 obtain ⟨h1,h2,h3⟩:=h
 dsimp only at h1 h2 h3 hm
 refine oW 2 _ _ _ ⟨?_,?_,h3⟩ (by dsimp only;omega)
 ·dsimp only
  omega
 ·dsimp only
  have e:2 ^ (8*(T+1))=2 ^ (8*T)*256:=by rw [Nat.mul_add,xbF]
  have e2:2 ^ (8*T)=2 ^ (5*o.length)*2 ^ m:=by rw [← xbF,h1]
  rw [e,Nat.mod_mul,hb,h2]
  conv=>rhs;rw [show 2 ^ (8*T)*b.toNat=2 ^ (5*o.length)*(2 ^ m*b.toNat) by rw [e2,Nat.mul_assoc]]
  rw [Nat.add_mul_div_left _ _ (Nat.two_pow_pos _),Nat.mul_comm (2 ^ m)]
theorem rk {N:Nat}:∀ (l:List UInt8) (T:Nat) (s:Nat×Nat×List UInt8),DrI N T s→s.2.1<5→N / 2 ^ (8*T)=leN l→DrI N (T+l.length) (l.foldl fO s)∧(l.foldl fO s).2.1<5
 | [],T,s,h,hm,_=>⟨h,hm⟩
 | b :: l,T,s,h,hm,hN=>by
  have hb9:=UInt8.toNat_lt b
  have hb:N / 2 ^ (8*T) % 256=b.toNat:=by rw [hN,leN];omega
  obtain ⟨h1,h2⟩:=zt h hm hb
  have hN2:N / 2 ^ (8*(T+1))=leN l:=by
   rw [Nat.mul_add,xbF,← xbA,hN,leN]
   omega
  have h3:=rk l (T+1) (fO s b) h1 h2 hN2
  rw [xaE,List.foldl_cons,show T+(l.length+1)=T+1+l.length by omega]
  exact h3
theorem rJ {h:Hsh} (hh:okH h):aQ h=(xaf 32).map (Ar (leN h)):=by
 have h0:DrI (leN h) 0 (0,0,[]):=⟨rfl,by simp [Nat.mod_one],rfl⟩
 obtain ⟨h1,h2⟩:=rk (N:=leN h) h 0 (0,0,[]) h0 (by decide) (by simp)
 have hl:h.length=20:=hh
 have h3:=h1.len
 rw [hl] at h3
 have h4:(h.foldl fO (0,0,[])).2.2.length=32:=by omega
 have h5:=h1.out
 rw [h4] at h5
 exact h5
theorem uM:∀ (h:List UInt8) (q:Nat),leN h / 256 ^ q % 256=(h.getD q 0).toNat
 | [],q=>by simp [leN]
 | b :: l,0=>by simp [leN]
 | b :: l,q+1=>by
  have hb:=UInt8.toNat_lt b
  have ih:=uM l q
  rw [Nat.pow_succ,Nat.mul_comm,← xbA,leN,show (b.toNat+256*leN l) / 256=leN l by omega,ih]
  simp
theorem zH (h:Hsh) (k:Nat):p5 h k=leN h / 2 ^ k % 2:=by
 unfold p5
 rw [← uM h (k / 8)]
 have e:2 ^ k=256 ^ (k / 8)*2 ^ (k % 8):=by
  rw [show (256:Nat)=2 ^ 8 from rfl,← Nat.pow_mul,← xbF]
  congr 1
  omega
 rw [e,← xbA]
 have:=uO (leN h / 256 ^ (k / 8)) 8 (k % 8) 1 (by omega)
 simpa using this
theorem y3 (h:Hsh) (i:Nat):part h i 5=leN h / 2 ^ (5*i) % 2 ^ 5:=by
 simp only [part,zH]
 have e:∀ r,leN h / 2 ^ (5*i+r)=leN h / 2 ^ (5*i) / 2 ^ r:=fun r=>by rw [xbF,xbA]
 simp only [e]
 generalize leN h / 2 ^ (5*i)=X
 omega
theorem rK {h:Hsh} (hh:okH h):df h 32=aQ h:=by
 rw [rJ hh,df]
 refine List.map_congr_left fun i _=>?_
 rw [y3,Ar]
theorem qP (h:Hsh) (hh:okH h) (w:World) :
  Calls Tryz.prog 88 #[.agg (bv h).toArray] w fun e w'=>e=.returned (.string ⟨(aQ h).toArray⟩)∧Below w.heap.size w w':=by
 rw [← rK hh]
 exact qQ h hh w
end Go.Proofs.YtomnhnmciopiiaaGreat
end
section
namespace Go.Proofs.YtomnhnmciopiiaaGreat
open Go Go.RowKit Go.Maps
theorem bG (c lo hi:Int) (b:Bool) (hb:(decide (lo≤c)&&decide (c≤hi))=b) (w:World):Calls Tryz.prog 173 #[.int .u8 c,.int .u8 lo,.int .u8 hi] w fun e w'=>e=.returned (.bool b)∧w'=w:=by
 subst hb
 by_cases h1:lo≤c
 ·by_cases h2:c≤hi
  ·rw [decide_eq_true h1,decide_eq_true h2]
   go_enter Tryz.func173,Tryz.ntmps173
   go_wp2_with fail
   go_ret
   exact ⟨rfl,rfl⟩
  ·rw [decide_eq_true h1,decide_eq_false h2]
   go_enter Tryz.func173,Tryz.ntmps173
   go_wp2_with fail
   go_ret
   exact ⟨rfl,rfl⟩
 ·rw [decide_eq_false h1]
  go_enter Tryz.func173,Tryz.ntmps173
  go_wp2_with fail
  go_ret
  exact ⟨rfl,rfl⟩
def sgN (n:Nat):Bool:=(decide (97≤n)&&decide (n≤122))||((decide (65≤n)&&decide (n≤90))||((decide (48≤n)&&decide (n≤57))||(decide (n=46)||(decide (n=95)||(decide (n=43)||decide (n=45))))))
theorem BT {n:Nat} (h:((97:Int)≤(n:Int)∧(n:Int)≤122)∨((65:Int)≤(n:Int)∧(n:Int)≤90)∨((48:Int)≤(n:Int)∧(n:Int)≤57)):sgN n=true:=by
 unfold sgN
 rcases h with h | h | h
 ·rw [decide_eq_true (show 97≤n by omega),decide_eq_true (show n≤122 by omega)];rfl
 ·rw [decide_eq_true (show 65≤n by omega),decide_eq_true (show n≤90 by omega)];simp
 ·rw [decide_eq_true (show 48≤n by omega),decide_eq_true (show n≤57 by omega)];simp
theorem AT {n:Nat} (h:(n:Int)=46∨(n:Int)=95∨(n:Int)=43∨(n:Int)=45):sgN n=true:=by
 rcases h with h | h | h | h
 ·rw [show n=46 by omega];rfl
 ·rw [show n=95 by omega];rfl
 ·rw [show n=43 by omega];rfl
 ·rw [show n=45 by omega];rfl
theorem sF {a b n:Nat} (h:¬ ((a:Int)≤(n:Int)∧(n:Int)≤(b:Int))):(decide (a≤n)&&decide (n≤b))=false:=by
 rw [Bool.and_eq_false_iff,decide_eq_false_iff_not,decide_eq_false_iff_not]
 omega
theorem Cd {n:Nat} (h0:¬ ((97:Int)≤(n:Int)∧(n:Int)≤122)) (h1:¬ ((65:Int)≤(n:Int)∧(n:Int)≤90)) (h2:¬ ((48:Int)≤(n:Int)∧(n:Int)≤57)) (h3:¬ (n:Int)=46) (h4:¬ (n:Int)=95) (h5:¬ (n:Int)=43) (h6:¬ (n:Int)=45):sgN n=false:=by
 unfold sgN
 rw [sF h0,sF h1,sF h2,decide_eq_false (show ¬ n=46 by omega),decide_eq_false (show ¬ n=95 by omega),decide_eq_false (show ¬ n=43 by omega),decide_eq_false (show ¬ n=45 by omega)]
 rfl
theorem Ce:∀ c:Fin 256,hG (c.val:Int)=sgN c.val:=by decide +kernel
def Ck (s:ByteArray) (p:Nat):Prop:=∀ k,p≤k→(h:k<s.size)→sgN (s[k].toNat)=true
theorem jn (s:ByteArray):∀ f pos,s.size≤pos+f→(eh s f pos=true↔Ck s pos)
 | 0,pos,h=>⟨fun _ k hk hks=>by omega,fun _=>rfl⟩
 | f+1,pos,h=>by
  by_cases hp:pos<s.size
  ·rw [eh,if_pos hp,xaG]
   by_cases ha:(s[pos]'hp).toNat<128
   ·rw [decode_ascii s pos hp ha,jn s f (pos+1) (by omega)]
    have e:hG ((s[pos]'hp).toNat:Int)=sgN (s[pos]'hp).toNat:=Ce ⟨(s[pos]'hp).toNat,by omega⟩
    rw [e]
    refine ⟨fun ⟨h1,h2⟩ k hk hks=>?_,fun h1=>⟨h1 pos (xai _) hp,fun k hk hks=>h1 k (by omega) hks⟩⟩
    by_cases he:k=pos
    ·subst he;exact h1
    ·exact h2 k (by omega) hks
   ·have hd:=(decode_high s pos hp (by omega)).1
    have e1:hG ((xbr s pos).1:Int)=false:=by unfold hG;rw [decide_eq_false (by omega)];rfl
    rw [e1]
    refine ⟨fun ⟨h1,_⟩=>(by cases h1),fun h1=>?_⟩
    have h2:=h1 pos (xai _) hp
    unfold sgN at h2
    simp at h2
    omega
  ·refine ⟨fun _ k hk hks=>by omega,fun _=>mg s _ pos hp⟩
theorem e7 {s:ByteArray} {j:Nat} (hj:j<s.size) (h:∀ k,k<j→(h:k<s.size)→sgN (s[k].toNat)=true) (hs:sgN (s[j].toNat)=true):∀ k,k<j+1→(h:k<s.size)→sgN (s[k].toNat)=true:=fun k hk hks=>by
 by_cases he:k=j
 ·subst he;exact hs
 ·exact h k (by omega) hks
theorem Az {s:ByteArray} {j:Nat} (hj:j<s.size) (hs:sgN (s[j].toNat)=false):bT s=false:=by
 have h1:¬ eh s s.size 0=true:=fun h=>by
  have:=(jn s s.size 0 (by omega)).1 h j (by omega) hj
  rw [hs] at this
  cases this
 unfold bT
 rw [(Bool.not_eq_true _).mp h1]
 rfl
theorem wy {s:ByteArray} (h:∀ k,k<s.size→(h:k<s.size)→sgN (s[k].toNat)=true):bT s=fk s:=by
 unfold bT
 rw [(jn s s.size 0 (by omega)).2 fun k _ hks=>h k hks hks]
 rfl
theorem wW (s:ByteArray) (hs:s.size≤maxLen) (w:World):Calls Tryz.prog 130 #[.string s] w fun e w'=>e=.returned (.bool (bT s))∧w'=w:=by
 have hs9:s.size≤9223372036854775807:=by simp only [maxLen] at hs;omega
 go_enter Tryz.func130,Tryz.ntmps130
 go_wp2_with fail
 go_loopw [3] (fun x3 wr=>∃ j:Nat,j≤s.size∧x3=.int .i64 (j:Int)∧(∀ k,k<j→(h:k<s.size)→sgN (s[k].toNat)=true)∧wr=w) (fun x3 _=>s.size-(intOf x3).toNat)
 case atStart=>exact ⟨0,by omega,rfl,(fun k hk=>by omega),rfl⟩
 case round =>
  obtain ⟨j,hj,rfl,hall,rfl⟩:=hrel
  have HALL:=ah hall
  clear hall
  have j0:(0:Int)≤(j:Int):=by omega
  by_cases hj2:j<s.size
  ·have j1:(j:Int)<(s.size:Int):=by omega
   go_wp2_with fail
   by_cases hc0:(97:Int)≤(s[j].toNat:Int)∧(s[j].toNat:Int)≤122
   ·have hc0:(97:Int)≤(s[j].toNat:Int)∧(s[j].toNat:Int)≤122:=hc0
    refine (bG (s[j].toNat:Int) 97 122 true (by rw [decide_eq_true (show (97:Int)≤(s[j].toNat:Int) by omega),decide_eq_true (show (s[j].toNat:Int)≤122 by omega)];rfl) wr).mono ?_
    rintro e wz ⟨rfl,hwz⟩
    rw [hwz]
    clear hwz
    dsimp only
    go_wp2_with fail
    go_roundw
    case rel=>exact ⟨j+1,by omega,by go_num,e7 hj2 HALL.out (BT (.inl hc0)),(by trivial)⟩
    case measure=>simp [intOf];omega
   ·by_cases hc1:(65:Int)≤(s[j].toNat:Int)∧(s[j].toNat:Int)≤90
    ·have hc1:(65:Int)≤(s[j].toNat:Int)∧(s[j].toNat:Int)≤90:=hc1
     refine (bG (s[j].toNat:Int) 97 122 false (by by_cases hx:(97:Int)≤(s[j].toNat:Int);(rw [decide_eq_true hx,decide_eq_false (show ¬ (s[j].toNat:Int)≤122 by omega)];rfl);(rw [decide_eq_false hx];rfl)) wr).mono ?_
     rintro e wz ⟨rfl,hwz⟩
     rw [hwz]
     clear hwz
     dsimp only
     go_wp2_with fail
     refine (bG (s[j].toNat:Int) 65 90 true (by rw [decide_eq_true (show (65:Int)≤(s[j].toNat:Int) by omega),decide_eq_true (show (s[j].toNat:Int)≤90 by omega)];rfl) wr).mono ?_
     rintro e wz ⟨rfl,hwz⟩
     rw [hwz]
     clear hwz
     dsimp only
     go_wp2_with fail
     go_roundw
     case rel=>exact ⟨j+1,by omega,by go_num,e7 hj2 HALL.out (BT (.inr (.inl hc1))),(by trivial)⟩
     case measure=>simp [intOf];omega
    ·by_cases hc2:(48:Int)≤(s[j].toNat:Int)∧(s[j].toNat:Int)≤57
     ·have hc2:(48:Int)≤(s[j].toNat:Int)∧(s[j].toNat:Int)≤57:=hc2
      refine (bG (s[j].toNat:Int) 97 122 false (by by_cases hx:(97:Int)≤(s[j].toNat:Int);(rw [decide_eq_true hx,decide_eq_false (show ¬ (s[j].toNat:Int)≤122 by omega)];rfl);(rw [decide_eq_false hx];rfl)) wr).mono ?_
      rintro e wz ⟨rfl,hwz⟩
      rw [hwz]
      clear hwz
      dsimp only
      go_wp2_with fail
      refine (bG (s[j].toNat:Int) 65 90 false (by by_cases hx:(65:Int)≤(s[j].toNat:Int);(rw [decide_eq_true hx,decide_eq_false (show ¬ (s[j].toNat:Int)≤90 by omega)];rfl);(rw [decide_eq_false hx];rfl)) wr).mono ?_
      rintro e wz ⟨rfl,hwz⟩
      rw [hwz]
      clear hwz
      dsimp only
      go_wp2_with fail
      refine (bG (s[j].toNat:Int) 48 57 true (by rw [decide_eq_true (show (48:Int)≤(s[j].toNat:Int) by omega),decide_eq_true (show (s[j].toNat:Int)≤57 by omega)];rfl) wr).mono ?_
      rintro e wz ⟨rfl,hwz⟩
      rw [hwz]
      clear hwz
      dsimp only
      go_wp2_with fail
      go_roundw
      case rel=>exact ⟨j+1,by omega,by go_num,e7 hj2 HALL.out (BT (.inr (.inr hc2))),(by trivial)⟩
      case measure=>simp [intOf];omega
     ·by_cases hs3:(s[j].toNat:Int)=46
      ·have HS:=ah hs3
       clear hs3
       refine (bG (s[j].toNat:Int) 97 122 false (by by_cases hx:(97:Int)≤(s[j].toNat:Int);(rw [decide_eq_true hx,decide_eq_false (show ¬ (s[j].toNat:Int)≤122 by omega)];rfl);(rw [decide_eq_false hx];rfl)) wr).mono ?_
       rintro e wz ⟨rfl,hwz⟩
       rw [hwz]
       clear hwz
       dsimp only
       go_wp2_with fail
       refine (bG (s[j].toNat:Int) 65 90 false (by by_cases hx:(65:Int)≤(s[j].toNat:Int);(rw [decide_eq_true hx,decide_eq_false (show ¬ (s[j].toNat:Int)≤90 by omega)];rfl);(rw [decide_eq_false hx];rfl)) wr).mono ?_
       rintro e wz ⟨rfl,hwz⟩
       rw [hwz]
       clear hwz
       dsimp only
       go_wp2_with fail
       refine (bG (s[j].toNat:Int) 48 57 false (by by_cases hx:(48:Int)≤(s[j].toNat:Int);(rw [decide_eq_true hx,decide_eq_false (show ¬ (s[j].toNat:Int)≤57 by omega)];rfl);(rw [decide_eq_false hx];rfl)) wr).mono ?_
       rintro e wz ⟨rfl,hwz⟩
       rw [hwz]
       clear hwz
       dsimp only
       have hs3:=HS.out
       go_wp2_with fail
       go_roundw
       case rel=>exact ⟨j+1,by omega,by go_num,e7 hj2 HALL.out (AT (.inl hs3)),(by trivial)⟩
       case measure=>simp [intOf];omega
      ·by_cases hs4:(s[j].toNat:Int)=95
       ·have HS:=ah hs4
        clear hs4
        refine (bG (s[j].toNat:Int) 97 122 false (by by_cases hx:(97:Int)≤(s[j].toNat:Int);(rw [decide_eq_true hx,decide_eq_false (show ¬ (s[j].toNat:Int)≤122 by omega)];rfl);(rw [decide_eq_false hx];rfl)) wr).mono ?_
        rintro e wz ⟨rfl,hwz⟩
        rw [hwz]
        clear hwz
        dsimp only
        go_wp2_with fail
        refine (bG (s[j].toNat:Int) 65 90 false (by by_cases hx:(65:Int)≤(s[j].toNat:Int);(rw [decide_eq_true hx,decide_eq_false (show ¬ (s[j].toNat:Int)≤90 by omega)];rfl);(rw [decide_eq_false hx];rfl)) wr).mono ?_
        rintro e wz ⟨rfl,hwz⟩
        rw [hwz]
        clear hwz
        dsimp only
        go_wp2_with fail
        refine (bG (s[j].toNat:Int) 48 57 false (by by_cases hx:(48:Int)≤(s[j].toNat:Int);(rw [decide_eq_true hx,decide_eq_false (show ¬ (s[j].toNat:Int)≤57 by omega)];rfl);(rw [decide_eq_false hx];rfl)) wr).mono ?_
        rintro e wz ⟨rfl,hwz⟩
        rw [hwz]
        clear hwz
        dsimp only
        have hs4:=HS.out
        go_wp2_with fail
        go_roundw
        case rel=>exact ⟨j+1,by omega,by go_num,e7 hj2 HALL.out (AT (.inr (.inl hs4))),(by trivial)⟩
        case measure=>simp [intOf];omega
       ·by_cases hs5:(s[j].toNat:Int)=43
        ·have HS:=ah hs5
         clear hs5
         refine (bG (s[j].toNat:Int) 97 122 false (by by_cases hx:(97:Int)≤(s[j].toNat:Int);(rw [decide_eq_true hx,decide_eq_false (show ¬ (s[j].toNat:Int)≤122 by omega)];rfl);(rw [decide_eq_false hx];rfl)) wr).mono ?_
         rintro e wz ⟨rfl,hwz⟩
         rw [hwz]
         clear hwz
         dsimp only
         go_wp2_with fail
         refine (bG (s[j].toNat:Int) 65 90 false (by by_cases hx:(65:Int)≤(s[j].toNat:Int);(rw [decide_eq_true hx,decide_eq_false (show ¬ (s[j].toNat:Int)≤90 by omega)];rfl);(rw [decide_eq_false hx];rfl)) wr).mono ?_
         rintro e wz ⟨rfl,hwz⟩
         rw [hwz]
         clear hwz
         dsimp only
         go_wp2_with fail
         refine (bG (s[j].toNat:Int) 48 57 false (by by_cases hx:(48:Int)≤(s[j].toNat:Int);(rw [decide_eq_true hx,decide_eq_false (show ¬ (s[j].toNat:Int)≤57 by omega)];rfl);(rw [decide_eq_false hx];rfl)) wr).mono ?_
         rintro e wz ⟨rfl,hwz⟩
         rw [hwz]
         clear hwz
         dsimp only
         have hs5:=HS.out
         go_wp2_with fail
         go_roundw
         case rel=>exact ⟨j+1,by omega,by go_num,e7 hj2 HALL.out (AT (.inr (.inr (.inl hs5)))),(by trivial)⟩
         case measure=>simp [intOf];omega
        ·by_cases hs6:(s[j].toNat:Int)=45
         ·have HS:=ah hs6
          clear hs6
          refine (bG (s[j].toNat:Int) 97 122 false (by by_cases hx:(97:Int)≤(s[j].toNat:Int);(rw [decide_eq_true hx,decide_eq_false (show ¬ (s[j].toNat:Int)≤122 by omega)];rfl);(rw [decide_eq_false hx];rfl)) wr).mono ?_
          rintro e wz ⟨rfl,hwz⟩
          rw [hwz]
          clear hwz
          dsimp only
          go_wp2_with fail
          refine (bG (s[j].toNat:Int) 65 90 false (by by_cases hx:(65:Int)≤(s[j].toNat:Int);(rw [decide_eq_true hx,decide_eq_false (show ¬ (s[j].toNat:Int)≤90 by omega)];rfl);(rw [decide_eq_false hx];rfl)) wr).mono ?_
          rintro e wz ⟨rfl,hwz⟩
          rw [hwz]
          clear hwz
          dsimp only
          go_wp2_with fail
          refine (bG (s[j].toNat:Int) 48 57 false (by by_cases hx:(48:Int)≤(s[j].toNat:Int);(rw [decide_eq_true hx,decide_eq_false (show ¬ (s[j].toNat:Int)≤57 by omega)];rfl);(rw [decide_eq_false hx];rfl)) wr).mono ?_
          rintro e wz ⟨rfl,hwz⟩
          rw [hwz]
          clear hwz
          dsimp only
          have hs6:=HS.out
          go_wp2_with fail
          go_roundw
          case rel=>exact ⟨j+1,by omega,by go_num,e7 hj2 HALL.out (AT (.inr (.inr (.inr hs6)))),(by trivial)⟩
          case measure=>simp [intOf];omega
         ·refine (bG (s[j].toNat:Int) 97 122 false (by by_cases hx:(97:Int)≤(s[j].toNat:Int);(rw [decide_eq_true hx,decide_eq_false (show ¬ (s[j].toNat:Int)≤122 by omega)];rfl);(rw [decide_eq_false hx];rfl)) wr).mono ?_
          rintro e wz ⟨rfl,hwz⟩
          rw [hwz]
          clear hwz
          dsimp only
          go_wp2_with fail
          refine (bG (s[j].toNat:Int) 65 90 false (by by_cases hx:(65:Int)≤(s[j].toNat:Int);(rw [decide_eq_true hx,decide_eq_false (show ¬ (s[j].toNat:Int)≤90 by omega)];rfl);(rw [decide_eq_false hx];rfl)) wr).mono ?_
          rintro e wz ⟨rfl,hwz⟩
          rw [hwz]
          clear hwz
          dsimp only
          go_wp2_with fail
          refine (bG (s[j].toNat:Int) 48 57 false (by by_cases hx:(48:Int)≤(s[j].toNat:Int);(rw [decide_eq_true hx,decide_eq_false (show ¬ (s[j].toNat:Int)≤57 by omega)];rfl);(rw [decide_eq_false hx];rfl)) wr).mono ?_
          rintro e wz ⟨rfl,hwz⟩
          rw [hwz]
          clear hwz
          dsimp only
          go_wp2_with fail
          case roundEnd=>exfalso;simp only [bne_eq_false_iff_eq] at *;omega
          have hnm:bT s=false:=Az hj2 (Cd hc0 hc1 hc2 hs3 hs4 hs5 hs6)
          go_ret
          exact ⟨by rw [hnm];rfl,rfl⟩
  ·obtain rfl:j=s.size:=by omega
   have hnr:=wy HALL.out
   have HNR:=ah hnr
   clear hnr
   by_cases h0:s=⟨#[]⟩
   ·subst h0
    have e0:fk ⟨#[]⟩=false:=by kernel_rfl
    rw [e0] at HNR
    go_wp2_with fail
    go_ret
    exact ⟨by rw [HNR.out];rfl,rfl⟩
   ·have h1:0<s.size:=by
     rcases Nat.eq_zero_or_pos s.size with h | h
     ·exact absurd (by cases s with | mk a=>simp [ByteArray.size] at h;rw [h]) h0
     ·exact h
    have hem:s.toList.isEmpty=false:=by
     cases hem:s.toList.isEmpty with
     | false=>rfl
     | true =>
      have:=List.isEmpty_iff.1 hem
      exact absurd (by rw [← ByteArray.size_data,← xbh];have e:s.data.toList=s.toList:=(ByteArray.toList_eq s).symm;rw [e,this];rfl) (Nat.pos_iff_ne_zero.1 h1)
    have p1:(s.size:Int) > 0:=by omega
    by_cases h24:(s.size:Int)≤24
    ·have e:fk s=((s[0].toNat:Int) != 46):=by unfold fk;rw [hem,decide_eq_true h24,dif_pos h1];rfl
     rw [e] at HNR
     go_wp2_with fail
     go_ret
     exact ⟨by rw [HNR.out];rfl,rfl⟩
    ·have e:fk s=false:=by unfold fk;rw [hem,decide_eq_false h24];rfl
     rw [e] at HNR
     go_wp2_with fail
     go_ret
     exact ⟨by rw [HNR.out];rfl,rfl⟩
end Go.Proofs.YtomnhnmciopiiaaGreat
end
