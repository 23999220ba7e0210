/- Part 5 of the texts of one proof. -/
import Derived.Test.YtomnhnmciopiiaaGreatMMT4
set_option maxRecDepth 100000
set_option linter.unusedVariables false
set_option linter.unusedSimpArgs false
set_option maxHeartbeats 40000000
open Go.Act renaming put → xae
open And renaming intro → xad
open Array renaming getElem?_eq_some_iff → xa2, replicate → xbu, replicate_succ → xcz, replicate_zero → xcA
open Go.RowKit.Below renaming mono → xar, refl → xao
open Bool renaming and_eq_true → xaw
open Go.Fence renaming wide → xcl
open Int renaming toNat_natCast → xbr
open List renaming append_toArray → xcI, drop → xaE, drop_succ_cons → xay, drop_zero → xaK, getElem?_eq_getElem → xai, getElem?_eq_some_iff → xah, getElem?_map → xaL, getElem?_toArray → xa0, idxOf_lt_length_iff → xbp, length_cons → xaF, length_map → xap, length_set → xbh, length_take → xaN, map_cons → xa9, mem_append → xax, mem_cons → xaD, mem_map → xaA, mem_of_getElem? → xaj, mem_singleton → xan, not_mem_nil → xaS, range → xaf, replicate → xaz, setIfInBounds_toArray → xaa, set_cons_succ → xac, set_cons_zero → xab, size_toArray → xal, take_add_one → xaB, take_length → xaG, take_of_length_le → xav, take_succ_cons → xau, take_zero → xaC
open Nat renaming le_refl → xag, le_trans → xaH, lt_of_lt_of_le → xaZ
open Option.some renaming inj → xam
open Go.Region renaming Mode → xbY
open Go.Value renaming cells → xaU, slice → xas
open Go.World renaming block_lt_of_cell? → xa5, cell?_of_block → xaV
section
namespace Go.Proofs.YtomnhnmciopiiaaGreat
open Go Go.RowKit Go.Maps
def itP (x:Itm):Dr.It Hsh:=⟨x.1,aA x.2.2.1,decide (bF x.2=0)⟩
def ew (l:List Itm):List (Hsh×Nat):=l.zipIdx.map fun p=>(p.1.1,p.2)
theorem kG (l:List Itm):(ew l).map (·.1)=Dr.css (l.map itP):=by
 unfold ew Dr.css
 apply List.ext_getElem?
 intro i
 simp
 cases l[i]?<;>rfl
theorem zI {l:List Itm} {j:Nat} {x:Itm} (h:l[j]?=some x):ew (l.take (j+1))=ew (l.take j)++[(x.1,j)]:=by
 have hj:=(xah.1 h).1
 rw [xaB,h]
 unfold ew
 rw [List.zipIdx_append,List.map_append,xaN,Nat.min_eq_left (by omega)]
 simp
theorem rZ (l:List Itm) (c:Hsh):(cg (ew l) c).isSome=@List.contains Hsh instBEqOfDecidableEq (Dr.css (l.map itP)) c:=by
 rw [Bool.eq_iff_iff,← mem_keys,kG]
 simp
theorem iz {H:Type} [DecidableEq H] (a b:List (Dr.It H)):∀ known:List H,Dr.cP known (a++b)=(Dr.cP known a&&Dr.cP (known++Dr.css a) b):=by
 induction a with
 | nil=>intro known;simp [Dr.cP,Dr.css]
 | cons x a ih =>
  intro known
  rw [List.cons_append,Dr.cP,Dr.cP,ih]
  simp [Dr.css,Bool.and_assoc]
theorem yW (l:List Itm) (ks:List Hsh):(ks.all fun c=>(cg (ew l) c).isSome)=ks.all fun c=>@List.contains Hsh instBEqOfDecidableEq (Dr.css (l.map itP)) c:=by
 congr 1
 funext c
 exact rZ l c
theorem vy {l:List Itm} {j:Nat} {x:Itm} (h:l[j]?=some x):Dr.bO (l.map itP)=(Dr.bO ((l.take j).map itP)&&(decide (bF x.2=0)&&!(cg (ew (l.take j)) x.1).isSome&&((aA x.2.2.1).all fun c=>(cg (ew (l.take j)) c).isSome)&&Dr.cP (Dr.css ((l.take j).map itP)++[x.1]) ((l.drop (j+1)).map itP))):=by
 have e:l=l.take j++x :: l.drop (j+1):=by
  have hj:=xah.1 h
  rw [← hj.2,List.getElem_cons_drop,List.take_append_drop]
 unfold Dr.bO
 conv=>lhs;rw [e,List.map_append,iz,List.nil_append,xa9,Dr.cP]
 rw [yW,rZ]
 rfl
theorem qw {l:List Itm} {j:Nat} {x:Itm} (h:l[j]?=some x) (hw:¬ bF x.2=0∨(cg (ew (l.take j)) x.1).isSome=true∨((aA x.2.2.1).all fun c=>(cg (ew (l.take j)) c).isSome)=false):Dr.bO (l.map itP)=false:=by
 rw [vy h]
 rcases hw with hw | hw | hw
 ·simp [hw]
 ·simp [hw]
 ·rw [hw];simp
theorem Az {l:List Itm} {j:Nat} {x:Itm} (h:l[j]?=some x) (hr:Dr.bO ((l.take j).map itP)=true) (h1:bF x.2=0) (h2:(cg (ew (l.take j)) x.1).isSome=false) (h3:((aA x.2.2.1).all fun c=>(cg (ew (l.take j)) c).isSome)=true):Dr.bO ((l.take (j+1)).map itP)=true:=by
 have hj:=(xah.1 h).1
 have h9:(l.take (j+1))[j]?=some x:=by rw [List.getElem?_take_of_lt (by omega)];exact h
 rw [vy h9,List.take_take,Nat.min_eq_left (by omega),hr,h1,h2,h3]
 rw [List.drop_of_length_le (by rw [xaN];omega)]
 rfl
structure sx (wr w:World) (mb:Nat) (A:Option Addr) (cap:Nat) (l:List Itm) (j:Nat):Prop where
 tbl:Blk wr w.heap.size 129 #[.map (some mb),.slice A l.length cap]
 jH:b5 hV okH evN wr mb (ew (l.take j))
 ne:w.heap.size<mb
 right:Dr.bO ((l.take j).map itP)=true
 below:Below w.heap.size w wr
theorem sx.grow {wr w w':World} {mb:Nat} {A:Option Addr} {cap:Nat} {l:List Itm} {j:Nat} (h:sx wr w mb A cap l j) (hb:Below wr.heap.size wr w'):sx w' w mb A cap l j :=
 ⟨h.tbl.below hb h.tbl.lt,h.jH.below hb h.jH.lt,h.ne,h.right,h.below.trans (xar hb h.below.size)⟩
theorem sx.put {wr w w':World} {mb:Nat} {A:Option Addr} {cap:Nat} {l:List Itm} {j:Nat} {x:Itm} (h:sx wr w mb A cap l j) (hx:l[j]?=some x) (hkn:(cg (ew (l.take j)) x.1).isSome=false)
  (hm:b5 hV okH evN w' mb (kT (ew (l.take j)) x.1 j)) (ht:oS wr w' mb) (hr:Dr.bO ((l.take (j+1)).map itP)=true):sx w' w mb A cap l (j+1):=by
 refine ⟨(ht.2.1 _ (by have:=h.ne;omega)).trans h.tbl,?_,h.ne,hr,h.below.grown ht.grown h.below.size fun k hk=>?_⟩
 ·rw [zI hx,← p5 (by cases e:cg (ew (l.take j)) x.1 with | none=>rfl | some v=>rw [e] at hkn;cases hkn)]
  exact hm
 ·have hk:=xam hk
  have:=h.ne
  omega
theorem CH {w w1 w3:World} {A:Option Addr} {cap:Nat} {l:List Itm} (hn:fy w w1 129 #[.map none,.slice none 0 0]) (hk:Blk w3 w.heap.size 129 #[.map (some w1.heap.size),.slice A l.length cap]) (hg:(w1.alloc (.map #[] 0)).grownBy w3 (some w.heap.size)):sx w3 w w1.heap.size A cap l 0:=by
 have h2:Below w.heap.size w (w1.alloc (.map #[] 0)):=hn.below.alloc hn.below.size _
 have hm:b5 hV okH evN (w1.alloc (.map #[] 0)) w1.heap.size (ew (l.take 0)):=m4 w1
 exact ⟨hk,hm.of_eq (hg.block _ hm.lt (fun e=>by have e:=xam e;have:=hn.size;omega)),by have:=hn.size;omega,rfl,h2.grown hg h2.size fun k hk=>by have:=xam hk;omega⟩
def tL (h:Hsh) (u:Value) (w:World):Prop:=∃ r,u=.slice (some ⟨r,0,none⟩) 1 1∧Blk w r 34 (bv h).toArray
def tM (l:List Hsh) (u:Value) (w:World):Prop:=∃ B,w.ownsRow B 34 20 u l.length (l.flatMap bv)
theorem tp (h:Hsh):Fre.df Bel (tL h):=⟨fun u w w' ⟨r,h1,h2⟩ hx=>⟨r,h1,h2.below hx h2.lt⟩⟩
theorem vm (l:List Hsh):Fre.df Bel (tM l):=⟨fun u w w' ⟨B,h⟩ hx=>⟨B,ao h fun g _ hl=>Below.block hx g hl⟩⟩
theorem tL.at_ {h:Hsh} {u:Value} {w:World} (hu:tL h u w) (hh:okH h):cT.At w w.heap.size [u] [h]:=by
 obtain ⟨r,rfl,hb⟩:=hu
 exact ⟨_,1,rfl,xag _,by decide,(fun e=>by cases e),fun _=>⟨r,0,rfl,hb.lt,fun j x hx=>by
  match j,hx with
  | 0,hx =>
   injection hx with hx
   subst hx
   exact ⟨bv h,by have h1:=en hb;simpa using h1,ep.2 ⟨rfl,hh⟩⟩
  | j+1,hx=>simp at hx⟩⟩
theorem tM.at_ {l:List Hsh} {u:Value} {w:World} (hu:tM l u w) (hh:∀ h∈l,okH h):cT.At w w.heap.size [u] l:=by
 obtain ⟨B,h⟩:=hu
 exact ie (L:=gW) (f:=bv) (by decide) h _ (xag _) fun x hx=>ep.2 ⟨rfl,hh x hx⟩
theorem tq {ρ:Operand→Value} {o:Oper} (x:Operand) (ho:o.op=.buildSlice 27 1 #[(0,x)]) {h:Hsh} (hh:okH h) (hx:ρ x=.agg (bv h).toArray) (W:World) :
  ∃ u w',(execOp ρ o).run Tryz.prog W=.ok (.value u) w'∧Fre.Ext Bel W w'∧tL h u w' :=
 ⟨_,_,bl (v:=.agg (bv h).toArray) 27 x ho hx Tryz.underlying27 kP (by omega) (by omega) (z:=.agg zcH) (fun w=>by kernel_rfl) (by rw [xaU,xal,bvL];exact hh) W,(xao _ W).alloc (xag _) _,_,rfl,Blk.new _ _ _⟩
theorem ox (m:List (Hsh×Nat)) (h:Hsh):([h].all fun c=>(cg m c).isSome)=(cg m h).isSome:=by simp
theorem yo:∀ (l:List Nam) (out:List Hsh) (c:Hsh),c∈l.foldl (fun out x=>if x.2.2.2=true∧x.2.2.1 ∉ out then out++[x.2.2.1] else out) out→c∈out∨∃ x∈l,x.2.2.1=c
 | [],out,c,h=>.inl h
 | x :: l,out,c,h=>by
  rcases yo l _ c h with h | ⟨y,hy,e⟩
  ·dsimp only at h
   split at h
   ·rcases xax.1 h with h | h
    ·exact .inl h
    ·exact .inr ⟨x,List.mem_cons_self ..,(xan.1 h).symm⟩
   ·exact .inl h
  ·exact .inr ⟨y,List.mem_cons_of_mem _ hy,e⟩
theorem pb {l:List Nam} (h:∀ x∈l,okN x):∀ c∈aA l,okH c:=fun c hc=>by
 rcases yo l [] c hc with h1 | ⟨x,hx,rfl⟩
 ·cases h1
 ·exact (h x hx).2.2
def Fq (w:World) (A:Option Addr) (cap:Nat) (l:List Itm) (w':World) (e:Ending):Prop :=
 ∃ mb,e=.returned (.tuple #[.agg #[.map (some mb),.slice A l.length cap],.bool (Dr.bO (l.map itP))])∧(Dr.bO (l.map itP)=true→w.heap.size<mb∧b5 hV okH evN w' mb (ew l))∧Below w.heap.size w w'
theorem ss (w:World) (l:List Itm) (A:Option Addr) (cap:Nat) (h:aH.At w w.heap.size [.slice A l.length cap] l) (hl:∀ x∈l,x.2.2.1.length≤1000000) :
  Calls Tryz.prog 73 #[.slice A l.length cap] w fun e w'=>Fq w A cap l w' e:=by
 obtain ⟨A',cap',e,hcl,hcm,_,hA⟩:=aj h
 injection e with e1 e2 e3
 subst e1 e3
 have k9:(l.length:Int)≤9223372036854775807:=by simp only [maxLen] at hcm;omega
 have HA:=ab hA
 clear hA h hcl hcm e2
 have hmm:=@run_makeMap Tryz.prog
 go_enter Tryz.func73,Tryz.ntmps73
 go_wp2_with (first | ((with_reducible refine ae 2 ?_);(refine aC rfl 129 #[.map none,.slice none 0 0] (by kernel_rfl) ?_);intro w1 hn;have HN1:=ab hn;clear hn;simp only [xae,xaa,xab,xac]) | ((with_reducible refine ae 10 ?_);(refine aa rfl (.agg #[.map (some w1.heap.size),.slice A l.length cap]) (w1.alloc (.map #[] 0)) (by kernel_rfl) ?_)) | ((with_reducible refine aV 2 10 ?_);(with_reducible refine ak rfl 129 (.tmp 2) (.tmp 10) rfl w.heap.size #[.map none,.slice none 0 0] #[.map (some w1.heap.size),.slice A l.length cap] 129 (HN1.out.blk.alloc _) ?_ ?_ ?_ ?_ ?_ ?_);kernel_rfl;rfl;kernel_rfl;rfl;rfl;intro w3 hk3 hg3;have hst0:sx w3 w w1.heap.size A cap l 0:=CH HN1.out hk3 hg3;have HS:=ab hst0;clear hk3 hg3 hst0;simp only [xae,xaa,xab,xac]))
 obtain ⟨mb,hmb⟩:∃ mb,mb=w1.heap.size:=⟨_,rfl⟩
 rw [← hmb] at HS ⊢
 clear hmb hmm
 go_loopw [13] (fun y wr=>∃ j:Nat,j≤l.length∧y=.int .i64 (j:Int)∧sx wr w mb A cap l j) (fun y _=>l.length-(intOf y).toNat)
 case atStart=>exact ⟨0,by omega,rfl,HS.out⟩
 case round =>
  obtain ⟨wo,rfl⟩:∃ wo,wo=wr:=⟨_,rfl⟩
  obtain ⟨j,hj,rfl,hst⟩:=hrel
  have HI:=ab hst
  clear hst
  have j0:(0:Int)≤(j:Int):=by omega
  by_cases hj2:j<l.length
  ·have j1:(j:Int)<(l.length:Int):=by omega
   obtain ⟨x,hx⟩:∃ x,l[j]?=some x:=⟨_,xai hj2⟩
   obtain ⟨b,off,rfl,hlb,hE⟩:=HA.out (by omega)
   obtain ⟨cs,hr,hatx⟩:=hE j x hx
   obtain ⟨q1,q2,rfl,hxo,hxd⟩:=cF.1 hatx
   obtain ⟨B1,k1,rfl,_⟩:=aj hxd.ins
   obtain ⟨B2,k2,rfl,_⟩:=aj hxd.rcp
   obtain ⟨q1,hq1⟩:∃ q1,q1=xas B1 x.2.2.1.length k1:=⟨_,rfl⟩
   obtain ⟨q2,hq2⟩:∃ q2,q2=xas B2 x.2.2.2.length k2:=⟨_,rfl⟩
   have hone1:q1.oneCell'=true∧q2.oneCell'=true:=by rw [hq1,hq2];exact ⟨rfl,rfl⟩
   rw [← hq1,← hq2] at hr hatx
   rw [← hq1,← hq2] at hxd
   have hbnd:=hl x (xaj hx)
   have HX:=ab (xad (bX hr (HI.out.below.block b (by omega))) (xad hxo hxd))
   have HXX:=ab hx
   have hszt2:(Tryz.prog.info? 59).map (·.size)=some (tC x q1 q2).toArray.size:=by rw [show (tC x q1 q2).toArray.size=23 by rw [xal];exact cl hxo];kernel_rfl
   have hszt:(Tryz.prog.info? 59).map (·.size)=some (tC x q1 q2).length:=by simpa using hszt2
   have hszzt:zcT.size=(tC x q1 q2).toArray.size:=by rw [show (tC x q1 q2).toArray.size=23 by rw [xal];exact cl hxo];kernel_rfl
   have honet:(tC x q1 q2).toArray.all (·.oneCell')=true:=all_oneCell_toArray (gQ x hone1.1 hone1.2)
   have hszx:(Tryz.prog.info? 34).map (·.size)=some (bv x.1).length:=by have:=bB hxo;simpa using this
   clear hx hE hr hatx hxo hxd hq1 hq2
   go_wp2_with (first | ((with_reducible refine ae 16 ?_);(refine aa rfl (.pointer (some ⟨b,off+(j:Int).toNat*23,none⟩)) wo (aJ 22 59 (.tmp 11) (.tmp 13) rfl b off l.length cap (j:Int) .i64 rfl rfl ⟨j0,j1⟩ 23 Tryz.underlying22 cJ wo) ?_;rw [show off+(j:Int).toNat*23=off+j*23 by omega])) | ((with_reducible refine ae 17 ?_);(refine aa rfl (.agg (tC x q1 q2).toArray) wo (ai 59 (.tmp 16) rfl b (off+j*23) rfl (tC x q1 q2) _ wo HX.out.1 Tryz.underlying59 rfl hszt) ?_)) | ((with_reducible refine ae 5 ?_);(refine aC rfl 59 zcT (by kernel_rfl) ?_);intro w3 hn;have H3:=ab hn;clear hn;simp only [xae,xaa,xab,xac]) | ((with_reducible refine aV 5 17 ?_);(with_reducible refine ak rfl 59 (.tmp 5) (.tmp 17) rfl wo.heap.size zcT (tC x q1 q2).toArray 59 H3.out.blk ?_ ?_ ?_ ?_ ?_ ?_);exact hszt2;exact hszzt;exact honet;rfl;rfl;intro w4 hk4 hg4;have h34:Below wo.heap.size wo w4:=(H3.out.below.grown hg4 (by have:=H3.out.size;omega) (fun b hb=>(by injection hb with hb;omega)));have H4:=ab (xad hk4 h34);clear hk4 hg4 h34;simp only [xae]) | ((with_reducible refine ae 20 ?_);(refine aa rfl (.agg (dC x.2 q1 q2).toArray) w4 (ai 26 (.tmp 19) rfl wo.heap.size (20) rfl (dC x.2 q1 q2) _ w4 (jk HX.out.2.1 H4.out.1) Tryz.underlying26 rfl (by kernel_rfl)) ?_)))
   have hat4:au w4 w4.heap.size x.2 q1 q2:=(HX.out.2.2.alike fun b hb=>(H4.out.2.block b (by have:=HI.out.below.size;omega)).trans (HI.out.below.block b hb)).eY (by have:=HI.out.below.size;have:=H4.out.2.size;omega)
   refine (tv w4 x.2 q1 q2 hat4).mono ?_
   rintro e w5 ⟨pv,rfl,_,hb⟩
   dsimp only
   have h45:=H4.out.2.trans (xar hb H4.out.2.size)
   have H5:=ab (xad (H4.out.1.below hb H4.out.1.lt) (xad (HI.out.grow h45) (xad h45 (hat4.eD hb))))
   clear hb h45 hat4
   obtain ⟨pe,hpe⟩:∃ pe,pe=bF x.2:=⟨_,rfl⟩
   rw [← hpe]
   have HPE:=ab hpe
   clear hpe
   by_cases he:pe=0
   ·subst he
    cases hkn:(cg (ew (l.take j)) x.1).isSome
    ·have HKN:=ab hkn
     clear hkn
     cases hal:(aA x.2.2.1).all fun c=>(cg (ew (l.take j)) c).isSome
     ·have HAL:=ab hal
      clear hal
      have HX9:Hid (∀ W,Fre.Ext Bel w5 W→au W W.heap.size x.2 q1 q2):=ab fun W hW=>H5.out.2.2.2.eD hW
      have HNR:Hid (Dr.bO (l.map itP)=false):=ab (qw HXX.out (by exact .inr (.inr HAL.out)))
      go_wp2_with fail
      refine Fre.b4 (X:=Bel) 18 [(31,tL x.1),(39,tM (aA x.2.2.1))] (by kernel_rfl) (by kernel_rfl) (by intro p hp;simp only [xaD,xaS,or_false] at hp;rcases hp with rfl | rfl;exact tp _;exact vm _) (by simp) (by simp) ?_
      simp only [xau,xaC,xay,xaK]
      refine Fre.ag (.int .i64 0) (by kernel_rfl) (by kernel_rfl) (by kernel_rfl) (fun _ _=>by kernel_rfl) ?_
      simp only [xae,xaa,xab,xac]
      refine Fre.ag (.bool false) (by kernel_rfl) (by kernel_rfl) (by kernel_rfl) (fun _ _=>by kernel_rfl) ?_
      simp only [xae,xaa,xab,xac]
      refine Fre.ag (.bool false) (by kernel_rfl) (by kernel_rfl) (by kernel_rfl) (fun _ _=>by kernel_rfl) ?_
      simp only [xae,xaa,xab,xac]
      refine Fre.ag (.pointer (some ⟨w.heap.size,0,none⟩)) (by kernel_rfl) (by kernel_rfl) (by kernel_rfl) (fun _ _=>by kernel_rfl) ?_
      simp only [xae,xaa,xab,xac]
      refine Fre.ag (.map (some mb)) (by kernel_rfl) (by kernel_rfl) (by kernel_rfl) (fun W9 hW9=>exec_load_cell 127 (.tmp 27) rfl ⟨w.heap.size,0,none⟩ rfl _ _ W9 Tryz.underlying127 rfl ((H5.out.2.1.grow hW9).tbl.cell 0)) ?_
      simp only [xae,xaa,xab,xac]
      refine Fre.ag (.pointer (some ⟨wo.heap.size,0,none⟩)) (by kernel_rfl) (by kernel_rfl) (by kernel_rfl) (fun _ _=>by kernel_rfl) ?_
      simp only [xae,xaa,xab,xac]
      refine Fre.ag (.agg (bv x.1).toArray) (by kernel_rfl) (by kernel_rfl) (by kernel_rfl) (fun W9 hW9=>ai 34 (.tmp 29) rfl wo.heap.size (0) rfl (bv x.1) _ W9 (iu HX.out.2.1 (H5.out.1.below hW9 H5.out.1.lt)) Tryz.underlying34 rfl hszx) ?_
      simp only [xae,xaa,xab,xac]
      refine Fre.gI 31 _ (by kernel_rfl) (by kernel_rfl) rfl rfl (fun W hW=>tq (.tmp 30) rfl HX.out.2.1 rfl W) ?_
      simp only [xae,xaa,xab,xac]
      refine Fre.ga 31 _ (.bool false) 74 (fun u=>#[.map (some mb),u]) (by kernel_rfl) rfl (by kernel_rfl) (by kernel_rfl) (fun u W=>by kernel_rfl) (fun u W hW hu=>?hc32) ?_
      case hc32 =>
       have h:=kx W mb _ (H5.out.2.1.grow hW).jH [x.1] u (hu.at_ HX.out.2.1)
       rw [ox] at h
       rw [HKN.out] at h
       exact h
      simp only [xae,xaa,xab,xac]
      refine Fre.ag (.bool false) (by kernel_rfl) (by kernel_rfl) (by kernel_rfl) (fun _ _=>by kernel_rfl) ?_
      simp only [xae,xaa,xab,xac]
      refine Fre.ag (.bool false) (by kernel_rfl) (by kernel_rfl) (by kernel_rfl) (fun _ _=>by kernel_rfl) ?_
      simp only [xae,xaa,xab,xac]
      refine Fre.ag (.pointer (some ⟨w.heap.size,0,none⟩)) (by kernel_rfl) (by kernel_rfl) (by kernel_rfl) (fun _ _=>by kernel_rfl) ?_
      simp only [xae,xaa,xab,xac]
      refine Fre.ag (.map (some mb)) (by kernel_rfl) (by kernel_rfl) (by kernel_rfl) (fun W9 hW9=>exec_load_cell 127 (.tmp 35) rfl ⟨w.heap.size,0,none⟩ rfl _ _ W9 Tryz.underlying127 rfl ((H5.out.2.1.grow hW9).tbl.cell 0)) ?_
      simp only [xae,xaa,xab,xac]
      refine Fre.ag (.pointer (some ⟨wo.heap.size,20,none⟩)) (by kernel_rfl) (by kernel_rfl) (by kernel_rfl) (fun _ _=>by kernel_rfl) ?_
      simp only [xae,xaa,xab,xac]
      refine Fre.ag (.agg (dC x.2 q1 q2).toArray) (by kernel_rfl) (by kernel_rfl) (by kernel_rfl) (fun W9 hW9=>ai 26 (.tmp 37) rfl wo.heap.size (20) rfl (dC x.2 q1 q2) _ W9 (jk HX.out.2.1 (H5.out.1.below hW9 H5.out.1.lt)) Tryz.underlying26 rfl (by kernel_rfl)) ?_
      simp only [xae,xaa,xab,xac]
      refine Fre.dt 39 _ 46 #[.agg (dC x.2 q1 q2).toArray] (by kernel_rfl) (by kernel_rfl) rfl rfl (fun W=>by kernel_rfl) (fun W hW=>(iI W x.2 q1 q2 (HX9.out W hW) hbnd).mono (fun e w' ⟨u,h1,h2,h3⟩=>⟨u,h1,h3,_,h2⟩)) ?_
      simp only [xae,xaa,xab,xac]
      refine Fre.ga 39 _ (.bool false) 74 (fun u=>#[.map (some mb),u]) (by kernel_rfl) rfl (by kernel_rfl) (by kernel_rfl) (fun u W=>by kernel_rfl) (fun u W hW hu=>?hc40) ?_
      case hc40 =>
       have h:=kx W mb _ (H5.out.2.1.grow hW).jH (aA x.2.2.1) u (hu.at_ (pb HX.out.2.2.okn))
       rw [HAL.out] at h
       exact h
      simp only [xae,xaa,xab,xac]
      refine Fre.ag (.bool true) (by kernel_rfl) (by kernel_rfl) (by kernel_rfl) (fun _ _=>by kernel_rfl) ?_
      simp only [xae,xaa,xab,xac]
      intro w6 hx6
      have H6:=ab (xad (H5.out.1.below hx6 H5.out.1.lt) (xad (H5.out.2.1.grow hx6) (H5.out.2.2.1.trans (xar hx6 H5.out.2.2.1.size))))
      clear hx6
      dsimp only [Fre.ended,xaE]
      rintro u31 _ u39 _
      go_wp2_with (first | ((with_reducible refine ae 43 ?_);(refine aa rfl (.agg #[.map (some mb),.slice (some ⟨b,off,none⟩) l.length cap]) w6 (av 129 (.tmp 2) rfl w.heap.size rfl 129 _ _ w6 H6.out.2.1.tbl Tryz.underlying129 rfl (by kernel_rfl)) ?_)) | ((with_reducible refine aV 2 43 ?_);(with_reducible refine ak rfl 129 (.tmp 2) (.tmp 43) rfl w.heap.size #[.map (some mb),.slice (some ⟨b,off,none⟩) l.length cap] #[.map (some mb),.slice (some ⟨b,off,none⟩) l.length cap] 129 H6.out.2.1.tbl ?_ ?_ ?_ ?_ ?_ ?_);kernel_rfl;rfl;kernel_rfl;rfl;rfl;intro w7 hk7 hg7;have hb7:Below w.heap.size w w7:=(H6.out.2.1.below.grown hg7 H6.out.2.1.below.size (fun b hb=>(by injection hb with hb;omega)));have H7:=ab (xad hk7 hb7);clear hk7 hg7 hb7;simp only [xae,xaa,xab,xac]))
      refine bodyPost_ret (results_cell_tmp rfl _ _ w.heap.size 129 #[.map (some mb),.slice (some ⟨b,off,none⟩) l.length cap] (0,0) _ rfl H7.out.1 Tryz.underlying129 rfl (by kernel_rfl)) rfl ?_
      exact ⟨mb,by rw [HNR.out];rfl,(fun h=>absurd (HNR.out.symm.trans h) (by decide)),H7.out.2⟩
     ·have HAL:=ab hal
      clear hal
      have HX9:Hid (∀ W,Fre.Ext Bel w5 W→au W W.heap.size x.2 q1 q2):=ab fun W hW=>H5.out.2.2.2.eD hW
      have HR9:=ab (Az HXX.out HI.out.right HPE.out.symm HKN.out HAL.out)
      go_wp2_with fail
      refine Fre.b4 (X:=Bel) 18 [(31,tL x.1),(39,tM (aA x.2.2.1))] (by kernel_rfl) (by kernel_rfl) (by intro p hp;simp only [xaD,xaS,or_false] at hp;rcases hp with rfl | rfl;exact tp _;exact vm _) (by simp) (by simp) ?_
      simp only [xau,xaC,xay,xaK]
      refine Fre.ag (.int .i64 0) (by kernel_rfl) (by kernel_rfl) (by kernel_rfl) (fun _ _=>by kernel_rfl) ?_
      simp only [xae,xaa,xab,xac]
      refine Fre.ag (.bool false) (by kernel_rfl) (by kernel_rfl) (by kernel_rfl) (fun _ _=>by kernel_rfl) ?_
      simp only [xae,xaa,xab,xac]
      refine Fre.ag (.bool false) (by kernel_rfl) (by kernel_rfl) (by kernel_rfl) (fun _ _=>by kernel_rfl) ?_
      simp only [xae,xaa,xab,xac]
      refine Fre.ag (.pointer (some ⟨w.heap.size,0,none⟩)) (by kernel_rfl) (by kernel_rfl) (by kernel_rfl) (fun _ _=>by kernel_rfl) ?_
      simp only [xae,xaa,xab,xac]
      refine Fre.ag (.map (some mb)) (by kernel_rfl) (by kernel_rfl) (by kernel_rfl) (fun W9 hW9=>exec_load_cell 127 (.tmp 27) rfl ⟨w.heap.size,0,none⟩ rfl _ _ W9 Tryz.underlying127 rfl ((H5.out.2.1.grow hW9).tbl.cell 0)) ?_
      simp only [xae,xaa,xab,xac]
      refine Fre.ag (.pointer (some ⟨wo.heap.size,0,none⟩)) (by kernel_rfl) (by kernel_rfl) (by kernel_rfl) (fun _ _=>by kernel_rfl) ?_
      simp only [xae,xaa,xab,xac]
      refine Fre.ag (.agg (bv x.1).toArray) (by kernel_rfl) (by kernel_rfl) (by kernel_rfl) (fun W9 hW9=>ai 34 (.tmp 29) rfl wo.heap.size (0) rfl (bv x.1) _ W9 (iu HX.out.2.1 (H5.out.1.below hW9 H5.out.1.lt)) Tryz.underlying34 rfl hszx) ?_
      simp only [xae,xaa,xab,xac]
      refine Fre.gI 31 _ (by kernel_rfl) (by kernel_rfl) rfl rfl (fun W hW=>tq (.tmp 30) rfl HX.out.2.1 rfl W) ?_
      simp only [xae,xaa,xab,xac]
      refine Fre.ga 31 _ (.bool false) 74 (fun u=>#[.map (some mb),u]) (by kernel_rfl) rfl (by kernel_rfl) (by kernel_rfl) (fun u W=>by kernel_rfl) (fun u W hW hu=>?hc32) ?_
      case hc32 =>
       have h:=kx W mb _ (H5.out.2.1.grow hW).jH [x.1] u (hu.at_ HX.out.2.1)
       rw [ox] at h
       rw [HKN.out] at h
       exact h
      simp only [xae,xaa,xab,xac]
      refine Fre.ag (.bool false) (by kernel_rfl) (by kernel_rfl) (by kernel_rfl) (fun _ _=>by kernel_rfl) ?_
      simp only [xae,xaa,xab,xac]
      refine Fre.ag (.bool false) (by kernel_rfl) (by kernel_rfl) (by kernel_rfl) (fun _ _=>by kernel_rfl) ?_
      simp only [xae,xaa,xab,xac]
      refine Fre.ag (.pointer (some ⟨w.heap.size,0,none⟩)) (by kernel_rfl) (by kernel_rfl) (by kernel_rfl) (fun _ _=>by kernel_rfl) ?_
      simp only [xae,xaa,xab,xac]
      refine Fre.ag (.map (some mb)) (by kernel_rfl) (by kernel_rfl) (by kernel_rfl) (fun W9 hW9=>exec_load_cell 127 (.tmp 35) rfl ⟨w.heap.size,0,none⟩ rfl _ _ W9 Tryz.underlying127 rfl ((H5.out.2.1.grow hW9).tbl.cell 0)) ?_
      simp only [xae,xaa,xab,xac]
      refine Fre.ag (.pointer (some ⟨wo.heap.size,20,none⟩)) (by kernel_rfl) (by kernel_rfl) (by kernel_rfl) (fun _ _=>by kernel_rfl) ?_
      simp only [xae,xaa,xab,xac]
      refine Fre.ag (.agg (dC x.2 q1 q2).toArray) (by kernel_rfl) (by kernel_rfl) (by kernel_rfl) (fun W9 hW9=>ai 26 (.tmp 37) rfl wo.heap.size (20) rfl (dC x.2 q1 q2) _ W9 (jk HX.out.2.1 (H5.out.1.below hW9 H5.out.1.lt)) Tryz.underlying26 rfl (by kernel_rfl)) ?_
      simp only [xae,xaa,xab,xac]
      refine Fre.dt 39 _ 46 #[.agg (dC x.2 q1 q2).toArray] (by kernel_rfl) (by kernel_rfl) rfl rfl (fun W=>by kernel_rfl) (fun W hW=>(iI W x.2 q1 q2 (HX9.out W hW) hbnd).mono (fun e w' ⟨u,h1,h2,h3⟩=>⟨u,h1,h3,_,h2⟩)) ?_
      simp only [xae,xaa,xab,xac]
      refine Fre.ga 39 _ (.bool true) 74 (fun u=>#[.map (some mb),u]) (by kernel_rfl) rfl (by kernel_rfl) (by kernel_rfl) (fun u W=>by kernel_rfl) (fun u W hW hu=>?hc40) ?_
      case hc40 =>
       have h:=kx W mb _ (H5.out.2.1.grow hW).jH (aA x.2.2.1) u (hu.at_ (pb HX.out.2.2.okn))
       rw [HAL.out] at h
       exact h
      simp only [xae,xaa,xab,xac]
      refine Fre.ag (.bool false) (by kernel_rfl) (by kernel_rfl) (by kernel_rfl) (fun _ _=>by kernel_rfl) ?_
      simp only [xae,xaa,xab,xac]
      intro w6 hx6
      have H6:=ab (xad (H5.out.1.below hx6 H5.out.1.lt) (xad (H5.out.2.1.grow hx6) (H5.out.2.2.1.trans (xar hx6 H5.out.2.2.1.size))))
      clear hx6
      dsimp only [Fre.ended,xaE]
      rintro u31 _ u39 _
      obtain ⟨w7,r1,r2,r3⟩:=b5.update H6.out.2.1.jH ed HX.out.2.1 Tryz.underlying127 j
      have HU:=ab (xad r1 (xad r2 r3))
      clear r1 r2 r3
      go_wp2_with (first | ((with_reducible refine ae 45 ?_);(refine aa rfl (.map (some mb)) w6 (exec_load_cell 127 (.tmp 44) rfl ⟨w.heap.size,0,none⟩ rfl _ _ w6 Tryz.underlying127 rfl (show w6.cell? ⟨w.heap.size,0,none⟩=some (.map (some mb)) from H6.out.2.1.tbl.cell 0)) ?_)) | ((with_reducible refine ae 47 ?_);(refine aa rfl (.agg (bv x.1).toArray) w6 (ai 34 (.tmp 46) rfl wo.heap.size (0) rfl (bv x.1) _ w6 (iu HX.out.2.1 H6.out.1) Tryz.underlying34 rfl hszx) ?_)) | (refine jy rfl 127 (.tmp 45) (.tmp 47) (.tmp 48) rfl _ _ _ rfl rfl rfl HU.out.1 ?_))
      go_roundw
      case rel=>exact ⟨j+1,by omega,by go_num,(H6.out.2.1.put HXX.out HKN.out HU.out.2.1 HU.out.2.2 HR9.out)⟩
      case measure=>simp [intOf];omega
    ·have HKN:=ab hkn
     clear hkn
     have HNR:Hid (Dr.bO (l.map itP)=false):=ab (qw HXX.out (by exact .inr (.inl HKN.out)))
     go_wp2_with fail
     refine Fre.b4 (X:=Bel) 18 [(31,tL x.1)] (by kernel_rfl) (by kernel_rfl) (by intro p hp;rw [xan.1 hp];exact tp _) (by simp) (by simp) ?_
     simp only [xau,xaC,xay,xaK]
     refine Fre.ag (.int .i64 0) (by kernel_rfl) (by kernel_rfl) (by kernel_rfl) (fun _ _=>by kernel_rfl) ?_
     simp only [xae,xaa,xab,xac]
     refine Fre.ag (.bool false) (by kernel_rfl) (by kernel_rfl) (by kernel_rfl) (fun _ _=>by kernel_rfl) ?_
     simp only [xae,xaa,xab,xac]
     refine Fre.ag (.bool false) (by kernel_rfl) (by kernel_rfl) (by kernel_rfl) (fun _ _=>by kernel_rfl) ?_
     simp only [xae,xaa,xab,xac]
     refine Fre.ag (.pointer (some ⟨w.heap.size,0,none⟩)) (by kernel_rfl) (by kernel_rfl) (by kernel_rfl) (fun _ _=>by kernel_rfl) ?_
     simp only [xae,xaa,xab,xac]
     refine Fre.ag (.map (some mb)) (by kernel_rfl) (by kernel_rfl) (by kernel_rfl) (fun W9 hW9=>exec_load_cell 127 (.tmp 27) rfl ⟨w.heap.size,0,none⟩ rfl _ _ W9 Tryz.underlying127 rfl ((H5.out.2.1.grow hW9).tbl.cell 0)) ?_
     simp only [xae,xaa,xab,xac]
     refine Fre.ag (.pointer (some ⟨wo.heap.size,0,none⟩)) (by kernel_rfl) (by kernel_rfl) (by kernel_rfl) (fun _ _=>by kernel_rfl) ?_
     simp only [xae,xaa,xab,xac]
     refine Fre.ag (.agg (bv x.1).toArray) (by kernel_rfl) (by kernel_rfl) (by kernel_rfl) (fun W9 hW9=>ai 34 (.tmp 29) rfl wo.heap.size (0) rfl (bv x.1) _ W9 (iu HX.out.2.1 (H5.out.1.below hW9 H5.out.1.lt)) Tryz.underlying34 rfl hszx) ?_
     simp only [xae,xaa,xab,xac]
     refine Fre.gI 31 _ (by kernel_rfl) (by kernel_rfl) rfl rfl (fun W hW=>tq (.tmp 30) rfl HX.out.2.1 rfl W) ?_
     simp only [xae,xaa,xab,xac]
     refine Fre.ga 31 _ (.bool true) 74 (fun u=>#[.map (some mb),u]) (by kernel_rfl) rfl (by kernel_rfl) (by kernel_rfl) (fun u W=>by kernel_rfl) (fun u W hW hu=>?hc32) ?_
     case hc32 =>
      have h:=kx W mb _ (H5.out.2.1.grow hW).jH [x.1] u (hu.at_ HX.out.2.1)
      rw [ox] at h
      rw [HKN.out] at h
      exact h
     simp only [xae,xaa,xab,xac]
     refine Fre.ag (.bool true) (by kernel_rfl) (by kernel_rfl) (by kernel_rfl) (fun _ _=>by kernel_rfl) ?_
     simp only [xae,xaa,xab,xac]
     refine Fre.ag (.bool true) (by kernel_rfl) (by kernel_rfl) (by kernel_rfl) (fun _ _=>by kernel_rfl) ?_
     simp only [xae,xaa,xab,xac]
     refine Fre.bR (by kernel_rfl) (by kernel_rfl) (by kernel_rfl) ?_
     refine Fre.bR (by kernel_rfl) (by kernel_rfl) (by kernel_rfl) ?_
     refine Fre.bR (by kernel_rfl) (by kernel_rfl) (by kernel_rfl) ?_
     refine Fre.bR (by kernel_rfl) (by kernel_rfl) (by kernel_rfl) ?_
     refine Fre.bR (by kernel_rfl) (by kernel_rfl) (by kernel_rfl) ?_
     refine Fre.bR (by kernel_rfl) (by kernel_rfl) (by kernel_rfl) ?_
     refine Fre.bR (by kernel_rfl) (by kernel_rfl) (by kernel_rfl) ?_
     intro w6 hx6
     have H6:=ab (xad (H5.out.1.below hx6 H5.out.1.lt) (xad (H5.out.2.1.grow hx6) (H5.out.2.2.1.trans (xar hx6 H5.out.2.2.1.size))))
     clear hx6
     dsimp only [Fre.ended,xaE]
     rintro u31 _
     go_wp2_with (first | ((with_reducible refine ae 43 ?_);(refine aa rfl (.agg #[.map (some mb),.slice (some ⟨b,off,none⟩) l.length cap]) w6 (av 129 (.tmp 2) rfl w.heap.size rfl 129 _ _ w6 H6.out.2.1.tbl Tryz.underlying129 rfl (by kernel_rfl)) ?_)) | ((with_reducible refine aV 2 43 ?_);(with_reducible refine ak rfl 129 (.tmp 2) (.tmp 43) rfl w.heap.size #[.map (some mb),.slice (some ⟨b,off,none⟩) l.length cap] #[.map (some mb),.slice (some ⟨b,off,none⟩) l.length cap] 129 H6.out.2.1.tbl ?_ ?_ ?_ ?_ ?_ ?_);kernel_rfl;rfl;kernel_rfl;rfl;rfl;intro w7 hk7 hg7;have hb7:Below w.heap.size w w7:=(H6.out.2.1.below.grown hg7 H6.out.2.1.below.size (fun b hb=>(by injection hb with hb;omega)));have H7:=ab (xad hk7 hb7);clear hk7 hg7 hb7;simp only [xae,xaa,xab,xac]))
     refine bodyPost_ret (results_cell_tmp rfl _ _ w.heap.size 129 #[.map (some mb),.slice (some ⟨b,off,none⟩) l.length cap] (0,0) _ rfl H7.out.1 Tryz.underlying129 rfl (by kernel_rfl)) rfl ?_
     exact ⟨mb,by rw [HNR.out];rfl,(fun h=>absurd (HNR.out.symm.trans h) (by decide)),H7.out.2⟩
   ·have hne:(pe != 0)=true:=by simpa using he
    have HHE:=ab he
    clear he
    have HNR:Hid (Dr.bO (l.map itP)=false):=ab (qw HXX.out (by rw [← HPE.out];exact .inl HHE.out))
    go_wp2_with fail
    refine Fre.b4 (X:=Bel) 18 [] (by kernel_rfl) (by kernel_rfl) (by simp) (by simp) (by simp) ?_
    simp only [xau,xaC,xay,xaK]
    refine Fre.ag (.int .i64 pe) (by kernel_rfl) (by kernel_rfl) (by kernel_rfl) (fun _ _=>by kernel_rfl) ?_
    simp only [xae,xaa,xab,xac]
    refine Fre.ag (.bool true) (by kernel_rfl) (by kernel_rfl) (by kernel_rfl) (fun W9 hW9=>?hs1) ?_
    case hs1 =>
     go_simp
     done
    simp only [xae,xaa,xab,xac]
    refine Fre.ag (.bool true) (by kernel_rfl) (by kernel_rfl) (by kernel_rfl) (fun _ _=>by kernel_rfl) ?_
    simp only [xae,xaa,xab,xac]
    refine Fre.bR (by kernel_rfl) (by kernel_rfl) (by kernel_rfl) ?_
    refine Fre.bR (by kernel_rfl) (by kernel_rfl) (by kernel_rfl) ?_
    refine Fre.bR (by kernel_rfl) (by kernel_rfl) (by kernel_rfl) ?_
    refine Fre.bR (by kernel_rfl) (by kernel_rfl) (by kernel_rfl) ?_
    refine Fre.bR (by kernel_rfl) (by kernel_rfl) (by kernel_rfl) ?_
    refine Fre.bR (by kernel_rfl) (by kernel_rfl) (by kernel_rfl) ?_
    refine Fre.ag (.bool true) (by kernel_rfl) (by kernel_rfl) (by kernel_rfl) (fun _ _=>by kernel_rfl) ?_
    simp only [xae,xaa,xab,xac]
    refine Fre.ag (.bool true) (by kernel_rfl) (by kernel_rfl) (by kernel_rfl) (fun _ _=>by kernel_rfl) ?_
    simp only [xae,xaa,xab,xac]
    refine Fre.bR (by kernel_rfl) (by kernel_rfl) (by kernel_rfl) ?_
    refine Fre.bR (by kernel_rfl) (by kernel_rfl) (by kernel_rfl) ?_
    refine Fre.bR (by kernel_rfl) (by kernel_rfl) (by kernel_rfl) ?_
    refine Fre.bR (by kernel_rfl) (by kernel_rfl) (by kernel_rfl) ?_
    refine Fre.bR (by kernel_rfl) (by kernel_rfl) (by kernel_rfl) ?_
    refine Fre.bR (by kernel_rfl) (by kernel_rfl) (by kernel_rfl) ?_
    refine Fre.bR (by kernel_rfl) (by kernel_rfl) (by kernel_rfl) ?_
    intro w6 hx6
    have H6:=ab (xad (H5.out.1.below hx6 H5.out.1.lt) (xad (H5.out.2.1.grow hx6) (H5.out.2.2.1.trans (xar hx6 H5.out.2.2.1.size))))
    clear hx6
    dsimp only [Fre.ended,xaE]
    go_wp2_with (first | ((with_reducible refine ae 43 ?_);(refine aa rfl (.agg #[.map (some mb),.slice (some ⟨b,off,none⟩) l.length cap]) w6 (av 129 (.tmp 2) rfl w.heap.size rfl 129 _ _ w6 H6.out.2.1.tbl Tryz.underlying129 rfl (by kernel_rfl)) ?_)) | ((with_reducible refine aV 2 43 ?_);(with_reducible refine ak rfl 129 (.tmp 2) (.tmp 43) rfl w.heap.size #[.map (some mb),.slice (some ⟨b,off,none⟩) l.length cap] #[.map (some mb),.slice (some ⟨b,off,none⟩) l.length cap] 129 H6.out.2.1.tbl ?_ ?_ ?_ ?_ ?_ ?_);kernel_rfl;rfl;kernel_rfl;rfl;rfl;intro w7 hk7 hg7;have hb7:Below w.heap.size w w7:=(H6.out.2.1.below.grown hg7 H6.out.2.1.below.size (fun b hb=>(by injection hb with hb;omega)));have H7:=ab (xad hk7 hb7);clear hk7 hg7 hb7;simp only [xae,xaa,xab,xac]))
    refine bodyPost_ret (results_cell_tmp rfl _ _ w.heap.size 129 #[.map (some mb),.slice (some ⟨b,off,none⟩) l.length cap] (0,0) _ rfl H7.out.1 Tryz.underlying129 rfl (by kernel_rfl)) rfl ?_
    exact ⟨mb,by rw [HNR.out];rfl,(fun h=>absurd (HNR.out.symm.trans h) (by decide)),H7.out.2⟩
  ·obtain rfl:j=l.length:=by omega
   have HRR:=HI.out.right
   rw [xaG] at HRR
   have HM:=HI.out.jH
   rw [xaG] at HM
   have HQ:=ab (xad HRR HM)
   clear HRR HM
   go_wp2_with (first | ((with_reducible refine ae 50 ?_);(refine aa rfl (.agg #[.map (some mb),.slice A l.length cap]) wo (av 129 (.tmp 2) rfl w.heap.size rfl 129 _ _ wo HI.out.tbl Tryz.underlying129 rfl (by kernel_rfl)) ?_)) | ((with_reducible refine aV 2 50 ?_);(with_reducible refine ak rfl 129 (.tmp 2) (.tmp 50) rfl w.heap.size #[.map (some mb),.slice A l.length cap] #[.map (some mb),.slice A l.length cap] 129 HI.out.tbl ?_ ?_ ?_ ?_ ?_ ?_);kernel_rfl;rfl;kernel_rfl;rfl;rfl;intro w7 hk7 hg7;have hb7:Below w.heap.size w w7:=(HI.out.below.grown hg7 HI.out.below.size (fun b hb=>(by injection hb with hb;omega)));have H7:=ab (xad hk7 (xad hb7 (HQ.out.2.of_eq (hg7.block mb HI.out.jH.lt (fun e=>(by injection e with e;have:=HI.out.ne;omega))))));clear hk7 hg7 hb7;simp only [xae,xaa,xab,xac]))
   refine bodyPost_ret (results_cell_tmp rfl _ _ w.heap.size 129 #[.map (some mb),.slice A l.length cap] (0,0) _ rfl H7.out.1 Tryz.underlying129 rfl (by kernel_rfl)) rfl ?_
   exact ⟨mb,by rw [HQ.out.1];rfl,(fun _=>⟨HI.out.ne,H7.out.2.2⟩),H7.out.2.1⟩
end Go.Proofs.YtomnhnmciopiiaaGreat
end
section
namespace Go.Proofs.YtomnhnmciopiiaaGreat
open Go Go.RowKit Go.Shelf
def iR (o:Oper):Bool:=match o.op with | .defer _=>false | _=>true
theorem qf {o:Oper} (h:iR o=true):∀ c,o.op ≠ .defer c:=fun c e=>by
 unfold iR at h
 rw [e] at h
 cases h
section
variable {P:Program} {ops:Array Oper} {Q:Exit→Act→World→Prop} {r n:Nat}
theorem EJ {row:String} {args:Array Value} {w:World} {R:Value→World→Prop} {m:Nat} (h:Rows P row args w R):RowsIn (Fence.wide.inRound r) m P row args w R :=
 fun c cs _=>let ⟨v,w',h1,h2⟩:=h c cs;⟨v,w',h1,stepsIn_wide.2 h2⟩
theorem E7 {o:Oper} {a:Act} {next next':Act→World→Prop} (hn:∀ a w,next a w→next' a w):∀ (res:Result Next),o.upon P a next Q res→o.uponIn (Fence.wide.inRound r) n P a next' Q res:=by
 intro res h
 match res,h with
 | .ok (.value v) w',h=>exact hn _ _ h
 | .ok .skip w',h=>exact hn _ _ h
 | .ok (.defer d) w',h=>exact hn _ _ h
 | .ok (.enter f args) w',h =>
  refine ⟨fun e=>(by cases e),CallsIn.inRound r (callsIn_wide.2 (Calls.mono h ?_))⟩
  intro e w'' he
  cases e with
  | returned v=>exact hn _ _ he
  | panicked c=>exact he
  | outgrown=>exact he
 | .ok (.row row args) w',h =>
  refine ⟨fun e=>(by cases e),EJ (Rows.mono h ?_)⟩
  intro v w'' he
  exact hn _ _ he
 | .halt (.panic v) w',h=>exact h
theorem yG {o:Oper} {a:Act} {w:World} {next next':Act→World→Prop} (hd:iR o=true) (hn:∀ a w,next a w→next' a w) (h:o.wp P a w next Q):o.wpIn (Fence.wide.inRound r) n P a w next' Q:=by
 unfold Oper.wp at h
 refine ⟨fun _ _=>trivial,?_⟩
 rw [Oper.semAt_eq _ _ _ (qf hd)]
 exact E7 hn _ h
theorem kH (hno:¬ LetsOut Q):∀ (l:List Oper),l.all iR=true→∀ (a:Act) (w:World),wpList P ops Q l a w→wpListIn (Fence.wide.inRound r) n P ops Q l a w
 | [],_,_,_,h=>h
 | o :: rest,hd,a,w,h=>by
  rw [List.all_cons,xaw] at hd
  unfold wpList at h
  unfold wpListIn
  split at h
  ·rename_i hw
   rw [if_pos hw]
   rcases h with h | h
   ·exact yG hd.1 (fun a w hk=>kH hno rest hd.2 a w hk) h
   ·exact absurd h.2 hno
  ·rename_i hw
   rw [if_neg hw]
   exact ⟨fun _ _=>trivial,kH hno rest hd.2 _ _ h⟩
theorem sA (hno:¬ LetsOut Q) (hd:ops.all iR=true) {md:xbY}:∀ (fuel:Nat) (listed:Array Bool) (a:Act) (w:World),wpAny P md ops Q fuel listed a w→wpAnyIn (Fence.wide.inRound r) n P md ops Q fuel listed a w
 | 0,_,_,_,h=>h
 | fuel+1,listed,a,w,h=>by
  refine ⟨h.1,fun i hi=>?_⟩
  have h2:=h.2 i hi
  unfold wpOp at h2
  unfold wpOpIn
  cases ho:ops[i]? with
  | none =>
   rw [ho] at h2
   exact sA hno hd fuel _ a w h2
  | some o =>
   rw [ho] at h2
   dsimp only at h2 ⊢
   have hdo:iR o=true:=by
    rw [Array.all_eq_true'] at hd
    exact hd o (Array.mem_of_getElem? ho)
   split at h2
   ·rename_i hw
    rw [if_pos hw]
    rcases h2 with h2 | h2
    ·exact yG hdo (fun a w hk=>sA hno hd fuel _ a w hk) h2
    ·exact absurd h2.2 hno
   ·rename_i hw
    rw [if_neg hw]
    exact ⟨fun _ _=>trivial,sA hno hd fuel _ _ _ h2⟩
theorem BG {id:Nat} {l:List Oper} {a:Act} {w:World} (hm:P.follows .mixedOrders=true) (hno:¬ LetsOut Q) (hd:l.all iR=true) (h:wpAny P .any l.toArray Q l.toArray.size (xbu l.toArray.size false) a w.drew):(Code.region id l.toArray true).wpIn (Fence.wide.inRound r) n P Q a w :=
 wpIn_region_any hm (sA hno (by simpa using hd) _ _ a _ h)
end
end Go.Proofs.YtomnhnmciopiiaaGreat
end
section
namespace Go.Proofs.YtomnhnmciopiiaaGreat
open Go Go.RowKit Go.Shelf
structure dy (S:Nat→Prop) (n₀:Nat) (W W':World):Prop where
 size:W.heap.size≤W'.heap.size
 old:∀ k o,k<n₀→¬ S k→W.heap[k]?=some o→o.isCells=true→W'.heap[k]?=some o
section
variable {S:Nat→Prop} {n₀:Nat}
theorem dy.refl (W:World):dy S n₀ W W:=⟨xag _,fun _ _ _ _ h _=>h⟩
theorem dy.trans {A B C:World} (h:dy S n₀ A B) (k:dy S n₀ B C):dy S n₀ A C :=
 ⟨xaH h.size k.size,fun i o h1 h2 h3 h4=>k.old i o h1 h2 (h.old i o h1 h2 h3 h4) h4⟩
theorem dy.below {W W':World} (h:Below W.heap.size W W'):dy S n₀ W W' :=
 ⟨h.size,fun k _ _ _ hk _=>(h.block k (xa2.1 hk).1).trans hk⟩
theorem dy.putObj {w:World} (hn:n₀≤w.heap.size) (W:World) (l:Nat) (o o':Obj) (hl:w.heap.size≤l) (_:W.heap[l]?=some o) (_:o.isCells=false) (_:o.isWalk=false):dy S n₀ W (W.putObj l o') :=
 ⟨by simp,fun k _ h1 _ hk _=>(World.putObj_heap_other (by omega)).trans hk⟩
theorem dy.cell {W W':World} (h:dy S n₀ W W') {b i:Nat} {v:Value} (hb:b<n₀) (hs:¬ S b) (hc:W.cell? ⟨b,i,none⟩=some v):W'.cell? ⟨b,i,none⟩=some v:=by
 have hlt:=xa5 W _ hc
 have ho:W.heap[b]?=some W.heap[b]:=Array.getElem?_eq_getElem hlt
 have h2:W'.heap[b]?=W.heap[b]?:=by
  rw [ho]
  refine h.old b _ hb hs ho ?_
  cases hob:W.heap[b] with
  | cells=>rfl
  | _=>(rw [World.cell?] at hc;simp only [ho,hob] at hc;cases hc)
 exact (xaV h2).trans hc
theorem dy.range {W W':World} (h:dy S n₀ W W') {b o:Nat} {cs:List Value} (hb:b<n₀) (hs:¬ S b) (hc:W.rangeAt b o cs):W'.rangeAt b o cs:=fun j v hv=>h.cell hb hs (hc j v hv)
end
theorem _root_.Go.KeepsFrom.Ae {B:Nat} {W W':World} (h:Below W.heap.size W W'):KeepsFrom B W W':=⟨h.size,fun k _ _ hk _=>(h.block k (xa2.1 hk).1).trans hk⟩
theorem jX {W W':World} {row:Option Nat} {g:Nat} {t:TypeId} {cs:Array Value} (h:Blk W g t cs) (hg:W.grownBy W' row) (hrow:∀ r,row=some r→∃ o:Obj,W.heap[r]?=some o∧o.isCells=false):Blk W' g t cs :=
 (hg.block g h.lt fun e=>by
  obtain ⟨o,ho,hc⟩:=hrow g e.symm
  rw [show W.heap[g]?=_ from h] at ho
  injection ho with ho
  subst ho
  cases hc).trans h
theorem Cx {K V:Type} {ek:K→Value} {ok:K→Prop} {ev:V→Value} {W W':World} {row:Option Nat} {B b:Nat} {m:List (K×V)} (h:b5 ek ok ev W b m) (hb:b<B) (hg:W.grownBy W' row) (hrow:∀ r,row=some r→B≤r∧∃ o:Obj,W.heap[r]?=some o∧o.isCells=false):b5 ek ok ev W' b m :=
 h.of_eq (hg.block b h.lt fun e=>by have:=(hrow b e.symm).1;omega)
theorem ia {P:Program} {ρ:Operand→Value} {o:Oper} (ty e:TypeId) (x i:Operand) (ho:o.op=.indexAddr ty x i) (b n cap k:Nat) (hx:ρ x=.slice (some ⟨b,0,none⟩) n cap) (hi:ρ i=.int .i64 (k:Int)) (hk:k<n) (hu:P.underlying ty=some (.slice e)) (hs:(P.info? e).map (·.size)=some 1) (w:World) :
  (execOp ρ o).run P w=.ok (.value (.pointer (some ⟨b,k,none⟩))) w:=by
 have h:=aJ (P:=P) (ρ:=ρ) (o:=o) ty e x i ho b 0 n cap (k:Int) .i64 hx hi ⟨by omega,by omega⟩ 1 hu hs w
 rwa [xbr,Nat.mul_one,Nat.zero_add] at h
section
variable {P:Program} {ops:Array Oper} {Q:Exit→Act→World→Prop} {n:Nat} {rest:List Oper} {o:Oper} {a:Act} {w:World}
theorem rC (s:Nat) {F:Fence} {op:Op} {t} {p} {af} {g}
  (h:wpListIn F n P ops Q (⟨some s,op,t,p,af,g⟩ :: rest) a w):wpListIn F n P ops Q (⟨some s,op,t,p,af,g⟩ :: rest) a w:=h
theorem kp (hg:o.guard=none) (hd:iR o=true) (v:Value) (w':World) (hr:(execOp a.eval o).run P w=.ok (.value v) w') (h:wpListIn xcl n P ops Q rest (a.put o.dst v) w'):wpListIn xcl n P ops Q (o :: rest) a w :=
 wpListIn_plain hg fun K hK=>by
  refine ⟨fun _ _=>trivial,?_⟩
  rw [Oper.semAt_eq _ _ _ (qf hd),hr]
  exact hK _ _ h
end
end Go.Proofs.YtomnhnmciopiiaaGreat
end
section
namespace Go.Proofs.YtomnhnmciopiiaaGreat
open Go Go.RowKit Go.Shelf
attribute [local go_sem] Oper.semAt_some
variable {S:Nat→Prop}
theorem Bu (n:Nat) (hn:1≤n) (l Bf Bt n₀ m len cap b off:Nat) (cf:Nat→List Value) (hm:m<len) (hl:len≤maxLen) (hb:b<n₀) (hBf:Bf<n₀) (hBt:Bt<n₀) (hSb:¬ S b) (hSf:¬ S Bf) (hSt:¬ S Bt) (hcf:∀ j,j<len→(cf j).length=23) (J Jx:List Nat→World→Prop)
  (hY:∀ pre x W,J pre W→pre.length<m+1→YieldAt xcl (n-1) Tryz.prog l #[.int .i64 ((m-x:Nat):Int),.agg (cf (m-x)).toArray] W fun e W' =>
   (e=.returned (.bool true)∧J (pre++[x]) W'∧dy S n₀ W W')∨(e=.returned (.bool false)∧Jx (pre++[x]) W'))
  (W:World) (hf:W.cell? ⟨Bf,0,none⟩=some (.int .i64 (m:Int))) (ht:W.cell? ⟨Bt,1,none⟩=some (.slice (some ⟨b,off,none⟩) len cap)) (hcs:∀ j,j<len→W.rangeAt b (off+j*23) (cf j)) (h0:J [] W) :
  CallsIn xcl n Tryz.prog 163 #[.func (.yield l) #[] #[],.pointer (some ⟨Bf,0,none⟩),.pointer (some ⟨Bt,0,none⟩)] W fun e W'=>(∃ v,e=.returned v) ∧
   ((∃ ys,ys=xaf (m+1)∧J ys W')∨(∃ pre,(∃ k,k≤m+1∧pre=xaf k)∧Jx pre W')):=by
 have l9:(len:Int)≤9223372036854775807:=by simp only [maxLen] at hl;omega
 have HCS:=ab (xad hcs hcf)
 have HF:=ab (xad hf ht)
 clear hcs hcf hl ht
 refine callsIn_of_wp Tryz.func163 rfl trivial ?_ rfl
 simp only [Tryz.ntmps163,xal,xaF,List.length_nil,Nat.reduceAdd,Nat.reduceSub,xcz,xcA,List.push_toArray,xcI,List.nil_append,List.cons_append]
 gi_wp2
 clear hf
 gi_loopw [4] (fun i wr=>∃ k:Nat,((k=m+1∧i=.int .i64 (-1))∨∃ p:Nat,k+p=m∧i=.int .i64 (p:Int))∧J (xaf k) wr∧dy S n₀ W wr)
  (fun i _=>(intOf i+1).toNat)
 case atStart=>exact ⟨0,.inr ⟨m,by omega,rfl⟩,h0,dy.refl _⟩
 case round =>
  obtain ⟨k,hk,hJs,hnx⟩:=hrel
  rcases hk with ⟨rfl,rfl⟩ | ⟨p,hp,rfl⟩
  ·gi_wp2
   go_end0
   exact ⟨⟨_,rfl⟩,.inl ⟨_,rfl,hJs⟩⟩
  ·obtain ⟨fn,tmps,assign,body,hy,hR⟩:=hY (xaf k) k wr hJs (by rw [List.length_range];omega)
   rw [show m-k=p by omega] at hy
   have hb':=hnx.cell hBt hSt HF.out.2
   have hc':=hnx.range hb hSb (HCS.out.1 p (by omega))
   have hszt:(Tryz.prog.info? 59).map (·.size)=some (cf p).length:=by rw [HCS.out.2 p (by omega)];kernel_rfl
   have n1:(0:Int)≤(p:Int):=by omega
   have n2:(p:Int)<(len:Int):=by omega
   have HN:=ab hnx
   clear hnx
   gi_wp2_with (first | ((with_reducible refine rC 15 ?_);(refine kp rfl rfl (.pointer (some ⟨b,off+(p:Int).toNat*23,none⟩)) wr (aJ 22 59 (.tmp 13) (.tmp 14) rfl b off len cap (p:Int) .i64 rfl rfl ⟨n1,n2⟩ 23 Tryz.underlying22 cJ wr) ?_;rw [show off+(p:Int).toNat*23=off+p*23 by omega])) | ((with_reducible refine rC 16 ?_);(refine kp rfl rfl (.agg (cf p).toArray) wr (ai 59 (.tmp 15) rfl b (off+p*23) rfl (cf p) _ wr hc' Tryz.underlying59 rfl hszt) ?_)))
   refine hR.mono ?_
   rintro e W3 (⟨rfl,hJ3,hk3⟩ | ⟨rfl,hJx3⟩)
   ·have H3:=ab (xad hJ3 hk3)
    clear hJ3 hk3 hb' hc' hy hR hJs
    gi_wp2_with fail
    go_roundw
    case rel =>
     refine ⟨k+1,?_,by rw [List.range_succ];exact H3.out.1,HN.out.trans H3.out.2⟩
     rcases Nat.eq_zero_or_pos p with rfl | h
     ·exact .inl ⟨by omega,by go_num⟩
     ·obtain ⟨q,rfl⟩:∃ q,p=q+1:=⟨p-1,by omega⟩
      exact .inr ⟨q,by omega,by go_num⟩
    case measure=>simp [intOf]
   ·clear hb' hc' hy hR hJs
    gi_wp2_with fail
    refine bodyPost_ret (results_none rfl _ _ _) rfl ?_
    exact ⟨⟨_,rfl⟩,.inr ⟨_,⟨k+1,by omega,(List.range_succ).symm⟩,hJx3⟩⟩
theorem Bw (w:World) (mv sl:Value) (m:Int) (h1:mv.oneCell'=true) (h2:sl.oneCell'=true):Calls Tryz.prog 121 #[.agg #[mv,sl],.int .i64 m] w fun e w' =>
  e=.returned (.func (.func 163) #[] #[.pointer (some ⟨w.heap.size+1,0,none⟩),.pointer (some ⟨w.heap.size,0,none⟩)])∧Blk w' w.heap.size 129 #[mv,sl]∧Blk w' (w.heap.size+1) 3 #[.int .i64 m]∧Below w.heap.size w w':=by
 go_enter Tryz.func121,Tryz.ntmps121
 go_wp2_with (((with_reducible refine ae 2 ?_);(refine aF rfl 129 (.tmp 0) rfl #[mv,sl] rfl ?_);intro w1 hn;have H1:=ab hn;clear hn;simp only [xae,xaa,xab,xac]))
 go_ret
 have h:=bS w1 3 #[.int .i64 m]
 have hs:=H1.out.size
 refine ⟨?_,(H1.out.blk.below h.below H1.out.blk.lt),?_,H1.out.below.trans (xar h.below H1.out.below.size)⟩
 ·rw [← hs];rfl
 ·rw [← hs];exact h.blk
theorem v8 (n:Nat) (hn:1≤n) (Bf Bt m len cap b off:Nat) (cf:Nat→List Value) (hm:m<len) (hl:len≤maxLen) (hcf:∀ j,j<len→(cf j).length=23) (w:World) (hb:b<w.heap.size) (hBf:Bf<w.heap.size) (hBt:Bt<w.heap.size) (hSb:¬ S b) (hSf:¬ S Bf) (hSt:¬ S Bt)
  (hf:w.cell? ⟨Bf,0,none⟩=some (.int .i64 (m:Int))) (ht:w.cell? ⟨Bt,1,none⟩=some (.slice (some ⟨b,off,none⟩) len cap)) (hcs:∀ j,j<len→w.rangeAt b (off+j*23) (cf j)) :
  SeqStopsK xcl n Tryz.prog 163 #[.pointer (some ⟨Bf,0,none⟩),.pointer (some ⟨Bt,0,none⟩)] (fun x:Nat=>#[.int .i64 ((m-x:Nat):Int),.agg (cf (m-x)).toArray]) (dy S w.heap.size) (fun ys=>ys=xaf (m+1)) (fun pre=>∃ k,k≤m+1∧pre=xaf k) (m+1) w:=fun l J Jx W hW _ _ hY h0 =>
 Bu n hn l Bf Bt w.heap.size m len cap b off cf hm hl hb hBf hBt hSb hSf hSt hcf J Jx hY W ((hW.cell (p:=⟨Bf,0,none⟩) hBf).trans hf) ((hW.cell (p:=⟨Bt,0+1,none⟩) hBt).trans ht) (fun j hj=>bX (hcs j hj) (hW.block b hb)) h0
end Go.Proofs.YtomnhnmciopiiaaGreat
end
section
namespace Go.Proofs.YtomnhnmciopiiaaGreat
open Go Go.RowKit Go.Shelf Go.Maps
attribute [local go_sem] Oper.semAt_some
def iY {H:Type} [DecidableEq H] (l:List (Dr.It H)) (c:H):Nat:=(Dr.css l).idxOf c
theorem DG {H:Type} [DecidableEq H] {l:List (Dr.It H)} {c:H} (hc:c∈Dr.css l):∃ x,l[iY l c]?=some x∧x.cls=c:=Dr.o3 hc
theorem yI {H:Type} [DecidableEq H] {l:List (Dr.It H)} {c:H} (hc:c∈Dr.css l):iY l c<l.length:=Dr.wQ hc
def gN {H:Type} [DecidableEq H] (l:List (Dr.It H)) (m:Nat) (b:List Bool) (x:Nat):List Bool:=if b[m-x]?.getD false then Dr.lz (Dr.css l) (Dr.jj l (m-x)) b else b
theorem mq {H:Type} [DecidableEq H] (l:List (Dr.It H)) (m:Nat) (b:List Bool):∀ k,k≤m+1→Dr.gT l (m+1) b=Dr.gT l (m+1-k) ((xaf k).foldl (gN l m) b)
 | 0,_=>rfl
 | k+1,hk=>by
  rw [mq l m b k (by omega),List.range_succ,List.foldl_append,show m+1-k=(m-k)+1 by omega,Dr.gT,show m+1-(k+1)=m-k by omega]
  rfl
theorem uX {H:Type} [DecidableEq H] (l:List (Dr.It H)) (m:Nat):(xaf (m+1)).foldl (gN l m) ((xaz l.length false).set m true)=Dr.cH l m:=by
 have h:=mq l m ((xaz l.length false).set m true) (m+1) (xag _)
 rw [Nat.sub_self] at h
 exact h.symm
theorem uN {l:List Itm} (hr:Dr.gS (l.map itP)) {c:Hsh} (hc:c∈Dr.css (l.map itP)):cg (ew l) c=some (iY (l.map itP) c):=by
 obtain ⟨x,hx,hxc⟩:=DG hc
 obtain ⟨y,hy,rfl⟩:∃ y,l[iY (l.map itP) c]?=some y∧itP y=x:=by
  rw [xaL] at hx
  cases h:l[iY (l.map itP) c]? with
  | none=>rw [h] at hx;cases hx
  | some y=>rw [h] at hx;exact ⟨y,rfl,xam hx⟩
 refine oE (by rw [kG];exact hr.nodup) (j:=iY (l.map itP) c) ?_
 unfold ew
 rw [xaL,List.getElem?_zipIdx,hy]
 simp [← hxc,itP]
theorem CO {w:World} {base g n s:Nat} {e:TypeId} {xs:List Value} (h:w.ownsRow base e s (.slice (some ⟨g,0,none⟩) n n) n xs):Blk w g e xs.toArray:=by
 obtain ⟨hl,h⟩:=h
 rcases h with ⟨h,_⟩ | ⟨g',cap,cur,h,_,hb,_,_,hs,ht⟩
 ·cases h
 ·injection h with e1 e2 e3
  injection e1 with e1
  injection e1 with e1
  subst e1 e3
  have:cur=xs.toArray:=by rw [← ht,xav (by simp;omega)]
  rw [← this]
  exact hb
theorem xm (n:Nat):(madeCells #[Value.bool false] n).toList=(xaz n false).map Value.bool:=by
 apply List.ext_getElem
 ·simp [size_madeCells]
 ·intro i h1 h2
  simp [madeCells,Nat.mod_one]
theorem o5 {g:Nat} {w:World} {b:List Bool} (h:Blk w g 4 (b.map Value.bool).toArray) {i:Nat} {v:Bool} (hv:b[i]?=some v):w.cell? ⟨g,i,none⟩=some (.bool v):=by
 rw [h.cell,xa0,xaL,hv]
 rfl
theorem xc:(Tryz.prog.info? 4).map (fun i=>(i.zero,i.size,i.bytes))=some (some (.bool false),1,1):=by kernel_rfl
structure NSt (w:World) (mb b off cap:Nat) (l:List Itm) (c:Hsh) (gc gn Bn:Nat) (marks:List Bool) (W:World):Prop where
 tbl:Blk W w.heap.size 129 #[.map (some mb),.slice (some ⟨b,off,none⟩) l.length cap]
 cls:Blk W gc 34 (bv c).toArray
 qb:Blk W gn 4 (marks.map Value.bool).toArray
 box:Blk W Bn 133 #[.slice (some ⟨gn,0,none⟩) l.length l.length]
 jH:b5 hV okH evN W mb (ew l)
 below:Below w.heap.size w W
 len:marks.length=l.length
 lo:mb<w.heap.size∧b<w.heap.size∧w.heap.size<gc∧gc<gn∧gn<Bn
section
variable {w W W':World} {mb b off cap:Nat} {l:List Itm} {c:Hsh} {gc gn Bn:Nat} {marks:List Bool}
theorem NSt.grow (h:NSt w mb b off cap l c gc gn Bn marks W) (hb:Below W.heap.size W W'):NSt w mb b off cap l c gc gn Bn marks W' :=
 ⟨h.tbl.below hb h.tbl.lt,h.cls.below hb h.cls.lt,h.qb.below hb h.qb.lt,h.box.below hb h.box.lt,h.jH.below hb h.jH.lt,h.below.trans (xar hb h.below.size),h.len,h.lo⟩
theorem NSt.set (h:NSt w mb b off cap l c gc gn Bn marks W) (i:Nat) (hk:Blk W' gn 4 ((marks.map Value.bool).toArray.setIfInBounds i (.bool true))) (hg:W.grownBy W' (some gn)):NSt w mb b off cap l c gc gn Bn (marks.set i true) W':=by
 have hlo:=h.lo
 refine ⟨(hg.block _ h.tbl.lt (fun e=>by have:=xam e;omega)).trans h.tbl,(hg.block _ h.cls.lt (fun e=>by have:=xam e;omega)).trans h.cls,?_,(hg.block _ h.box.lt (fun e=>by have:=xam e;omega)).trans h.box,h.jH.of_eq (hg.block _ h.jH.lt (fun e=>by have:=xam e;omega)),h.below.grown hg h.below.size (fun k e=>by have:=xam e;omega),by rw [xbh,h.len],hlo⟩
 rwa [xaa,show (marks.map Value.bool).set i (.bool true)=(marks.set i true).map Value.bool by rw [List.map_set]] at hk
theorem NSt.own {row:Option Nat} {N:Nat} (hN:w.heap.size≤N) (h:NSt w mb b off cap l c gc gn Bn marks W) (hg:W.grownBy W' row) (hr:∀ r,row=some r→N≤r∧∃ o:Obj,W.heap[r]?=some o∧o.isCells=false):NSt w mb b off cap l c gc gn Bn marks W':=by
 have hr':∀ r,row=some r→∃ o:Obj,W.heap[r]?=some o∧o.isCells=false:=fun r e=>(hr r e).2
 exact ⟨jX h.tbl hg hr',jX h.cls hg hr',jX h.qb hg hr',jX h.box hg hr',Cx (B:=N) h.jH (by have:=h.lo;omega) hg hr,h.below.grown hg h.below.size (fun k e=>by have:=(hr k e).1;omega),h.len,h.lo⟩
end
structure gR (g:Nat) (W W':World):Prop where
 size:W.heap.size≤W'.heap.size
 same:∀ k,k<W.heap.size→k ≠ g→W'.heap[k]?=W.heap[k]?
theorem gR.trans {g:Nat} {A B C:World} (h:gR g A B) (k:gR g B C):gR g A C:=⟨xaH h.size k.size,fun i h1 h2=>(k.same i (xaZ h1 h.size) h2).trans (h.same i h1 h2)⟩
theorem gR.vg {g:Nat} {W W':World} (h:Below W.heap.size W W'):gR g W W':=⟨h.size,fun k h1 _=>h.block k h1⟩
theorem gR.kh {g:Nat} {W W':World} (h:W.grownBy W' (some g)):gR g W W':=⟨h.size,fun k h1 h2=>h.block k h1 fun e=>h2 (xam e)⟩
theorem gR.F0 {g N:Nat} {W W':World} (h:gR g W W'):dy (·=g) N W W':=⟨h.size,fun k o _ h2 h3 _=>(h.same k (xa2.1 h3).1 h2).trans h3⟩
theorem gR.from {g N:Nat} {W W':World} {t:TypeId} {cs:Array Value} (h:gR g W W') (hb:Blk W g t cs):KeepsFrom N W W':=⟨h.size,fun k o _ h3 h4=>(h.same k (xa2.1 h3).1 fun e=>by
 subst e
 rw [show W.heap[k]?=_ from hb] at h3
 injection h3 with h3
 subst h3
 cases h4).trans h3⟩
theorem jd {P:Program} {ρ:Operand→Value} {o:Oper} (ty e:TypeId) (x i:Operand) (ho:o.op=.indexAddr ty x i) (b n cap k:Nat) (hx:ρ x=.slice (some ⟨b,0,none⟩) n cap) (hi:ρ i=.int .i64 (k:Int)) (hk:k<n) (s:Nat) (hu:P.underlying ty=some (.slice e)) (hs:(P.info? e).map (·.size)=some s) (w:World) :
  (execOp ρ o).run P w=.ok (.value (.pointer (some ⟨b,k*s,none⟩))) w:=by
 have h:=aJ (P:=P) (ρ:=ρ) (o:=o) ty e x i ho b 0 n cap (k:Int) .i64 hx hi ⟨by omega,by omega⟩ s hu hs w
 rwa [xbr,Nat.zero_add] at h
theorem tg {w:World} {mb:Nat} {m:List (Hsh×Nat)} (hm:b5 hV okH evN w mb m) {c:Hsh} (hc:okH c) {n:Nat} (hg:cg m c=some n) {ρ:Operand→Value} {o:Oper} (x y:Operand) (ho:o.op=.lookup 127 x y false) (hx:ρ x=.map (some mb)) (hy:ρ y=.agg (bv c).toArray) :
  (execOp ρ o).run Tryz.prog w=.ok (.value (.int .i64 (n:Int))) w:=by
 have h:=eJ (P:=Tryz.prog) (o:=o) (ρ:=ρ) 127 x y false ho (.map (some mb)) (.agg (bv c).toArray) _ hx hy (hm.look ed hc Tryz.underlying127 (qK w))
 rw [hg] at h
 exact h
theorem ze {α:Type} {L:Lay α} {w:World} {B b off:Nat} {l:List α} (h:sw L w B b off l):∃ cf:Nat→List Value,∀ j x,l[j]?=some x→w.rangeAt b (off+j*L.n) (cf j)∧L.At w B (cf j) x:=by
 have key:∀ j,∃ cs:List Value,∀ x,l[j]?=some x→w.rangeAt b (off+j*L.n) cs∧L.At w B cs x:=fun j=>by
  cases hj:l[j]? with
  | none=>exact ⟨[],fun x hx=>by cases hx⟩
  | some x =>
   obtain ⟨cs,h1,h2⟩:=h j x hj
   exact ⟨cs,fun y hy=>by injection hy with hy;subst hy;exact ⟨h1,h2⟩⟩
 exact ⟨fun j=>Classical.choose (key j),fun j x hx=>Classical.choose_spec (key j) x hx⟩
theorem Cf {l:List Itm} {n:Nat} {x:Itm} (h:l[n]?=some x):Dr.jj (l.map itP) n=aA x.2.2.1:=by
 unfold Dr.jj
 rw [xaL,h]
 rfl
theorem zR {H:Type} [DecidableEq H] (cs:List H) (ins:List H) (b:List Bool) (c:H):Dr.lz cs (ins++[c]) b=(Dr.lz cs ins b).set (cs.idxOf c) true:=by
 unfold Dr.lz
 rw [List.foldl_append]
 rfl
theorem BR {P:Program} {fn:Func} {t D:Nat} {R:Ending→World→Prop} {tmps:Array Value} {W:World} {v:Value} (h:fn.results=#[.tmp t]) (hv:tmps.getD t undef=v) (hK:W.heap[D]?=some (.deferred (some []))) (hR:R (.returned v) (W.putObj D (.deferred none))) :
  bodyPostM xcl 5 P fn R .ret { tmps:=tmps,defers:=[{ target:=.collected D,args:=#[] }] } W:=by
 have hv':tmps[t]?.getD undef=v:=by simpa using hv
 exact ⟨by simp,.inl ⟨_,_,rfl,run_takeDeferred hK,v,by simp [results,h,go_sem,hv'],hR⟩⟩
theorem nk {w:World} {B n s:Nat} {e:TypeId} {u:Value} {xs:List Value} (h:w.ownsRow B e s u n xs):∃ A c,u=.slice A n c:=by
 rcases a7 h with ⟨e,h0,_⟩ | ⟨g,cap,cur,e,_⟩
 ·exact ⟨none,0,by rw [e,h0]⟩
 ·exact ⟨_,_,e⟩
theorem zl {l:List Hsh} (hl:∀ h∈l,okH h) {k:Nat} {h:Hsh} (hk:l[k]?=some h):((l.flatMap bv).drop (k*20)).take 20=bv h:=by
 rw [List.flatMap_def]
 refine yt (s:=20) (l.map bv) k (bv h) ?_ (by rw [xaL,hk];rfl)
 intro b hb
 obtain ⟨x,hx,rfl⟩:=xaA.1 hb
 rw [bvL]
 exact hl x hx
theorem xf {H:Type} [DecidableEq H] {l:List (Dr.It H)} (hr:Dr.gS l) {n:Nat} {x:Dr.It H} (h:l[n]?=some x):∀ c∈x.ins,c∈Dr.css l:=fun c hc=>by
 have h1:=hr.ins n x h c hc
 have h2:=(xah.1 h).1
 refine xbp.1 (xaZ h1 ?_)
 simp [Dr.css]
 omega
theorem zA {l:List Itm} (hr:Dr.gS (l.map itP)) {n:Nat} {x:Itm} (h:l[n]?=some x):∀ c∈aA x.2.2.1,c∈Dr.css (l.map itP) :=
 xf hr (n:=n) (x:=itP x) (by rw [xaL,h];rfl)
def AU (w:World) (l:List Itm) (m:Nat) (w':World) (e:Ending):Prop:=∃ g,e=.returned (.slice (some ⟨g,0,none⟩) l.length l.length)∧Blk w' g 4 ((Dr.cH (l.map itP) m).map Value.bool).toArray∧w.heap.size≤g∧Below w.heap.size w w'
theorem xr (w:World) (l:List Itm) (mb:Nat) (A:Option Addr) (cap:Nat) (h:aH.At w w.heap.size [.slice A l.length cap] l) (hl:∀ x∈l,x.2.2.1.length≤1000000) (hlen:l.length≤1000000) (hr:Dr.gS (l.map itP)) (hm:b5 hV okH evN w mb (ew l)) (c:Hsh) (hc:okH c) (hcm:c∈Dr.css (l.map itP)) :
  Calls Tryz.prog 75 #[.agg #[.map (some mb),.slice A l.length cap],.agg (bv c).toArray] w fun e w'=>AU w l (iY (l.map itP) c) w' e:=by
 obtain ⟨ibo,hih,hq0,hq1,hq2⟩:=info_parts xc
 have HK:=ab (xad hih (xad hq0 (xad hq1 hq2)))
 clear hih hq0 hq1 hq2
 obtain ⟨A',cap',e,hcl,hcm9,_,hA⟩:=aj h
 injection e with e1 e2 e3
 subst e1 e3
 have hml:=yI hcm
 rw [xap] at hml
 have hget:=uN hr hcm
 obtain ⟨m,hmd⟩:∃ m,m=iY (l.map itP) c:=⟨_,rfl⟩
 rw [← hmd] at hml hget ⊢
 clear hmd e2
 obtain ⟨b,off,rfl,hlb,hE⟩:=hA (by omega)
 have HM:=ab (xad hm hget)
 have HE:=ab (xad hE (xad hlb hr))
 have hszc:=bB hc
 have m0:(0:Int)≤(m:Int):=by omega
 have m1:(m:Int)<(l.length:Int):=by omega
 clear hA hcl hcm hm hget hE hlb hr h
 refine (callsIn_wide (n:=5)).1 ?_
 refine callsIn_of_wp_marks Tryz.func75 rfl trivial ?_ rfl
 simp only [Tryz.ntmps75,xal,xaF,List.length_nil,Nat.reduceAdd,Nat.reduceSub,xcz,xcA,List.push_toArray,xcI,List.nil_append,List.cons_append]
 refine wpIn_wide.2 ?_
 go_wp2_with (first | go_step3 | ((with_reducible refine ae 2 ?_);(refine aF rfl 129 (.tmp 0) rfl #[.map (some mb),.slice (some ⟨b,off,none⟩) l.length cap] rfl ?_);intro w1 hn;have H1:=ab hn;clear hn;simp only [xae,xaa,xab,xac]) | ((with_reducible refine ae 3 ?_);(refine aF rfl 34 (.tmp 1) rfl (bv c).toArray rfl ?_);intro w2 hn;have H2:=ab (xad (H1.out.blk.below hn.below H1.out.blk.lt) (xad hn.blk (xad (H1.out.below.trans (xar hn.below H1.out.below.size)) (xad H1.out.size hn.size))));clear hn;simp only [xae,xaa,xab,xac]) | ((with_reducible refine ae 11 ?_);(refine aa rfl (.slice (some ⟨b,off,none⟩) l.length cap) w2 (exec_load_cell 22 (.tmp 10) rfl ⟨w.heap.size,1,none⟩ rfl _ _ w2 Tryz.underlying22 rfl (show w2.cell? ⟨w.heap.size,1,none⟩=some (.slice (some ⟨b,off,none⟩) l.length cap) from H2.out.1.cell 1)) ?_)) | (at_make;refine wpList_make_full _ rfl _ _ 133 rfl w2.heap.size 4 ibo _ 1 Tryz.underlying133 HK.out.1 HK.out.2.1 HK.out.2.2.1 _ _ _ _ l.length rfl rfl ?hC ?hC2 ?hB ?hM ?hZ ?_))
 case hC=>rfl
 case hC2=>rfl
 case hB=>have:=HK.out.2.2.2;rw [this];omega
 case hM=>simp only [maxLen];omega
 case hZ=>exact xag _
 intro w3 own3 gr3
 have hb3:Below w2.heap.size w2 w3:=(xao _ w2).grown gr3 (xag _) (fun k hk=>by cases hk)
 rw [xm] at own3
 have hk3:=CO own3
 have H3:=ab (xad (H2.out.1.below hb3 H2.out.1.lt) (xad (H2.out.2.1.below hb3 H2.out.2.1.lt) (xad (H2.out.2.2.1.trans (xar hb3 H2.out.2.2.1.size)) (xad hk3 (xad hk3.lt H2.out.2.2.2)))))
 clear own3 gr3 hb3 hk3
 go_wp2_with (first | go_step3 | ((with_reducible refine ae 5 ?_);(refine aC rfl 133 #[.slice none 0 0] (by kernel_rfl) ?_);intro w4 hn;have H4:=ab (xad (H3.out.1.below hn.below H3.out.1.lt) (xad (H3.out.2.1.below hn.below H3.out.2.1.lt) (xad (H3.out.2.2.1.trans (xar hn.below H3.out.2.2.1.size)) (xad (H3.out.2.2.2.1.below hn.below H3.out.2.2.2.1.lt) (xad hn.blk hn.size)))));clear hn;simp only [xae,xaa,xab,xac]) | ((with_reducible refine aV 5 13 ?_);(refine bD rfl 133 (.tmp 5) (.tmp 13) rfl w3.heap.size (0) 133 #[.slice none 0 0] H4.out.2.2.2.2.1 (by decide) (by kernel_rfl) (.slice (some ⟨w2.heap.size,0,none⟩) l.length l.length) rfl rfl rfl ?_);intro w5 hk hg hz;have h4z:w3.heap.size<w4.heap.size:=(by have:=H4.out.2.2.2.2.2;omega);have hst:NSt w mb b off cap l c w1.heap.size w2.heap.size w3.heap.size (xaz l.length false) w5:=⟨(hg.block _ H4.out.1.lt (fun e=>(by have:=xam e;have:=H2.out.2.2.2.1;have:=H2.out.2.2.2.2;have:=H3.out.2.2.2.2.1;omega))).trans H4.out.1,(hg.block _ H4.out.2.1.lt (fun e=>(by have:=xam e;have:=H2.out.2.2.2.1;have:=H2.out.2.2.2.2;have:=H3.out.2.2.2.2.1;omega))).trans H4.out.2.1,(hg.block _ H4.out.2.2.2.1.lt (fun e=>(by have:=xam e;have:=H2.out.2.2.2.1;have:=H2.out.2.2.2.2;have:=H3.out.2.2.2.2.1;omega))).trans H4.out.2.2.2.1,hk,(HM.out.1.below (H4.out.2.2.1.grown hg H4.out.2.2.1.size (fun k e=>(by have:=xam e;have:=H2.out.2.2.2.1;have:=H2.out.2.2.2.2;have:=H3.out.2.2.2.2.1;omega))) HM.out.1.lt),(H4.out.2.2.1.grown hg H4.out.2.2.1.size (fun k e=>(by have:=xam e;have:=H2.out.2.2.2.1;have:=H2.out.2.2.2.2;have:=H3.out.2.2.2.2.1;omega))),List.length_replicate,HM.out.1.lt,HE.out.2.1,(by have:=H2.out.2.2.2.1;omega),(by have:=H2.out.2.2.2.2;omega),H3.out.2.2.2.2.1⟩;have H5:=ab hst;clear hk hg hz hst h4z;simp only [xae]))
 refine Fre.b4 (X:=Bel) 6 [] (by kernel_rfl) (by kernel_rfl) (by simp) (by simp) (by simp) ?_
 simp only [xau,xaC,xay,xaK]
 refine Fre.ag (.slice (some ⟨w2.heap.size,0,none⟩) l.length l.length) (by kernel_rfl) (by kernel_rfl) (by kernel_rfl) (fun W9 hW9=>exec_load_cell 133 (.tmp 5) rfl ⟨w3.heap.size,0,none⟩ rfl _ _ W9 Tryz.underlying133 rfl (((H5.out.grow hW9).box).cell 0)) ?_
 simp only [xae,xaa,xab,xac]
 refine Fre.ag (.pointer (some ⟨w.heap.size,0,none⟩)) (by kernel_rfl) (by kernel_rfl) (by kernel_rfl) (fun _ _=>by kernel_rfl) ?_
 simp only [xae,xaa,xab,xac]
 refine Fre.ag (.map (some mb)) (by kernel_rfl) (by kernel_rfl) (by kernel_rfl) (fun W9 hW9=>exec_load_cell 127 (.tmp 15) rfl ⟨w.heap.size,0,none⟩ rfl _ _ W9 Tryz.underlying127 rfl (((H5.out.grow hW9).tbl).cell 0)) ?_
 simp only [xae,xaa,xab,xac]
 refine Fre.ag (.agg (bv c).toArray) (by kernel_rfl) (by kernel_rfl) (by kernel_rfl) (fun W9 hW9=>av 34 (.tmp 3) rfl w1.heap.size rfl 34 _ _ W9 ((H5.out.grow hW9).cls) Tryz.underlying34 rfl hszc) ?_
 simp only [xae,xaa,xab,xac]
 refine Fre.ag (.int .i64 (m:Int)) (by kernel_rfl) (by kernel_rfl) (by kernel_rfl) (fun W9 hW9=>tg ((H5.out.grow hW9).jH) hc HM.out.2 (.tmp 16) (.tmp 17) rfl rfl rfl) ?_
 simp only [xae,xaa,xab,xac]
 refine Fre.ag (.pointer (some ⟨w2.heap.size,m,none⟩)) (by kernel_rfl) (by kernel_rfl) (by kernel_rfl) (fun W9 hW9=>ia 133 4 (.tmp 14) (.tmp 18) rfl w2.heap.size l.length l.length m rfl rfl hml Tryz.underlying133 (by kernel_rfl) W9) ?_
 simp only [xae,xaa,xab,xac]
 intro w6 hx6
 have H6:=ab (H5.out.grow hx6)
 clear hx6
 dsimp only [Fre.ended,xaE]
 go_wp2_with (first | go_step3 | ((with_reducible refine mN 19 ?_);(refine bD rfl 4 (.tmp 19) (.const (.bool true)) rfl w2.heap.size (m) 4 ((xaz l.length false).map Value.bool).toArray H6.out.qb (by simp;exact hml) (by kernel_rfl) (.bool true) rfl rfl rfl ?_);intro w7 hk hg hz;have H7:=ab (H6.out.set m hk hg);clear hk hg hz;simp only [xae]))
 refine Fre.b4 (X:=Bel) 5 [] (by kernel_rfl) (by kernel_rfl) (by simp) (by simp) (by simp) ?_
 simp only [xau,xaC,xay,xaK]
 refine Fre.ag (.agg #[.map (some mb),.slice (some ⟨b,off,none⟩) l.length cap]) (by kernel_rfl) (by kernel_rfl) (by kernel_rfl) (fun W9 hW9=>av 129 (.tmp 2) rfl w.heap.size rfl 129 _ _ W9 ((H7.out.grow hW9).tbl) Tryz.underlying129 rfl (by kernel_rfl)) ?_
 simp only [xae,xaa,xab,xac]
 refine Fre.ag (.pointer (some ⟨w.heap.size,0,none⟩)) (by kernel_rfl) (by kernel_rfl) (by kernel_rfl) (fun _ _=>by kernel_rfl) ?_
 simp only [xae,xaa,xab,xac]
 refine Fre.ag (.map (some mb)) (by kernel_rfl) (by kernel_rfl) (by kernel_rfl) (fun W9 hW9=>exec_load_cell 127 (.tmp 21) rfl ⟨w.heap.size,0,none⟩ rfl _ _ W9 Tryz.underlying127 rfl (((H7.out.grow hW9).tbl).cell 0)) ?_
 simp only [xae,xaa,xab,xac]
 refine Fre.ag (.agg (bv c).toArray) (by kernel_rfl) (by kernel_rfl) (by kernel_rfl) (fun W9 hW9=>av 34 (.tmp 3) rfl w1.heap.size rfl 34 _ _ W9 ((H7.out.grow hW9).cls) Tryz.underlying34 rfl hszc) ?_
 simp only [xae,xaa,xab,xac]
 refine Fre.ag (.int .i64 (m:Int)) (by kernel_rfl) (by kernel_rfl) (by kernel_rfl) (fun W9 hW9=>tg ((H7.out.grow hW9).jH) hc HM.out.2 (.tmp 22) (.tmp 23) rfl rfl rfl) ?_
 simp only [xae,xaa,xab,xac]
 intro w8 hx8
 have H8:=ab (H7.out.grow hx8)
 clear hx8
 dsimp only [Fre.ended,xaE]
 go_wp2_with fail
 refine (Bw w8 _ _ _ rfl rfl).mono ?_
 rintro e w9 ⟨rfl,hbt,hbf,hb9⟩
 dsimp only
 have H9:=ab (xad (H8.out.grow hb9) (xad hbt (xad hbf hb9)))
 clear hbt hbf hb9
 go_wp2_with fail
 obtain ⟨cf,hcf⟩:=ze HE.out.1
 have hlen9:∀ j,j<l.length→(cf j).length=23:=fun j hj=>ka.len (hcf j _ (xai hj)).2
 have hcs9:∀ j,j<l.length→w9.rangeAt b (off+j*23) (cf j):=fun j hj=>bX (hcf j _ (xai hj)).1 (H9.out.1.below.block b HE.out.2.1)
 have HCF:=ab hcf
 have hmlen:l.length≤maxLen:=by simp only [maxLen];omega
 have hz9:w8.heap.size+1<w9.heap.size:=H9.out.2.2.1.lt
 have hzb:b<w9.heap.size:=by have:=H9.out.1.below.size;have:=HE.out.2.1;omega
 have hz8:w3.heap.size<w8.heap.size:=H8.out.box.lt
 have hlo:=H9.out.1.lo
 refine (wpIn_wide (n:=5)).1 ?_
 refine wpIn_rangeFunc_ownH (F:=xcl) (n:=5) (α:=Nat) rfl (by omega) (gf:=163) (lb:=#[.pointer (some ⟨w8.heap.size+1,0,none⟩),.pointer (some ⟨w8.heap.size,0,none⟩)]) rfl trivial (enters_of Tryz.func163 (by kernel_rfl) rfl)
  (v8 (S:=fun k=>k=w2.heap.size) 4 (by omega) (w8.heap.size+1) w8.heap.size m l.length cap b off cf hml hmlen hlen9 w9 hzb hz9 (by omega) (by omega) (by omega) (by omega) (H9.out.2.2.1.cell 0) (H9.out.2.1.cell 1) hcs9) dy.trans (dy.putObj (xag _)) (xao _ _) (fun _=>rfl)
  (fun pre W=>NSt w mb b off cap l c w1.heap.size w2.heap.size w3.heap.size (pre.foldl (gN (l.map itP) m) ((xaz l.length false).set m true)) W) (fun _ _ _=>False) (fun pre X Y row hs hg hr=>hs.own H9.out.1.below.size hg hr) (fun c pre X Y row hs hg hr=>hs) H9.out.1
  (fun x a' W=>∃ Bx,Blk W Bx 59 (cf (m-x)).toArray∧a'={ tmps:=#[.agg #[.map (some mb),.slice (some ⟨b,off,none⟩) l.length cap],.agg (bv c).toArray,.pointer (some ⟨w.heap.size,0,none⟩),.pointer (some ⟨w1.heap.size,0,none⟩),.slice none 0 0,.pointer (some ⟨w3.heap.size,0,none⟩),.int .i64 ((m-x:Nat):Int),.pointer (some ⟨Bx,0,none⟩),undef,undef,.pointer (some ⟨w.heap.size,1,none⟩),.slice (some ⟨b,off,none⟩) l.length cap,.int .i64 (l.length:Int),.slice (some ⟨w2.heap.size,0,none⟩) l.length l.length,.slice (some ⟨w2.heap.size,0,none⟩) l.length l.length,.pointer (some ⟨w.heap.size,0,none⟩),.map (some mb),.agg (bv c).toArray,.int .i64 (m:Int),.pointer (some ⟨w2.heap.size,m,none⟩),.agg #[.map (some mb),.slice (some ⟨b,off,none⟩) l.length cap],.pointer (some ⟨w.heap.size,0,none⟩),.map (some mb),.agg (bv c).toArray,.int .i64 (m:Int),.func (.func 163) #[] #[.pointer (some ⟨w8.heap.size+1,0,none⟩),.pointer (some ⟨w8.heap.size,0,none⟩)],.int .i64 ((m-x:Nat):Int),.agg (cf (m-x)).toArray,undef,undef,undef,undef,undef,undef,undef,undef,undef,undef,undef,undef,undef,undef,undef,undef,undef,undef,undef,undef,undef],defers:=[] })
  (fun x a' _ X Y row hs hg hr=>by obtain ⟨Bx,h2,h3⟩:=hs;exact ⟨Bx,jX h2 hg (fun r e=>(hr r e).2),h3⟩) ?assign ?body ?done ?stop
 case assign =>
  intro l0 pre x W K hi hK
  obtain ⟨n,hn⟩:∃ n,n=m-x:=⟨_,rfl⟩
  rw [← hn] at hK ⊢
  have hn2:n<l.length:=by omega
  have hsz9:=hlen9 n hn2
  have hszt2:(Tryz.prog.info? 59).map (·.size)=some (cf n).toArray.size:=by rw [xal,hsz9];kernel_rfl
  have hszzt:zcT.size=(cf n).toArray.size:=by rw [show (cf n).toArray.size=23 by rw [xal];exact hsz9];kernel_rfl
  have hone9:(cf n).toArray.all (·.oneCell')=true:=all_oneCell_toArray (ka.one (HCF.out n _ (xai hn2)).2)
  have HIW:=ab hi
  have HHK:=ab hK
  have HN:=ab hn
  clear hi hK hsz9 hn hcs9
  dsimp only
  gi_wp2_with (refine kH (fun h9=>(by obtain ⟨_,_,h9⟩:=h9;exact h9)) _ (by rfl) _ _ ?_;go_wp2_with (first | ((with_reducible refine ae 7 ?_);(refine aC rfl 59 zcT (by kernel_rfl) ?_);intro wa hn;have HA1:=ab hn;clear hn;simp only [xae,xaa,xab,xac]) | ((with_reducible refine aV 7 27 ?_);(with_reducible refine ak rfl 59 (.tmp 7) (.tmp 27) rfl W.heap.size zcT (cf n).toArray 59 HA1.out.blk ?_ ?_ ?_ ?_ ?_ ?_);exact hszt2;exact hszzt;exact hone9;rfl;rfl;intro w7 hk7 hg7;have HB1:=ab (xad hk7 (HA1.out.below.grown hg7 (by have:=HA1.out.size;omega) (fun b hb=>(by have:=xam hb;omega))));clear hk7 hg7;simp only [xae])))
  exact HHK.out _ _ (KeepsFrom.Ae HB1.out.2) (dy.below HB1.out.2) (HIW.out.grow HB1.out.2) ⟨W.heap.size,HB1.out.1,rfl⟩
 case body =>
  rintro l0 pre x a' W hl0 _ hst ⟨Bx,hbx,rfl⟩ hlen2
  obtain ⟨n,hn⟩:∃ n,n=m-x:=⟨_,rfl⟩
  have hn2:n<l.length:=by omega
  have hnx:(pre++[x]).foldl (gN (l.map itP) m) ((xaz l.length false).set m true)=gN (l.map itP) m (pre.foldl (gN (l.map itP) m) ((xaz l.length false).set m true)) x:=by rw [List.foldl_append];rfl
  obtain ⟨mk,hmk⟩:∃ mk,mk=(pre.foldl (gN (l.map itP) m) ((xaz l.length false).set m true)):=⟨_,rfl⟩
  rw [← hmk] at hst hnx
  rw [← hn] at hbx ⊢
  have hmlen2:n<mk.length:=by rw [hst.len];exact hn2
  obtain ⟨y,hy⟩:∃ y,l[n]?=some y:=⟨_,xai hn2⟩
  have hcfn:=(HCF.out n y hy).2
  obtain ⟨q1,q2,hcfe,hyo,hyd⟩:=cF.1 hcfn
  rw [hcfe] at hbx ⊢
  have hybnd:=hl y (xaj hy)
  have HX:=ab (xad hbx (xad hyo (xad hyd (xad hy (xad hn hnx)))))
  have HST:=ab hst
  clear hbx hyo hyd hy hn hnx hst hcfn hcfe hmk hcs9
  dsimp only
  cases hmn:mk[n]?.getD false
  ·have hmn2:mk[n]?=some false:=by rw [xai hmlen2] at hmn ⊢;exact congrArg some hmn
   have HMN:=ab (o5 HST.out.qb hmn2)
   have hms:gN (l.map itP) m mk x=mk:=by unfold gN;rw [← HX.out.2.2.2.2.1,hmn];rfl
   have HMS:=ab hms
   clear hmn hmn2 hms
   gi_wp2_with (refine kH (fun h9=>(by obtain ⟨_,_,h9⟩:=h9;exact h9)) _ (by rfl) _ _ ?_;go_wp2_with (first | ((with_reducible refine ae 28 ?_);(refine aa rfl (.slice (some ⟨w2.heap.size,0,none⟩) l.length l.length) W (exec_load_cell 133 (.tmp 5) rfl ⟨w3.heap.size,0,none⟩ rfl _ _ W Tryz.underlying133 rfl (show W.cell? ⟨w3.heap.size,0,none⟩=some (.slice (some ⟨w2.heap.size,0,none⟩) l.length l.length) from HST.out.box.cell 0)) ?_)) | ((with_reducible refine ae 30 ?_);(refine aa rfl (.pointer (some ⟨w2.heap.size,n,none⟩)) W (ia 133 4 (.tmp 28) (.tmp 29) rfl w2.heap.size l.length l.length n rfl rfl hn2 Tryz.underlying133 (by kernel_rfl) W) ?_)) | ((with_reducible refine ae 31 ?_);(refine aa rfl (.bool false) W (exec_load_cell 4 (.tmp 30) rfl ⟨w2.heap.size,n,none⟩ rfl _ _ W Tryz.underlying4 rfl (show W.cell? ⟨w2.heap.size,n,none⟩=some (.bool false) from HMN.out)) ?_))))
   refine ⟨KeepsFrom.refl _ _,dy.refl _,?_⟩
   show NSt w mb b off cap l c w1.heap.size w2.heap.size w3.heap.size _ W
   rw [HX.out.2.2.2.2.2,HMS.out]
   exact HST.out
  ·have hmn2:mk[n]?=some true:=by rw [xai hmlen2] at hmn ⊢;exact congrArg some hmn
   have HMN:=ab (o5 HST.out.qb hmn2)
   have hms:gN (l.map itP) m mk x=Dr.lz (Dr.css (l.map itP)) (aA y.2.2.1) mk:=by unfold gN;rw [← HX.out.2.2.2.2.1,hmn,Cf HX.out.2.2.2.1];rfl
   have HMS:=ab hms
   clear hmn hmn2 hms
   have hyat:au W W.heap.size y.2 q1 q2:=HX.out.2.2.1.eD HST.out.below
   have hyd9:=hyat.okn
   gi_wp2_with (first | (refine kH (fun h9=>(by obtain ⟨_,_,h9⟩:=h9;exact h9)) _ (by rfl) _ _ ?_;go_wp2_with (first | ((with_reducible refine ae 28 ?_);(refine aa rfl (.slice (some ⟨w2.heap.size,0,none⟩) l.length l.length) W (exec_load_cell 133 (.tmp 5) rfl ⟨w3.heap.size,0,none⟩ rfl _ _ W Tryz.underlying133 rfl (show W.cell? ⟨w3.heap.size,0,none⟩=some (.slice (some ⟨w2.heap.size,0,none⟩) l.length l.length) from HST.out.box.cell 0)) ?_)) | ((with_reducible refine ae 30 ?_);(refine aa rfl (.pointer (some ⟨w2.heap.size,n,none⟩)) W (ia 133 4 (.tmp 28) (.tmp 29) rfl w2.heap.size l.length l.length n rfl rfl hn2 Tryz.underlying133 (by kernel_rfl) W) ?_)) | ((with_reducible refine ae 31 ?_);(refine aa rfl (.bool true) W (exec_load_cell 4 (.tmp 30) rfl ⟨w2.heap.size,n,none⟩ rfl _ _ W Tryz.underlying4 rfl (show W.cell? ⟨w2.heap.size,n,none⟩=some (.bool true) from HMN.out)) ?_)) | ((with_reducible refine ae 34 ?_);(refine aa rfl (.agg (dC y.2 q1 q2).toArray) W (ai 26 (.tmp 33) rfl Bx (20) rfl (dC y.2 q1 q2) _ W (jk HX.out.2.1 HX.out.1) Tryz.underlying26 rfl (by kernel_rfl)) ?_)) | ((go_at_call 46;refine (iI W y.2 q1 q2 hyat hybnd).mono ?_);rintro e wc ⟨uc,rfl,hoc,hbc⟩;have HC:=ab (xad hoc hbc);clear hoc hbc;obtain ⟨Ac,cc,rfl⟩:=nk HC.out.1;dsimp only))))
   obtain ⟨N,hN⟩:∃ N,N=(aA y.2.2.1).length:=⟨_,rfl⟩
   rw [← hN] at HC ⊢
   have hcok:=pb hyd9
   have hN9:(N:Int)≤1000000:=by have:=im y.2.2.1 y.2.2.1.length;rw [xaG] at this;omega
   have hins:=zA HE.out.2.2 HX.out.2.2.2.1
   have HCO:=ab (xad hcok (xad hN hins))
   clear hcok hN hins hyd9
   gi_loopw [37] (fun x37 wr=>∃ k:Nat,k≤N∧x37=.int .i64 (k:Int)∧NSt w mb b off cap l c w1.heap.size w2.heap.size w3.heap.size (Dr.lz (Dr.css (l.map itP)) ((aA y.2.2.1).take k) mk) wr∧gR w2.heap.size W wr∧wr.ownsRow W.heap.size 34 20 (.slice Ac N cc) N ((aA y.2.2.1).flatMap bv)) (fun x37 _=>N-(intOf x37).toNat)
   case atStart=>exact ⟨0,by omega,rfl,HST.out.grow HC.out.2,gR.vg HC.out.2,HC.out.1⟩
   case round =>
    obtain ⟨wi,rfl⟩:∃ wi,wi=wr:=⟨_,rfl⟩
    obtain ⟨k,hk,rfl,hst,hot,hown⟩:=hrel
    have HI:=ab (xad hst (xad hot hown))
    clear hst hot hown
    have k0:(0:Int)≤(k:Int):=by omega
    by_cases hk2:k<N
    ·have k1:(k:Int)<(N:Int):=by omega
     obtain ⟨z,hz⟩:∃ z,(aA y.2.2.1)[k]?=some z:=⟨_,xai (by rw [← HCO.out.2.1];exact hk2)⟩
     have hzo:=HCO.out.1 z (xaj hz)
     obtain ⟨g5,cap5,he5⟩:=hJ HI.out.2.2 (by omega)
     injection he5 with e51 _ e53
     subst e51 e53
     have hrz:wi.rangeAt g5 (k*20) (bv z):=Al HI.out.2.2 (k*20) 20 _ (zl HCO.out.1 hz)
     have HRZ:=ab hrz
     have hszx2:=bB hzo
     have hszx:(Tryz.prog.info? 34).map (·.size)=some (bv z).length:=by simpa using hszx2
     have hszz:zcH.size=(bv z).toArray.size:=by rw [show (bv z).toArray.size=20 by rw [xal,bvL];exact hzo];kernel_rfl
     have hone:(bv z).toArray.all (·.oneCell')=true:=all_oneCell_toArray (bv1 z)
     have hzk:=HCO.out.2.2 z (xaj hz)
     have hpz:=yI hzk
     have hgz:=uN HE.out.2.2 hzk
     obtain ⟨p,hp⟩:∃ p,p=iY (l.map itP) z:=⟨_,rfl⟩
     rw [xap] at hpz
     rw [← hp] at hpz hgz
     have HZ:=ab (xad hz (xad hzo (xad hp hgz)))
     clear hz hzo hp hgz hzk hrz
     gi_wp2_with (first | (refine kH (fun h9=>(by obtain ⟨_,_,h9⟩:=h9;exact h9)) _ (by rfl) _ _ ?_;go_wp2_with (first | ((with_reducible refine ae 39 ?_);(refine aa rfl (.pointer (some ⟨g5,k*20,none⟩)) wi (jd 27 34 (.tmp 35) (.tmp 37) rfl g5 N cc k rfl rfl hk2 20 Tryz.underlying27 kP wi) ?_)) | ((with_reducible refine ae 40 ?_);(refine aa rfl (.agg (bv z).toArray) wi (ai 34 (.tmp 39) rfl g5 (k*20) rfl (bv z) _ wi HRZ.out Tryz.underlying34 rfl hszx) ?_)) | ((with_reducible refine ae 9 ?_);((with_reducible refine cW (o1:=⟨some 9,_,_,_,_,_⟩) (o2:=⟨none,_,_,_,_,_⟩) rfl rfl 34 (.tmp 9) (.tmp 40) ?_ zcH (bv z).toArray ?_ hszx2 ?_ hone ?_ ?_ ?_);rfl;kernel_rfl;exact hszz;rfl;rfl;intro wb hmm hbb;have HB:=ab (xad hmm hbb);clear hmm hbb;simp only [xae,xaa,xab,xac])))))
     have HJ:=ab (HI.out.1.grow HB.out.2)
     refine BG (by kernel_rfl) (fun h9=>(by obtain ⟨_,_,h9⟩:=h9;exact h9)) (by rfl) ?_
     refine Fre.nV (X:=Bel) 6 [] (by kernel_rfl) (by kernel_rfl) (by simp) (by simp) (by simp) ?_
     simp only [xau,xaC,xay,xaK]
     refine Fre.ag (.slice (some ⟨w2.heap.size,0,none⟩) l.length l.length) (by kernel_rfl) (by kernel_rfl) (by kernel_rfl) (fun W9 hW9=>exec_load_cell 133 (.tmp 5) rfl ⟨w3.heap.size,0,none⟩ rfl _ _ W9 Tryz.underlying133 rfl (((HJ.out.grow hW9).box).cell 0)) ?_
     simp only [xae,xaa,xab,xac]
     refine Fre.ag (.pointer (some ⟨w.heap.size,0,none⟩)) (by kernel_rfl) (by kernel_rfl) (by kernel_rfl) (fun _ _=>by kernel_rfl) ?_
     simp only [xae,xaa,xab,xac]
     refine Fre.ag (.map (some mb)) (by kernel_rfl) (by kernel_rfl) (by kernel_rfl) (fun W9 hW9=>exec_load_cell 127 (.tmp 42) rfl ⟨w.heap.size,0,none⟩ rfl _ _ W9 Tryz.underlying127 rfl (((HJ.out.grow hW9).tbl).cell 0)) ?_
     simp only [xae,xaa,xab,xac]
     refine Fre.ag (.agg (bv z).toArray) (by kernel_rfl) (by kernel_rfl) (by kernel_rfl) (fun W9 hW9=>av 34 (.tmp 9) rfl wi.heap.size rfl 34 _ _ W9 (HB.out.1.below hW9 HB.out.1.lt) Tryz.underlying34 rfl hszx2) ?_
     simp only [xae,xaa,xab,xac]
     refine Fre.ag (.int .i64 (p:Int)) (by kernel_rfl) (by kernel_rfl) (by kernel_rfl) (fun W9 hW9=>tg ((HJ.out.grow hW9).jH) HZ.out.2.1 HZ.out.2.2.2 (.tmp 43) (.tmp 44) rfl rfl rfl) ?_
     simp only [xae,xaa,xab,xac]
     refine Fre.ag (.pointer (some ⟨w2.heap.size,p,none⟩)) (by kernel_rfl) (by kernel_rfl) (by kernel_rfl) (fun W9 hW9=>ia 133 4 (.tmp 41) (.tmp 45) rfl w2.heap.size l.length l.length p rfl rfl hpz Tryz.underlying133 (by kernel_rfl) W9) ?_
     simp only [xae,xaa,xab,xac]
     intro wd hxd
     have HD:=ab (xad (HJ.out.grow hxd) (HB.out.2.trans (xar hxd HB.out.2.size)))
     clear hxd
     dsimp only [Fre.ended,xaE]
     go_wp2_with ((with_reducible refine mN 46 ?_);(refine bD rfl 4 (.tmp 46) (.const (.bool true)) rfl w2.heap.size (p) 4 ((Dr.lz (Dr.css (l.map itP)) ((aA y.2.2.1).take k) mk).map Value.bool).toArray HD.out.1.qb (by have:=HD.out.1.len;simp;omega) (by kernel_rfl) (.bool true) rfl rfl rfl ?_);intro we hk hg hz;have HE9:=ab (xad (HD.out.1.set p hk hg) (gR.kh hg));clear hk hg hz;simp only [xae])
     have hsn:(Dr.lz (Dr.css (l.map itP)) ((aA y.2.2.1).take k) mk).set p true=Dr.lz (Dr.css (l.map itP)) ((aA y.2.2.1).take (k+1)) mk:=by rw [xaB,HZ.out.1,HZ.out.2.2.1];exact (zR _ _ _ _).symm
     have HSN:=ab hsn
     clear hsn
     gi_wp2_with fail
     go_roundw
     case rel=>exact ⟨k+1,by omega,by go_num,by rw [← HSN.out];exact HE9.out.1,(HI.out.2.1.trans (gR.vg HD.out.2)).trans HE9.out.2,ao (ao HI.out.2.2 fun g _ hl=>HD.out.2.block g hl) fun g hg hl=>HE9.out.2.same g hl (fun e=>by have:=(az HI.out.2.2 hg).1;have:=HST.out.qb.lt;omega)⟩
     case measure=>simp [intOf];omega
    ·obtain rfl:k=N:=by omega
     gi_wp2_with fail
     refine ⟨HI.out.2.1.from HST.out.qb,HI.out.2.1.F0,?_⟩
     show NSt w mb b off cap l c w1.heap.size w2.heap.size w3.heap.size _ wi
     rw [HX.out.2.2.2.2.2,HMS.out]
     have h9:=HI.out.1
     rw [HCO.out.2.1,xaG] at h9
     exact h9
 case done =>
  rintro D ys W hD rfl hst hK
  have hst2:=hst
  rw [show (xaf (m+1)).foldl (gN (l.map itP) m) ((xaz l.length false).set m true)=Dr.cH (l.map itP) m by rw [show l.length=(l.map itP).length by rw [xap]];exact uX _ _] at hst2
  have HW:=ab hst2
  clear hst hst2
  go_wp2_with (first | go_step3 | ((with_reducible refine ae 48 ?_);(refine aa rfl (.slice (some ⟨w2.heap.size,0,none⟩) l.length l.length) W (exec_load_cell 133 (.tmp 5) rfl ⟨w3.heap.size,0,none⟩ rfl _ _ W Tryz.underlying133 rfl (show W.cell? ⟨w3.heap.size,0,none⟩=some (.slice (some ⟨w2.heap.size,0,none⟩) l.length l.length) from HW.out.box.cell 0)) ?_)))
  refine BR rfl rfl hK ⟨w2.heap.size,rfl,(grownBy_putObj' W D (.deferred none)).block _ HW.out.qb.lt (fun e=>by have:=xam e;omega) |>.trans HW.out.qb,by omega,HW.out.below.grown (grownBy_putObj' W D (.deferred none)) HW.out.below.size (fun k e=>by have:=xam e;have:=H9.out.1.below.size;omega)⟩
 case stop =>
  rintro D c' pre W hD _ hf
  exact hf.elim
end Go.Proofs.YtomnhnmciopiiaaGreat
end
