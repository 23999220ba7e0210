/- Part 13 of the texts of one proof. -/
import Derived.Test.YtomnhnmciopiiaaGreatMMT12
set_option maxRecDepth 100000
set_option linter.unusedVariables false
set_option linter.unusedSimpArgs false
set_option maxHeartbeats 40000000
open Go.Act renaming put → xae
open Go.RowKit.Below renaming refl → xao
open List renaming append_assoc → xaR, append_nil → xbo, drop → xaE, drop_succ_cons → xay, drop_zero → xaK, flatMap_cons → xbf, getElem?_eq_some_iff → xah, getElem?_map → xaL, length_append → xak, length_map → xap, length_set → xbh, length_take → xaN, mem_append → xax, mem_cons → xaD, mem_map → xaA, mem_of_getElem? → xaj, mem_singleton → xan, not_mem_nil → xaS, range → xaf, setIfInBounds_toArray → xaa, set_cons_succ → xac, set_cons_zero → xab, size_toArray → xal, take_add_one → xaB, take_length → xaG, take_succ_cons → xau, take_zero → xaC
open Nat renaming add_mul → xbK, le_refl → xag, le_trans → xaH
open Option.some renaming inj → xam
open Go.Value renaming cells → xaU, pointer → xb4, slice → xas
section
namespace Go.Proofs.YtomnhnmciopiiaaGreat
open Go Go.RowKit Go.Maps
attribute [local irreducible] wpList
theorem qC {α:Type} {w:World} {s n c:Nat} {A:Option Addr} {f:α→List Value} {p:α} (h:eZ w s A n c (f p)):eZ w s A n c ([p].flatMap f):=by
 rw [List.flatMap_singleton]
 exact h
def yf (B:Nat) (x:Itm) (v1 v2:Value) (u:Value) (w:World):Prop:=∃ r:Nat,u=.slice (some ⟨r,0,none⟩) 1 1∧B≤r∧Blk w r 98 (tC x v1 v2).toArray
theorem vD (B:Nat) (x:Itm) (v1 v2:Value):Fre.df Bel (yf B x v1 v2):=⟨fun _ _ _ ⟨r,h1,h0,h2⟩ hx=>⟨r,h1,h0,h2.below hx h2.lt⟩⟩
theorem sq {ρ:Operand→Value} {o:Oper} (x:Operand) (ho:o.op=.buildSlice 40 1 #[(0,x)]) (B:Nat) {y:Itm} {v1 v2:Value} (hy:okH y.1) {W:World} (hx:ρ x=.agg (tC y v1 v2).toArray) (hB:B≤W.heap.size):∃ u' w',(execOp ρ o).run Tryz.prog W=.ok (.value u') w'∧Fre.Ext Bel W w'∧yf B y v1 v2 u' w':=by
 have hb:Below W.heap.size W (W.alloc (.cells (tC y v1 v2).toArray 98)):=(xao _ W).alloc (xag _) _
 exact ⟨_,_,bl (v:=.agg (tC y v1 v2).toArray) 40 x ho hx Tryz.underlying40 (e:=98) (n:=23) dM (by omega) (by omega) (z:=.agg zcT) (fun w=>by kernel_rfl) (by rw [xaU,xal];exact cl hy) W,hb,_,rfl,hB,Blk.new _ _ _⟩
theorem m5 {os:List bI} {l:List Itm} {k:Nat} {x:Itm} {p:bI} (h:os.map (·.1)=l.take k) (hx:l[k]?=some x) (e:p.1=x):(os++[p]).map (·.1)=l.take (k+1):=by
 rw [List.map_append,h,xaB,hx]
 subst e
 rfl
theorem Co {w:World} {B:Nat} {d:Drv} {u1 u2:Value} (h:bY w B d u1 u2) {b:Nat} (hf:(ldE B d u1 u2).F b):B≤b∧b<w.heap.size:=by
 obtain ⟨A,c,rfl,h1⟩:=h.AD
 obtain ⟨A2,c2,rfl,h2⟩:=h.AE
 rcases hf with hf | hf
 ·exact az h1 ((iX ..).trans hf)
 ·exact az h2 ((iX ..).trans hf)
def LdU (B:Nat) (d:Drv) (u:Value) (w:World):Prop:=∃ p:Value×Value,u=.agg (dC d p.1 p.2).toArray∧bY w B d p.1 p.2
def DA (B:Nat) (x:Itm) (u:Value) (w:World):Prop:=∃ p:Value×Value,u=.agg (tC x p.1 p.2).toArray∧bY w B x.2 p.1 p.2
def AT (B:Nat) (x:Itm) (u:Value) (w:World):Prop:=∃ (r:Nat) (p:Value×Value),u=.slice (some ⟨r,0,none⟩) 1 1∧B≤r∧Blk w r 59 (tC x p.1 p.2).toArray∧bY w B x.2 p.1 p.2
theorem bY.ja {w w':World} {B:Nat} {d:Drv} {u1 u2:Value} (h:bY w B d u1 u2) (hb:Below w.heap.size w w'):bY w' B d u1 u2:=h.aL fun b _ hl=>hb.block b hl
theorem bY.dK {w:World} {B:Nat} {d:Drv} {u1 u2:Value} (h:bY w B d u1 u2):u1.oneCell'=true∧u2.oneCell'=true:=(h.at_ (xag _)).dK
theorem bY.lower {w:World} {B B':Nat} {d:Drv} {u1 u2:Value} (h:bY w B d u1 u2) (hB:B'≤B):bY w B' d u1 u2:=h.base fun b hf=>xaH hB (Co h hf).1
theorem Cp (B:Nat) (d:Drv):Fre.df Bel (LdU B d):=⟨fun _ _ _ ⟨p,h1,h2⟩ hx=>⟨p,h1,h2.ja hx⟩⟩
theorem En (B:Nat) (x:Itm):Fre.df Bel (DA B x):=⟨fun _ _ _ ⟨p,h1,h2⟩ hx=>⟨p,h1,h2.ja hx⟩⟩
theorem Cv (B:Nat) (x:Itm):Fre.df Bel (AT B x):=⟨fun _ _ _ ⟨r,p,h1,h0,h2,h3⟩ hx=>⟨r,p,h1,h0,h2.below hx h2.lt,h3.ja hx⟩⟩
theorem Ct {ρ:Operand→Value} {o:Oper} (x y:Operand) (ho:o.op=.build 59 #[(0,x),(1,y)]) (B:Nat) {z:Itm} (hc:okH z.1) {u:Value} {W:World} (h1:ρ x=.agg (bv z.1).toArray) (h2:ρ y=u) (hu:LdU B z.2 u W):∃ u' w',(execOp ρ o).run Tryz.prog W=.ok (.value u') w'∧Fre.Ext Bel W w'∧DA B z u' w':=by
 obtain ⟨p,rfl,hp⟩:=hu
 refine ⟨.agg (tC z p.1 p.2).toArray,W,?_,xao _ _,p,rfl,hp⟩
 refine Eq.trans (gC 59 x y ho (n1:=20) (n2:=3) (z:=.agg zcT) h1 h2 Tryz.underlying59 (fun w=>by kernel_rfl) (by kernel_rfl) (fun w=>by kernel_rfl) (by rw [xaU,xal,bvL];exact hc) (by rfl) W) ?_
 simp [xaU,tC]
theorem zM {ρ:Operand→Value} {o:Oper} (x:Operand) (ho:o.op=.buildSlice 22 1 #[(0,x)]) (B:Nat) {y:Itm} (hy:okH y.1) {u:Value} {W:World} (hx:ρ x=u) (hu:DA B y u W) (hB:B≤W.heap.size):∃ u' w',(execOp ρ o).run Tryz.prog W=.ok (.value u') w'∧Fre.Ext Bel W w'∧AT B y u' w':=by
 obtain ⟨p,rfl,hp⟩:=hu
 have hb:Below W.heap.size W (W.alloc (.cells (tC y p.1 p.2).toArray 59)):=(xao _ W).alloc (xag _) _
 exact ⟨_,_,bl (v:=.agg (tC y p.1 p.2).toArray) 22 x ho hx Tryz.underlying22 (e:=59) (n:=23) cJ (by omega) (by omega) (z:=.agg zcT) (fun w=>by kernel_rfl) (by rw [xaU,xal];exact cl hy) W,hb,_,p,rfl,hB,Blk.new _ _ _,hp.ja hb⟩
def ldV (B:Nat) (p:bI):Ent:=ldE B p.1.2 p.2.1 p.2.2
theorem F2 (B:Nat) (p:bI):(ldV B p).Ok:=xj _ _ _ _
theorem xL (w:World) (l:List Itm) (v:Value) (h:aH.At w w.heap.size [v] l) (hn:l.length≤1000000) :
  Calls Tryz.prog 16 #[v] w fun e w'=>∃ (u:Value) (os:List bI),e=.returned u∧os.map (·.1)=l∧(∀ p∈os,okH p.1.1∧au w w.heap.size p.1.2 p.2.1 p.2.2)∧Mem w w' [ax w.heap.size 98 23 u os.length (os.flatMap tV)]:=by
 obtain ⟨A,c,rfl,_,hcm,_,hA⟩:=aj h
 simp only [maxLen] at hcm
 have H0:=Mem.start w
 go_enter Tryz.func16,Tryz.ntmps16
 refine sk fun _ K1=>rl ?_
 refine nt (K1 _ _ (sk fun _ K2=>rl ?_))
 refine nt (K2 _ _ (sk fun _ K3=>sk fun _ K4=>rl ?_))
 refine nt (K4 _ _ (wp_block ?_))
 have H5:=Mem.dE H0 w.heap.size 98 23
 go_loopw [3,4] (fun x3 x4 wr=>∃ k:Nat,∃ os:List bI,∃ A9:Option Addr,∃ c9:Nat,x3=.slice A9 os.length c9∧x4=.int .i64 (k:Int)∧(k≤l.length)∧(os.map (·.1)=l.take k)∧(∀ p∈os,okH p.1.1∧au w w.heap.size p.1.2 p.2.1 p.2.2)∧Mem w wr [ax (w.heap.size) 98 23 (.slice A9 os.length c9) (os).length ((os).flatMap tV)]) (fun x3 x4 _=>l.length-(intOf x4).toNat)
 case atStart=>exact ⟨0,([]),none,0,rfl,rfl,by omega,(by rfl),(fun _ h=>by cases h),H5⟩
 case round =>
  obtain ⟨wo6,rfl⟩:∃ wo6,wo6=wr:=⟨_,rfl⟩
  obtain ⟨k,os,A9,c9,rfl,rfl,hk,hos,hlo,H7⟩:=hrel
  have hol:os.length=k:=by have h9:=congrArg List.length hos;rw [xap,xaN] at h9;omega
  refine sk fun _ K9=>sk fun _ K10=>rl ?_
  by_cases p11:(k:Int)<((l.length:Nat):Int)
  ·refine rv (aK (decide_eq_true p11)) ?_
   refine nt (K10 _ _ (ct (ks (K9 _ _ (sk fun _ K12=>wp_block ?_)))))
   obtain ⟨b13,o14,rfl,hlt16,hE15⟩:=hA (by omega)
   obtain ⟨x17,hx18⟩:=gx (l:=l) (j:=k)
   have hd19:=aD hx18
   obtain ⟨cs,hr20,ha21⟩:=hE15 (k) x17 hx18
   obtain ⟨v22,v23,rfl,xo24,xd25⟩:=cF.1 ha21
   obtain ⟨A26,c27,rfl,hlc27,hmc27,_,hA28⟩:=aj xd25.ins
   obtain ⟨A29,c30,rfl,hlc30,hmc30,_,hA31⟩:=aj xd25.rcp
   simp only [maxLen] at hmc27 hmc30
   refine Fre.b4 (X:=Bel) 13 [(23,yf wo6.heap.size x17 (.slice A26 x17.2.2.1.length c27) (.slice A29 x17.2.2.2.length c30))] (by kernel_rfl) (by kernel_rfl) (by intro p hp;simp only [xaD,xaS,or_false] at hp;subst hp;exact (vD _ _ _ _)) (by simp) (by simp) ?_
   simp only [xau,xaC,xay,xaK]
   refine Fre.rmd ?_
   refine Fre.mvv (fun _ _=>fw (k) Tryz.underlying22 cJ) ?_
   refine Fre.mvv (v:=.pointer (some ⟨b13,o14+k*23,none⟩)) (fun _ _=>by kernel_rfl) ?_
   refine Fre.mvv (fun W9 hW9=>xld (cz (Mem.range (Mem.call H7 hW9) hr20 hlt16)) Tryz.underlying34 (bN xo24)) ?_
   refine Fre.mvv (fun _ _=>fw (k) Tryz.underlying22 cJ) ?_
   refine Fre.mvv (v:=.pointer (some ⟨b13,o14+k*23+20,none⟩)) (fun _ _=>by kernel_rfl) ?_
   refine Fre.mvv (fun W9 hW9=>xld (de xo24 (Mem.range (Mem.call H7 hW9) hr20 hlt16)) Tryz.underlying26 (aS x17.2 (.slice A26 x17.2.2.1.length c27) (.slice A29 x17.2.2.2.length c30))) ?_
   refine Fre.mvv (fun W9 _=>mS (.tmp 16) (.tmp 21) rfl (c:=x17.1) (d:=x17.2) xo24 rfl rfl W9) ?_
   refine Fre.gI 23 _ (by kernel_rfl) (by kernel_rfl) rfl rfl (fun W9 hW9=>sq (.tmp 22) rfl _ xo24 rfl (Below.size hW9)) ?_
   refine Fre.rmd ?_
   intro w32 hx34
   dsimp only [Fre.ended,xaE]
   rintro u9 ⟨r9,rfl,hr9,hk9⟩
   simp only [xae,xaa,xab,xac]
   have H33:=Mem.call H7 hx34
   obtain ⟨inm98,iq98,ir98,is98,it98⟩:=info_parts kN
   refine aE rfl _ _ 40 rfl (w.heap.size) 98 _ _ 23 88 Tryz.underlying40 iq98 ir98 is98 it98 rfl (by decide) (.slice A9 os.length c9) ((os).length) ((os).flatMap tV) (Mem.own H33 0 rfl) ((some ⟨r9,0,none⟩)) (1) (1) (([(x17,(xas A26 x17.2.2.1.length c27),(xas A29 x17.2.2.2.length c30))]).flatMap tV) (qC (f:=tV) (p:=(x17,(xas A26 x17.2.2.1.length c27),(xas A29 x17.2.2.2.length c30))) (bU (n:=23) (m:=1) hk9 (cl xo24) (yL x17 rfl rfl))) ?hmt35 ?hbt35 ?hzt35 rfl rfl ?_
   case hmt35=>simp only [maxLen];omega
   case hbt35=>omega
   case hzt35=>exact (Mem.below H33).size
   intro u38 w36 ow41 gr42 hp43
   refine rn ?_
   have ow41:w36.ownsRow (w.heap.size) 98 23 u38 (os++[(x17,(xas A26 x17.2.2.1.length c27),(xas A29 x17.2.2.2.length c30))]).length ((os++[(x17,(xas A26 x17.2.2.1.length c27),(xas A29 x17.2.2.2.length c30))]).flatMap tV):=by first | simpa using ow41 | simpa [tV] using ow41 | (simp at ow41 ⊢;exact ow41)
   obtain ⟨A39,c40,rfl⟩:=aI ow41
   have H37:=Mem.app H33 0 rfl ow41 gr42 hp43
   clear ow41 gr42 hp43
   refine rn ?_
   refine wpList_nil ?_
   refine ar (ah (K12 _ _ (rl ?_)))
   refine rv (bp (((k+1:Nat):Int))) ?_
   refine wpList_nil ?_
   refine ah ?_
   show _∧_
   go_roundw
   case rel=>exact ⟨(k+1),((os++[(x17,(xas A26 x17.2.2.1.length c27),(xas A29 x17.2.2.2.length c30))])),A39,c40,rfl,rfl,by omega,(m5 hos hx18 rfl),(mF hlo ⟨xo24,xd25⟩),H37⟩
   case measure=>simp [intOf];omega
  ·have he44:=bE (l:=l) (j:=k) (by omega)
   refine rv (aK (decide_eq_false p11)) ?_
   refine nt (K10 _ _ (cf (wp_exit (an (an (aB (ah (K3 _ _ (sk fun _ K45=>rl ?_)))))))))
   refine nt (K45 _ _ (rt ?_))
   have hke:k=l.length:=by omega
   rw [hke,xaG] at hos
   exact ⟨_,os,rfl,hos,hlo,H7⟩
end Go.Proofs.YtomnhnmciopiiaaGreat
end
section
namespace Go.Proofs.YtomnhnmciopiiaaGreat
open Go Go.RowKit Go.Maps
attribute [local irreducible] wpList
theorem zO {α:Type} {P:α→Prop} {l:List α} {x:α} (h:∀ p∈l,P p) (hx:P x):∀ p∈l++[x],P p:=fun p hp=>by
 rcases xax.1 hp with hp | hp
 ·exact h p hp
 ·rw [xan.1 hp]
  exact hx
theorem xk (w:World) (l:List Itm) (v:Value) (h:aH.At w w.heap.size [v] l) (hl:∀ x∈l,x.2.2.1.length≤1000000∧x.2.2.2.length≤1000000) (hn:l.length≤1000000) :
  Calls Tryz.prog 10 #[v] w fun e w'=>∃ (u:Value) (os:List bI),e=.returned u∧os.map (·.1)=l∧(∀ p∈os,okH p.1.1)∧Mem w w' [ax w.heap.size 59 23 u os.length (os.flatMap tV),Ent.all os (ldV w.heap.size)]:=by
 obtain ⟨A,c,rfl,_,hcm,_,hA⟩:=aj h
 simp only [maxLen] at hcm
 have H0:=Mem.start w
 go_enter Tryz.func10,Tryz.ntmps10
 refine sk fun _ K1=>rl ?_
 refine nt (K1 _ _ (sk fun _ K2=>rl ?_))
 refine nt (K2 _ _ (sk fun _ K3=>sk fun _ K4=>rl ?_))
 refine nt (K4 _ _ (wp_block ?_))
 have H5:=Mem.dE H0 w.heap.size 59 23
 have H6:=Mem.sz H5 (ldV w.heap.size)
 have H7:=Mem.pick H6 [1,0] (by decide) rfl
 go_loopw [3,4] (fun x3 x4 wr=>∃ k:Nat,∃ os:List bI,∃ A9:Option Addr,∃ c9:Nat,x3=.slice A9 os.length c9∧x4=.int .i64 (k:Int)∧(k≤l.length)∧(os.map (·.1)=l.take k)∧(∀ p∈os,okH p.1.1)∧Mem w wr [ax (w.heap.size) 59 23 (.slice A9 os.length c9) (os).length ((os).flatMap tV),Ent.all os (ldV w.heap.size)]) (fun x3 x4 _=>l.length-(intOf x4).toNat)
 case atStart=>exact ⟨0,([]),none,0,rfl,rfl,by omega,(by rfl),(fun _ h=>by cases h),H7⟩
 case round =>
  obtain ⟨wo8,rfl⟩:∃ wo8,wo8=wr:=⟨_,rfl⟩
  obtain ⟨k,os,A9,c9,rfl,rfl,hk,hos,hlo,H9⟩:=hrel
  have hol:os.length=k:=by have h9:=congrArg List.length hos;rw [xap,xaN] at h9;omega
  refine sk fun _ K11=>sk fun _ K12=>rl ?_
  by_cases p13:(k:Int)<((l.length:Nat):Int)
  ·refine rv (aK (decide_eq_true p13)) ?_
   refine nt (K12 _ _ (ct (ks (K11 _ _ (sk fun _ K14=>wp_block ?_)))))
   obtain ⟨b15,o16,rfl,hlt18,hE17⟩:=hA (by omega)
   obtain ⟨x19,hx20⟩:=gx (l:=l) (j:=k)
   have hd21:=aD hx20
   obtain ⟨cs,hr22,ha23⟩:=hE17 (k) x19 hx20
   obtain ⟨v24,v25,rfl,xo26,xd27⟩:=cF.1 ha23
   obtain ⟨A28,c29,rfl,hlc29,hmc29,_,hA30⟩:=aj xd27.ins
   obtain ⟨A31,c32,rfl,hlc32,hmc32,_,hA33⟩:=aj xd27.rcp
   simp only [maxLen] at hmc29 hmc32
   refine Fre.b4 (X:=Bel) 14 [(22,LdU wo8.heap.size x19.2),(23,DA wo8.heap.size x19),(24,AT wo8.heap.size x19)] (by kernel_rfl) (by kernel_rfl) (by intro p hp;simp only [xaD,xaS,or_false] at hp;rcases hp with rfl | rfl | rfl;exact (Cp _ _);exact (En _ _);exact (Cv _ _)) (by simp) (by simp) ?_
   simp only [xau,xaC,xay,xaK]
   refine Fre.rmd ?_
   refine Fre.mvv (fun _ _=>fw (k) Tryz.underlying22 cJ) ?_
   refine Fre.mvv (v:=.pointer (some ⟨b15,o16+k*23,none⟩)) (fun _ _=>by kernel_rfl) ?_
   refine Fre.mvv (fun W9 hW9=>xld (cz (Mem.range (Mem.call H9 hW9) hr22 hlt18)) Tryz.underlying34 (bN xo26)) ?_
   refine Fre.mvv (fun _ _=>fw (k) Tryz.underlying22 cJ) ?_
   refine Fre.mvv (v:=.pointer (some ⟨b15,o16+k*23+20,none⟩)) (fun _ _=>by kernel_rfl) ?_
   refine Fre.mvv (fun W9 hW9=>xld (de xo26 (Mem.range (Mem.call H9 hW9) hr22 hlt18)) Tryz.underlying26 (aS x19.2 (.slice A28 x19.2.2.1.length c29) (.slice A31 x19.2.2.2.length c32))) ?_
   refine Fre.dt 22 _ 11 #[.agg (dC x19.2 (.slice A28 x19.2.2.1.length c29) (.slice A31 x19.2.2.2.length c32)).toArray] (by kernel_rfl) (by kernel_rfl) rfl rfl (fun W=>by kernel_rfl) (fun W hW=>(nK W x19.2 _ _ (Mem.drv (Mem.call H9 hW) xd27) (hl _ (xaj hx20)).1 (hl _ (xaj hx20)).2).mono (fun e w' ⟨u1,u2,h1,h2⟩=>⟨_,h1,h2.below,(u1,u2),rfl,(show bY _ _ _ _ _ from h2.holds _ (.head _)).lower (Below.size hW)⟩)) ?_
   refine Fre.rmd ?_
   refine Fre.jo 22 _ 23 _ (by kernel_rfl) rfl (by kernel_rfl) rfl rfl (fun u W hW hu=>Ct (.tmp 16) (.tmp 22) rfl wo8.heap.size xo26 rfl rfl hu) ?_
   refine Fre.rmd ?_
   refine Fre.jo 23 _ 24 _ (by kernel_rfl) rfl (by kernel_rfl) rfl rfl (fun u W hW hu=>zM (.tmp 23) rfl wo8.heap.size xo26 rfl hu (Below.size hW)) ?_
   refine Fre.rmd ?_
   intro w34 hx36
   dsimp only [Fre.ended,xaE]
   rintro u7 _ u8 _ u9 ⟨r9,p9,rfl,hr9,hk9,hl9⟩
   simp only [xae,xaa,xab,xac]
   have H35:=Mem.new H9 hx36 (xj w.heap.size x19.2 p9.1 p9.2) (hl9.lower (Mem.below H9).size) (fun b hf=>Co hl9 hf)
   obtain ⟨inm59,iq59,ir59,is59,it59⟩:=info_parts kF
   refine aE rfl _ _ 22 rfl (w.heap.size) 59 _ _ 23 88 Tryz.underlying22 iq59 ir59 is59 it59 rfl (by decide) (.slice A9 os.length c9) ((os).length) ((os).flatMap tV) (Mem.own H35 1 rfl) ((some ⟨r9,0,none⟩)) (1) (1) (([(x19,p9)]).flatMap tV) (qC (f:=tV) (p:=(x19,p9)) (bU (n:=23) (m:=1) hk9 (cl xo26) (gQ x19 hl9.dK.1 hl9.dK.2))) ?hmt37 ?hbt37 ?hzt37 rfl rfl ?_
   case hmt37=>simp only [maxLen];omega
   case hbt37=>omega
   case hzt37=>exact (Mem.below H35).size
   intro u40 w38 ow43 gr44 hp45
   refine rn ?_
   have ow43:w38.ownsRow (w.heap.size) 59 23 u40 (os++[(x19,p9)]).length ((os++[(x19,p9)]).flatMap tV):=by first | simpa using ow43 | simpa [tV] using ow43 | (simp at ow43 ⊢;exact ow43)
   obtain ⟨A41,c42,rfl⟩:=aI ow43
   have H39:=Mem.app H35 1 rfl ow43 gr44 hp45
   clear ow43 gr44 hp45
   refine rn ?_
   refine wpList_nil ?_
   refine ar (ah (K14 _ _ (rl ?_)))
   refine rv (bp (((k+1:Nat):Int))) ?_
   refine wpList_nil ?_
   have H46:=Mem.push (x:=(x19,p9)) (f:=ldV w.heap.size) (Mem.pick H39 [0,2,1] (by decide) rfl) (F2 _ _)
   have H47:=Mem.pick H46 [1,0] (by decide) rfl
   refine ah ?_
   show _∧_
   go_roundw
   case rel=>exact ⟨(k+1),((os++[(x19,p9)])),A41,c42,rfl,rfl,by omega,(m5 hos hx20 rfl),(zO (P:=fun p:bI=>okH p.1.1) hlo xo26),H47⟩
   case measure=>simp [intOf];omega
  ·have he48:=bE (l:=l) (j:=k) (by omega)
   refine rv (aK (decide_eq_false p13)) ?_
   refine nt (K12 _ _ (cf (wp_exit (an (an (aB (ah (K3 _ _ (sk fun _ K49=>rl ?_)))))))))
   refine nt (K49 _ _ (rt ?_))
   have hke:k=l.length:=by omega
   rw [hke,xaG] at hos
   exact ⟨_,os,rfl,hos,hlo,H9⟩
end Go.Proofs.YtomnhnmciopiiaaGreat
end
section
namespace Go.Proofs.YtomnhnmciopiiaaGreat
open Go Go.RowKit Go.Maps
def vb (v:Value):List Value:=[v]
section
variable {α:Type} (mk:Nat→Nat→α) (f:α→List Value) (s:Nat) (u:Nat→Value) (n:Nat→Nat) (xs:Nat→List Value)
def mkL (k q:Nat):List α:=(xaf q).map (mk k)
def mkC (k q:Nat):List Value:=(mkL mk k q).flatMap f
theorem kg (k q:Nat):mkC mk f k (q+1)=mkC mk f k q++f (mk k q):=by
 unfold mkC mkL
 rw [List.range_succ,List.map_append,List.flatMap_append]
 simp
theorem tj (hf:∀ k i,(f (mk k i)).length=s) (k:Nat):∀ q,(mkC mk f k q).length=q*s
 | 0=>by simp [mkC,mkL]
 | q+1=>by rw [kg,xak,tj hf k q,hf,xbK,Nat.one_mul]
theorem tk (h1:∀ k i,∀ v∈f (mk k i),v.oneCell'=true) (k q:Nat):∀ v∈mkC mk f k q,v.oneCell'=true:=fun v hv=>by
 obtain ⟨x,hx,hv⟩:=List.mem_flatMap.1 hv
 obtain ⟨i,_,rfl⟩:=xaA.1 hx
 exact h1 k i v hv
def st1 (j:Nat) (i:Nat):PS:=if i<j then .self (u i) (n i) (mkC mk f i (n i)) else .self (u i) (n i) (xs i)
def hO (j q:Nat) (i:Nat):PS:=if i=j then .self (u j) (n j) (mkC mk f j q++(xs j).drop (q*s)) else st1 mk f u n xs j i
theorem nv (i:Nat):st1 mk f u n xs 0 i=.self (u i) (n i) (xs i):=if_neg (Nat.not_lt_zero _)
theorem lJ (j i:Nat):st1 mk f u n xs j i=hO mk f s u n xs j 0 i:=by
 unfold hO
 by_cases h:i=j
 ·rw [if_pos h,h,st1,if_neg (Nat.lt_irrefl _)]
  simp [mkC,mkL]
 ·rw [if_neg h]
theorem AO (j q:Nat) {y:PS} (hy:y=.self (u j) (n j) (mkC mk f j (q+1)++(xs j).drop ((q+1)*s))) (i:Nat):(if i=j then y else hO mk f s u n xs j q i)=hO mk f s u n xs j (q+1) i:=by
 unfold hO
 by_cases h:i=j
 ·rw [if_pos h,if_pos h,hy]
 ·rw [if_neg h,if_neg h,if_neg h]
theorem qD (j:Nat) (hx:(xs j).length=n j*s) (i:Nat):hO mk f s u n xs j (n j) i=st1 mk f u n xs (j+1) i:=by
 unfold hO
 by_cases h:i=j
 ·rw [if_pos h,st1,if_pos (by omega),List.drop_of_length_le (by omega),xbo,h]
 ·rw [if_neg h,st1,st1]
  by_cases h2:i<j
  ·rw [if_pos h2,if_pos (by omega)]
  ·rw [if_neg h2,if_neg (by omega)]
theorem tF (m i:Nat) (hi:i<m):st1 mk f u n xs m i=.self (u i) (n i) (mkC mk f i (n i)):=if_pos hi
theorem mB (hf:∀ k i,(f (mk k i)).length=s) (j q:Nat):(mkC mk f j q++(xs j).drop (q*s)).take (q*s)++(f (mk j q)++(mkC mk f j q++(xs j).drop (q*s)).drop (q*s+s))=mkC mk f j (q+1)++(xs j).drop ((q+1)*s):=by
 have hl:=tj mk f s hf j q
 rw [List.take_left' hl,kg,xaR]
 congr 2
 rw [List.drop_append,hl,List.drop_of_length_le (by omega),List.nil_append,List.drop_drop]
 congr 1
 rw [xbK,Nat.one_mul]
 omega
def st2 (gv:List Value) (j:Nat) (i:Nat):PS:=if i<j then ⟨u i,n i,mkC mk f i (n i),gv.getD i undef,n i+64,mkC mk f i (n i+64)⟩ else .self (u i) (n i) (mkC mk f i (n i))
def iD (gv:List Value) (v:Value) (j q:Nat) (i:Nat):PS:=if i=j then ⟨u j,n j,mkC mk f j (n j),v,n j+q,mkC mk f j (n j+q)⟩ else st2 mk f u n gv j i
theorem lK (gv:List Value) (j i:Nat):st2 mk f u n gv j i=iD mk f u n gv (u j) j 0 i:=by
 unfold iD
 by_cases h:i=j
 ·rw [if_pos h,h,st2,if_neg (Nat.lt_irrefl _)]
  rfl
 ·rw [if_neg h]
theorem AP (gv:List Value) (v:Value) (j q:Nat) {v':Value} {y:PS} (hy:y=⟨u j,n j,mkC mk f j (n j),v',n j+(q+1),mkC mk f j (n j+(q+1))⟩) (i:Nat):(if i=j then y else iD mk f u n gv v j q i)=iD mk f u n gv v' j (q+1) i:=by
 unfold iD
 by_cases h:i=j
 ·rw [if_pos h,if_pos h,hy]
 ·rw [if_neg h,if_neg h,if_neg h]
theorem qE (gv:List Value) (v:Value) (j:Nat) (hj:j<gv.length) (i:Nat):iD mk f u n gv v j 64 i=st2 mk f u n (gv.set j v) (j+1) i:=by
 unfold iD
 by_cases h:i=j
 ·subst h
  rw [if_pos rfl,st2,if_pos (by omega)]
  simp [List.getD,hj]
 ·rw [if_neg h,st2,st2]
  by_cases h2:i<j
  ·rw [if_pos h2,if_pos (by omega)]
   simp [List.getD,Ne.symm h]
  ·rw [if_neg h2,if_neg (by omega)]
def st4 (gv:List Value) (m j:Nat) (i:Nat):PS:=if i<j then ⟨u i,n i,mkC mk f i (n i),gv.getD i undef,n i+64,mkC mk f i (n i)++mkC mk f (i+m) 64⟩ else ⟨u i,n i,mkC mk f i (n i),gv.getD i undef,n i+64,mkC mk f i (n i+64)⟩
theorem nw (gv:List Value) (m i:Nat) (hi:i<m):st2 mk f u n gv m i=st4 mk f u n gv m 0 i:=by
 unfold st4 st2
 rw [if_pos hi,if_neg (Nat.not_lt_zero _)]
theorem Dh (gv:List Value) (m j:Nat) (hj:j<gv.length) {v:Value} {y:PS} (hy:y=⟨u j,n j,mkC mk f j (n j),v,n j+64,mkC mk f j (n j)++mkC mk f (j+m) 64⟩) (i:Nat):(if i=j then y else st4 mk f u n gv m j i)=st4 mk f u n (gv.set j v) m (j+1) i:=by
 unfold st4
 by_cases h:i=j
 ·subst h
  rw [if_pos rfl,if_pos (by omega),hy]
  simp [List.getD,hj]
 ·rw [if_neg h]
  by_cases h2:i<j
  ·rw [if_pos h2,if_pos (by omega)]
   simp [List.getD,Ne.symm h]
  ·rw [if_neg h2,if_neg (by omega)]
   simp [List.getD,Ne.symm h]
end
theorem bm {α:Type} {u:Nat→α} {m k:Nat} {x:α} (h:((xaf m).map u)[k]?=some x):x=u k:=by
 have hlt:=(xah.1 h).1
 simp at hlt
 rw [xaL,List.getElem?_range hlt] at h
 exact (xam h).symm
theorem mz {w:World} {B g n cap s:Nat} {t:TypeId} {xs:List Value} (h:w.ownsRow B t s (.slice (some ⟨g,0,none⟩) n cap) n xs) (h1:∀ u∈xs,u.oneCell'=true):eZ w s (some ⟨g,0,none⟩) n cap xs :=
 ⟨h.1,(fun e=>by cases e),h1,fun ad had j u hu=>by
  injection had with had
  subst had
  exact h.cells (g:=g) rfl j u hu⟩
theorem iT:∀ l:List Value,l.flatMap vb=l
 | []=>rfl
 | x :: l=>by rw [xbf,iT l];rfl
theorem Gy (l:List Value) (k:Nat) (v:Value):(l.set k v).flatMap vb=(l.flatMap vb).set k v:=by rw [iT,iT]
theorem jY {w:World} {B s g n cap:Nat} {t:TypeId} {xs:List Value} {k:Nat} (h:w.ownsRow B t s (.slice (some ⟨g,0,none⟩) n cap) k xs) {pre mid post:List Value} (e:xs=pre++(mid++post)) {o:Nat} (ho:pre.length=o):w.rangeAt g o mid:=fun j u hu=>by
 have h1:=h.cells (g:=g) rfl (o+j) u (by
  rw [e,List.getElem?_append_right (by omega),show o+j-pre.length=j by omega,List.getElem?_append_left (xah.1 hu).1]
  exact hu)
 rwa [Addr.add_mid,Nat.zero_add] at h1
theorem cO {w:World} {B m g n cap k:Nat} {t:TypeId} {u:Nat→Value} (h:w.ownsRow B t 1 (.slice (some ⟨g,0,none⟩) n cap) m (((xaf m).map u).flatMap vb)) (hk:k<m):w.rangeAt g (k*1) [u k]:=by
 rw [iT] at h
 refine jY h (pre:=((xaf m).map u).take k) (post:=((xaf m).map u).drop (k+1)) ?_ (by simp;omega)
 have h2:=List.take_append_drop k ((xaf m).map u)
 rw [List.drop_eq_getElem_cons (by simpa using hk)] at h2
 simpa using h2.symm
theorem gZ {w:World} {B m g n cap k:Nat} {t:TypeId} {gv:List Value} {x:Value} (h:w.ownsRow B t 1 (.slice (some ⟨g,0,none⟩) n cap) m (gv.flatMap vb)) (hx:gv[k]?=some x):w.rangeAt g (k*1) [x]:=by
 rw [iT] at h
 have hlt:=(xah.1 hx).1
 refine jY h (pre:=gv.take k) (post:=gv.drop (k+1)) ?_ (by rw [xaN];omega)
 have h2:=List.take_append_drop k gv
 rw [aD hx] at h2
 simpa using h2.symm
section
variable {α:Type} {mk:Nat→Nat→α} {f:α→List Value} {s:Nat}
theorem Er (hf:∀ k i,(f (mk k i)).length=s) {k q i:Nat} (hi:i<q):∃ post,mkC mk f k q=mkC mk f k i++(f (mk k i)++post):=by
 obtain ⟨d,rfl⟩:∃ d,q=i+1+d:=⟨q-(i+1),by omega⟩
 induction d with
 | zero=>exact ⟨[],by rw [Nat.add_zero,kg];simp⟩
 | succ d ih =>
  obtain ⟨post,e⟩:=ih (by omega)
  exact ⟨post++f (mk k (i+1+d)),by rw [← Nat.add_assoc,kg,e];simp⟩
theorem jS (hf:∀ k i,(f (mk k i)).length=s) {w:World} {B g n n' cap k q i:Nat} {t:TypeId} {more:List Value} (h:w.ownsRow B t s (.slice (some ⟨g,0,none⟩) n cap) n' (mkC mk f k q++more)) (hi:i<q):w.rangeAt g (i*s) (f (mk k i)):=by
 obtain ⟨post,e⟩:=Er hf (k:=k) hi
 exact jY h (pre:=mkC mk f k i) (post:=post++more) (by rw [e];simp) (tj mk f s hf k i)
variable {w0 w:World} {L:List Ent} {B m:Nat} {t:TypeId} {u:Nat→Value} {n:Nat→Nat} {xs:Nat→List Value} {gv:List Value}
theorem wG {j q i0:Nat} (h:Mem w0 w L) (hi:L[i0]?=some (Ent.all (xaf m) fun i=>aw B t s (hO mk f s u n xs j q i))) (hj:j<m):w.ownsRow B t s (u j) (n j) (mkC mk f j q++(xs j).drop (q*s)):=by
 have h1:=(Mem.nD (g:=aw B t s) (st:=hO mk f s u n xs j q) h i0 hi hj).1
 rw [hO,if_pos rfl] at h1
 exact h1
theorem lr {j q i0:Nat} {v:Value} (h:Mem w0 w L) (hi:L[i0]?=some (Ent.all (xaf m) fun i=>aw B t s (iD mk f u n gv v j q i))) (hj:j<m):(aw B t s ⟨u j,n j,mkC mk f j (n j),v,n j+q,mkC mk f j (n j+q)⟩).P w:=by
 have h1:=Mem.nD (g:=aw B t s) (st:=iD mk f u n gv v j q) h i0 hi hj
 rwa [iD,if_pos rfl] at h1
theorem iW {j i0 k:Nat} (h:Mem w0 w L) (hi:L[i0]?=some (Ent.all (xaf m) fun i=>aw B t s (st4 mk f u n gv m j i))) (hk:k<m):w.ownsRow B t s (u k) (n k) (mkC mk f k (n k)++[]):=by
 have h1:=(Mem.nD (g:=aw B t s) (st:=st4 mk f u n gv m j) h i0 hi hk).1
 rw [xbo]
 unfold st4 at h1
 split at h1<;>exact h1
theorem kz {j i0 k:Nat} {x:Value} (h:Mem w0 w L) (hi:L[i0]?=some (Ent.all (xaf m) fun i=>aw B t s (st4 mk f u n gv m j i))) (hk:k<m) (hj:j≤k) (hx:gv[k]?=some x):w.ownsRow B t s x (n k+64) (mkC mk f k (n k+64)++[]):=by
 have h1:=(Mem.nD (g:=aw B t s) (st:=st4 mk f u n gv m j) h i0 hi hk).2.1
 rw [xbo]
 unfold st4 at h1
 rw [if_neg (by omega)] at h1
 have e:gv.getD k undef=x:=by simp [List.getD,hx]
 have h2:w.ownsRow B t s (gv.getD k undef) (n k+64) (mkC mk f k (n k+64)):=h1
 rwa [e] at h2
theorem kA {j i0 k:Nat} {x:Value} (h:Mem w0 w L) (hi:L[i0]?=some (Ent.all (xaf m) fun i=>aw B t s (st4 mk f u n gv m j i))) (hk:k<m) (hj:k<j) (hx:gv[k]?=some x):w.ownsRow B t s x (n k+64) (mkC mk f k (n k)++mkC mk f (k+m) 64):=by
 have h1:=(Mem.nD (g:=aw B t s) (st:=st4 mk f u n gv m j) h i0 hi hk).2.1
 unfold st4 at h1
 rw [if_pos (by omega)] at h1
 have e:gv.getD k undef=x:=by simp [List.getD,hx]
 have h2:w.ownsRow B t s (gv.getD k undef) (n k+64) (mkC mk f k (n k)++mkC mk f (k+m) 64):=h1
 rwa [e] at h2
theorem pw {w':World} {j q g c:Nat} (h:Mem w0 w (Ent.all (xaf m) (fun i=>aw B t s (hO mk f s u n xs j q i)) :: L)) (hj:j<m) (hf:∀ k i,(f (mk k i)).length=s) (hu:u j=.slice (some ⟨g,0,none⟩) (n j) c)
  (ho:w'.ownsRow B t s (u j) (n j) ((mkC mk f j q++(xs j).drop (q*s)).take (q*s)++(f (mk j q)++(mkC mk f j q++(xs j).drop (q*s)).drop (q*s+s)))) (hg:w.grownBy w' (some g)) :
  Mem w0 w' (Ent.all (xaf m) (fun i=>aw B t s (hO mk f s u n xs j (q+1) i)) :: L):=by
 rw [mB mk f s xs hf] at ho
 have hF:∀ b,(aw B t s (hO mk f s u n xs j q j)).F b↔some g=some b:=fun b=>by
  have e:(u j).ownBlock=some g:=by rw [hu];rfl
  rw [hO,if_pos rfl]
  show (u j).ownBlock=some b∨(u j).ownBlock=some b↔_
  rw [e,or_self]
 refine Mem.cG (Mem.wH (g:=aw B t s) (st:=hO mk f s u n xs j q) (y:=.self (u j) (n j) (mkC mk f j (q+1)++(xs j).drop ((q+1)*s))) h hj hg (fun b hb=>(hF b).2 hb) (jt B t s) (ju ho) fun b hb=>.inl ((hF b).2 ?_)) fun i _=>AO mk f s u n xs j q rfl i
 have e:(u j).ownBlock=some g:=by rw [hu];rfl
 have hb:(u j).ownBlock=some b∨(u j).ownBlock=some b:=hb
 rw [e,or_self] at hb
 exact hb
theorem px {w':World} {j q:Nat} {v v':Value} (h:Mem w0 w (Ent.all (xaf m) (fun i=>aw B t s (iD mk f u n gv v j q i)) :: L)) (hj:j<m) (ho:w'.ownsRow B t s v' (n j+q+1) (mkC mk f j (n j+q)++f (mk j (n j+q)))) (hg:w.grownBy w' v.ownBlock) (hr:tJ w w' v v' (n j+q) 1) :
  Mem w0 w' (Ent.all (xaf m) (fun i=>aw B t s (iD mk f u n gv v' j (q+1) i)) :: L):=by
 have hP:=lr h (i0:=0) rfl hj
 obtain ⟨h1,h2⟩:=vr hP ho hg hr
 have hst:iD mk f u n gv v j q j=⟨u j,n j,mkC mk f j (n j),v,n j+q,mkC mk f j (n j+q)⟩:=if_pos rfl
 refine Mem.cG (Mem.wH (g:=aw B t s) (st:=iD mk f u n gv v j q) h hj hg (fun b hb=>?_) (jt B t s) h1 fun b hb=>?_) fun i _=>AP mk f u n gv v j q (by rw [← kg];rfl) i
 ·rw [hst];exact .inr hb
 ·rw [hst];exact h2 b hb
theorem py {w':World} {j:Nat} {v':Value} (h:Mem w0 w (Ent.all (xaf m) (fun i=>aw B t s (st4 mk f u n gv m j i)) :: L)) (hj:j<m) (hgl:gv.length=m) (ho:w'.ownsRow B t s v' (n j+64) (mkC mk f j (n j)++mkC mk f (j+m) 64)) (hg:w.grownBy w' (u j).ownBlock) (hr:tJ w w' (u j) v' (n j) 64) :
  Mem w0 w' (Ent.all (xaf m) (fun i=>aw B t s (st4 mk f u n (gv.set j v') m (j+1) i)) :: L):=by
 have hU:=iW h (i0:=0) rfl hj
 rw [xbo] at hU
 obtain ⟨h1,h2⟩:=vr (p:=.self (u j) (n j) (mkC mk f j (n j))) (ju hU) ho hg hr
 have hst:(st4 mk f u n gv m j j).u=u j:=by unfold st4;rw [if_neg (Nat.lt_irrefl _)]
 refine Mem.cG (Mem.wH (g:=aw B t s) (st:=st4 mk f u n gv m j) h hj hg (fun b hb=>.inl (by rw [hst];exact hb)) (jt B t s) h1 fun b hb=>?_) fun i _=>Dh mk f u n gv m j (by omega) rfl i
 rcases h2 b hb with h3 | h3
 ·refine .inl (.inl ?_)
  rw [hst]
  rcases h3 with h3 | h3<;>exact h3
 ·exact .inr h3
end
end Go.Proofs.YtomnhnmciopiiaaGreat
end
section
namespace Go.Proofs.YtomnhnmciopiiaaGreat
open Go Go.RowKit Go.Maps
theorem cM {P:Program} {w:World} {ops:Array Oper} {rest:List Oper} {o:Oper} {a:Act} {Q:Exit→Act→World→Prop} (hg:o.guard=none) (ty:TypeId) (x y:Operand) (ho:o.op=.store ty x y) {B g n cap k:Nat} {t:TypeId} {xs:List Value} (hown:w.ownsRow B t 1 (.slice (some ⟨g,0,none⟩) n cap) n xs) (hk:k<n) (hs:(P.info? ty).map (·.size)=some 1) (v:Value) (h1:v.oneCell'=true)
  (hx:a.eval x=.pointer (some ⟨g,k,none⟩)) (hy:a.eval y=v)
  (h:∀ w',w'.ownsRow B t 1 (.slice (some ⟨g,0,none⟩) n cap) n (xs.set k v)→w.grownBy w' (some g)→wpList P ops Q rest (a.put o.dst undef) w'):wpList P ops Q (o :: rest) a w:=by
 rcases a7 hown with ⟨e,_⟩ | ⟨g',cap',cur,e,hb,hn,hc,hh,hsz,ht,_⟩
 ·cases e
 ·injection e with e1 _ e3
  injection e1 with e1
  injection e1 with e1
  subst e1 e3
  have hkc:k<cur.size:=by omega
  refine bD hg ty x y ho g k t cur hh hkc hs v h1 hx hy fun w' hk' hg' hz=>h w' ⟨?_,.inr ⟨g,cap,cur.setIfInBounds k v,rfl,hb,hk',hn,hc,by rw [Array.size_setIfInBounds];exact hsz,?_⟩⟩ hg'
  ·rw [xbh];exact hown.1
  ·rw [Array.toList_setIfInBounds,← ht,List.take_set]
theorem Mem.jM {w0 w w':World} {L:List Ent} {B s n n' g c:Nat} {t:TypeId} {xs xs':List Value} (h:Mem w0 w L) (i:Nat) (hi:L[i]?=some (ax B t s (.slice (some ⟨g,0,none⟩) n c) n' xs)) (ho:w'.ownsRow B t s (.slice (some ⟨g,0,none⟩) n c) n' xs') (hg:w.grownBy w' (some g)):Mem w0 w' (L.set i (ax B t s (.slice (some ⟨g,0,none⟩) n c) n' xs')) :=
 h.upd i hi hg (fun _ hb=>hb) (gz _ _ _ _ _ _) ho fun _ hf=>.inl hf
theorem kR (gv:List Value) (k:Nat) (v:Value):(gv.flatMap vb).set k v=(gv.set k v).flatMap vb:=(Gy gv k v).symm
theorem qj {w:World} {B n m:Nat} {t:TypeId} {u:Value} {xs:List Value} (h:w.ownsRow B t 1 u n xs) (hm:n=m):xs.length=m:=by rw [h.1,hm,Nat.mul_one]
end Go.Proofs.YtomnhnmciopiiaaGreat
end
section
namespace Go.Proofs.YtomnhnmciopiiaaGreat
open Go Go.RowKit Go.Maps
attribute [local irreducible] wpList
theorem nE:(Tryz.prog.info? 87).map (fun i=>(i.zero,i.size,i.bytes))=some (some (Value.agg zcN),43,80):=by kernel_rfl
theorem sM:(Tryz.prog.info? 23).map (fun i=>(i.zero,i.size,i.bytes))=some (some (.slice none 0 0),1,24):=by kernel_rfl
theorem pE (w0 w:World) (R:Ent) (m:Nat) (u:Nat→Value) (n:Nat→Nat) (xs:Nat→List Value) (B2:Nat) (A:Option Addr) (c:Nat) (hm9:m≤1000000) (hn:∀ i,i<m→n i≤1000000)
  (hm:Mem w0 w [Ent.all (xaf m) (fun i=>aw w0.heap.size 87 43 (PS.self (u i) (n i) (xs i))),ax B2 23 1 (.slice A m c) m (((xaf m).map u).flatMap vb),R]) :
  Calls Tryz.prog 114 #[.slice A m c] w fun e w'=>e=.returned (.bool true)∧Mem w0 w' [ax B2 23 1 (.slice A m c) m (((xaf m).map u).flatMap vb),R]:=by
 have hown:∀ i,i<m→w.ownsRow w0.heap.size 87 43 (u i) (n i) (xs i):=fun i hi=>(Mem.nD (g:=aw w0.heap.size 87 43) (st:=fun i=>PS.self (u i) (n i) (xs i)) hm 0 rfl hi).1
 have hxl:∀ i,i<m→(xs i).length=n i*43:=fun i hi=>(hown i hi).1
 have hu0:∀ i,i<m→∃ A c,u i=.slice A (n i) c∧(0<n i→∃ g,A=some ⟨g,0,none⟩):=fun i hi=>by
  obtain ⟨A,c,e⟩:=aI (hown i hi)
  refine ⟨A,c,e,fun h0=>?_⟩
  obtain ⟨g,hg,_⟩:=aR (e▸hown i hi) h0
  exact ⟨g,hg⟩
 have hm:=Mem.cG (g:=aw w0.heap.size 87 43) (st:=fun i=>PS.self (u i) (n i) (xs i)) (st':=st1 aN nC u n xs 0) hm (fun i _=>(nv aN nC u n xs i).symm)
 clear hown
 go_enter Tryz.func114,Tryz.ntmps114
 refine sk fun _ K1=>rl ?_
 refine nt (K1 _ _ (sk fun _ K2=>sk fun _ K3=>rl ?_))
 refine nt (K3 _ _ (wp_block ?_))
 go_loopw [3] (fun x3 wr=>∃ k:Nat,x3=.int .i64 (k:Int)∧(k≤m)∧Mem w0 wr [Ent.all (xaf m) (fun i=>aw w0.heap.size 87 43 (st1 aN nC u n xs k i)),ax B2 23 1 (.slice A m c) m (((xaf m).map u).flatMap vb),R]) (fun x3 _=>m-(intOf x3).toNat)
 case atStart=>exact ⟨0,rfl,by omega,hm⟩
 case round =>
  obtain ⟨wo4,rfl⟩:∃ wo4,wo4=wr:=⟨_,rfl⟩
  obtain ⟨k,rfl,hk,H5⟩:=hrel
  refine sk fun _ K7=>sk fun _ K8=>rl ?_
  by_cases p9:(k:Int)<(m:Int)
  ·refine rv (aK (decide_eq_true p9)) ?_
   refine nt (K8 _ _ (ct (ks (K7 _ _ (sk fun _ K10=>wp_block (sk fun _ K11=>rl ?_))))))
   refine nt (K11 _ _ (wp_block ?_))
   have H12:=Mem.cG (g:=aw w0.heap.size 87 43) (st:=st1 aN nC u n xs k) (st':=hO aN nC 43 u n xs k 0) H5 (fun i _=>lJ aN nC 43 u n xs k i)
   have hxl9:=hxl k (by omega)
   have hnk:=hn k (by omega)
   go_loopw [4] (fun x4 wr=>∃ q:Nat,x4=.int .i64 (q:Int)∧(q≤n k)∧Mem w0 wr [Ent.all (xaf m) (fun i=>aw w0.heap.size 87 43 (hO aN nC 43 u n xs k q i)),ax B2 23 1 (.slice A m c) m (((xaf m).map u).flatMap vb),R]) (fun x4 _=>n k-(intOf x4).toNat)
   case atStart=>exact ⟨0,rfl,by omega,H12⟩
   case round =>
    obtain ⟨wo13,rfl⟩:∃ wo13,wo13=wr:=⟨_,rfl⟩
    obtain ⟨q,rfl,hq,H14⟩:=hrel
    refine sk fun _ K16=>sk fun _ K17=>rl ?_
    obtain ⟨b18,rfl,hlt21⟩:=aR (Mem.own H14 1 rfl) (by omega)
    obtain ⟨x22,hx23⟩:=gx (l:=((xaf m).map u)) (j:=k)
    have hd24:=aD hx23
    obtain rfl:=bm hx23
    obtain ⟨A25,c26,hu27,hg28⟩:=hu0 k (by omega)
    refine rv (bT (s:=1) (k) Tryz.underlying119 (by kernel_rfl)) ?_
    refine rv (v:=.slice A25 (n k) c26) (by rw [← hu27];exact exec_load_cell 23 (.tmp 25) rfl ⟨b18,k*1,none⟩ rfl _ _ wo13 Tryz.underlying23 rfl (range_cell (cO (Mem.own H14 1 rfl) (by omega)))) ?_
    by_cases p29:(q:Int)<(((n k):Nat):Int)
    ·refine rv (aK (decide_eq_true p29)) ?_
     refine nt (K17 _ _ (ct (ks (K16 _ _ (sk fun _ K30=>wp_block ?_)))))
     obtain ⟨b31,rfl⟩:=hg28 (by omega)
     refine Fre.b4 (X:=Bel) 9 [] (by kernel_rfl) (by kernel_rfl) (by simp) (by simp) (by simp) ?_
     simp only [xau,xaC,xay,xaK]
     refine Fre.rmd ?_
     refine Fre.mvv (fun _ _=>bT (s:=1) (k) Tryz.underlying119 (by kernel_rfl)) ?_
     refine Fre.mvv (v:=.slice (some ⟨b31,0,none⟩) (n k) c26) (fun W9 hW9=>by rw [← hu27];exact exec_load_cell 23 (.tmp 33) rfl ⟨b18,k*1,none⟩ rfl _ _ W9 Tryz.underlying23 rfl (range_cell (cO (Mem.own (Mem.call H14 hW9) 1 rfl) (by omega)))) ?_
     refine Fre.mc (fun W9 hW9=>gd k q W9) ?_
     refine Fre.rmd ?_
     refine Fre.mvv (fun _ _=>bT (q) Tryz.underlying23 bz) ?_
     intro w35 hx37
     dsimp only [Fre.ended,xaE]
     have H36:=Mem.call H14 hx37
     have ow9:=wG (mk:=aN) (f:=nC) H36 (i0:=0) rfl (show k<m by omega)
     rw [hu27] at ow9
     refine eC rfl 87 (.tmp 39) (.tmp 38) rfl ow9 (k:=q) (nC (aN k q)) (by omega) (cV (bL k q)) (kX (bL k q)) (zS (aN k q)) rfl rfl ?_
     intro w38 ho9 hg9 hz9
     refine rn ?_
     rw [← hu27] at ho9
     have H39:=pw (mk:=aN) (f:=nC) H36 (show k<m by omega) (fun k i=>cV (bL k i)) hu27 ho9 hg9
     clear ho9 hg9 ow9
     refine wpList_nil ?_
     refine ar (ah (K30 _ _ (rl ?_)))
     refine rv (bp (((q+1:Nat):Int))) ?_
     refine wpList_nil ?_
     refine ah ?_
     show _∧_
     go_roundw
     case rel=>exact ⟨(q+1),rfl,by omega,H39⟩
     case measure=>simp [intOf];omega
    ·refine rv (aK (decide_eq_false p29)) ?_
     refine nt (K17 _ _ (cf (wp_exit (an (an (aB (ar (ah (K10 _ _ (rl ?_))))))))))
     refine rv (bp (((k+1:Nat):Int))) ?_
     refine wpList_nil ?_
     have H40:=Mem.cG (g:=aw w0.heap.size 87 43) (st:=hO aN nC 43 u n xs k q) (st':=st1 aN nC u n xs (k+1)) H14 (fun i _=>by rw [show q=n k by omega];exact qD aN nC 43 u n xs k hxl9 i)
     refine ah ?_
     show _∧_
     go_roundw
     case rel=>exact ⟨(k+1),rfl,by omega,H40⟩
     case measure=>simp [intOf];omega
  ·refine rv (aK (decide_eq_false p9)) ?_
   refine nt (K8 _ _ (cf (wp_exit (an (an (aB (ah (K2 _ _ (sk fun _ K41=>rl ?_)))))))))
   obtain ⟨inm23,iq23,ir23,is23,it23⟩:=info_parts sM
   refine wpList_make_full _ rfl _ _ 119 rfl w0.heap.size 23 _ _ 1 Tryz.underlying119 iq23 ir23 is23 _ _ _ _ m rfl rfl rfl rfl (by rw [it23];omega) (by simp only [maxLen];omega) (Mem.below H5).size ?_
   intro w42 ow gr
   refine rn ?_
   obtain ⟨gv0,hgv0⟩:∃ gv:List Value,gv=(madeCells (xas none 0 0).cells (m*1)).toList:=⟨_,rfl⟩
   rw [← hgv0] at ow
   have hgl0:=qj ow rfl
   rw [← iT gv0] at ow
   have H43:=Mem.make H5 ow gr
   obtain ⟨gg,hgg⟩:∃ g,g=wo4.heap.size:=⟨_,rfl⟩
   rw [← hgg] at H43 ⊢
   clear ow gr hgg hgv0
   refine rn ?_
   refine nt (K41 _ _ (sk fun _ K44=>sk fun _ K45=>rl ?_))
   refine nt (K45 _ _ (wp_block ?_))
   have H46:=Mem.cG (g:=aw w0.heap.size 87 43) (st:=st1 aN nC u n xs k) (st':=st2 aN nC u n gv0 0) (Mem.pick H43 [1,0,2,3] (by decide) rfl) (fun i hi=>by rw [show k=m by omega];exact (tF aN nC u n xs m i hi).trans (if_neg (Nat.not_lt_zero _)).symm)
   go_loopw [6] (fun x6 wr=>∃ k:Nat,∃ gv:List Value,x6=.int .i64 (k:Int)∧(k≤m)∧(gv.length=m)∧Mem w0 wr [Ent.all (xaf m) (fun i=>aw w0.heap.size 87 43 (st2 aN nC u n gv k i)),ax w0.heap.size 23 1 (.slice (some ⟨gg,0,none⟩) m m) m ((gv).flatMap vb),ax B2 23 1 (.slice A m c) m (((xaf m).map u).flatMap vb),R]) (fun x6 _=>m-(intOf x6).toNat)
   case atStart=>exact ⟨0,gv0,rfl,by omega,hgl0,H46⟩
   case round =>
    obtain ⟨wo47,rfl⟩:∃ wo47,wo47=wr:=⟨_,rfl⟩
    obtain ⟨k,gv,rfl,hk,hgl,H48⟩:=hrel
    refine sk fun _ K50=>sk fun _ K51=>rl ?_
    by_cases p52:(k:Int)<(m:Int)
    ·refine rv (aK (decide_eq_true p52)) ?_
     refine nt (K51 _ _ (ct (ks (K50 _ _ (sk fun _ K53=>wp_block (sk fun _ K54=>rl ?_))))))
     obtain ⟨b55,rfl,hlt58⟩:=aR (Mem.own H48 2 rfl) (by omega)
     obtain ⟨x59,hx60⟩:=gx (l:=((xaf m).map u)) (j:=k)
     have hd61:=aD hx60
     obtain rfl:=bm hx60
     obtain ⟨A62,c63,hu64,hg65⟩:=hu0 k (by omega)
     refine rv (bT (s:=1) (k) Tryz.underlying119 (by kernel_rfl)) ?_
     refine rv (v:=.slice A62 (n k) c63) (by rw [← hu64];exact exec_load_cell 23 (.tmp 51) rfl ⟨b55,k*1,none⟩ rfl _ _ wo47 Tryz.underlying23 rfl (range_cell (cO (Mem.own H48 2 rfl) (by omega)))) ?_
     refine nt (K54 _ _ (sk fun _ K66=>sk fun _ K67=>rl ?_))
     refine nt (K67 _ _ (wp_block ?_))
     have H68:=Mem.cG (g:=aw w0.heap.size 87 43) (st:=st2 aN nC u n gv k) (st':=iD aN nC u n gv (u k) k 0) H48 (fun i _=>lK aN nC u n gv k i)
     have hnk:=hn k (by omega)
     rw [← hu64]
     go_loopw [7,8] (fun x7 x8 wr=>∃ q:Nat,∃ v:Value,v=x7∧x8=.int .i64 (q:Int)∧(q≤64)∧Mem w0 wr [Ent.all (xaf m) (fun i=>aw w0.heap.size 87 43 (iD aN nC u n gv v k q i)),ax w0.heap.size 23 1 (.slice (some ⟨gg,0,none⟩) m m) m ((gv).flatMap vb),ax B2 23 1 (.slice (some ⟨b55,0,none⟩) m c) m (((xaf m).map u).flatMap vb),R]) (fun x7 x8 _=>64-(intOf x8).toNat)
     case atStart=>exact ⟨0,((u k)),rfl,rfl,by omega,H68⟩
     case round =>
      obtain ⟨wo69,rfl⟩:∃ wo69,wo69=wr:=⟨_,rfl⟩
      obtain ⟨q,v,rfl,rfl,hq,H70⟩:=hrel
      refine sk fun _ K72=>sk fun _ K73=>rl ?_
      by_cases p74:(q:Int)<64
      ·refine rv (aK (decide_eq_true p74)) ?_
       refine nt (K73 _ _ (ct (ks (K72 _ _ (sk fun _ K75=>wp_block (rl ?_))))))
       obtain ⟨x76,hx77⟩:=gx (l:=((xaf m).map u)) (j:=k)
       have hd78:=aD hx77
       obtain rfl:=bm hx77
       obtain ⟨A79,c80,hu81,hg82⟩:=hu0 k (by omega)
       refine rv (bT (s:=1) (k) Tryz.underlying119 (by kernel_rfl)) ?_
       refine rv (v:=.slice A79 (n k) c80) (by rw [← hu81];exact exec_load_cell 23 (.tmp 61) rfl ⟨b55,k*1,none⟩ rfl _ _ wo69 Tryz.underlying23 rfl (range_cell (cO (Mem.own H70 2 rfl) (by omega)))) ?_
       refine rv (bp ((((n k)+q:Nat):Int))) ?_
       refine ac (gd k ((n k)+q) wo69) ?_
       rintro e w83 ⟨rfl,hb85⟩
       refine ⟨_,rfl,rn ?_⟩
       have H84:=Mem.call H70 hb85
       refine aO rfl 23 (.tmp 66) rfl 87 43 (Value.agg zcN) (.agg (nC (aN k ((n k)+q))).toArray) rfl Tryz.underlying23 bz (by decide) (by decide) (fun w=>by kernel_rfl) (by rw [xaU,xal];exact cV (bL k ((n k)+q))) ?_
       intro w86 hn
       have H87:=Mem.aM H84 hn
       clear hn
       refine rn ?_
       obtain ⟨inm87,iq87,ir87,is87,it87⟩:=info_parts nE
       have hP9:=lr (mk:=aN) (f:=nC) H87 (i0:=1) rfl (show k<m by omega)
       refine eU rfl _ _ 23 rfl w0.heap.size 87 _ _ 43 80 Tryz.underlying23 iq87 ir87 is87 it87 rfl (by decide) v (n k+q) (mkC aN nC k (n k+q)) hP9.2.1 (some ⟨w83.heap.size,0,none⟩) 1 1 (nC (aN k ((n k)+q))) (bU (n:=43) (m:=1) (Mem.blk H87 0 rfl) (cV (bL k ((n k)+q))) (fj (aN k ((n k)+q)))) (by decide) (by simp only [maxLen];omega) (by omega) (Mem.below H87).size rfl rfl ?_
       intro v9 w88 ho9 hg9 hr9
       refine rn ?_
       have H89:=px (mk:=aN) (f:=nC) (Mem.pick H87 [1,0,2,3,4] (by decide) rfl) (show k<m by omega) ho9 hg9 hr9
       clear ho9 hg9 hr9 hP9
       refine rn ?_
       refine wpList_nil ?_
       refine ar (ah (K75 _ _ (rl ?_)))
       refine rv (bp (((q+1:Nat):Int))) ?_
       refine wpList_nil ?_
       have H90:=Mem.pick H89 [0,2,3,4] (by decide) rfl
       refine ah ?_
       show _∧_
       go_roundw
       case rel=>exact ⟨(q+1),v9,rfl,rfl,by omega,H90⟩
       case measure=>simp [intOf];omega
      ·refine rv (aK (decide_eq_false p74)) ?_
       refine nt (K73 _ _ (cf (wp_exit (an (an (aB (ah (K66 _ _ (rl ?_)))))))))
       refine rv (bT (s:=1) (k) Tryz.underlying119 (by kernel_rfl)) ?_
       refine cM rfl 23 (.tmp 72) (.tmp 71) rfl (Mem.own H70 1 rfl) (k:=k) (by omega) (by kernel_rfl) v (by obtain ⟨_,_,e9⟩:=aI (lr (mk:=aN) (f:=nC) H70 (i0:=0) rfl (show k<m by omega)).2.1;rw [show v=_ from e9];rfl) (by show xb4 (some ⟨gg,k*1,none⟩)=_;rw [Nat.mul_one]) rfl ?_
       intro w91 ho9 hg9
       refine rn ?_
       rw [kR] at ho9
       have H92:=Mem.jM H70 1 rfl ho9 hg9
       clear ho9 hg9
       refine wpList_nil ?_
       refine ar (ah (K53 _ _ (rl ?_)))
       refine rv (bp (((k+1:Nat):Int))) ?_
       refine wpList_nil ?_
       have H93:=Mem.cG (g:=aw w0.heap.size 87 43) (st:=iD aN nC u n gv v k q) (st':=st2 aN nC u n (gv.set k v) (k+1)) H92 (fun i _=>by rw [show q=64 by omega];exact qE aN nC u n gv v k (by omega) i)
       refine ah ?_
       show _∧_
       go_roundw
       case rel=>exact ⟨(k+1),(gv.set k v),rfl,by omega,(by rw [xbh];exact hgl),H93⟩
       case measure=>simp [intOf];omega
    ·refine rv (aK (decide_eq_false p52)) ?_
     refine nt (K51 _ _ (cf (wp_exit (an (an (aB (ah (K44 _ _ (sk fun _ K94=>sk fun _ K95=>rl ?_)))))))))
     refine nt (K95 _ _ (wp_block ?_))
     have H96:=Mem.cG (g:=aw w0.heap.size 87 43) (st:=st2 aN nC u n gv k) (st':=st4 aN nC u n gv m 0) H48 (fun i hi=>by rw [show k=m by omega];exact nw aN nC u n gv m i hi)
     go_loopw [9] (fun x9 wr=>∃ k3:Nat,x9=.int .i64 (k3:Int)∧(k3≤m)∧Mem w0 wr [Ent.all (xaf m) (fun i=>aw w0.heap.size 87 43 (st4 aN nC u n gv m 0 i)),ax w0.heap.size 23 1 (.slice (some ⟨gg,0,none⟩) m m) m ((gv).flatMap vb),ax B2 23 1 (.slice A m c) m (((xaf m).map u).flatMap vb),R]) (fun x9 _=>m-(intOf x9).toNat)
     case atStart=>exact ⟨0,rfl,by omega,H96⟩
     case round =>
      obtain ⟨wo97,rfl⟩:∃ wo97,wo97=wr:=⟨_,rfl⟩
      obtain ⟨k3,rfl,hk3,H98⟩:=hrel
      refine sk fun _ K100=>sk fun _ K101=>rl ?_
      by_cases p102:(k3:Int)<(m:Int)
      ·refine rv (aK (decide_eq_true p102)) ?_
       refine nt (K101 _ _ (ct (ks (K100 _ _ (sk fun _ K103=>wp_block (sk fun _ K104=>rl ?_))))))
       refine nt (K104 _ _ (wp_block ?_))
       have hnk:=hn k3 (by omega)
       go_loopw [10] (fun x10 wr=>∃ i:Nat,x10=.int .i64 (i:Int)∧(i≤n k3+64)∧Mem w0 wr [Ent.all (xaf m) (fun i=>aw w0.heap.size 87 43 (st4 aN nC u n gv m 0 i)),ax w0.heap.size 23 1 (.slice (some ⟨gg,0,none⟩) m m) m ((gv).flatMap vb),ax B2 23 1 (.slice A m c) m (((xaf m).map u).flatMap vb),R]) (fun x10 _=>n k3+64-(intOf x10).toNat)
       case atStart=>exact ⟨0,rfl,by omega,H98⟩
       case round =>
        obtain ⟨wo105,rfl⟩:∃ wo105,wo105=wr:=⟨_,rfl⟩
        obtain ⟨i,rfl,hi,H106⟩:=hrel
        refine sk fun _ K108=>sk fun _ K109=>rl ?_
        obtain ⟨x110,hx111⟩:=gx (l:=gv) (j:=k3)
        have hd112:=aD hx111
        have hv113:=kz (mk:=aN) (f:=nC) H106 (i0:=0) rfl (show k3<m by omega) (Nat.zero_le _) hx111
        obtain ⟨A114,c115,rfl⟩:=aI hv113
        refine rv (bT (s:=1) (k3) Tryz.underlying119 (by kernel_rfl)) ?_
        refine rv (xlc (range_cell (gZ (Mem.own H106 1 rfl) hx111)) Tryz.underlying23) ?_
        by_cases p116:(i:Int)<(((n k3+64):Nat):Int)
        ·refine rv (aK (decide_eq_true p116)) ?_
         refine nt (K109 _ _ (ct (ks (K108 _ _ (sk fun _ K117=>wp_block (sk fun _ K118=>?_))))))
         obtain ⟨b119,rfl,hlt122⟩:=aR hv113 (by omega)
         obtain ⟨b123,rfl,hlt126⟩:=aR (Mem.own H106 2 rfl) (by omega)
         obtain ⟨x127,hx128⟩:=gx (l:=((xaf m).map u)) (j:=k3)
         have hd129:=aD hx128
         obtain rfl:=bm hx128
         obtain ⟨A130,c131,hu132,hg133⟩:=hu0 k3 (by omega)
         refine Fre.cC (X:=Bel) [] (by kernel_rfl) (by kernel_rfl) (by simp) (by simp) (by simp) ?_
         refine Fre.rmd ?_
         refine Fre.mvv (fun _ _=>bT (s:=1) (k3) Tryz.underlying119 (by kernel_rfl)) ?_
         refine Fre.mvv (fun W9 hW9=>xlc (range_cell (gZ (Mem.own (Mem.call H106 hW9) 1 rfl) hx111)) Tryz.underlying23) ?_
         refine Fre.mvv (fun _ _=>bT (i) Tryz.underlying23 bz) ?_
         refine Fre.mvv (fun W9 hW9=>xld (jS (mk:=aN) (f:=nC) (k:=k3) (i:=i) (fun k i=>cV (bL k i)) (kz (mk:=aN) (f:=nC) (Mem.call H106 hW9) (i0:=0) rfl (show k3<m by omega) (Nat.zero_le _) hx111) (by omega)) Tryz.underlying87 (eL (bL k3 i))) ?_
         refine Fre.mc (fun W9 hW9=>gd k3 i W9) ?_
         refine Fre.rmd ?_
         refine Fre.mvv (fun W9 _=>dG 87 87 (.tmp 94) (.tmp 97) rfl (nC (aN k3 i)).toArray (nC (aN k3 i)).toArray rfl rfl (by kernel_rfl) _ W9 (by have h9:=j4 ((aN k3 i)) ((aN k3 i)) (bL k3 i) (bL k3 i) W9;rwa [show decide _=true from (decide_eq_true rfl)] at h9)) ?_
         refine Fre.mvv (fun _ _=>bT (s:=1) (k3) Tryz.underlying119 (by kernel_rfl)) ?_
         refine Fre.mvv (v:=.slice A130 (n k3) c131) (fun W9 hW9=>by rw [← hu132];exact exec_load_cell 23 (.tmp 104) rfl ⟨b123,k3*1,none⟩ rfl _ _ W9 Tryz.underlying23 rfl (range_cell (cO (Mem.own (Mem.call H106 hW9) 2 rfl) (by omega)))) ?_
         by_cases p134:(i:Int)<(((n k3):Nat):Int)
         ·refine Fre.mvv (fun _ _=>aK (decide_eq_true p134)) ?_
          refine Fre.mvv (fun _ _=>bT (s:=1) (k3) Tryz.underlying119 (by kernel_rfl)) ?_
          refine Fre.mvv (v:=.slice A130 (n k3) c131) (fun W9 hW9=>by rw [← hu132];exact exec_load_cell 23 (.tmp 111) rfl ⟨b123,k3*1,none⟩ rfl _ _ W9 Tryz.underlying23 rfl (range_cell (cO (Mem.own (Mem.call H106 hW9) 2 rfl) (by omega)))) ?_
          obtain ⟨b135,rfl⟩:=hg133 (by omega)
          refine Fre.mvv (fun _ _=>bT (i) Tryz.underlying23 bz) ?_
          refine Fre.mvv (fun W9 hW9=>xld (jS (mk:=aN) (f:=nC) (k:=k3) (i:=i) (fun k i=>cV (bL k i)) (hu132▸iW (mk:=aN) (f:=nC) (Mem.call H106 hW9) (i0:=0) rfl (by omega)) (by omega)) Tryz.underlying87 (eL (bL k3 i))) ?_
          refine Fre.mc (fun W9 hW9=>gd k3 i W9) ?_
          refine Fre.rmd ?_
          refine Fre.mvv (fun W9 _=>dG 87 87 (.tmp 115) (.tmp 118) rfl (nC (aN k3 i)).toArray (nC (aN k3 i)).toArray rfl rfl (by kernel_rfl) _ W9 (by have h9:=j4 ((aN k3 i)) ((aN k3 i)) (bL k3 i) (bL k3 i) W9;rwa [show decide _=true from (decide_eq_true rfl)] at h9)) ?_
          intro w139 hx141
          dsimp only [Fre.ended,xaE]
          have H140:=Mem.call H106 hx141
          refine ah (K118 _ _ (cf ?_))
          refine wp_skip ?_
          refine ar (ah (K117 _ _ (rl ?_)))
          refine rv (bp (((i+1:Nat):Int))) ?_
          refine wpList_nil ?_
          refine ah ?_
          show _∧_
          go_roundw
          case rel=>exact ⟨(i+1),rfl,by omega,H140⟩
          case measure=>simp [intOf];omega
         ·refine Fre.mvv (fun _ _=>aK (decide_eq_false p134)) ?_
          intro w142 hx144
          dsimp only [Fre.ended,xaE]
          have H143:=Mem.call H106 hx144
          refine ah (K118 _ _ (cf ?_))
          refine wp_skip ?_
          refine ar (ah (K117 _ _ (rl ?_)))
          refine rv (bp (((i+1:Nat):Int))) ?_
          refine wpList_nil ?_
          refine ah ?_
          show _∧_
          go_roundw
          case rel=>exact ⟨(i+1),rfl,by omega,H143⟩
          case measure=>simp [intOf];omega
        ·refine rv (aK (decide_eq_false p116)) ?_
         refine nt (K109 _ _ (cf (wp_exit (an (an (aB (ar (ah (K103 _ _ (rl ?_))))))))))
         refine rv (bp (((k3+1:Nat):Int))) ?_
         refine wpList_nil ?_
         refine ah ?_
         show _∧_
         go_roundw
         case rel=>exact ⟨(k3+1),rfl,by omega,H106⟩
         case measure=>simp [intOf];omega
      ·refine rv (aK (decide_eq_false p102)) ?_
       refine nt (K101 _ _ (cf (wp_exit (an (an (aB (ah (K94 _ _ (sk fun _ K145=>sk fun _ K146=>rl ?_)))))))))
       refine nt (K146 _ _ (wp_block ?_))
       obtain ⟨gw,hgw⟩:∃ g,g=gv:=⟨_,rfl⟩
       rw [← hgw] at H98
       rw [← hgw] at hgl
       have hgl6:=hgl
       clear hgl
       go_loopw [11] (fun x11 wr=>∃ k:Nat,∃ gv:List Value,x11=.int .i64 (k:Int)∧(k≤m)∧(gv.length=m)∧Mem w0 wr [Ent.all (xaf m) (fun i=>aw w0.heap.size 87 43 (st4 aN nC u n gv m k i)),ax w0.heap.size 23 1 (.slice (some ⟨gg,0,none⟩) m m) m ((gv).flatMap vb),ax B2 23 1 (.slice A m c) m (((xaf m).map u).flatMap vb),R]) (fun x11 _=>m-(intOf x11).toNat)
       case atStart=>exact ⟨0,gw,rfl,by omega,hgl6,H98⟩
       case round =>
        obtain ⟨wo147,rfl⟩:∃ wo147,wo147=wr:=⟨_,rfl⟩
        obtain ⟨k,gv,rfl,hk,hgl,H148⟩:=hrel
        refine sk fun _ K150=>sk fun _ K151=>rl ?_
        by_cases p152:(k:Int)<(m:Int)
        ·refine rv (aK (decide_eq_true p152)) ?_
         refine nt (K151 _ _ (ct (ks (K150 _ _ (sk fun _ K153=>wp_block (sk fun _ K154=>rl ?_))))))
         obtain ⟨inm87,iq87,ir87,is87,it87⟩:=info_parts nE
         refine wpList_make_full _ rfl _ _ 23 rfl w0.heap.size 87 _ _ 43 Tryz.underlying23 iq87 ir87 is87 _ _ _ _ 64 rfl rfl rfl rfl (by rw [it87];omega) (by simp only [maxLen];omega) (Mem.below H148).size ?_
         intro w155 ow gr
         refine rn ?_
         obtain ⟨zs,hzs⟩:∃ zs:List Value,zs=(madeCells (Value.agg zcN).cells (64*43)).toList:=⟨_,rfl⟩
         rw [← hzs] at ow
         have hzl:=ow.1
         have H156:=Mem.make H148 ow gr
         obtain ⟨gm,hgm⟩:∃ g,g=wo147.heap.size:=⟨_,rfl⟩
         rw [← hgm] at H156 ⊢
         clear ow gr hgm hzs
         refine rn ?_
         refine nt (K154 _ _ (sk fun _ K157=>sk fun _ K158=>rl ?_))
         refine nt (K158 _ _ (wp_block ?_))
         have hnk:=hn k (by omega)
         go_loopw [13] (fun x13 wr=>∃ i:Nat,x13=.int .i64 (i:Int)∧(i≤64)∧Mem w0 wr [ax w0.heap.size 87 43 (.slice (some ⟨gm,0,none⟩) 64 64) 64 (mkC aN nC (k+m) i++zs.drop (i*43)),Ent.all (xaf m) (fun i=>aw w0.heap.size 87 43 (st4 aN nC u n gv m k i)),ax w0.heap.size 23 1 (.slice (some ⟨gg,0,none⟩) m m) m ((gv).flatMap vb),ax B2 23 1 (.slice A m c) m (((xaf m).map u).flatMap vb),R]) (fun x13 _=>64-(intOf x13).toNat)
         case atStart=>exact ⟨0,rfl,by omega,H156⟩
         case round =>
          obtain ⟨wo159,rfl⟩:∃ wo159,wo159=wr:=⟨_,rfl⟩
          obtain ⟨i,rfl,hi,H160⟩:=hrel
          refine sk fun _ K162=>sk fun _ K163=>rl ?_
          by_cases p164:(i:Int)<64
          ·refine rv (aK (decide_eq_true p164)) ?_
           refine nt (K163 _ _ (ct (ks (K162 _ _ (sk fun _ K165=>wp_block (rl ?_))))))
           refine rv (bp (((k+m:Nat):Int))) ?_
           refine ac (gd (k+m) i wo159) ?_
           rintro e w166 ⟨rfl,hb168⟩
           refine ⟨_,rfl,rn ?_⟩
           have H167:=Mem.call H160 hb168
           refine rv (bT (i) Tryz.underlying23 bz) ?_
           refine eC rfl 87 (.tmp 142) (.tmp 141) rfl (Mem.own H167 0 rfl) (k:=i) (nC (aN (k+m) i)) (by omega) (cV (bL (k+m) i)) (kX (bL (k+m) i)) (zS (aN (k+m) i)) rfl rfl ?_
           intro w169 ho9 hg9 hz9
           refine rn ?_
           rw [mB aN nC 43 (fun _=>zs) (fun k i=>cV (bL k i)) (k+m) i] at ho9
           have H170:=Mem.jM H167 0 rfl ho9 hg9
           clear ho9 hg9
           refine wpList_nil ?_
           refine ar (ah (K165 _ _ (rl ?_)))
           refine rv (bp (((i+1:Nat):Int))) ?_
           refine wpList_nil ?_
           refine ah ?_
           show _∧_
           go_roundw
           case rel=>exact ⟨(i+1),rfl,by omega,H170⟩
           case measure=>simp [intOf];omega
          ·refine rv (aK (decide_eq_false p164)) ?_
           refine nt (K163 _ _ (cf (wp_exit (an (an (aB (ah (K157 _ _ (rl ?_)))))))))
           obtain ⟨b171,rfl,hlt174⟩:=aR (Mem.own H160 3 rfl) (by omega)
           obtain ⟨x175,hx176⟩:=gx (l:=((xaf m).map u)) (j:=k)
           have hd177:=aD hx176
           obtain rfl:=bm hx176
           obtain ⟨A178,c179,hu180,hg181⟩:=hu0 k (by omega)
           refine rv (bT (s:=1) (k) Tryz.underlying119 (by kernel_rfl)) ?_
           refine rv (v:=.slice A178 (n k) c179) (by rw [← hu180];exact exec_load_cell 23 (.tmp 147) rfl ⟨b171,k*1,none⟩ rfl _ _ wo159 Tryz.underlying23 rfl (range_cell (cO (Mem.own H160 3 rfl) (by omega)))) ?_
           have hie:i=64:=by omega
           subst hie
           have hU9:=iW (mk:=aN) (f:=nC) H160 (i0:=1) rfl (show k<m by omega)
           rw [xbo] at hU9
           have hM9:=Mem.own H160 0 rfl
           rw [List.drop_of_length_le (by omega),xbo] at hM9
           refine eU rfl _ _ 23 rfl w0.heap.size 87 _ _ 43 80 Tryz.underlying23 iq87 ir87 is87 it87 rfl (by decide) (u k) (n k) (mkC aN nC k (n k)) hU9 (some ⟨gm,0,none⟩) 64 64 (mkC aN nC (k+m) 64) (mz hM9 (tk aN nC (fun k i=>fj _) _ _)) (by decide) (by simp only [maxLen];omega) (by omega) (Mem.below H160).size hu180.symm rfl ?_
           intro v9 w182 ho9 hg9 hr9
           refine rn ?_
           have H183:=py (mk:=aN) (f:=nC) (Mem.pick H160 [1,0,2,3,4] (by decide) rfl) (show k<m by omega) hgl ho9 hg9 hr9
           obtain ⟨A9,c99,hv9⟩:=aI ho9
           clear ho9 hg9 hr9 hU9 hM9
           refine rv (bT (s:=1) (k) Tryz.underlying119 (by kernel_rfl)) ?_
           refine cM rfl 23 (.tmp 151) (.tmp 150) rfl (Mem.own H183 2 rfl) (k:=k) (by omega) (by kernel_rfl) v9 (by rw [hv9];rfl) (by show xb4 (some ⟨gg,k*1,none⟩)=_;rw [Nat.mul_one]) rfl ?_
           intro w184 ho9 hg9
           refine rn ?_
           rw [kR] at ho9
           have H185:=Mem.jM H183 2 rfl ho9 hg9
           clear ho9 hg9
           refine wpList_nil ?_
           refine ar (ah (K153 _ _ (rl ?_)))
           refine rv (bp (((k+1:Nat):Int))) ?_
           refine wpList_nil ?_
           have H186:=Mem.pick H185 [0,2,3,4] (by decide) rfl
           refine ah ?_
           show _∧_
           go_roundw
           case rel=>exact ⟨(k+1),(gv.set k v9),rfl,by omega,(by rw [xbh];exact hgl),H186⟩
           case measure=>simp [intOf];omega
        ·refine rv (aK (decide_eq_false p152)) ?_
         refine nt (K151 _ _ (cf (wp_exit (an (an (aB (ah (K145 _ _ (sk fun _ K187=>sk fun _ K188=>rl ?_)))))))))
         refine nt (K188 _ _ (wp_block ?_))
         have hke8:k=m:=by omega
         rw [hke8] at H148
         go_loopw [14] (fun x14 wr=>∃ k5:Nat,x14=.int .i64 (k5:Int)∧(k5≤m)∧Mem w0 wr [Ent.all (xaf m) (fun i=>aw w0.heap.size 87 43 (st4 aN nC u n gv m m i)),ax w0.heap.size 23 1 (.slice (some ⟨gg,0,none⟩) m m) m ((gv).flatMap vb),ax B2 23 1 (.slice A m c) m (((xaf m).map u).flatMap vb),R]) (fun x14 _=>m-(intOf x14).toNat)
         case atStart=>exact ⟨0,rfl,by omega,H148⟩
         case round =>
          obtain ⟨wo189,rfl⟩:∃ wo189,wo189=wr:=⟨_,rfl⟩
          obtain ⟨k5,rfl,hk5,H190⟩:=hrel
          refine sk fun _ K192=>sk fun _ K193=>rl ?_
          by_cases p194:(k5:Int)<(m:Int)
          ·refine rv (aK (decide_eq_true p194)) ?_
           refine nt (K193 _ _ (ct (ks (K192 _ _ (sk fun _ K195=>wp_block (sk fun _ K196=>rl ?_))))))
           refine nt (K196 _ _ (wp_block ?_))
           have hnk:=hn k5 (by omega)
           go_loopw [15] (fun x15 wr=>∃ i:Nat,x15=.int .i64 (i:Int)∧(i≤n k5)∧Mem w0 wr [Ent.all (xaf m) (fun i=>aw w0.heap.size 87 43 (st4 aN nC u n gv m m i)),ax w0.heap.size 23 1 (.slice (some ⟨gg,0,none⟩) m m) m ((gv).flatMap vb),ax B2 23 1 (.slice A m c) m (((xaf m).map u).flatMap vb),R]) (fun x15 _=>n k5-(intOf x15).toNat)
           case atStart=>exact ⟨0,rfl,by omega,H190⟩
           case round =>
            obtain ⟨wo197,rfl⟩:∃ wo197,wo197=wr:=⟨_,rfl⟩
            obtain ⟨i,rfl,hi,H198⟩:=hrel
            refine sk fun _ K200=>sk fun _ K201=>rl ?_
            obtain ⟨b202,rfl,hlt205⟩:=aR (Mem.own H198 2 rfl) (by omega)
            obtain ⟨x206,hx207⟩:=gx (l:=((xaf m).map u)) (j:=k5)
            have hd208:=aD hx207
            obtain rfl:=bm hx207
            obtain ⟨A209,c210,hu211,hg212⟩:=hu0 k5 (by omega)
            refine rv (bT (s:=1) (k5) Tryz.underlying119 (by kernel_rfl)) ?_
            refine rv (v:=.slice A209 (n k5) c210) (by rw [← hu211];exact exec_load_cell 23 (.tmp 161) rfl ⟨b202,k5*1,none⟩ rfl _ _ wo197 Tryz.underlying23 rfl (range_cell (cO (Mem.own H198 2 rfl) (by omega)))) ?_
            by_cases p213:(i:Int)<(((n k5):Nat):Int)
            ·refine rv (aK (decide_eq_true p213)) ?_
             refine nt (K201 _ _ (ct (ks (K200 _ _ (sk fun _ K214=>wp_block (sk fun _ K215=>?_))))))
             obtain ⟨b216,rfl⟩:=hg212 (by omega)
             obtain ⟨x220,hx221⟩:=gx (l:=gv) (j:=k5)
             have hd222:=aD hx221
             have hv223:=kA (mk:=aN) (f:=nC) H198 (i0:=0) rfl (show k5<m by omega) (by omega) hx221
             obtain ⟨A224,c225,rfl⟩:=aI hv223
             obtain ⟨b226,rfl,hlt229⟩:=aR hv223 (by omega)
             refine Fre.cC (X:=Bel) [] (by kernel_rfl) (by kernel_rfl) (by simp) (by simp) (by simp) ?_
             refine Fre.rmd ?_
             refine Fre.mvv (fun _ _=>bT (s:=1) (k5) Tryz.underlying119 (by kernel_rfl)) ?_
             refine Fre.mvv (v:=.slice (some ⟨b216,0,none⟩) (n k5) c210) (fun W9 hW9=>by rw [← hu211];exact exec_load_cell 23 (.tmp 169) rfl ⟨b202,k5*1,none⟩ rfl _ _ W9 Tryz.underlying23 rfl (range_cell (cO (Mem.own (Mem.call H198 hW9) 2 rfl) (by omega)))) ?_
             refine Fre.mvv (fun _ _=>bT (i) Tryz.underlying23 bz) ?_
             refine Fre.mvv (fun W9 hW9=>xld (jS (mk:=aN) (f:=nC) (k:=k5) (i:=i) (fun k i=>cV (bL k i)) (hu211▸iW (mk:=aN) (f:=nC) (Mem.call H198 hW9) (i0:=0) rfl (by omega)) (by omega)) Tryz.underlying87 (eL (bL k5 i))) ?_
             refine Fre.mc (fun W9 hW9=>gd k5 i W9) ?_
             refine Fre.rmd ?_
             refine Fre.mvv (fun W9 _=>dG 87 87 (.tmp 173) (.tmp 176) rfl (nC (aN k5 i)).toArray (nC (aN k5 i)).toArray rfl rfl (by kernel_rfl) _ W9 (by have h9:=j4 ((aN k5 i)) ((aN k5 i)) (bL k5 i) (bL k5 i) W9;rwa [show decide _=true from (decide_eq_true rfl)] at h9)) ?_
             refine Fre.mvv (fun _ _=>bT (s:=1) (k5) Tryz.underlying119 (by kernel_rfl)) ?_
             refine Fre.mvv (fun W9 hW9=>xlc (range_cell (gZ (Mem.own (Mem.call H198 hW9) 1 rfl) hx221)) Tryz.underlying23) ?_
             refine Fre.mvv (fun _ _=>bT (i) Tryz.underlying23 bz) ?_
             refine Fre.mvv (fun W9 hW9=>xld (jS (mk:=aN) (f:=nC) (k:=k5) (i:=i) (fun k i=>cV (bL k i)) (kA (mk:=aN) (f:=nC) (Mem.call H198 hW9) (i0:=0) rfl (show k5<m by omega) (by omega) hx221) (by omega)) Tryz.underlying87 (eL (bL k5 i))) ?_
             refine Fre.mc (fun W9 hW9=>gd k5 i W9) ?_
             refine Fre.rmd ?_
             refine Fre.mvv (fun W9 _=>dG 87 87 (.tmp 186) (.tmp 189) rfl (nC (aN k5 i)).toArray (nC (aN k5 i)).toArray rfl rfl (by kernel_rfl) _ W9 (by have h9:=j4 ((aN k5 i)) ((aN k5 i)) (bL k5 i) (bL k5 i) W9;rwa [show decide _=true from (decide_eq_true rfl)] at h9)) ?_
             intro w230 hx232
             dsimp only [Fre.ended,xaE]
             have H231:=Mem.call H198 hx232
             refine ah (K215 _ _ (cf ?_))
             refine wp_skip ?_
             refine ar (ah (K214 _ _ (rl ?_)))
             refine rv (bp (((i+1:Nat):Int))) ?_
             refine wpList_nil ?_
             refine ah ?_
             show _∧_
             go_roundw
             case rel=>exact ⟨(i+1),rfl,by omega,H231⟩
             case measure=>simp [intOf];omega
            ·refine rv (aK (decide_eq_false p213)) ?_
             refine nt (K201 _ _ (cf (wp_exit (an (an (aB (ar (ah (K195 _ _ (rl ?_))))))))))
             refine rv (bp (((k5+1:Nat):Int))) ?_
             refine wpList_nil ?_
             refine ah ?_
             show _∧_
             go_roundw
             case rel=>exact ⟨(k5+1),rfl,by omega,H198⟩
             case measure=>simp [intOf];omega
          ·refine rv (aK (decide_eq_false p194)) ?_
           refine nt (K193 _ _ (cf (wp_exit (an (an (aB (ah (K187 _ _ (sk fun _ K233=>rl ?_)))))))))
           refine nt (K233 _ _ (rt ?_))
           exact ⟨rfl,(Mem.pick H190 [2,3] (by decide) rfl)⟩
end Go.Proofs.YtomnhnmciopiiaaGreat
end
section
namespace Go.Proofs.YtomnhnmciopiiaaGreat
open Go Go.RowKit Go.Maps
attribute [local irreducible] wpList
abbrev dN (d:Drv):List Value:=dC d (.slice none 0 0) (.slice none 0 0)
theorem BB (d:Drv):∀ v∈dN d,v.oneCell'=true:=fun v hv=>by
 simp only [dN,dC,xaD,xaS,or_false] at hv
 rcases hv with rfl | rfl | rfl<;>rfl
theorem mG (k i:Nat) (w:World):Calls Tryz.prog 37 #[.agg (dN (aT k i)).toArray,.agg (dN (aT k i)).toArray] w fun e w'=>e=.returned (.bool true)∧Below w.heap.size w w' :=
 Calls.mono (nu w (aT k i) (aT k i) _ _ _ _ (uU w _ k i) (uU w _ k i)) fun e w' h=>⟨h.1.trans (by rw [decide_eq_true rfl]),h.2⟩
theorem rQ:(Tryz.prog.info? 26).map (fun i=>(i.zero,i.size,i.bytes))=some (some (Value.agg zcD),3,64):=by kernel_rfl
theorem wM:(Tryz.prog.info? 53).map (fun i=>(i.zero,i.size,i.bytes))=some (some (.slice none 0 0),1,24):=by kernel_rfl
theorem sN (w0 w:World) (R:Ent) (m:Nat) (u:Nat→Value) (n:Nat→Nat) (xs:Nat→List Value) (B2:Nat) (A:Option Addr) (c:Nat) (hm9:m≤1000000) (hn:∀ i,i<m→n i≤1000000)
  (hm:Mem w0 w [Ent.all (xaf m) (fun i=>aw w0.heap.size 26 3 (PS.self (u i) (n i) (xs i))),ax B2 53 1 (.slice A m c) m (((xaf m).map u).flatMap vb),R]) :
  Calls Tryz.prog 115 #[.slice A m c] w fun e w'=>e=.returned (.bool true)∧Mem w0 w' [ax B2 53 1 (.slice A m c) m (((xaf m).map u).flatMap vb),R]:=by
 have hown:∀ i,i<m→w.ownsRow w0.heap.size 26 3 (u i) (n i) (xs i):=fun i hi=>(Mem.nD (g:=aw w0.heap.size 26 3) (st:=fun i=>PS.self (u i) (n i) (xs i)) hm 0 rfl hi).1
 have hxl:∀ i,i<m→(xs i).length=n i*3:=fun i hi=>(hown i hi).1
 have hu0:∀ i,i<m→∃ A c,u i=.slice A (n i) c∧(0<n i→∃ g,A=some ⟨g,0,none⟩):=fun i hi=>by
  obtain ⟨A,c,e⟩:=aI (hown i hi)
  refine ⟨A,c,e,fun h0=>?_⟩
  obtain ⟨g,hg,_⟩:=aR (e▸hown i hi) h0
  exact ⟨g,hg⟩
 have hm:=Mem.cG (g:=aw w0.heap.size 26 3) (st:=fun i=>PS.self (u i) (n i) (xs i)) (st':=st1 aT dN u n xs 0) hm (fun i _=>(nv aT dN u n xs i).symm)
 clear hown
 go_enter Tryz.func115,Tryz.ntmps115
 refine sk fun _ K1=>rl ?_
 refine nt (K1 _ _ (sk fun _ K2=>sk fun _ K3=>rl ?_))
 refine nt (K3 _ _ (wp_block ?_))
 go_loopw [3] (fun x3 wr=>∃ k:Nat,x3=.int .i64 (k:Int)∧(k≤m)∧Mem w0 wr [Ent.all (xaf m) (fun i=>aw w0.heap.size 26 3 (st1 aT dN u n xs k i)),ax B2 53 1 (.slice A m c) m (((xaf m).map u).flatMap vb),R]) (fun x3 _=>m-(intOf x3).toNat)
 case atStart=>exact ⟨0,rfl,by omega,hm⟩
 case round =>
  obtain ⟨wo4,rfl⟩:∃ wo4,wo4=wr:=⟨_,rfl⟩
  obtain ⟨k,rfl,hk,H5⟩:=hrel
  refine sk fun _ K7=>sk fun _ K8=>rl ?_
  by_cases p9:(k:Int)<(m:Int)
  ·refine rv (aK (decide_eq_true p9)) ?_
   refine nt (K8 _ _ (ct (ks (K7 _ _ (sk fun _ K10=>wp_block (sk fun _ K11=>rl ?_))))))
   refine nt (K11 _ _ (wp_block ?_))
   have H12:=Mem.cG (g:=aw w0.heap.size 26 3) (st:=st1 aT dN u n xs k) (st':=hO aT dN 3 u n xs k 0) H5 (fun i _=>lJ aT dN 3 u n xs k i)
   have hxl9:=hxl k (by omega)
   have hnk:=hn k (by omega)
   go_loopw [4] (fun x4 wr=>∃ q:Nat,x4=.int .i64 (q:Int)∧(q≤n k)∧Mem w0 wr [Ent.all (xaf m) (fun i=>aw w0.heap.size 26 3 (hO aT dN 3 u n xs k q i)),ax B2 53 1 (.slice A m c) m (((xaf m).map u).flatMap vb),R]) (fun x4 _=>n k-(intOf x4).toNat)
   case atStart=>exact ⟨0,rfl,by omega,H12⟩
   case round =>
    obtain ⟨wo13,rfl⟩:∃ wo13,wo13=wr:=⟨_,rfl⟩
    obtain ⟨q,rfl,hq,H14⟩:=hrel
    refine sk fun _ K16=>sk fun _ K17=>rl ?_
    obtain ⟨b18,rfl,hlt21⟩:=aR (Mem.own H14 1 rfl) (by omega)
    obtain ⟨x22,hx23⟩:=gx (l:=((xaf m).map u)) (j:=k)
    have hd24:=aD hx23
    obtain rfl:=bm hx23
    obtain ⟨A25,c26,hu27,hg28⟩:=hu0 k (by omega)
    refine rv (bT (s:=1) (k) Tryz.underlying55 (by kernel_rfl)) ?_
    refine rv (v:=.slice A25 (n k) c26) (by rw [← hu27];exact exec_load_cell 53 (.tmp 25) rfl ⟨b18,k*1,none⟩ rfl _ _ wo13 Tryz.underlying53 rfl (range_cell (cO (Mem.own H14 1 rfl) (by omega)))) ?_
    by_cases p29:(q:Int)<(((n k):Nat):Int)
    ·refine rv (aK (decide_eq_true p29)) ?_
     refine nt (K17 _ _ (ct (ks (K16 _ _ (sk fun _ K30=>wp_block ?_)))))
     obtain ⟨b31,rfl⟩:=hg28 (by omega)
     refine Fre.b4 (X:=Bel) 9 [] (by kernel_rfl) (by kernel_rfl) (by simp) (by simp) (by simp) ?_
     simp only [xau,xaC,xay,xaK]
     refine Fre.rmd ?_
     refine Fre.mvv (fun _ _=>bT (s:=1) (k) Tryz.underlying55 (by kernel_rfl)) ?_
     refine Fre.mvv (v:=.slice (some ⟨b31,0,none⟩) (n k) c26) (fun W9 hW9=>by rw [← hu27];exact exec_load_cell 53 (.tmp 33) rfl ⟨b18,k*1,none⟩ rfl _ _ W9 Tryz.underlying53 rfl (range_cell (cO (Mem.own (Mem.call H14 hW9) 1 rfl) (by omega)))) ?_
     refine Fre.mc (fun W9 hW9=>gb k q W9) ?_
     refine Fre.rmd ?_
     refine Fre.mvv (fun _ _=>bT (s:=3) (q) Tryz.underlying53 (by kernel_rfl)) ?_
     intro w35 hx37
     dsimp only [Fre.ended,xaE]
     have H36:=Mem.call H14 hx37
     have ow9:=wG (mk:=aT) (f:=dN) H36 (i0:=0) rfl (show k<m by omega)
     rw [hu27] at ow9
     refine eC rfl 26 (.tmp 39) (.tmp 38) rfl ow9 (k:=q) (dN (aT k q)) (by omega) rfl (dS (aT k q) (.slice none 0 0) (.slice none 0 0)) (lp (aT k q) rfl rfl) rfl rfl ?_
     intro w38 ho9 hg9 hz9
     refine rn ?_
     rw [← hu27] at ho9
     have H39:=pw (mk:=aT) (f:=dN) H36 (show k<m by omega) (fun k i=>rfl) hu27 ho9 hg9
     clear ho9 hg9 ow9
     refine wpList_nil ?_
     refine ar (ah (K30 _ _ (rl ?_)))
     refine rv (bp (((q+1:Nat):Int))) ?_
     refine wpList_nil ?_
     refine ah ?_
     show _∧_
     go_roundw
     case rel=>exact ⟨(q+1),rfl,by omega,H39⟩
     case measure=>simp [intOf];omega
    ·refine rv (aK (decide_eq_false p29)) ?_
     refine nt (K17 _ _ (cf (wp_exit (an (an (aB (ar (ah (K10 _ _ (rl ?_))))))))))
     refine rv (bp (((k+1:Nat):Int))) ?_
     refine wpList_nil ?_
     have H40:=Mem.cG (g:=aw w0.heap.size 26 3) (st:=hO aT dN 3 u n xs k q) (st':=st1 aT dN u n xs (k+1)) H14 (fun i _=>by rw [show q=n k by omega];exact qD aT dN 3 u n xs k hxl9 i)
     refine ah ?_
     show _∧_
     go_roundw
     case rel=>exact ⟨(k+1),rfl,by omega,H40⟩
     case measure=>simp [intOf];omega
  ·refine rv (aK (decide_eq_false p9)) ?_
   refine nt (K8 _ _ (cf (wp_exit (an (an (aB (ah (K2 _ _ (sk fun _ K41=>rl ?_)))))))))
   obtain ⟨inm53,iq53,ir53,is53,it53⟩:=info_parts wM
   refine wpList_make_full _ rfl _ _ 55 rfl w0.heap.size 53 _ _ 1 Tryz.underlying55 iq53 ir53 is53 _ _ _ _ m rfl rfl rfl rfl (by rw [it53];omega) (by simp only [maxLen];omega) (Mem.below H5).size ?_
   intro w42 ow gr
   refine rn ?_
   obtain ⟨gv0,hgv0⟩:∃ gv:List Value,gv=(madeCells (xas none 0 0).cells (m*1)).toList:=⟨_,rfl⟩
   rw [← hgv0] at ow
   have hgl0:=qj ow rfl
   rw [← iT gv0] at ow
   have H43:=Mem.make H5 ow gr
   obtain ⟨gg,hgg⟩:∃ g,g=wo4.heap.size:=⟨_,rfl⟩
   rw [← hgg] at H43 ⊢
   clear ow gr hgg hgv0
   refine rn ?_
   refine nt (K41 _ _ (sk fun _ K44=>sk fun _ K45=>rl ?_))
   refine nt (K45 _ _ (wp_block ?_))
   have H46:=Mem.cG (g:=aw w0.heap.size 26 3) (st:=st1 aT dN u n xs k) (st':=st2 aT dN u n gv0 0) (Mem.pick H43 [1,0,2,3] (by decide) rfl) (fun i hi=>by rw [show k=m by omega];exact (tF aT dN u n xs m i hi).trans (if_neg (Nat.not_lt_zero _)).symm)
   go_loopw [6] (fun x6 wr=>∃ k:Nat,∃ gv:List Value,x6=.int .i64 (k:Int)∧(k≤m)∧(gv.length=m)∧Mem w0 wr [Ent.all (xaf m) (fun i=>aw w0.heap.size 26 3 (st2 aT dN u n gv k i)),ax w0.heap.size 53 1 (.slice (some ⟨gg,0,none⟩) m m) m ((gv).flatMap vb),ax B2 53 1 (.slice A m c) m (((xaf m).map u).flatMap vb),R]) (fun x6 _=>m-(intOf x6).toNat)
   case atStart=>exact ⟨0,gv0,rfl,by omega,hgl0,H46⟩
   case round =>
    obtain ⟨wo47,rfl⟩:∃ wo47,wo47=wr:=⟨_,rfl⟩
    obtain ⟨k,gv,rfl,hk,hgl,H48⟩:=hrel
    refine sk fun _ K50=>sk fun _ K51=>rl ?_
    by_cases p52:(k:Int)<(m:Int)
    ·refine rv (aK (decide_eq_true p52)) ?_
     refine nt (K51 _ _ (ct (ks (K50 _ _ (sk fun _ K53=>wp_block (sk fun _ K54=>rl ?_))))))
     obtain ⟨b55,rfl,hlt58⟩:=aR (Mem.own H48 2 rfl) (by omega)
     obtain ⟨x59,hx60⟩:=gx (l:=((xaf m).map u)) (j:=k)
     have hd61:=aD hx60
     obtain rfl:=bm hx60
     obtain ⟨A62,c63,hu64,hg65⟩:=hu0 k (by omega)
     refine rv (bT (s:=1) (k) Tryz.underlying55 (by kernel_rfl)) ?_
     refine rv (v:=.slice A62 (n k) c63) (by rw [← hu64];exact exec_load_cell 53 (.tmp 51) rfl ⟨b55,k*1,none⟩ rfl _ _ wo47 Tryz.underlying53 rfl (range_cell (cO (Mem.own H48 2 rfl) (by omega)))) ?_
     refine nt (K54 _ _ (sk fun _ K66=>sk fun _ K67=>rl ?_))
     refine nt (K67 _ _ (wp_block ?_))
     have H68:=Mem.cG (g:=aw w0.heap.size 26 3) (st:=st2 aT dN u n gv k) (st':=iD aT dN u n gv (u k) k 0) H48 (fun i _=>lK aT dN u n gv k i)
     have hnk:=hn k (by omega)
     rw [← hu64]
     go_loopw [7,8] (fun x7 x8 wr=>∃ q:Nat,∃ v:Value,v=x7∧x8=.int .i64 (q:Int)∧(q≤64)∧Mem w0 wr [Ent.all (xaf m) (fun i=>aw w0.heap.size 26 3 (iD aT dN u n gv v k q i)),ax w0.heap.size 53 1 (.slice (some ⟨gg,0,none⟩) m m) m ((gv).flatMap vb),ax B2 53 1 (.slice (some ⟨b55,0,none⟩) m c) m (((xaf m).map u).flatMap vb),R]) (fun x7 x8 _=>64-(intOf x8).toNat)
     case atStart=>exact ⟨0,((u k)),rfl,rfl,by omega,H68⟩
     case round =>
      obtain ⟨wo69,rfl⟩:∃ wo69,wo69=wr:=⟨_,rfl⟩
      obtain ⟨q,v,rfl,rfl,hq,H70⟩:=hrel
      refine sk fun _ K72=>sk fun _ K73=>rl ?_
      by_cases p74:(q:Int)<64
      ·refine rv (aK (decide_eq_true p74)) ?_
       refine nt (K73 _ _ (ct (ks (K72 _ _ (sk fun _ K75=>wp_block (rl ?_))))))
       obtain ⟨x76,hx77⟩:=gx (l:=((xaf m).map u)) (j:=k)
       have hd78:=aD hx77
       obtain rfl:=bm hx77
       obtain ⟨A79,c80,hu81,hg82⟩:=hu0 k (by omega)
       refine rv (bT (s:=1) (k) Tryz.underlying55 (by kernel_rfl)) ?_
       refine rv (v:=.slice A79 (n k) c80) (by rw [← hu81];exact exec_load_cell 53 (.tmp 61) rfl ⟨b55,k*1,none⟩ rfl _ _ wo69 Tryz.underlying53 rfl (range_cell (cO (Mem.own H70 2 rfl) (by omega)))) ?_
       refine rv (bp ((((n k)+q:Nat):Int))) ?_
       refine ac (gb k ((n k)+q) wo69) ?_
       rintro e w83 ⟨rfl,hb85⟩
       refine ⟨_,rfl,rn ?_⟩
       have H84:=Mem.call H70 hb85
       refine aO rfl 53 (.tmp 66) rfl 26 3 (Value.agg zcD) (.agg (dN (aT k ((n k)+q))).toArray) rfl Tryz.underlying53 (by kernel_rfl) (by decide) (by decide) (fun w=>by kernel_rfl) rfl ?_
       intro w86 hn
       have H87:=Mem.aM H84 hn
       clear hn
       refine rn ?_
       obtain ⟨inm26,iq26,ir26,is26,it26⟩:=info_parts rQ
       have hP9:=lr (mk:=aT) (f:=dN) H87 (i0:=1) rfl (show k<m by omega)
       refine eU rfl _ _ 53 rfl w0.heap.size 26 _ _ 3 64 Tryz.underlying53 iq26 ir26 is26 it26 rfl (by decide) v (n k+q) (mkC aT dN k (n k+q)) hP9.2.1 (some ⟨w83.heap.size,0,none⟩) 1 1 (dN (aT k ((n k)+q))) (bU (n:=3) (m:=1) (Mem.blk H87 0 rfl) rfl (BB _)) (by decide) (by simp only [maxLen];omega) (by omega) (Mem.below H87).size rfl rfl ?_
       intro v9 w88 ho9 hg9 hr9
       refine rn ?_
       have H89:=px (mk:=aT) (f:=dN) (Mem.pick H87 [1,0,2,3,4] (by decide) rfl) (show k<m by omega) ho9 hg9 hr9
       clear ho9 hg9 hr9 hP9
       refine rn ?_
       refine wpList_nil ?_
       refine ar (ah (K75 _ _ (rl ?_)))
       refine rv (bp (((q+1:Nat):Int))) ?_
       refine wpList_nil ?_
       have H90:=Mem.pick H89 [0,2,3,4] (by decide) rfl
       refine ah ?_
       show _∧_
       go_roundw
       case rel=>exact ⟨(q+1),v9,rfl,rfl,by omega,H90⟩
       case measure=>simp [intOf];omega
      ·refine rv (aK (decide_eq_false p74)) ?_
       refine nt (K73 _ _ (cf (wp_exit (an (an (aB (ah (K66 _ _ (rl ?_)))))))))
       refine rv (bT (s:=1) (k) Tryz.underlying55 (by kernel_rfl)) ?_
       refine cM rfl 53 (.tmp 72) (.tmp 71) rfl (Mem.own H70 1 rfl) (k:=k) (by omega) (by kernel_rfl) v (by obtain ⟨_,_,e9⟩:=aI (lr (mk:=aT) (f:=dN) H70 (i0:=0) rfl (show k<m by omega)).2.1;rw [show v=_ from e9];rfl) (by show xb4 (some ⟨gg,k*1,none⟩)=_;rw [Nat.mul_one]) rfl ?_
       intro w91 ho9 hg9
       refine rn ?_
       rw [kR] at ho9
       have H92:=Mem.jM H70 1 rfl ho9 hg9
       clear ho9 hg9
       refine wpList_nil ?_
       refine ar (ah (K53 _ _ (rl ?_)))
       refine rv (bp (((k+1:Nat):Int))) ?_
       refine wpList_nil ?_
       have H93:=Mem.cG (g:=aw w0.heap.size 26 3) (st:=iD aT dN u n gv v k q) (st':=st2 aT dN u n (gv.set k v) (k+1)) H92 (fun i _=>by rw [show q=64 by omega];exact qE aT dN u n gv v k (by omega) i)
       refine ah ?_
       show _∧_
       go_roundw
       case rel=>exact ⟨(k+1),(gv.set k v),rfl,by omega,(by rw [xbh];exact hgl),H93⟩
       case measure=>simp [intOf];omega
    ·refine rv (aK (decide_eq_false p52)) ?_
     refine nt (K51 _ _ (cf (wp_exit (an (an (aB (ah (K44 _ _ (sk fun _ K94=>sk fun _ K95=>rl ?_)))))))))
     refine nt (K95 _ _ (wp_block ?_))
     have H96:=Mem.cG (g:=aw w0.heap.size 26 3) (st:=st2 aT dN u n gv k) (st':=st4 aT dN u n gv m 0) H48 (fun i hi=>by rw [show k=m by omega];exact nw aT dN u n gv m i hi)
     go_loopw [9] (fun x9 wr=>∃ k3:Nat,x9=.int .i64 (k3:Int)∧(k3≤m)∧Mem w0 wr [Ent.all (xaf m) (fun i=>aw w0.heap.size 26 3 (st4 aT dN u n gv m 0 i)),ax w0.heap.size 53 1 (.slice (some ⟨gg,0,none⟩) m m) m ((gv).flatMap vb),ax B2 53 1 (.slice A m c) m (((xaf m).map u).flatMap vb),R]) (fun x9 _=>m-(intOf x9).toNat)
     case atStart=>exact ⟨0,rfl,by omega,H96⟩
     case round =>
      obtain ⟨wo97,rfl⟩:∃ wo97,wo97=wr:=⟨_,rfl⟩
      obtain ⟨k3,rfl,hk3,H98⟩:=hrel
      refine sk fun _ K100=>sk fun _ K101=>rl ?_
      by_cases p102:(k3:Int)<(m:Int)
      ·refine rv (aK (decide_eq_true p102)) ?_
       refine nt (K101 _ _ (ct (ks (K100 _ _ (sk fun _ K103=>wp_block (sk fun _ K104=>rl ?_))))))
       refine nt (K104 _ _ (wp_block ?_))
       have hnk:=hn k3 (by omega)
       go_loopw [10] (fun x10 wr=>∃ i:Nat,x10=.int .i64 (i:Int)∧(i≤n k3+64)∧Mem w0 wr [Ent.all (xaf m) (fun i=>aw w0.heap.size 26 3 (st4 aT dN u n gv m 0 i)),ax w0.heap.size 53 1 (.slice (some ⟨gg,0,none⟩) m m) m ((gv).flatMap vb),ax B2 53 1 (.slice A m c) m (((xaf m).map u).flatMap vb),R]) (fun x10 _=>n k3+64-(intOf x10).toNat)
       case atStart=>exact ⟨0,rfl,by omega,H98⟩
       case round =>
        obtain ⟨wo105,rfl⟩:∃ wo105,wo105=wr:=⟨_,rfl⟩
        obtain ⟨i,rfl,hi,H106⟩:=hrel
        refine sk fun _ K108=>sk fun _ K109=>rl ?_
        obtain ⟨x110,hx111⟩:=gx (l:=gv) (j:=k3)
        have hd112:=aD hx111
        have hv113:=kz (mk:=aT) (f:=dN) H106 (i0:=0) rfl (show k3<m by omega) (Nat.zero_le _) hx111
        obtain ⟨A114,c115,rfl⟩:=aI hv113
        refine rv (bT (s:=1) (k3) Tryz.underlying55 (by kernel_rfl)) ?_
        refine rv (xlc (range_cell (gZ (Mem.own H106 1 rfl) hx111)) Tryz.underlying53) ?_
        by_cases p116:(i:Int)<(((n k3+64):Nat):Int)
        ·refine rv (aK (decide_eq_true p116)) ?_
         refine nt (K109 _ _ (ct (ks (K108 _ _ (sk fun _ K117=>wp_block (sk fun _ K118=>?_))))))
         obtain ⟨b119,rfl,hlt122⟩:=aR hv113 (by omega)
         obtain ⟨b123,rfl,hlt126⟩:=aR (Mem.own H106 2 rfl) (by omega)
         obtain ⟨x127,hx128⟩:=gx (l:=((xaf m).map u)) (j:=k3)
         have hd129:=aD hx128
         obtain rfl:=bm hx128
         obtain ⟨A130,c131,hu132,hg133⟩:=hu0 k3 (by omega)
         refine Fre.cC (X:=Bel) [] (by kernel_rfl) (by kernel_rfl) (by simp) (by simp) (by simp) ?_
         refine Fre.rmd ?_
         refine Fre.mvv (fun _ _=>bT (s:=1) (k3) Tryz.underlying55 (by kernel_rfl)) ?_
         refine Fre.mvv (fun W9 hW9=>xlc (range_cell (gZ (Mem.own (Mem.call H106 hW9) 1 rfl) hx111)) Tryz.underlying53) ?_
         refine Fre.mvv (fun _ _=>bT (s:=3) (i) Tryz.underlying53 (by kernel_rfl)) ?_
         refine Fre.mvv (fun W9 hW9=>xld (jS (mk:=aT) (f:=dN) (k:=k3) (i:=i) (fun k i=>rfl) (kz (mk:=aT) (f:=dN) (Mem.call H106 hW9) (i0:=0) rfl (show k3<m by omega) (Nat.zero_le _) hx111) (by omega)) Tryz.underlying26 (aS (aT k3 i) (.slice none 0 0) (.slice none 0 0))) ?_
         refine Fre.mc (fun W9 hW9=>gb k3 i W9) ?_
         refine Fre.rmd ?_
         refine Fre.mc (fun W9 hW9=>mG k3 i W9) ?_
         refine Fre.rmd ?_
         refine Fre.mvv (fun _ _=>bT (s:=1) (k3) Tryz.underlying55 (by kernel_rfl)) ?_
         refine Fre.mvv (v:=.slice A130 (n k3) c131) (fun W9 hW9=>by rw [← hu132];exact exec_load_cell 53 (.tmp 104) rfl ⟨b123,k3*1,none⟩ rfl _ _ W9 Tryz.underlying53 rfl (range_cell (cO (Mem.own (Mem.call H106 hW9) 2 rfl) (by omega)))) ?_
         by_cases p134:(i:Int)<(((n k3):Nat):Int)
         ·refine Fre.mvv (fun _ _=>aK (decide_eq_true p134)) ?_
          refine Fre.mvv (fun _ _=>bT (s:=1) (k3) Tryz.underlying55 (by kernel_rfl)) ?_
          refine Fre.mvv (v:=.slice A130 (n k3) c131) (fun W9 hW9=>by rw [← hu132];exact exec_load_cell 53 (.tmp 111) rfl ⟨b123,k3*1,none⟩ rfl _ _ W9 Tryz.underlying53 rfl (range_cell (cO (Mem.own (Mem.call H106 hW9) 2 rfl) (by omega)))) ?_
          obtain ⟨b135,rfl⟩:=hg133 (by omega)
          refine Fre.mvv (fun _ _=>bT (s:=3) (i) Tryz.underlying53 (by kernel_rfl)) ?_
          refine Fre.mvv (fun W9 hW9=>xld (jS (mk:=aT) (f:=dN) (k:=k3) (i:=i) (fun k i=>rfl) (hu132▸iW (mk:=aT) (f:=dN) (Mem.call H106 hW9) (i0:=0) rfl (by omega)) (by omega)) Tryz.underlying26 (aS (aT k3 i) (.slice none 0 0) (.slice none 0 0))) ?_
          refine Fre.mc (fun W9 hW9=>gb k3 i W9) ?_
          refine Fre.rmd ?_
          refine Fre.mc (fun W9 hW9=>mG k3 i W9) ?_
          refine Fre.rmd ?_
          intro w139 hx141
          dsimp only [Fre.ended,xaE]
          have H140:=Mem.call H106 hx141
          refine ah (K118 _ _ (cf ?_))
          refine wp_skip ?_
          refine ar (ah (K117 _ _ (rl ?_)))
          refine rv (bp (((i+1:Nat):Int))) ?_
          refine wpList_nil ?_
          refine ah ?_
          show _∧_
          go_roundw
          case rel=>exact ⟨(i+1),rfl,by omega,H140⟩
          case measure=>simp [intOf];omega
         ·refine Fre.mvv (fun _ _=>aK (decide_eq_false p134)) ?_
          intro w142 hx144
          dsimp only [Fre.ended,xaE]
          have H143:=Mem.call H106 hx144
          refine ah (K118 _ _ (cf ?_))
          refine wp_skip ?_
          refine ar (ah (K117 _ _ (rl ?_)))
          refine rv (bp (((i+1:Nat):Int))) ?_
          refine wpList_nil ?_
          refine ah ?_
          show _∧_
          go_roundw
          case rel=>exact ⟨(i+1),rfl,by omega,H143⟩
          case measure=>simp [intOf];omega
        ·refine rv (aK (decide_eq_false p116)) ?_
         refine nt (K109 _ _ (cf (wp_exit (an (an (aB (ar (ah (K103 _ _ (rl ?_))))))))))
         refine rv (bp (((k3+1:Nat):Int))) ?_
         refine wpList_nil ?_
         refine ah ?_
         show _∧_
         go_roundw
         case rel=>exact ⟨(k3+1),rfl,by omega,H106⟩
         case measure=>simp [intOf];omega
      ·refine rv (aK (decide_eq_false p102)) ?_
       refine nt (K101 _ _ (cf (wp_exit (an (an (aB (ah (K94 _ _ (sk fun _ K145=>sk fun _ K146=>rl ?_)))))))))
       refine nt (K146 _ _ (wp_block ?_))
       obtain ⟨gw,hgw⟩:∃ g,g=gv:=⟨_,rfl⟩
       rw [← hgw] at H98
       rw [← hgw] at hgl
       have hgl6:=hgl
       clear hgl
       go_loopw [11] (fun x11 wr=>∃ k:Nat,∃ gv:List Value,x11=.int .i64 (k:Int)∧(k≤m)∧(gv.length=m)∧Mem w0 wr [Ent.all (xaf m) (fun i=>aw w0.heap.size 26 3 (st4 aT dN u n gv m k i)),ax w0.heap.size 53 1 (.slice (some ⟨gg,0,none⟩) m m) m ((gv).flatMap vb),ax B2 53 1 (.slice A m c) m (((xaf m).map u).flatMap vb),R]) (fun x11 _=>m-(intOf x11).toNat)
       case atStart=>exact ⟨0,gw,rfl,by omega,hgl6,H98⟩
       case round =>
        obtain ⟨wo147,rfl⟩:∃ wo147,wo147=wr:=⟨_,rfl⟩
        obtain ⟨k,gv,rfl,hk,hgl,H148⟩:=hrel
        refine sk fun _ K150=>sk fun _ K151=>rl ?_
        by_cases p152:(k:Int)<(m:Int)
        ·refine rv (aK (decide_eq_true p152)) ?_
         refine nt (K151 _ _ (ct (ks (K150 _ _ (sk fun _ K153=>wp_block (sk fun _ K154=>rl ?_))))))
         obtain ⟨inm26,iq26,ir26,is26,it26⟩:=info_parts rQ
         refine wpList_make_full _ rfl _ _ 53 rfl w0.heap.size 26 _ _ 3 Tryz.underlying53 iq26 ir26 is26 _ _ _ _ 64 rfl rfl rfl rfl (by rw [it26];omega) (by simp only [maxLen];omega) (Mem.below H148).size ?_
         intro w155 ow gr
         refine rn ?_
         obtain ⟨zs,hzs⟩:∃ zs:List Value,zs=(madeCells (Value.agg zcD).cells (64*3)).toList:=⟨_,rfl⟩
         rw [← hzs] at ow
         have hzl:=ow.1
         have H156:=Mem.make H148 ow gr
         obtain ⟨gm,hgm⟩:∃ g,g=wo147.heap.size:=⟨_,rfl⟩
         rw [← hgm] at H156 ⊢
         clear ow gr hgm hzs
         refine rn ?_
         refine nt (K154 _ _ (sk fun _ K157=>sk fun _ K158=>rl ?_))
         refine nt (K158 _ _ (wp_block ?_))
         have hnk:=hn k (by omega)
         go_loopw [13] (fun x13 wr=>∃ i:Nat,x13=.int .i64 (i:Int)∧(i≤64)∧Mem w0 wr [ax w0.heap.size 26 3 (.slice (some ⟨gm,0,none⟩) 64 64) 64 (mkC aT dN (k+m) i++zs.drop (i*3)),Ent.all (xaf m) (fun i=>aw w0.heap.size 26 3 (st4 aT dN u n gv m k i)),ax w0.heap.size 53 1 (.slice (some ⟨gg,0,none⟩) m m) m ((gv).flatMap vb),ax B2 53 1 (.slice A m c) m (((xaf m).map u).flatMap vb),R]) (fun x13 _=>64-(intOf x13).toNat)
         case atStart=>exact ⟨0,rfl,by omega,H156⟩
         case round =>
          obtain ⟨wo159,rfl⟩:∃ wo159,wo159=wr:=⟨_,rfl⟩
          obtain ⟨i,rfl,hi,H160⟩:=hrel
          refine sk fun _ K162=>sk fun _ K163=>rl ?_
          by_cases p164:(i:Int)<64
          ·refine rv (aK (decide_eq_true p164)) ?_
           refine nt (K163 _ _ (ct (ks (K162 _ _ (sk fun _ K165=>wp_block (rl ?_))))))
           refine rv (bp (((k+m:Nat):Int))) ?_
           refine ac (gb (k+m) i wo159) ?_
           rintro e w166 ⟨rfl,hb168⟩
           refine ⟨_,rfl,rn ?_⟩
           have H167:=Mem.call H160 hb168
           refine rv (bT (s:=3) (i) Tryz.underlying53 (by kernel_rfl)) ?_
           refine eC rfl 26 (.tmp 142) (.tmp 141) rfl (Mem.own H167 0 rfl) (k:=i) (dN (aT (k+m) i)) (by omega) rfl (dS (aT (k+m) i) (.slice none 0 0) (.slice none 0 0)) (lp (aT (k+m) i) rfl rfl) rfl rfl ?_
           intro w169 ho9 hg9 hz9
           refine rn ?_
           rw [mB aT dN 3 (fun _=>zs) (fun k i=>rfl) (k+m) i] at ho9
           have H170:=Mem.jM H167 0 rfl ho9 hg9
           clear ho9 hg9
           refine wpList_nil ?_
           refine ar (ah (K165 _ _ (rl ?_)))
           refine rv (bp (((i+1:Nat):Int))) ?_
           refine wpList_nil ?_
           refine ah ?_
           show _∧_
           go_roundw
           case rel=>exact ⟨(i+1),rfl,by omega,H170⟩
           case measure=>simp [intOf];omega
          ·refine rv (aK (decide_eq_false p164)) ?_
           refine nt (K163 _ _ (cf (wp_exit (an (an (aB (ah (K157 _ _ (rl ?_)))))))))
           obtain ⟨b171,rfl,hlt174⟩:=aR (Mem.own H160 3 rfl) (by omega)
           obtain ⟨x175,hx176⟩:=gx (l:=((xaf m).map u)) (j:=k)
           have hd177:=aD hx176
           obtain rfl:=bm hx176
           obtain ⟨A178,c179,hu180,hg181⟩:=hu0 k (by omega)
           refine rv (bT (s:=1) (k) Tryz.underlying55 (by kernel_rfl)) ?_
           refine rv (v:=.slice A178 (n k) c179) (by rw [← hu180];exact exec_load_cell 53 (.tmp 147) rfl ⟨b171,k*1,none⟩ rfl _ _ wo159 Tryz.underlying53 rfl (range_cell (cO (Mem.own H160 3 rfl) (by omega)))) ?_
           have hie:i=64:=by omega
           subst hie
           have hU9:=iW (mk:=aT) (f:=dN) H160 (i0:=1) rfl (show k<m by omega)
           rw [xbo] at hU9
           have hM9:=Mem.own H160 0 rfl
           rw [List.drop_of_length_le (by omega),xbo] at hM9
           refine eU rfl _ _ 53 rfl w0.heap.size 26 _ _ 3 64 Tryz.underlying53 iq26 ir26 is26 it26 rfl (by decide) (u k) (n k) (mkC aT dN k (n k)) hU9 (some ⟨gm,0,none⟩) 64 64 (mkC aT dN (k+m) 64) (mz hM9 (tk aT dN (fun k i=>BB _) _ _)) (by decide) (by simp only [maxLen];omega) (by omega) (Mem.below H160).size hu180.symm rfl ?_
           intro v9 w182 ho9 hg9 hr9
           refine rn ?_
           have H183:=py (mk:=aT) (f:=dN) (Mem.pick H160 [1,0,2,3,4] (by decide) rfl) (show k<m by omega) hgl ho9 hg9 hr9
           obtain ⟨A9,c99,hv9⟩:=aI ho9
           clear ho9 hg9 hr9 hU9 hM9
           refine rv (bT (s:=1) (k) Tryz.underlying55 (by kernel_rfl)) ?_
           refine cM rfl 53 (.tmp 151) (.tmp 150) rfl (Mem.own H183 2 rfl) (k:=k) (by omega) (by kernel_rfl) v9 (by rw [hv9];rfl) (by show xb4 (some ⟨gg,k*1,none⟩)=_;rw [Nat.mul_one]) rfl ?_
           intro w184 ho9 hg9
           refine rn ?_
           rw [kR] at ho9
           have H185:=Mem.jM H183 2 rfl ho9 hg9
           clear ho9 hg9
           refine wpList_nil ?_
           refine ar (ah (K153 _ _ (rl ?_)))
           refine rv (bp (((k+1:Nat):Int))) ?_
           refine wpList_nil ?_
           have H186:=Mem.pick H185 [0,2,3,4] (by decide) rfl
           refine ah ?_
           show _∧_
           go_roundw
           case rel=>exact ⟨(k+1),(gv.set k v9),rfl,by omega,(by rw [xbh];exact hgl),H186⟩
           case measure=>simp [intOf];omega
        ·refine rv (aK (decide_eq_false p152)) ?_
         refine nt (K151 _ _ (cf (wp_exit (an (an (aB (ah (K145 _ _ (sk fun _ K187=>sk fun _ K188=>rl ?_)))))))))
         refine nt (K188 _ _ (wp_block ?_))
         have hke8:k=m:=by omega
         rw [hke8] at H148
         go_loopw [14] (fun x14 wr=>∃ k5:Nat,x14=.int .i64 (k5:Int)∧(k5≤m)∧Mem w0 wr [Ent.all (xaf m) (fun i=>aw w0.heap.size 26 3 (st4 aT dN u n gv m m i)),ax w0.heap.size 53 1 (.slice (some ⟨gg,0,none⟩) m m) m ((gv).flatMap vb),ax B2 53 1 (.slice A m c) m (((xaf m).map u).flatMap vb),R]) (fun x14 _=>m-(intOf x14).toNat)
         case atStart=>exact ⟨0,rfl,by omega,H148⟩
         case round =>
          obtain ⟨wo189,rfl⟩:∃ wo189,wo189=wr:=⟨_,rfl⟩
          obtain ⟨k5,rfl,hk5,H190⟩:=hrel
          refine sk fun _ K192=>sk fun _ K193=>rl ?_
          by_cases p194:(k5:Int)<(m:Int)
          ·refine rv (aK (decide_eq_true p194)) ?_
           refine nt (K193 _ _ (ct (ks (K192 _ _ (sk fun _ K195=>wp_block (sk fun _ K196=>rl ?_))))))
           refine nt (K196 _ _ (wp_block ?_))
           have hnk:=hn k5 (by omega)
           go_loopw [15] (fun x15 wr=>∃ i:Nat,x15=.int .i64 (i:Int)∧(i≤n k5)∧Mem w0 wr [Ent.all (xaf m) (fun i=>aw w0.heap.size 26 3 (st4 aT dN u n gv m m i)),ax w0.heap.size 53 1 (.slice (some ⟨gg,0,none⟩) m m) m ((gv).flatMap vb),ax B2 53 1 (.slice A m c) m (((xaf m).map u).flatMap vb),R]) (fun x15 _=>n k5-(intOf x15).toNat)
           case atStart=>exact ⟨0,rfl,by omega,H190⟩
           case round =>
            obtain ⟨wo197,rfl⟩:∃ wo197,wo197=wr:=⟨_,rfl⟩
            obtain ⟨i,rfl,hi,H198⟩:=hrel
            refine sk fun _ K200=>sk fun _ K201=>rl ?_
            obtain ⟨b202,rfl,hlt205⟩:=aR (Mem.own H198 2 rfl) (by omega)
            obtain ⟨x206,hx207⟩:=gx (l:=((xaf m).map u)) (j:=k5)
            have hd208:=aD hx207
            obtain rfl:=bm hx207
            obtain ⟨A209,c210,hu211,hg212⟩:=hu0 k5 (by omega)
            refine rv (bT (s:=1) (k5) Tryz.underlying55 (by kernel_rfl)) ?_
            refine rv (v:=.slice A209 (n k5) c210) (by rw [← hu211];exact exec_load_cell 53 (.tmp 161) rfl ⟨b202,k5*1,none⟩ rfl _ _ wo197 Tryz.underlying53 rfl (range_cell (cO (Mem.own H198 2 rfl) (by omega)))) ?_
            by_cases p213:(i:Int)<(((n k5):Nat):Int)
            ·refine rv (aK (decide_eq_true p213)) ?_
             refine nt (K201 _ _ (ct (ks (K200 _ _ (sk fun _ K214=>wp_block (sk fun _ K215=>?_))))))
             obtain ⟨b216,rfl⟩:=hg212 (by omega)
             obtain ⟨x220,hx221⟩:=gx (l:=gv) (j:=k5)
             have hd222:=aD hx221
             have hv223:=kA (mk:=aT) (f:=dN) H198 (i0:=0) rfl (show k5<m by omega) (by omega) hx221
             obtain ⟨A224,c225,rfl⟩:=aI hv223
             obtain ⟨b226,rfl,hlt229⟩:=aR hv223 (by omega)
             refine Fre.cC (X:=Bel) [] (by kernel_rfl) (by kernel_rfl) (by simp) (by simp) (by simp) ?_
             refine Fre.rmd ?_
             refine Fre.mvv (fun _ _=>bT (s:=1) (k5) Tryz.underlying55 (by kernel_rfl)) ?_
             refine Fre.mvv (v:=.slice (some ⟨b216,0,none⟩) (n k5) c210) (fun W9 hW9=>by rw [← hu211];exact exec_load_cell 53 (.tmp 169) rfl ⟨b202,k5*1,none⟩ rfl _ _ W9 Tryz.underlying53 rfl (range_cell (cO (Mem.own (Mem.call H198 hW9) 2 rfl) (by omega)))) ?_
             refine Fre.mvv (fun _ _=>bT (s:=3) (i) Tryz.underlying53 (by kernel_rfl)) ?_
             refine Fre.mvv (fun W9 hW9=>xld (jS (mk:=aT) (f:=dN) (k:=k5) (i:=i) (fun k i=>rfl) (hu211▸iW (mk:=aT) (f:=dN) (Mem.call H198 hW9) (i0:=0) rfl (by omega)) (by omega)) Tryz.underlying26 (aS (aT k5 i) (.slice none 0 0) (.slice none 0 0))) ?_
             refine Fre.mc (fun W9 hW9=>gb k5 i W9) ?_
             refine Fre.rmd ?_
             refine Fre.mc (fun W9 hW9=>mG k5 i W9) ?_
             refine Fre.rmd ?_
             refine Fre.mvv (fun _ _=>bT (s:=1) (k5) Tryz.underlying55 (by kernel_rfl)) ?_
             refine Fre.mvv (fun W9 hW9=>xlc (range_cell (gZ (Mem.own (Mem.call H198 hW9) 1 rfl) hx221)) Tryz.underlying53) ?_
             refine Fre.mvv (fun _ _=>bT (s:=3) (i) Tryz.underlying53 (by kernel_rfl)) ?_
             refine Fre.mvv (fun W9 hW9=>xld (jS (mk:=aT) (f:=dN) (k:=k5) (i:=i) (fun k i=>rfl) (kA (mk:=aT) (f:=dN) (Mem.call H198 hW9) (i0:=0) rfl (show k5<m by omega) (by omega) hx221) (by omega)) Tryz.underlying26 (aS (aT k5 i) (.slice none 0 0) (.slice none 0 0))) ?_
             refine Fre.mc (fun W9 hW9=>gb k5 i W9) ?_
             refine Fre.rmd ?_
             refine Fre.mc (fun W9 hW9=>mG k5 i W9) ?_
             refine Fre.rmd ?_
             intro w230 hx232
             dsimp only [Fre.ended,xaE]
             have H231:=Mem.call H198 hx232
             refine ah (K215 _ _ (cf ?_))
             refine wp_skip ?_
             refine ar (ah (K214 _ _ (rl ?_)))
             refine rv (bp (((i+1:Nat):Int))) ?_
             refine wpList_nil ?_
             refine ah ?_
             show _∧_
             go_roundw
             case rel=>exact ⟨(i+1),rfl,by omega,H231⟩
             case measure=>simp [intOf];omega
            ·refine rv (aK (decide_eq_false p213)) ?_
             refine nt (K201 _ _ (cf (wp_exit (an (an (aB (ar (ah (K195 _ _ (rl ?_))))))))))
             refine rv (bp (((k5+1:Nat):Int))) ?_
             refine wpList_nil ?_
             refine ah ?_
             show _∧_
             go_roundw
             case rel=>exact ⟨(k5+1),rfl,by omega,H198⟩
             case measure=>simp [intOf];omega
          ·refine rv (aK (decide_eq_false p194)) ?_
           refine nt (K193 _ _ (cf (wp_exit (an (an (aB (ah (K187 _ _ (sk fun _ K233=>rl ?_)))))))))
           refine nt (K233 _ _ (rt ?_))
           exact ⟨rfl,(Mem.pick H190 [2,3] (by decide) rfl)⟩
end Go.Proofs.YtomnhnmciopiiaaGreat
end
section
namespace Go.Proofs.YtomnhnmciopiiaaGreat
open Go Go.RowKit Go.Maps
theorem vq {w:World} {B n q:Nat} {t:TypeId} {u v:Value} {l:List Value} (c:List Value) (hc:c=[v]) (h:w.ownsRow B t 1 u n (l.set q v)) (hq:q<n):w.ownsRow B t 1 u n (l.take (q*1)++(c++l.drop (q*1+1))):=by
 have hl:l.length=n*1:=by rw [← h.1,xbh]
 rw [List.set_eq_take_append_cons_drop,if_pos (by omega)] at h
 rw [hc,Nat.mul_one]
 exact h
theorem Fx (b:UInt8):∀ v∈bC b,v.oneCell'=true:=fun v hv=>by
 rw [xan.1 hv]
 rfl
end Go.Proofs.YtomnhnmciopiiaaGreat
end
