/- Part 4 of the texts of one proof. -/
import Derived.Test.YtomnhnmciopiiaaGreatMMT3
set_option maxRecDepth 100000
set_option linter.unusedVariables false
set_option linter.unusedSimpArgs false
set_option maxHeartbeats 40000000
open Go.Act renaming put → xae
open And renaming intro → xad
open Go.RowKit.Below renaming heap_setCell → xbv, mono → xar, refl → xao
open Bool renaming and_eq_true → xaw, false_eq_true → xbI
open ByteArray renaming size_append → xaM
open Go.Instr renaming index → xbC
open Int renaming toNat_natCast → xbr
open Go.Lib renaming byteCells → xb3, join → xbV, lens → xcC
open List renaming drop → xaE, drop_succ_cons → xay, drop_zero → xaK, flatMap_cons → xbf, getD_eq_getElem?_getD → xaX, getElem?_eq_getElem → xai, getElem?_eq_some_iff → xah, getElem?_map → xaL, getElem?_of_mem → xaP, getElem?_toArray → xa0, length_append → xak, length_cons → xaF, length_map → xap, length_singleton → xbq, mem_append → xax, mem_cons → xaD, mem_map → xaA, mem_of_getElem? → xaj, mem_singleton → xan, not_mem_nil → xaS, replicate → xaz, setIfInBounds_toArray → xaa, set_cons_succ → xac, set_cons_zero → xab, size_toArray → xal, take_add_one → xaB, take_length → xaG, take_of_length_le → xav, take_succ_cons → xau, take_zero → xaC
open Nat renaming le_refl → xag, le_trans → xaH, lt_of_lt_of_le → xaZ, mul_le_mul_right → xbm, pow_add → xb6
open Option.some renaming inj → xam
open Go.Result renaming andThen → xbB, andThen_ok → xat
open Go.Sem renaming run_bind → xaI, run_pure → xaQ
open Go.Value renaming slice → xas, string → xbd
open Go.World renaming ownsRow_nil → xbg
section
namespace Go.Proofs.YtomnhnmciopiiaaGreat
open Go Go.RowKit Go.Maps
def zcD:Array Value:=#[.string ⟨#[]⟩,.slice none 0 0,.slice none 0 0]
def ib (k:Int):List Value:=[.int .u8 k]
theorem CC {w:World} {B len cap:Nat} {A:Option Addr} {l:List Nam} (h:dW.At w B [.slice A len cap] l):len=l.length∧eZ w 43 A l.length cap (l.flatMap nC) :=
 ij (L:=gO) (f:=nC) (by decide) (fun h=>(bZ.1 h).1) fj h
theorem rD {w:World} {B len cap:Nat} {A:Option Addr} {l:List Int} (h:cA.At w B [.slice A len cap] l):len=l.length∧eZ w 1 A l.length cap (l.flatMap ib) :=
 ij (L:=Lay.int 5 .u8) (f:=ib) (by decide) (fun h=>h.1) (fun k u hu=>by rw [xan.1 hu];rfl) h
theorem fo {α:Type} {t:TypeId} {L:Lay α} {w:World} {B:Nat} {v:Value} {l:List α} (h:(Lay.slice t L).At w B [v] l) {x:α} (hx:x∈l):∃ cs,L.At w B cs x:=by
 obtain ⟨A,cap,_,_,_,_,h4⟩:=h
 obtain ⟨i,hi⟩:=xaP hx
 obtain ⟨b,off,_,_,hE⟩:=h4 (by have:=(xah.1 hi).1;omega)
 obtain ⟨cs,_,h5⟩:=hE i x hi
 exact ⟨cs,h5⟩
structure aG (w:World) (B:Nat) (d:Drv) (u1 u2:Value):Prop where
 name:d.1.size≤maxLen
 okn:∀ x∈d.2.1,okN x
 okb:∀ x∈d.2.2,(Lit.int .u8 x).wf=true
 gj:w.ownsRow B 87 43 u1 d.2.1.length (d.2.1.flatMap nC)
 eM:w.ownsRow B 5 1 u2 d.2.2.length (d.2.2.flatMap ib)
theorem aG.at_ {w:World} {B:Nat} {d:Drv} {u1 u2:Value} (h:aG w B d u1 u2) {N:Nat} (hN:w.heap.size≤N):au w N d u1 u2 :=
 ⟨h.name,ie (L:=gO) (f:=nC) (by decide) h.gj _ hN (fun x hx=>bZ.2 ⟨rfl,h.okn x hx⟩),ie (L:=Lay.int 5 .u8) (f:=ib) (by decide) h.eM _ hN (fun x hx=>⟨rfl,h.okb x hx⟩)⟩
theorem aG.aL {w w':World} {B:Nat} {d:Drv} {u1 u2:Value} (h:aG w B d u1 u2) (hk:∀ g,B≤g→g<w.heap.size→w'.heap[g]?=w.heap[g]?):aG w' B d u1 u2 :=
 ⟨h.name,h.okn,h.okb,ao h.gj fun g hg hl=>hk g (az h.gj hg).1 hl,ao h.eM fun g hg hl=>hk g (az h.eM hg).1 hl⟩
theorem aG.lower {w:World} {B B':Nat} {d:Drv} {u1 u2:Value} (h:aG w B d u1 u2) (hB:B'≤B):aG w B' d u1 u2 :=
 ⟨h.name,h.okn,h.okb,bH h.gj fun _ hg=>xaH hB (az h.gj hg).1,bH h.eM fun _ hg=>xaH hB (az h.eM hg).1⟩
theorem aG.nil (w:World) (B:Nat):aG w B (⟨#[]⟩,[],[]) (.slice none 0 0) (.slice none 0 0):=⟨Nat.zero_le _,(fun x hx=>by cases hx),(fun x hx=>by cases hx),xbg _ _ _ _,xbg _ _ _ _⟩
theorem aG.form {w:World} {B:Nat} {d:Drv} {u1 u2:Value} (h:aG w B d u1 u2):∃ A1 n1 c1 A2 n2 c2,u1=.slice A1 n1 c1∧u2=.slice A2 n2 c2:=by
 rcases a7 h.gj with ⟨e,_⟩ | ⟨g,cap,cur,e,_⟩<;>rcases a7 h.eM with ⟨e2,_⟩ | ⟨g2,cap2,cur2,e2,_⟩<;>exact ⟨_,_,_,_,_,_,e,e2⟩
theorem fV:(Tryz.prog.info? 87).map (fun i=>(i.zero,i.size,i.bytes))=some (some (.agg zcN),43,80):=by kernel_rfl
theorem Am (w:World) (d:Drv) (v1 v2:Value) (h:au w w.heap.size d v1 v2) (hl:d.2.1.length≤1000000) (hl2:d.2.2.length≤1000000) :
  Calls Tryz.prog 72 #[.agg (dC d v1 v2).toArray] w fun e w'=>∃ u1 u2,e=.returned (.agg (dC d u1 u2).toArray)∧aG w' w.heap.size d u1 u2∧Below w.heap.size w w':=by
 obtain ⟨inm,hih,hq0,hq1,hq2⟩:=info_parts fV
 have HJ:=ab (xad hih (xad hq0 (xad hq1 hq2)))
 clear hih hq0 hq1 hq2
 obtain ⟨iu8,hih,hq0,hq1,hq2⟩:=info_parts (show (Tryz.prog.info? 5).map (fun i=>(i.zero,i.size,i.bytes))=some (some (.int .u8 0),1,1) by kernel_rfl)
 have HK:=ab (xad hih (xad hq0 (xad hq1 hq2)))
 clear hih hq0 hq1 hq2
 obtain ⟨A,cap,rfl,_,_,_,_⟩:=aj h.ins
 obtain ⟨A2,cap2,rfl,_,_,_,_⟩:=aj h.rcp
 obtain ⟨w1,hw1⟩:∃ w1,w1=w.alloc (.cells (dC d (.slice A d.2.1.length cap) (.slice A2 d.2.2.length cap2)).toArray 26):=⟨_,rfl⟩
 obtain ⟨w2,hw2⟩:∃ w2,w2=w1.alloc (.cells zcD 26):=⟨_,rfl⟩
 have hb1:Below w.heap.size w w1:=by rw [hw1];exact (xao _ w).alloc (xag _) _
 have hk1:Blk w1 w.heap.size 26 (dC d (.slice A d.2.1.length cap) (.slice A2 d.2.2.length cap2)).toArray:=by rw [hw1];exact Blk.new _ _ _
 have hb2:Below w1.heap.size w1 w2:=by rw [hw2];exact (xao _ w1).alloc (xag _) _
 have hk2:Blk w2 w1.heap.size 26 zcD:=by rw [hw2];exact Blk.new _ _ _
 have hz1:w1.heap.size=w.heap.size+1:=by rw [hw1,size_alloc]
 have hz2:w2.heap.size=w.heap.size+2:=by rw [hw2,size_alloc,hz1]
 have hb:=hb1.trans (xar hb2 hb1.size)
 have hk:=hk1.below hb2 hk1.lt
 have hs1:=(CC (dW.alike h.ins fun b hb9=>hb.block b hb9)).2
 have hs2:=(rD (cA.alike h.rcp fun b hb9=>hb.block b hb9)).2
 have HC:=ab (xad hs1 hs2)
 have H2:=ab (xad hb (xad hk hk2))
 have HD:=ab h
 have HZ:=ab (xad hz1 hz2)
 have HW1:=ab hw1
 have HW2:=ab hw2
 have c1:w2.cell? ⟨w.heap.size,1,none⟩=some (.slice A d.2.1.length cap):=hk.cell 1
 have f1:=hk.frozen 1
 have l1:=hk.lt
 clear hw1 hw2 hb1 hk1 hb2 hk2 hz1 hz2 hb hk hs1 hs2 h
 go_enter Tryz.func72,Tryz.ntmps72
 go_wp2_with (first | ((with_reducible refine ae 1 ?_);refine aa rfl (.pointer (some ⟨w.heap.size,0,none⟩)) w1 (by rw [HW1.out];kernel_rfl) ?_) | ((with_reducible refine ae 2 ?_);refine aa rfl (.pointer (some ⟨w1.heap.size,0,none⟩)) w2 (by rw [HW2.out];kernel_rfl) ?_) | (at_builtin;((with_reducible refine ae 5 ?_);refine aE rfl _ _ 23 rfl w2.heap.size 87 inm _ 43 80 Tryz.underlying23 HJ.out.1 HJ.out.2.1 HJ.out.2.2.1 HJ.out.2.2.2 rfl (by decide) _ 0 [] (xbg _ _ _ _) A d.2.1.length cap (d.2.1.flatMap nC) HC.out.1 ?hm1 ?hb1 ?hz1 rfl rfl ?_)))
 case hm1=>simp only [maxLen];omega
 case hb1=>omega
 case hz1=>exact xag _
 intro u1 w3 own3 gr3 _
 have own3:w3.ownsRow w2.heap.size 87 43 u1 d.2.1.length (d.2.1.flatMap nC):=by simpa using own3
 obtain ⟨A3,n3,c3,rfl⟩:∃ A n c,u1=.slice A n c:=by
  rcases a7 own3 with ⟨e,_⟩ | ⟨g,cap,cur,e,_⟩
  ·exact ⟨_,_,_,e⟩
  ·exact ⟨_,_,_,e⟩
 have hb3:Below w.heap.size w w3:=H2.out.1.grown gr3 H2.out.1.size (fun b hb=>by cases hb)
 have hk3:Blk w3 w.heap.size 26 (dC d (.slice A d.2.1.length cap) (.slice A2 d.2.2.length cap2)).toArray:=(gr3.block _ H2.out.2.1.lt (fun e=>by cases e)).trans H2.out.2.1
 have hr3:Blk w3 w1.heap.size 26 zcD:=(gr3.block _ H2.out.2.2.lt (fun e=>by cases e)).trans H2.out.2.2
 obtain ⟨w4,hw4⟩:∃ w4,w4=w3.setCell ⟨w.heap.size,1,none⟩ (.slice A3 n3 c3):=⟨_,rfl⟩
 have ne1:w.heap.size ≠ w1.heap.size:=by have:=HZ.out;omega
 have hk4:Blk w4 w.heap.size 26 (dC d (.slice A3 n3 c3) (.slice A2 d.2.2.length cap2)).toArray:=by rw [hw4];exact hk3.gP 1 (.slice A3 n3 c3)
 have hoth:∀ b,b ≠ w.heap.size→w4.heap[b]?=w3.heap[b]?:=fun b hb=>by rw [hw4];exact xbv w3 _ _ b (fun e=>hb e)
 have hr4:Blk w4 w1.heap.size 26 zcD:=(hoth _ ne1.symm).trans hr3
 have hb4:Below w.heap.size w w4:=by rw [hw4];exact hb3.setCell (xag _) _
 have hz4:w4.heap.size=w3.heap.size:=by rw [hw4];simp [World.setCell]
 have hs4:=(rD (cA.alike HD.out.rcp fun b hb9=>hb4.block b hb9)).2
 have own4:w4.ownsRow w2.heap.size 87 43 (.slice A3 n3 c3) d.2.1.length (d.2.1.flatMap nC):=ao own3 fun g hg _=>hoth g fun e=>by have:=(az own3 hg).1;have:=HZ.out;omega
 have H4:=ab (xad hb4 (xad hk4 (xad hr4 (xad own4 hs4))))
 have HW4:=ab hw4
 have c1':w3.cell? ⟨w.heap.size,1,none⟩=some (.slice A d.2.1.length cap):=hk3.cell 1
 have f1':=hk3.frozen 1
 have l1':=hk3.lt
 have c2:(w3.setCell ⟨w.heap.size,1,none⟩ (.slice A3 n3 c3)).cell? ⟨w.heap.size,2,none⟩=some (.slice A2 d.2.2.length cap2):=by rw [← hw4];exact hk4.cell 2
 have hs4':eZ (w3.setCell ⟨w.heap.size,1,none⟩ (.slice A3 n3 c3)) 1 A2 d.2.2.length cap2 (d.2.2.flatMap ib):=by rw [← hw4];exact hs4
 have HS:=ab hs4'
 clear hk3 hr3 hk4 hr4 hb3 hb4 hs4 hs4' own3 own4 gr3 hoth hw4 c1 f1 l1
 go_wp2_with (at_builtin;((with_reducible refine ae 9 ?_);refine aE rfl _ _ 24 rfl (w3.setCell ⟨w.heap.size,1,none⟩ (.slice A3 n3 c3)).heap.size 5 iu8 _ 1 1 Tryz.underlying24 HK.out.1 HK.out.2.1 HK.out.2.2.1 HK.out.2.2.2 rfl (by decide) _ 0 [] (xbg _ _ _ _) A2 d.2.2.length cap2 (d.2.2.flatMap ib) HS.out ?hm2 ?hb2 ?hz2 rfl rfl ?_))
 case hm2=>simp only [maxLen];omega
 case hb2=>omega
 case hz2=>exact xag _
 rw [← HW4.out]
 intro u2 w5 own5 gr5 _
 have own5:w5.ownsRow w3.heap.size 5 1 u2 d.2.2.length (d.2.2.flatMap ib):=by simpa using own5
 obtain ⟨A5,n5,c5,rfl⟩:∃ A n c,u2=.slice A n c:=by
  rcases a7 own5 with ⟨e,_⟩ | ⟨g,cap,cur,e,_⟩
  ·exact ⟨_,_,_,e⟩
  ·exact ⟨_,_,_,e⟩
 have hb5:Below w.heap.size w w5:=H4.out.1.grown gr5 H4.out.1.size (fun b hb=>by cases hb)
 have hk5:Blk w5 w.heap.size 26 (dC d (.slice A3 n3 c3) (.slice A2 d.2.2.length cap2)).toArray:=(gr5.block _ H4.out.2.1.lt (fun e=>by cases e)).trans H4.out.2.1
 have hr5:Blk w5 w1.heap.size 26 zcD:=(gr5.block _ H4.out.2.2.1.lt (fun e=>by cases e)).trans H4.out.2.2.1
 have own45:w5.ownsRow w2.heap.size 87 43 (.slice A3 n3 c3) d.2.1.length (d.2.1.flatMap nC):=ao H4.out.2.2.2.1 fun g _ hl=>gr5.block g hl (fun e=>by cases e)
 obtain ⟨w6,hw6⟩:∃ w6,w6=w5.setCell ⟨w.heap.size,2,none⟩ (.slice A5 n5 c5):=⟨_,rfl⟩
 have hoth6:∀ b,b ≠ w.heap.size→w6.heap[b]?=w5.heap[b]?:=fun b hb=>by rw [hw6];exact xbv w5 _ _ b (fun e=>hb e)
 have hk6:Blk w6 w.heap.size 26 (dC d (.slice A3 n3 c3) (.slice A5 n5 c5)).toArray:=by rw [hw6];exact hk5.gP 2 (.slice A5 n5 c5)
 have hr6:Blk w6 w1.heap.size 26 zcD:=(hoth6 _ ne1.symm).trans hr5
 have hb6:Below w.heap.size w w6:=by rw [hw6];exact hb5.setCell (xag _) _
 have own6:w6.ownsRow w2.heap.size 87 43 (.slice A3 n3 c3) d.2.1.length (d.2.1.flatMap nC):=ao own45 fun g hg _=>hoth6 g fun e=>by have:=(az own45 hg).1;have:=HZ.out;omega
 have own7:w6.ownsRow w3.heap.size 5 1 (.slice A5 n5 c5) d.2.2.length (d.2.2.flatMap ib):=ao own5 fun g hg _=>hoth6 g fun e=>by have:=(az own5 hg).1;have:=H4.out.1.size;have:=H4.out.2.1.lt;omega
 have H6:=ab (xad hb6 (xad hk6 (xad hr6 (xad own6 own7))))
 have HX6:=ab (show Blk (w5.setCell ⟨w.heap.size,2,none⟩ (.slice A5 n5 c5)) w.heap.size 26 (dC d (.slice A3 n3 c3) (.slice A5 n5 c5)).toArray by rw [← hw6];exact hk6)
 have HR6:=ab (show Blk (w5.setCell ⟨w.heap.size,2,none⟩ (.slice A5 n5 c5)) w1.heap.size 26 zcD by rw [← hw6];exact hr6)
 have HW6:=ab hw6
 have c2':w5.cell? ⟨w.heap.size,2,none⟩=some (.slice A2 d.2.2.length cap2):=hk5.cell 2
 have f2':=hk5.frozen 2
 have l2':=hk5.lt
 clear hk5 hr5 hb5 own5 own45 gr5 hk6 hr6 hb6 own6 own7 hoth6 hw6 c1' f1' l1' c2
 go_wp2_with (first | ((with_reducible refine ae 11 ?_);refine aa rfl (.agg (dC d (.slice A3 n3 c3) (.slice A5 n5 c5)).toArray) _ (av 26 (.tmp 1) rfl w.heap.size rfl 26 _ _ _ HX6.out Tryz.underlying26 rfl (by kernel_rfl)) ?_) | (with_reducible refine ak rfl 26 (.tmp 2) (.tmp 11) rfl w1.heap.size zcD (dC d (.slice A3 n3 c3) (.slice A5 n5 c5)).toArray 26 HR6.out ?s1 ?s2 ?s3 ?s4 ?s5 ?s6))
 case s1=>kernel_rfl
 case s2=>rfl
 case s3=>kernel_rfl
 rw [← HW6.out]
 intro w7 hk7 hg7
 have hb7:Below w.heap.size w w7:=H6.out.1.grown hg7 H6.out.1.size (fun b hb=>by injection hb with hb;have:=HZ.out;omega)
 have o1:w7.ownsRow w2.heap.size 87 43 (.slice A3 n3 c3) d.2.1.length (d.2.1.flatMap nC):=ao H6.out.2.2.2.1 fun g hg hl=>hg7.block g hl fun e=>by have e:=xam e;have:=(az H6.out.2.2.2.1 hg).1;have:=HZ.out;omega
 have o2:w7.ownsRow w3.heap.size 5 1 (.slice A5 n5 c5) d.2.2.length (d.2.2.flatMap ib):=ao H6.out.2.2.2.2 fun g hg hl=>hg7.block g hl fun e=>by have e:=xam e;have:=(az H6.out.2.2.2.2 hg).1;have:=H4.out.2.2.1.lt;omega
 have hat:aG w7 w.heap.size d (.slice A3 n3 c3) (.slice A5 n5 c5):=⟨HD.out.name,(fun x hx=>by obtain ⟨cs,h9⟩:=fo HD.out.ins hx;exact (bZ.1 h9).2),(fun x hx=>by obtain ⟨cs,h9⟩:=fo HD.out.rcp hx;exact h9.2),bH o1 (fun g hg=>by have:=(az o1 hg).1;have:=HZ.out;omega),bH o2 (fun g hg=>by have:=(az o2 hg).1;have:=H4.out.1.size;omega)⟩
 have H7:=ab (xad hk7 (xad hat hb7))
 clear hk7 hg7 hb7 o1 o2 hat
 go_wp2_with fail
 refine bodyPost_ret (results_cell_row rfl _ _ w1.heap.size 26 (dC d (.slice A3 n3 c3) (.slice A5 n5 c5)).toArray (0,0) _ rfl H7.out.1 Tryz.underlying26 rfl (by kernel_rfl)) rfl ⟨_,_,rfl,H7.out.2.1,H7.out.2.2⟩
end Go.Proofs.YtomnhnmciopiiaaGreat
end
section
namespace Go.Proofs.YtomnhnmciopiiaaGreat
open Go Go.RowKit Go.Maps
theorem results_cell_tmp {P:Program} {fn:Func} {p u:Tmp} {ty:TypeId} (h:fn.results=#[.cell p ty,.tmp u]) (tmps:Array Value) (w:World) (g:Nat) (t:TypeId) (cs:Array Value) (fr:Nat×Nat) (d:TypeDesc)
  (hp:tmps.getD p undef=.pointer (some ⟨g,0,none⟩)) (hg:w.heap[g]?=some (.cells cs t fr))
  (hu:P.underlying ty=some d) (hd:(match d with | .struct _ | .array _ _=>true | _=>false)=true) (hi:(P.info? ty).map (·.size)=some cs.size) :
  (results fn tmps).run P w=.ok (.tuple #[.agg cs,tmps.getD u undef]) w:=by
 have hp':tmps[p]?.getD undef=.pointer (some ⟨g,0,none⟩):=by simpa using hp
 simp [results,h,hp',asAddr,run_loadVar_row w g t ty cs fr d hg hu hd hi]
def zcT:Array Value:=(bv (xaz 20 0)++[xbd ⟨#[]⟩,xas none 0 0,xas none 0 0]).toArray
theorem cJ:(Tryz.prog.info? 59).map (·.size)=some 23:=by kernel_rfl
theorem cl {x:Itm} {v1 v2:Value} (h:okH x.1):(tC x v1 v2).length=23:=by
 unfold tC
 rw [xak,bvL,show x.1.length=20 from h]
 rfl
theorem gQ (x:Itm) {v1 v2:Value} (h1:v1.oneCell'=true) (h2:v2.oneCell'=true):∀ v∈tC x v1 v2,v.oneCell'=true:=by
 intro v hv
 rcases xax.1 hv with hv | hv
 ·exact bv1 _ v hv
 ·simp only [dC,xaD,xaS,or_false] at hv
  rcases hv with rfl | rfl | rfl
  ·rfl
  ·exact h1
  ·exact h2
theorem iu {x:Itm} {v1 v2:Value} {w:World} {g:Nat} (_:okH x.1) (hb:Blk w g 59 (tC x v1 v2).toArray):w.rangeAt g 0 (bv x.1):=by
 have h1:=en hb
 exact da (c2:=dC x.2 v1 v2) (by simpa [tC] using h1)
theorem jk {x:Itm} {v1 v2:Value} {w:World} {g:Nat} (h:okH x.1) (hb:Blk w g 59 (tC x v1 v2).toArray):w.rangeAt g 20 (dC x.2 v1 v2):=by
 have h1:=en hb
 have h2:=ff (c1:=bv x.1) (c2:=dC x.2 v1 v2) (o:=0) (by simpa [tC] using h1)
 rwa [bvL,show x.1.length=20 from h] at h2
theorem au.alike {w w':World} {B:Nat} {d:Drv} {v1 v2:Value} (h:au w B d v1 v2) (ha:Alike B w w'):au w' B d v1 v2:=⟨h.name,dW.alike h.ins ha,cA.alike h.rcp ha⟩
theorem au.eY {w:World} {B B':Nat} {d:Drv} {v1 v2:Value} (h:au w B d v1 v2) (hB:B≤B'):au w B' d v1 v2:=⟨h.name,dW.eY h.ins hB,cA.eY h.rcp hB⟩
theorem wK {l:List Itm} {j:Nat} {x:Itm} {c:Hsh} (hx:l[j]?=some x) (hc:x.1=c) (hn:∀ y∈l.take j,y.1 ≠ c):l.find? (fun x=>decide (x.1=c))=some x:=by
 have hj:=xah.1 hx
 rw [List.find?_eq_some_iff_getElem]
 refine ⟨by simpa using hc,j,hj.1,hj.2,fun i hi=>?_⟩
 have hj1:=hj.1
 have h9:i<l.length:=by omega
 have:l[i]∈l.take j:=xaj (i:=i) (by rw [List.getElem?_take_of_lt hi,xai h9])
 simpa using hn _ this
def vT (w:World) (l:List Itm) (c:Hsh) (w':World) (e:Ending):Prop:=∃ u1 u2,e=.returned (.tuple #[.agg (dC (((l.find? fun x=>decide (x.1=c)).map (·.2)).getD (⟨#[]⟩,[],[])) u1 u2).toArray,.bool (l.find? fun x=>decide (x.1=c)).isSome])∧aG w' w.heap.size (((l.find? fun x=>decide (x.1=c)).map (·.2)).getD (⟨#[]⟩,[],[])) u1 u2∧Below w.heap.size w w'
theorem BU (w:World) (l:List Itm) (v:Value) (h:aH.At w w.heap.size [v] l) (c:Hsh) (hc:okH c) (hl:∀ x∈l,x.2.2.1.length≤1000000∧x.2.2.2.length≤1000000) :
  Calls Tryz.prog 31 #[v,.agg (bv c).toArray] w fun e w'=>vT w l c w' e:=by
 obtain ⟨A,cap,rfl,hcl,hcm,_,hA⟩:=aj h
 have k9:(l.length:Int)≤9223372036854775807:=by simp only [maxLen] at hcm;omega
 have HA:=ab hA
 obtain ⟨w1,hw1⟩:∃ w1,w1=w.alloc (.cells (bv c).toArray 34):=⟨_,rfl⟩
 obtain ⟨w2,hw2⟩:∃ w2,w2=w1.alloc (.cells zcD 26):=⟨_,rfl⟩
 have hb1:Below w.heap.size w w1:=by rw [hw1];exact (xao _ w).alloc (xag _) _
 have hk1:Blk w1 w.heap.size 34 (bv c).toArray:=by rw [hw1];exact Blk.new _ _ _
 have hb2:Below w1.heap.size w1 w2:=by rw [hw2];exact (xao _ w1).alloc (xag _) _
 have hk2:Blk w2 w1.heap.size 26 zcD:=by rw [hw2];exact Blk.new _ _ _
 have H2:=ab (xad (hk1.below hb2 hk1.lt) (xad hk2 (hb1.trans (xar hb2 hb1.size))))
 have HZ:=ab (show w.heap.size≤w1.heap.size from hb1.size)
 have HW1:=ab hw1
 have HW2:=ab hw2
 clear hA h hcl hcm hw1 hw2 hb1 hk1 hb2 hk2
 go_enter Tryz.func31,Tryz.ntmps31
 go_wp2_with (first | ((with_reducible refine ae 3 ?_);refine aa rfl (.pointer (some ⟨w.heap.size,0,none⟩)) w1 (by rw [HW1.out];kernel_rfl) ?_) | ((with_reducible refine ae 4 ?_);refine aa rfl (.pointer (some ⟨w1.heap.size,0,none⟩)) w2 (by rw [HW2.out];kernel_rfl) ?_))
 go_loopw [10] (fun y wr=>∃ j:Nat,j≤l.length∧y=.int .i64 (j:Int)∧(∀ x∈l.take j,x.1 ≠ c)∧Blk wr w.heap.size 34 (bv c).toArray∧Blk wr w1.heap.size 26 zcD∧Below w.heap.size w wr) (fun y _=>l.length-(intOf y).toNat)
 case atStart=>exact ⟨0,by omega,rfl,(fun x hx=>by simp at hx),H2.out.1,H2.out.2.1,H2.out.2.2⟩
 case round =>
  obtain ⟨wo,rfl⟩:∃ wo,wo=wr:=⟨_,rfl⟩
  obtain ⟨j,hj,rfl,hnot,hk,hr,hb⟩:=hrel
  have HI:=ab (xad hnot (xad hk (xad hr hb)))
  clear hnot hk hr hb
  have j0:(0:Int)≤(j:Int):=by omega
  by_cases hj2:j<l.length
  ·have j1:(j:Int)<(l.length:Int):=by omega
   obtain ⟨x,hx⟩:∃ x,l[j]?=some x:=⟨_,xai hj2⟩
   obtain ⟨b,off,rfl,hlb,hE⟩:=HA.out (by omega)
   obtain ⟨cs,hr,hatx⟩:=hE j x hx
   obtain ⟨q1,q2,rfl,hxo,hxd⟩:=cF.1 hatx
   obtain ⟨B1,k1,rfl,_⟩:=aj hxd.ins
   obtain ⟨B2,k2,rfl,_⟩:=aj hxd.rcp
   obtain ⟨q1,hq1⟩:∃ q1,q1=xas B1 x.2.2.1.length k1:=⟨_,rfl⟩
   obtain ⟨q2,hq2⟩:∃ q2,q2=xas B2 x.2.2.2.length k2:=⟨_,rfl⟩
   have hone1:q1.oneCell'=true∧q2.oneCell'=true:=by rw [hq1,hq2];exact ⟨rfl,rfl⟩
   rw [← hq1,← hq2] at hr hatx
   rw [← hq1,← hq2] at hxd
   have hbnd:=hl x (xaj hx)
   have HX:=ab (xad (bX hr (HI.out.2.2.2.block b (by omega))) (xad hxo hxd))
   have HXX:=ab hx
   have hszt2:(Tryz.prog.info? 59).map (·.size)=some (tC x q1 q2).toArray.size:=by rw [show (tC x q1 q2).toArray.size=23 by rw [xal];exact cl hxo];kernel_rfl
   have hszt:(Tryz.prog.info? 59).map (·.size)=some (tC x q1 q2).length:=by simpa using hszt2
   have hszzt:zcT.size=(tC x q1 q2).toArray.size:=by rw [show (tC x q1 q2).toArray.size=23 by rw [xal];exact cl hxo];kernel_rfl
   have honet:(tC x q1 q2).toArray.all (·.oneCell')=true:=all_oneCell_toArray (gQ x hone1.1 hone1.2)
   have hszx:(Tryz.prog.info? 34).map (·.size)=some (bv x.1).length:=by have:=bB hxo;simpa using this
   clear hx hE hr hatx hxo hxd hq1 hq2
   by_cases hxc:x.1=c
   ·have hd:=decide_eq_true hxc
    go_wp2_with (first | ((with_reducible refine ae 12 ?_);(refine aa rfl (.pointer (some ⟨b,off+(j:Int).toNat*23,none⟩)) wo (aJ 22 59 (.tmp 8) (.tmp 10) rfl b off l.length cap (j:Int) .i64 rfl rfl ⟨j0,j1⟩ 23 Tryz.underlying22 cJ wo) ?_;rw [show off+(j:Int).toNat*23=off+j*23 by omega])) | ((with_reducible refine ae 13 ?_);(refine aa rfl (.agg (tC x q1 q2).toArray) wo (ai 59 (.tmp 12) rfl b (off+j*23) rfl (tC x q1 q2) _ wo HX.out.1 Tryz.underlying59 rfl hszt) ?_)) | ((with_reducible refine ae 7 ?_);((with_reducible refine cW (o1:=⟨some 7,_,_,_,_,_⟩) (o2:=⟨none,_,_,_,_,_⟩) rfl rfl 59 (.tmp 7) (.tmp 13) ?_ zcT (tC x q1 q2).toArray ?_ hszt2 ?_ honet ?_ ?_ ?_);rfl;kernel_rfl;exact hszzt;rfl;rfl;intro w3 hmm hbb;have H3:=ab (xad hmm hbb);clear hmm hbb;simp only [xae,xaa,xab,xac])) | ((with_reducible refine ae 15 ?_);(refine aa rfl (.agg (bv x.1).toArray) w3 (ai 34 (.tmp 14) rfl wo.heap.size (0) rfl (bv x.1) _ w3 (iu HX.out.2.1 H3.out.1) Tryz.underlying34 rfl hszx) ?_)) | ((with_reducible refine ae 16 ?_);(refine aa rfl (.agg (bv c).toArray) w3 (av 34 (.tmp 3) rfl w.heap.size rfl 34 _ _ w3 ((HI.out.2.1.below H3.out.2 HI.out.2.1.lt)) Tryz.underlying34 rfl (bB hc)) ?_)) | ((with_reducible refine ae 17 ?_);(refine aa rfl (.bool true) w3 (dz .eql 34 (.tmp 15) (.tmp 16) _ rfl (bv x.1).toArray (bv c).toArray rfl rfl (by kernel_rfl) _ (fun W=>by have h:=jW x.1 c HX.out.2.1 hc W;rw [hd] at h;exact h) w3) ?_)) | ((with_reducible refine ae 19 ?_);(refine aa rfl (.agg (dC x.2 q1 q2).toArray) w3 (ai 26 (.tmp 18) rfl wo.heap.size (20) rfl (dC x.2 q1 q2) _ w3 (jk HX.out.2.1 H3.out.1) Tryz.underlying26 rfl (by kernel_rfl)) ?_)))
    have hat3:au w3 w3.heap.size x.2 q1 q2:=(HX.out.2.2.alike fun b hb=>(H3.out.2.block b (by have:=HI.out.2.2.2.size;omega)).trans (HI.out.2.2.2.block b hb)).eY (by have:=HI.out.2.2.2.size;have:=H3.out.2.size;omega)
    refine (Am w3 x.2 q1 q2 hat3 hbnd.1 hbnd.2).mono ?_
    rintro e w4 ⟨p1,p2,rfl,hown4,hb4⟩
    dsimp only
    have h43:=H3.out.2.trans (xar hb4 H3.out.2.size)
    have H4:=ab (xad hown4 (xad (HI.out.2.2.1.below h43 HI.out.2.2.1.lt) (HI.out.2.2.2.trans (xar h43 HI.out.2.2.2.size))))
    have hfd:l.find? (fun x=>decide (x.1=c))=some x:=wK HXX.out hxc HI.out.1
    have HFD:=ab hfd
    have HS:=ab (xaH HI.out.2.2.2.size H3.out.2.size)
    obtain ⟨P1,m1,g1,P2,m2,g2,rfl,rfl⟩:=aG.form hown4
    clear hfd hown4 hb4 hat3 h43
    go_wp2_with ((with_reducible refine aV 4 20 ?_);(with_reducible refine ak rfl 26 (.tmp 4) (.tmp 20) rfl w1.heap.size zcD (dC x.2 (.slice P1 m1 g1) (.slice P2 m2 g2)).toArray 26 H4.out.2.1 ?_ ?_ ?_ ?_ ?_ ?_);kernel_rfl;rfl;kernel_rfl;rfl;rfl;intro w5 hk5 hg5;have hb5:Below w.heap.size w w5:=(H4.out.2.2.grown hg5 H4.out.2.2.size (fun b hb=>(by injection hb with hb;have:=HZ.out;omega)));have ho5:aG w5 w.heap.size x.2 (.slice P1 m1 g1) (.slice P2 m2 g2):=((H4.out.1.aL (fun g hg hl=>hg5.block g hl (fun e=>(by have e:=xam e;have:=H3.out.2.size;have:=HI.out.2.2.1.lt;omega)))).lower HS.out);have H5:=ab (xad hk5 (xad ho5 hb5));clear hk5 hg5 hb5 ho5;simp only [xae])
    refine bodyPost_ret (results_cell_tmp rfl _ _ w1.heap.size 26 (dC x.2 (.slice P1 m1 g1) (.slice P2 m2 g2)).toArray (0,0) _ rfl H5.out.1 Tryz.underlying26 rfl (by kernel_rfl)) rfl ?_
    unfold vT
    rw [HFD.out]
    exact ⟨_,_,rfl,H5.out.2.1,H5.out.2.2⟩
   ·have hd:=decide_eq_false hxc
    have HD:=ab hd
    have HNX:=ab hxc
    clear hxc
    go_wp2_with (first | ((with_reducible refine ae 12 ?_);(refine aa rfl (.pointer (some ⟨b,off+(j:Int).toNat*23,none⟩)) wo (aJ 22 59 (.tmp 8) (.tmp 10) rfl b off l.length cap (j:Int) .i64 rfl rfl ⟨j0,j1⟩ 23 Tryz.underlying22 cJ wo) ?_;rw [show off+(j:Int).toNat*23=off+j*23 by omega])) | ((with_reducible refine ae 13 ?_);(refine aa rfl (.agg (tC x q1 q2).toArray) wo (ai 59 (.tmp 12) rfl b (off+j*23) rfl (tC x q1 q2) _ wo HX.out.1 Tryz.underlying59 rfl hszt) ?_)) | ((with_reducible refine ae 7 ?_);((with_reducible refine cW (o1:=⟨some 7,_,_,_,_,_⟩) (o2:=⟨none,_,_,_,_,_⟩) rfl rfl 59 (.tmp 7) (.tmp 13) ?_ zcT (tC x q1 q2).toArray ?_ hszt2 ?_ honet ?_ ?_ ?_);rfl;kernel_rfl;exact hszzt;rfl;rfl;intro w3 hmm hbb;have H3:=ab (xad hmm hbb);clear hmm hbb;simp only [xae,xaa,xab,xac])) | ((with_reducible refine ae 15 ?_);(refine aa rfl (.agg (bv x.1).toArray) w3 (ai 34 (.tmp 14) rfl wo.heap.size (0) rfl (bv x.1) _ w3 (iu HX.out.2.1 H3.out.1) Tryz.underlying34 rfl hszx) ?_)) | ((with_reducible refine ae 16 ?_);(refine aa rfl (.agg (bv c).toArray) w3 (av 34 (.tmp 3) rfl w.heap.size rfl 34 _ _ w3 ((HI.out.2.1.below H3.out.2 HI.out.2.1.lt)) Tryz.underlying34 rfl (bB hc)) ?_)) | ((with_reducible refine ae 17 ?_);(refine aa rfl (.bool false) w3 (dz .eql 34 (.tmp 15) (.tmp 16) _ rfl (bv x.1).toArray (bv c).toArray rfl rfl (by kernel_rfl) _ (fun W=>by have h:=jW x.1 c HX.out.2.1 hc W;rw [HD.out] at h;exact h) w3) ?_)))
    go_roundw
    case rel=>exact ⟨j+1,by omega,by go_num,(fun y hy=>by rw [xaB,HXX.out] at hy;rcases xax.1 hy with hy | hy;exact HI.out.1 y hy;rw [show y=x from by simpa using hy];exact HNX.out),HI.out.2.1.below H3.out.2 HI.out.2.1.lt,HI.out.2.2.1.below H3.out.2 HI.out.2.2.1.lt,HI.out.2.2.2.trans (xar H3.out.2 HI.out.2.2.2.size)⟩
    case measure=>simp [intOf];omega
  ·obtain rfl:j=l.length:=by omega
   have hnn:l.find? (fun x=>decide (x.1=c))=none:=List.find?_eq_none.2 fun x hx=>by simpa using HI.out.1 x (by rw [xaG];exact hx)
   have HNN:=ab hnn
   clear hnn
   go_wp2_with (first | ((with_reducible refine ae 22 ?_);(refine aa rfl (.agg zcD) wo (by kernel_rfl) ?_)) | ((with_reducible refine aV 4 22 ?_);(with_reducible refine ak rfl 26 (.tmp 4) (.tmp 22) rfl w1.heap.size zcD zcD 26 HI.out.2.2.1 ?_ ?_ ?_ ?_ ?_ ?_);kernel_rfl;rfl;kernel_rfl;rfl;rfl;intro w5 hk5 hg5;have hb5:Below w.heap.size w w5:=(HI.out.2.2.2.grown hg5 HI.out.2.2.2.size (fun b hb=>(by injection hb with hb;have:=HZ.out;omega)));have H5:=ab (xad hk5 hb5);clear hk5 hg5 hb5;simp only [xae,xaa,xab,xac]))
   refine bodyPost_ret (results_cell_tmp rfl _ _ w1.heap.size 26 zcD (0,0) _ rfl H5.out.1 Tryz.underlying26 rfl (by kernel_rfl)) rfl ?_
   unfold vT
   rw [HNN.out]
   exact ⟨.slice none 0 0,.slice none 0 0,rfl,aG.nil _ _,H5.out.2⟩
end Go.Proofs.YtomnhnmciopiiaaGreat
end
section
namespace Go.Proofs.YtomnhnmciopiiaaGreat
open Go Go.RowKit
def lQ (w:World) (B b:Nat) (p u:Value) (xs:List Value):Prop :=
 B≤b∧(p=.pointer none∨p=.pointer (some ⟨b,0,none⟩))∧Blk w b 288 #[p,u]∧w.ownsRow B 5 1 u xs.length xs
theorem lQ.is {w:World} {B b:Nat} {p u:Value} {xs:List Value} (h:lQ w B b p u xs):Lib.IsBuilder 288 5 B b xs w:=by
 obtain ⟨h1,h2,h3,h4⟩:=h
 have h5:=ef h4 h3 (by decide)
 rcases h2 with rfl | rfl
 ·exact .inl ⟨h1,u,h3,h4,h5⟩
 ·exact .inr ⟨h1,u,h3,h4,h5⟩
theorem rV:(Tryz.prog.info? 5).map (fun i=>(i.zero,i.size,i.bytes))=some (some (.int .u8 0),1,1):=by kernel_rfl
theorem sZ:∃ j,Tryz.prog.info? 288=some j∧j.size=2:=by
 obtain ⟨j,hj,e⟩:=Option.map_eq_some_iff.1 (show (Tryz.prog.info? 288).map (·.size)=some 2 by kernel_rfl)
 exact ⟨j,hj,e⟩
theorem y6 (w:World) (B b:Nat) (p u:Value) (xs:List Value) (h:lQ w B b p u xs) :
  Calls Tryz.prog 204 #[.pointer (some ⟨b,0,none⟩)] w fun e w'=>e=.returned (.tuple #[])∧lQ w' B b (.pointer (some ⟨b,0,none⟩)) u xs∧Below B w w':=by
 obtain ⟨hB,hp,hb,ho⟩:=h
 obtain ⟨j,hj,hjs⟩:=sZ
 have c0:w.cell? ⟨b,0,none⟩=some p:=hb.cell 0
 rcases hp with rfl | rfl
 ·have hsh:w.shape? b=some (288,2):=by simp [World.shape?,show w.heap[b]?=_ from hb]
  have hfz:=hb.frozen 0
  have HB:=ab (xad hb ho)
  clear hb ho
  go_enter Tryz.func204,Tryz.ntmps204
  go_wp2_with fail
  rw [Lib.run_to_unsafe w ⟨b,0,none⟩ Tryz.underlying286 Tryz.underlying322 hj (by omega) hsh (Nat.zero_lt_succ 1),xbB,Oper.upon_value]
  go_wp2_with fail
  rw [run_callFunc_extern Tryz.func215 (by kernel_rfl) (by kernel_rfl) (by kernel_rfl) (e:=Extern.AbiNoEscape.same) (by kernel_rfl),Lib.run_noEscape]
  rw [xbB,Oper.upon_value]
  go_wp2_with fail
  rw [Lib.run_from_unsafe w ⟨b,0,none⟩ Tryz.underlying322 Tryz.underlying286 hj hsh (by kernel_rfl),xbB,Oper.upon_value]
  go_wp2_with fail
  go_end0
  refine ⟨rfl,⟨hB,.inr rfl,HB.out.1.gP 0 _,?_⟩,(xao B w).setCell (p:=⟨b,0,none⟩) hB _⟩
  exact ao HB.out.2 fun g hg _=>xbv w _ _ g fun e=>ef HB.out.2 HB.out.1 (by decide) (by rw [hg];exact congrArg some e)
 ·have HB:=ab (xad hb ho)
  clear hb ho
  go_enter Tryz.func204,Tryz.ntmps204
  go_wp2_with fail
  rw [Lib.run_neq_ptr_same w _ Tryz.underlying286 hj]
  go_wp2_with fail
  go_end0
  exact ⟨rfl,⟨hB,.inr rfl,HB.out.1,HB.out.2⟩,xao B _⟩
theorem vt (w:World) (B b:Nat) (p u:Value) (xs:List Value) (c:Int) (h:lQ w B b p u xs) (hl:xs.length≤1000000) (hBw:B≤w.heap.size) :
  Calls Tryz.prog 203 #[.pointer (some ⟨b,0,none⟩),.int .u8 c] w fun e w'=>e=.returned .nilIface∧(∃ u',lQ w' B b (.pointer (some ⟨b,0,none⟩)) u' (xs++[.int .u8 c]))∧Below B w w':=by
 obtain ⟨iu8,hih,hq0,hq1,hq2⟩:=info_parts rV
 have HK:=ab (xad hih (xad hq0 (xad hq1 hq2)))
 clear hih hq0 hq1 hq2
 go_enter Tryz.func203,Tryz.ntmps203
 go_wp2_with fail
 refine (y6 w B b p u xs h).mono ?_
 rintro e w1 ⟨rfl,hk,hb1⟩
 dsimp only
 have c1:w1.cell? ⟨b,1,none⟩=some u:=hk.2.2.1.cell 1
 have HH:=ab (xad hk hb1)
 clear hk hb1 h
 obtain ⟨w2,hw2⟩:∃ w2,w2=w1.alloc (.cells #[.int .u8 c] 5):=⟨_,rfl⟩
 have hk2:Blk w2 w1.heap.size 5 #[.int .u8 c]:=by rw [hw2];exact Blk.new _ _ _
 have hb2:Below w1.heap.size w1 w2:=by rw [hw2];exact (xao _ w1).alloc (xag _) _
 have HA:=ab (xad (show eZ w2 1 (some ⟨w1.heap.size,0,none⟩) 1 1 [.int .u8 c] from sH hk2 (fun v hv=>by rw [xan.1 hv];rfl)) (xad (ao HH.out.1.2.2.2 fun g _ hl=>hb2.block g hl) hb2))
 rw [hw2] at HA
 clear hk2 hb2 hw2
 go_wp2_with (at_builtin;((with_reducible refine ae 14 ?_);refine aE rfl _ _ 24 rfl B 5 iu8 _ 1 1 Tryz.underlying24 HK.out.1 HK.out.2.1 HK.out.2.2.1 HK.out.2.2.2 rfl (by decide) _ xs.length xs HA.out.2.1 (some ⟨w1.heap.size,0,none⟩) 1 1 [.int .u8 c] HA.out.1 ?hm1 ?hb1 ?hz1 rfl rfl ?_))
 case hm1=>simp only [maxLen];omega
 case hb1=>omega
 case hz1=>have:=HH.out.2.size;have:=HA.out.2.2.size;omega
 intro u3 w3 own3 gr3 _
 have hlt:b<w1.heap.size:=HH.out.1.2.2.1.lt
 have hne:=ef HH.out.1.2.2.2 HH.out.1.2.2.1 (by decide)
 have hk3:Blk w3 b 288 #[.pointer (some ⟨b,0,none⟩),u]:=(gr3.block _ (by have:=HA.out.2.2.size;omega) (fun e=>hne e.symm)).trans ((HA.out.2.2.block b hlt).trans HH.out.1.2.2.1)
 have hb3:Below B w w3:=(HH.out.2.trans (xar HA.out.2.2 (by have:=HH.out.2.size;omega))).grown gr3 (by have:=HH.out.2.size;have:=HA.out.2.2.size;omega) (fun k hk=>(az HH.out.1.2.2.2 hk).1)
 have d1:w3.cell? ⟨b,1,none⟩=some u:=hk3.cell 1
 have f1:=hk3.frozen 1
 have l3:=hk3.lt
 obtain ⟨A3,n3,c3,rfl⟩:∃ A n c,u3=.slice A n c:=by
  rcases a7 own3 with ⟨e,_⟩ | ⟨g,cap,cur,e,_⟩
  ·exact ⟨_,_,_,e⟩
  ·exact ⟨_,_,_,e⟩
 have H3:=ab (xad hk3 (xad hb3 own3))
 clear hk3 hb3 own3 gr3 hne c1
 go_wp2_with fail
 go_ret
 refine ⟨rfl,⟨_,HH.out.1.1,.inr rfl,H3.out.1.gP 1 _,?_⟩,H3.out.2.1.setCell (p:=⟨b,1,none⟩) HH.out.1.1 _⟩
 have ho:=H3.out.2.2
 rw [xak]
 exact ao ho fun g hg _=>xbv w3 _ _ g fun e=>ef ho H3.out.1 (by decide) (by rw [hg];exact congrArg some e)
end Go.Proofs.YtomnhnmciopiiaaGreat
end
section
namespace Go.Proofs.YtomnhnmciopiiaaGreat
open Go.Shelf
def Tryz.nJ:Go.Shelf.Ren:=⟨fun | 169=>185 | n=>n,fun | 70=>286 | 9=>9 | 0=>0 | 72=>288 | 37=>24 | 127=>310 | 3=>3 | 5=>5 | n=>n,fun | n=>n⟩
theorem Tryz.Ek:Go.Proofs.Lays.n169 Tryz.prog Tryz.nJ:={
 mixed:=by kernel_rfl
 f169:=Tryz.func185.trans (congrArg some (by kernel_rfl))
 t0:=Tryz.underlying0
 a0:=Tryz.isAgg0
 z0:=Tryz.sizeOf0
 v0:=Tryz.zeroValue0
 t3:=Tryz.underlying3
 a3:=Tryz.isAgg3
 z3:=Tryz.sizeOf3
 v3:=Tryz.zeroValue3
 t9:=Tryz.underlying9
 a9:=Tryz.isAgg9
 z9:=Tryz.sizeOf9
 v9:=Tryz.zeroValue9
 t37:=Tryz.underlying24
 a37:=Tryz.isAgg24
 z37:=Tryz.sizeOf24
 v37:=Tryz.zeroValue24
 t70:=Tryz.underlying286
 a70:=Tryz.isAgg286
 z70:=Tryz.sizeOf286
 v70:=Tryz.zeroValue286
 t72:=Tryz.underlying288
 a72:=Tryz.isAgg288
 z72:=Tryz.sizeOf288
 v72:=Tryz.zeroValue288
 t127:=Tryz.underlying310
 a127:=Tryz.isAgg310
 z127:=Tryz.sizeOf310
 v127:=Tryz.zeroValue310 }
theorem Tryz.lS:Builder.Extra Tryz.prog Tryz.nJ:={
 sizeBuilder:=by kernel_rfl
 liesBuilder:=by kernel_rfl
 t5:=Tryz.underlying5
 a5:=Tryz.isAgg5
 z5:=Tryz.sizeOf5
 v5:=Tryz.zeroValue5
 infoByte:=by kernel_rfl
 cellsByte:=by kernel_rfl
 sizeByte:=by kernel_rfl
 neB5:=by decide }
open Go.RowKit in
theorem Tryz.Builder_String_any (B b:Nat) (l:List UInt8) (w:World) (h:Lib.IsBuilder 288 5 B b (xb3 l) w) (hBw:B≤w.heap.size) :
  Calls Tryz.prog 185 #[.pointer (some ⟨b,0,none⟩)] w fun e w'=>e=.returned (.string ⟨l.toArray⟩)∧Below B w w':=Any.Builder_String_any Tryz.Ek Tryz.lS B b l w h hBw
def Tryz.nI:Go.Shelf.Ren:=⟨fun | 156=>161 | 165=>183 | 166=>184 | 169=>185 | 240=>204 | 241=>205 | 276=>215 | 277=>216 | n=>n,fun | 31=>60 | 9=>9 | 3=>3 | 4=>4 | 0=>0 | 20=>20 | 72=>288 | 76=>292 | 70=>286 | 37=>24 | 75=>291 | 127=>310 | 164=>322 | 5=>5 | 80=>294 | n=>n,fun | n=>n⟩
theorem Tryz.Ej:Go.Proofs.Lays.n156 Tryz.prog Tryz.nI:={
 mixed:=by kernel_rfl
 f156:=Tryz.func161.trans (congrArg some (by kernel_rfl))
 f165:=Tryz.func183.trans (congrArg some (by kernel_rfl))
 f166:=Tryz.func184.trans (congrArg some (by kernel_rfl))
 f169:=Tryz.func185.trans (congrArg some (by kernel_rfl))
 f240:=Tryz.func204.trans (congrArg some (by kernel_rfl))
 f241:=Tryz.func205.trans (congrArg some (by kernel_rfl))
 f276:=Tryz.func215.trans (congrArg some (by kernel_rfl))
 f277:=Tryz.func216.trans (congrArg some (by kernel_rfl))
 t0:=Tryz.underlying0
 a0:=Tryz.isAgg0
 z0:=Tryz.sizeOf0
 v0:=Tryz.zeroValue0
 t3:=Tryz.underlying3
 a3:=Tryz.isAgg3
 z3:=Tryz.sizeOf3
 v3:=Tryz.zeroValue3
 t4:=Tryz.underlying4
 a4:=Tryz.isAgg4
 z4:=Tryz.sizeOf4
 v4:=Tryz.zeroValue4
 t9:=Tryz.underlying9
 a9:=Tryz.isAgg9
 z9:=Tryz.sizeOf9
 v9:=Tryz.zeroValue9
 t20:=Tryz.underlying20
 a20:=Tryz.isAgg20
 z20:=Tryz.sizeOf20
 v20:=Tryz.zeroValue20
 t31:=Tryz.underlying60
 a31:=Tryz.isAgg60
 z31:=Tryz.sizeOf60
 v31:=Tryz.zeroValue60
 t37:=Tryz.underlying24
 a37:=Tryz.isAgg24
 z37:=Tryz.sizeOf24
 v37:=Tryz.zeroValue24
 t70:=Tryz.underlying286
 a70:=Tryz.isAgg286
 z70:=Tryz.sizeOf286
 v70:=Tryz.zeroValue286
 t72:=Tryz.underlying288
 a72:=Tryz.isAgg288
 z72:=Tryz.sizeOf288
 v72:=Tryz.zeroValue288
 t75:=Tryz.underlying291
 a75:=Tryz.isAgg291
 z75:=Tryz.sizeOf291
 v75:=Tryz.zeroValue291
 t76:=Tryz.underlying292
 a76:=Tryz.isAgg292
 z76:=Tryz.sizeOf292
 v76:=Tryz.zeroValue292
 t127:=Tryz.underlying310
 a127:=Tryz.isAgg310
 z127:=Tryz.sizeOf310
 v127:=Tryz.zeroValue310
 t164:=Tryz.underlying322
 a164:=Tryz.isAgg322
 z164:=Tryz.sizeOf322
 v164:=Tryz.zeroValue322 }
theorem Tryz.lR:Builder.Extra Tryz.prog Tryz.nI:={
 sizeBuilder:=by kernel_rfl
 liesBuilder:=by kernel_rfl
 t5:=Tryz.underlying5
 a5:=Tryz.isAgg5
 z5:=Tryz.sizeOf5
 v5:=Tryz.zeroValue5
 infoByte:=by kernel_rfl
 cellsByte:=by kernel_rfl
 sizeByte:=by kernel_rfl
 neB5:=by decide }
open Go.RowKit in
theorem Tryz.strings_Join (bk o c:Nat) (xs:List ByteArray) (sep:ByteArray) (w:World) (hcells:∀ (j:Nat) x,xs[j]?=some x→w.cell? ⟨bk,o+j,none⟩=some (.string x)) (hbk:bk<w.heap.size) (hN:xs.length≤140737488355328) (hcap:xs.length≤c) (hlen:(xbV (xs.map (·.data.toList)) sep.data.toList).length≤140737488355328) :
  Calls Tryz.prog 161 #[.slice (some ⟨bk,o,none⟩) xs.length c,.string sep] w fun e w'=>e=.returned (.string ⟨(xbV (xs.map (·.data.toList)) sep.data.toList).toArray⟩)∧Below w.heap.size w w':=Any.strings_Join Tryz.Ej Tryz.lR bk o c xs sep w hcells hbk hN hcap hlen
end Go.Proofs.YtomnhnmciopiiaaGreat
end
section
namespace Go.Proofs.YtomnhnmciopiiaaGreat
open Go Go.RowKit
def Bp:List UInt8:=[48,49,50,51,52,53,54,55,56,57,97,98,99,100,102,103,104,105,106,107,108,109,110,112,113,114,115,118,119,120,121,122]
def dk (k:Nat):UInt8:=Bp.getD k 0
def drain:Nat→Nat→Nat→List UInt8→Nat×Nat×List UInt8
 | 0,h,m,o=>(h,m,o)
 | f+1,h,m,o=>if 5≤m then drain f (h / 32) (m-5) (o++[dk (h % 32)]) else (h,m,o)
def iv (s:Nat×Nat×List UInt8) (x:UInt8):Nat×Nat×List UInt8:=drain 2 (s.1+x.toNat*2 ^ s.2.1) (s.2.1+8) s.2.2
def aU (h:List UInt8):List UInt8:=(h.foldl iv (0,0,[])).2.2
theorem rJ:∀ (f h m:Nat) (o:List UInt8),(drain f h m o).2.2.length≤o.length+f
 | 0,h,m,o=>by simp [drain]
 | f+1,h,m,o=>by
  rw [drain]
  split
  ·refine xaH (rJ f _ _ _) ?_
   rw [xak,xbq]
   omega
  ·dsimp only
   omega
theorem ei (h:List UInt8):(aU h).length≤2*h.length:=by
 have key:∀ (h:List UInt8) (s:Nat×Nat×List UInt8),(h.foldl iv s).2.2.length≤s.2.2.length+2*h.length:=by
  intro h
  induction h with
  | nil=>intro s;simp
  | cons x h ih =>
   intro s
   refine xaH (ih _) ?_
   have:=rJ 2 (s.1+x.toNat*2 ^ s.2.1) (s.2.1+8) s.2.2
   rw [xaF]
   unfold iv
   omega
 have:=key h (0,0,[])
 unfold aU
 simpa using this
theorem zE (held many x:Nat) (h1:held<2 ^ many) (h2:many<5) (h3:x≤255):bits .or .u32 (held:Int) ((x:Int)*2 ^ many % 4294967296)=((held+x*2 ^ many:Nat):Int):=by
 have h4:(2:Nat) ^ many≤16:=by
  have:many=0∨many=1∨many=2∨many=3∨many=4:=by omega
  rcases this with rfl | rfl | rfl | rfl | rfl<;>decide
 have h5:x*2 ^ many≤255*16:=Nat.mul_le_mul h3 h4
 have e1:(x:Int)*2 ^ many=((x*2 ^ many:Nat):Int):=by rw [Int.natCast_mul,Int.natCast_pow];rfl
 have e2:((2:Int) ^ many)=((2 ^ many:Nat):Int):=by rw [Int.natCast_pow];rfl
 have e3:(x*2 ^ many) % 2 ^ many=0:=Nat.mul_mod_left _ _
 rw [e1]
 generalize x*2 ^ many=n at h5 e3 ⊢
 rw [show (n:Int) % 4294967296=(n:Int) by omega,bits_join_low .u32 32 (by decide) wraps_u32 many _ _ (by omega) (by rw [e2];omega) (by omega) (by omega) (by rw [e2,← Int.natCast_emod,e3];rfl) (by omega)]
 omega
theorem Cu (hd:Nat) (h:hd<4294967296):bits .and .u32 (hd:Int) 31=((hd % 32:Nat):Int):=by
 have h1:=bits_mask .u32 32 (by decide) wraps_u32 5 (by decide) (hd:Int) (by omega) (by omega)
 rw [show (2:Int) ^ 5-1=31 by decide] at h1
 rw [h1]
 omega
def lh:ByteArray:=⟨#[48,49,50,51,52,53,54,55,56,57,97,98,99,100,102,103,104,105,106,107,108,109,110,112,113,114,115,118,119,120,121,122]⟩
theorem Bo (k:Nat) (hk:k<32) (t:TypeId) (ht:Tryz.prog.underlying t=some .string) (w:World):(xbC t (.string lh) (.int .u32 (k:Int))).run Tryz.prog w=.ok (.int .u8 ((dk k).toNat:Int)) w:=by
 have h:=run_index_string (P:=Tryz.prog) w t lh .u32 (k:Int) ht
 have h3:∀ k:Fin 32,(lh[k.val]'(k.isLt)).toNat=(dk k.val).toNat:=by decide
 have h2:0≤(k:Int)∧(k:Int)<(lh.size:Int):=⟨by omega,by rw [show lh.size=32 from rfl];omega⟩
 rw [h,dif_pos h2]
 have h4:=h3 ⟨k,hk⟩
 dsimp only at h4
 have h5:(lh[(k:Int).toNat]'(by rw [xbr];exact hk)).toNat=(dk k).toNat:=h4
 rw [h5]
theorem nL (w:World) (h:Hsh) (hh:okH h) :
  Calls Tryz.prog 181 #[.agg (bv h).toArray] w fun e w'=>e=.returned (.string ⟨(aU h).toArray⟩)∧Below w.heap.size w w':=by
 have hsz:=hsz hh
 obtain ⟨w1,hw1⟩:∃ w1,w1=w.alloc (.cells (bv h).toArray 34):=⟨_,rfl⟩
 obtain ⟨w2,hw2⟩:∃ w2,w2=w1.alloc (.cells #[.pointer none,.slice none 0 0] 288):=⟨_,rfl⟩
 have hb1:Below w.heap.size w w1:=by rw [hw1];exact (xao _ w).alloc (xag _) _
 have hk1:Blk w1 w.heap.size 34 (bv h).toArray:=by rw [hw1];exact Blk.new _ _ _
 have hb2:Below w1.heap.size w1 w2:=by rw [hw2];exact (xao _ w1).alloc (xag _) _
 have hk2:Blk w2 w1.heap.size 288 #[.pointer none,.slice none 0 0]:=by rw [hw2];exact Blk.new _ _ _
 have hbd:lQ w2 w1.heap.size w1.heap.size (.pointer none) (.slice none 0 0) []:=⟨xag _,.inl rfl,hk2,xbg _ _ _ _⟩
 have H2:=ab (xad (hk1.below hb2 hk1.lt) (xad hbd (hb1.trans (xar hb2 hb1.size))))
 have hz:=ab hb1.size
 have HW1:=ab hw1
 have HW2:=ab hw2
 have HSZ:=ab hsz
 clear hsz hb1 hk1 hb2 hk2 hbd hw1 hw2
 go_enter Tryz.func181,Tryz.ntmps181
 go_wp2_with (first | ((with_reducible refine ae 1 ?_);refine aa rfl (.pointer (some ⟨w.heap.size,0,none⟩)) w1 (by rw [HW1.out];kernel_rfl) ?_) | ((with_reducible refine ae 3 ?_);refine aa rfl (.pointer (some ⟨w1.heap.size,0,none⟩)) w2 (by rw [HW2.out];kernel_rfl) ?_) | ((with_reducible refine ae 8 ?_);refine aa rfl (.agg (bv h).toArray) w2 (av 34 (.tmp 1) rfl w.heap.size rfl 34 _ _ w2 H2.out.1 Tryz.underlying34 rfl HSZ.out) ?_))
 go_loopw [4,5,9] (fun x4 x5 x9 wr=>∃ (j held many:Nat) (out:List UInt8) (p u:Value),j≤20∧x9=.int .i64 (j:Int)∧x4=.int .u32 (held:Int)∧x5=.int .u32 (many:Int)∧(h.take j).foldl iv (0,0,[])=(held,many,out)∧held<2 ^ many∧many<5∧out.length≤2*j∧lQ wr w1.heap.size w1.heap.size p u (xb3 out)∧Below w1.heap.size w2 wr) (fun _ _ x9 _=>20-(intOf x9).toNat)
 case atStart=>exact ⟨0,0,0,[],_,_,by omega,rfl,rfl,rfl,rfl,by decide,by decide,by decide,H2.out.2.1,xao _ _⟩
 case round =>
  obtain ⟨wo,rfl⟩:∃ wo,wo=wr:=⟨_,rfl⟩
  obtain ⟨j,held,many,out,p,u,hj,rfl,rfl,rfl,hfo,hhe,hma,hol,hbd,hb⟩:=hrel
  have HI:=ab (xad hfo (xad hbd hb))
  clear hfo hbd hb
  have j0:(0:Int)≤(j:Int):=by omega
  by_cases hj2:j<20
  ·have j1:(j:Int)<20:=by omega
   obtain ⟨x,hx⟩:∃ x,h[j]?=some x:=⟨_,xai (by rw [show h.length=20 from hh];exact hj2)⟩
   have HXX:=ab hx
   have hv:=o6 h j (by rw [show h.length=20 from hh];exact hj2)
   have hxd:h.getD j 0=x:=by rw [xaX,hx];rfl
   rw [hxd] at hv
   have hidx:=kY (P:=Tryz.prog) 34 5 20 .u8 Tryz.underlying34 Tryz.underlying5 (by kernel_rfl) (bv h).toArray j hj2 _ hv
   clear hx hv hxd
   have x0:(0:Int)≤(x.toNat:Int):=by omega
   have x1:(x.toNat:Int)≤255:=by have:=x.toNat_lt;omega
   obtain ⟨hd,hhd⟩:∃ hd,hd=held+x.toNat*2 ^ many:=⟨_,rfl⟩
   have hor:=zE held many x.toNat hhe hma (by omega)
   rw [← hhd] at hor
   obtain ⟨D,hD⟩:∃ D,D=drain 2 hd (many+8) out:=⟨_,rfl⟩
   have hstep:(h.take (j+1)).foldl iv (0,0,[])=D:=by
    rw [xaB,HXX.out,List.foldl_append,HI.out.1,hD,hhd]
    rfl
   have hlt:hd<2 ^ (many+8):=by
    have h4:x.toNat<256:=by omega
    have h5:x.toNat*2 ^ many≤255*2 ^ many:=xbm _ (by omega)
    rw [hhd,xb6]
    omega
   have HS:=ab (xad hstep (xad hD hlt))
   clear hstep hD hlt hhd
   go_wp2_with fail
   go_loopw [4,5] (fun x4 x5 wr=>∃ (f hd mn:Nat) (o:List UInt8) (p u:Value),x4=.int .u32 (hd:Int)∧x5=.int .u32 (mn:Int)∧drain f hd mn o=D∧hd<2 ^ mn∧mn≤5*f+4∧mn≤12∧o.length+f≤2*j+2∧lQ wr w1.heap.size w1.heap.size p u (xb3 o)∧Below w1.heap.size w2 wr) (fun _ x5 _=>(intOf x5).toNat)
   case atStart=>exact ⟨2,hd,many+8,out,p,u,rfl,by go_num,HS.out.2.1.symm,HS.out.2.2,by omega,by omega,by omega,HI.out.2.1,HI.out.2.2⟩
   case round =>
    obtain ⟨wi,rfl⟩:∃ wi,wi=wr:=⟨_,rfl⟩
    obtain ⟨f,hd2,mn,o,p2,u2,rfl,rfl,hdr,hlt2,hmf,hm12,hof,hbd2,hb2⟩:=hrel
    have HJ:=ab (xad hdr (xad hbd2 hb2))
    clear hdr hbd2 hb2
    have h32:hd2<4294967296:=xaZ hlt2 (xaH (Nat.pow_le_pow_right (by decide) hm12) (by decide))
    by_cases hm5:5≤mn
    ·obtain ⟨f,rfl⟩:∃ f',f=f'+1:=⟨f-1,by omega⟩
     have hand:=Cu hd2 h32
     obtain ⟨k,hk⟩:∃ k,k=hd2 % 32:=⟨_,rfl⟩
     rw [← hk] at hand
     have hk32:k<32:=by omega
     have hix:=fun W=>Bo k hk32 9 Tryz.underlying9 W
     unfold lh at hix
     have hdr2:drain f (hd2 / 32) (mn-5) (o++[dk k])=D:=by
      have:=HJ.out.1
      rw [drain,if_pos hm5,← hk] at this
      exact this
     have hlt3:hd2 / 32<2 ^ (mn-5):=by
      rw [Nat.div_lt_iff_lt_mul (by decide),show (32:Nat)=2 ^ 5 from rfl,← xb6,show mn-5+5=mn by omega]
      exact hlt2
     have HR:=ab (xad hdr2 hlt3)
     clear hdr2 hlt3 hk
     go_wp2_with fail
     refine (vt wi w1.heap.size w1.heap.size p2 u2 (xb3 o) _ HJ.out.2.1 (by simp [xb3];omega) (Nat.le_of_lt HJ.out.2.1.2.2.1.lt)).mono ?_
     rintro e w5 ⟨rfl,⟨u5,hbd5⟩,hb5⟩
     dsimp only
     have hbc:xb3 o++[Value.int .u8 ((dk k).toNat:Int)]=xb3 (o++[dk k]):=by simp [xb3]
     rw [hbc] at hbd5
     have H5:=ab (xad hbd5 (HJ.out.2.2.trans hb5))
     clear hbd5 hb5 hbc
     go_wp2_with fail
     go_roundw
     case rel=>exact ⟨f,hd2 / 32,mn-5,o++[dk k],_,u5,by go_num,by go_num,HR.out.1,HR.out.2,by omega,by omega,by rw [xak,xbq];omega,H5.out.1,H5.out.2⟩
     case measure=>simp [intOf];omega
    ·have hf:drain f hd2 mn o=(hd2,mn,o):=by
      cases f with
      | zero=>rfl
      | succ f=>rw [drain,if_neg hm5]
     have HF:=ab (hf.symm.trans HJ.out.1)
     clear hf
     go_wp2_with fail
     go_roundw
     case rel=>exact ⟨j+1,hd2,mn,o,p2,u2,by omega,by go_num,rfl,rfl,HS.out.1.trans HF.out.symm,hlt2,by omega,by omega,HJ.out.2.1,HJ.out.2.2⟩
     case measure=>simp [intOf];omega
  ·obtain rfl:j=20:=by omega
   have e9:aU h=out:=by
    unfold aU
    rw [← xav (l:=h) (i:=20) (by rw [show h.length=20 from hh];exact xag _),HI.out.1]
   have HE:=ab e9
   clear e9
   go_wp2_with fail
   refine (Tryz.Builder_String_any w1.heap.size w1.heap.size out wo HI.out.2.1.is (by have:=HI.out.2.1.2.2.1.lt;omega)).mono ?_
   rintro e w5 ⟨rfl,hb5⟩
   dsimp only
   have H5:=ab (H2.out.2.2.trans (xar (HI.out.2.2.trans hb5) hz.out))
   go_wp2_with fail
   go_ret
   exact ⟨by rw [HE.out];rfl,H5.out⟩
end Go.Proofs.YtomnhnmciopiiaaGreat
end
section
namespace Go.Proofs.YtomnhnmciopiiaaGreat
open Go Go.RowKit
theorem bG {P:Program} {ρ:Operand→Value} {o:Oper} (t:TypeId) (x y:Operand) (r:TypeId) (ho:o.op=.binOp .add t x y r) (a b:ByteArray) (hx:ρ x=.string a) (hy:ρ y=.string b) (hs:a.size+b.size≤9223372036854775807) (W:World):(execOp ρ o).run P W=.ok (.value (.string (a++b))) W:=by
 unfold execOp
 simp [ho,hx,hy,go_sem,eqGuard,binOp,hs]
end Go.Proofs.YtomnhnmciopiiaaGreat
end
section
namespace Go.Proofs.YtomnhnmciopiiaaGreat
open Go Go.RowKit Go.Maps
theorem Ap {p:Pth} {w:World} {g:Nat} (_:okP p) (hb:Blk w g 83 (pC p).toArray):w.rangeAt g 0 (bv p.1):=by
 have h1:=en hb
 exact da (c2:=[.string p.2]) (by simpa [pC] using h1)
theorem sn {p:Pth} {w:World} {g:Nat} (h:okP p) (hb:Blk w g 83 (pC p).toArray):w.cell? ⟨g,20,none⟩=some (.string p.2):=by
 rw [hb.cell,xa0]
 have hl:(bv p.1).length=20:=by rw [bvL];exact h.1
 rw [show pC p=bv p.1++[.string p.2] from rfl,List.getElem?_append_right (by omega),hl]
 rfl
def ix (p:Pth):ByteArray:=⟨(aU p.1).toArray⟩++⟨#[45]⟩++p.2
theorem ez {s:ByteArray} (h:cy s=true):s.size≤24:=by
 unfold cy gJ at h
 simp only [xaw] at h
 have:=of_decide_eq_true h.2.2.1
 omega
theorem xH {h:Hsh} {s:ByteArray} (hh:okH h) (hs:s.size≤24):(⟨(aU h).toArray⟩:ByteArray).size+(⟨#[45]⟩:ByteArray).size≤9223372036854775807∧(⟨(aU h).toArray⟩++⟨#[45]⟩:ByteArray).size+s.size≤9223372036854775807:=by
 have hll:=ei h
 have hpl:h.length=20:=hh
 have hs1:(⟨(aU h).toArray⟩:ByteArray).size=(aU h).length:=rfl
 have hs2:(⟨#[45]⟩:ByteArray).size=1:=rfl
 rw [xaM,hs1,hs2]
 omega
theorem CV (w:World) (p:Pth) (hp:okP p) :
  Calls Tryz.prog 182 #[.agg (pC p).toArray] w fun e w'=>e=.returned (if cy p.2=true then .tuple #[.string (ix p),.int .i64 0] else .tuple #[.string ⟨#[]⟩,.int .i64 2])∧Below w.heap.size w w':=by
 obtain ⟨w1,hw1⟩:∃ w1,w1=w.alloc (.cells (pC p).toArray 83):=⟨_,rfl⟩
 have hb1:Below w.heap.size w w1:=by rw [hw1];exact (xao _ w).alloc (xag _) _
 have hk1:Blk w1 w.heap.size 83 (pC p).toArray:=by rw [hw1];exact Blk.new _ _ _
 have c20:=sn hp hk1
 have H1:=ab (xad hk1 hb1)
 have HW1:=ab hw1
 clear hk1 hb1 hw1
 go_enter Tryz.func182,Tryz.ntmps182
 go_wp2_with ((with_reducible refine ae 1 ?_);refine aa rfl (.pointer (some ⟨w.heap.size,0,none⟩)) w1 (by rw [HW1.out];kernel_rfl) ?_)
 refine (mu p.2 hp.2 w1).mono ?_
 rintro e w2 ⟨rfl,hb⟩
 dsimp only
 have HK:=ab (xad (H1.out.1.below hb H1.out.1.lt) (H1.out.2.trans (xar hb H1.out.2.size)))
 clear hb
 by_cases hn:cy p.2=true
 ·have HL:=ab (xH hp.1 (ez hn))
  rw [hn]
  go_wp2_with fail
  refine Fre.b4 (X:=Bel) 7 [] (by kernel_rfl) (by kernel_rfl) (by simp) (by simp) (by simp) ?_
  simp only [xau,xaC,xay,xaK]
  refine Fre.ag (.pointer (some ⟨w.heap.size,0,none⟩)) (by kernel_rfl) (by kernel_rfl) (by kernel_rfl) (fun _ _=>by kernel_rfl) ?_
  simp only [xae,xaa,xab,xac]
  refine Fre.ag (.agg (bv p.1).toArray) (by kernel_rfl) (by kernel_rfl) (by kernel_rfl) (fun W9 hW9=>ai 34 (.tmp 8) rfl w.heap.size (0) rfl (bv p.1) _ W9 (Ap hp (HK.out.1.below hW9 HK.out.1.lt)) Tryz.underlying34 rfl (by have:=bB hp.1;simpa using this)) ?_
  simp only [xae,xaa,xab,xac]
  refine Fre.fZ (.string ⟨(aU p.1).toArray⟩) 181 #[.agg (bv p.1).toArray] (by kernel_rfl) (by kernel_rfl) (by kernel_rfl) (fun W9=>by kernel_rfl) (fun W9 hW9=>(nL W9 p.1 hp.1)) ?_
  simp only [xae,xaa,xab,xac]
  refine Fre.ag (.string (⟨(aU p.1).toArray⟩++⟨#[45]⟩)) (by kernel_rfl) (by kernel_rfl) (by kernel_rfl) (fun W9 hW9=>bG 9 (.tmp 10) (.const (.string ⟨#[45]⟩)) 9 rfl (⟨(aU p.1).toArray⟩) (⟨#[45]⟩) rfl rfl (by have:=HL.out;exact this.1) W9) ?_
  simp only [xae,xaa,xab,xac]
  refine Fre.ag (.pointer (some ⟨w.heap.size,20,none⟩)) (by kernel_rfl) (by kernel_rfl) (by kernel_rfl) (fun _ _=>by kernel_rfl) ?_
  simp only [xae,xaa,xab,xac]
  refine Fre.ag (.string p.2) (by kernel_rfl) (by kernel_rfl) (by kernel_rfl) (fun W9 hW9=>exec_load_cell 9 (.tmp 12) rfl ⟨w.heap.size,20,none⟩ rfl _ _ W9 Tryz.underlying9 rfl (sn hp (HK.out.1.below hW9 HK.out.1.lt))) ?_
  simp only [xae,xaa,xab,xac]
  refine Fre.ag (.string ((⟨(aU p.1).toArray⟩++⟨#[45]⟩)++p.2)) (by kernel_rfl) (by kernel_rfl) (by kernel_rfl) (fun W9 hW9=>bG 9 (.tmp 11) (.tmp 13) 9 rfl ((⟨(aU p.1).toArray⟩++⟨#[45]⟩)) (p.2) rfl rfl (by have:=HL.out;exact this.2) W9) ?_
  simp only [xae,xaa,xab,xac]
  intro w4 hx4
  have H4:=ab (HK.out.2.trans (xar hx4 HK.out.2.size))
  clear hx4
  dsimp only [Fre.ended,xaE]
  go_wp2_with fail
  refine bodyPost_ret (v:=.tuple #[.string (ix p),.int .i64 0]) (by simp [results,Tryz.results182,ix,go_sem]) rfl ?_
  exact ⟨rfl,H4.out⟩
 ·have hn':cy p.2=false:=by simpa using hn
  rw [hn']
  go_wp2_with fail
  refine bodyPost_ret (v:=.tuple #[.string ⟨#[]⟩,.int .i64 2]) (by simp [results,Tryz.results182,go_sem]) rfl ?_
  exact ⟨rfl,HK.out.2⟩
def gG (x:Nam):ByteArray:=if x.2.2.2=true then ⟨#[99,108,97,115,115,32]⟩++x.1++⟨#[32]⟩++⟨(aU x.2.2.1).toArray⟩ else ⟨#[115,114,99,32]⟩++x.1++⟨#[32]⟩++ix x.2.1
theorem lC (p:Pth):(ix p).size=(aU p.1).length+1+p.2.size:=by
 rw [ix,xaM,xaM]
 rfl
theorem uR {x:Nam} (h:okN x) (hs:x.1.size≤24):(⟨#[99,108,97,115,115,32]⟩:ByteArray).size+x.1.size≤9223372036854775807∧(⟨#[99,108,97,115,115,32]⟩++x.1:ByteArray).size+(⟨#[32]⟩:ByteArray).size≤9223372036854775807∧(⟨#[99,108,97,115,115,32]⟩++x.1++⟨#[32]⟩:ByteArray).size+(⟨(aU x.2.2.1).toArray⟩:ByteArray).size≤9223372036854775807:=by
 have hll:=ei x.2.2.1
 have hpl:x.2.2.1.length=20:=h.2.2
 have hs1:(⟨(aU x.2.2.1).toArray⟩:ByteArray).size=(aU x.2.2.1).length:=rfl
 have hs2:(⟨#[32]⟩:ByteArray).size=1:=rfl
 have hs3:(⟨#[99,108,97,115,115,32]⟩:ByteArray).size=6:=rfl
 simp only [xaM,hs1,hs2,hs3]
 omega
theorem uS {x:Nam} (h:okN x) (hs:x.1.size≤24) (hp:x.2.1.2.size≤24):(⟨#[115,114,99,32]⟩:ByteArray).size+x.1.size≤9223372036854775807∧(⟨#[115,114,99,32]⟩++x.1:ByteArray).size+(⟨#[32]⟩:ByteArray).size≤9223372036854775807∧(⟨#[115,114,99,32]⟩++x.1++⟨#[32]⟩:ByteArray).size+(ix x.2.1).size≤9223372036854775807:=by
 have hll:=ei x.2.1.1
 have hpl:x.2.1.1.length=20:=h.2.1.1
 have hs2:(⟨#[32]⟩:ByteArray).size=1:=rfl
 have hs3:(⟨#[115,114,99,32]⟩:ByteArray).size=4:=rfl
 simp only [xaM,lC,hs2,hs3]
 omega
theorem Cr (w:World) (x:Nam) (hx:okN x) (hnm:x.1.size≤24) (hsrc:x.2.2.2=false→cy x.2.1.2=true) :
  Calls Tryz.prog 160 #[.agg (nC x).toArray] w fun e w'=>e=.returned (.string (gG x))∧Below w.heap.size w w':=by
 obtain ⟨w1,hw1⟩:∃ w1,w1=w.alloc (.cells (nC x).toArray 87):=⟨_,rfl⟩
 have hb1:Below w.heap.size w w1:=by rw [hw1];exact (xao _ w).alloc (xag _) _
 have hk1:Blk w1 w.heap.size 87 (nC x).toArray:=by rw [hw1];exact Blk.new _ _ _
 have H1:=ab (xad hk1 hb1)
 have HW1:=ab hw1
 clear hk1 hb1 hw1
 by_cases his:x.2.2.2=true
 ·have HIS:=ab his
  have c42:=iw hx H1.out.1
  rw [his] at c42
  have HL:=ab (uR (x:=x) hx hnm)
  clear his
  go_enter Tryz.func160,Tryz.ntmps160
  go_wp2_with ((with_reducible refine ae 1 ?_);refine aa rfl (.pointer (some ⟨w.heap.size,0,none⟩)) w1 (by rw [HW1.out];kernel_rfl) ?_)
  refine Fre.b4 (X:=Bel) 9 [] (by kernel_rfl) (by kernel_rfl) (by simp) (by simp) (by simp) ?_
  simp only [xau,xaC,xay,xaK]
  refine Fre.ag (.pointer (some ⟨w.heap.size,0,none⟩)) (by kernel_rfl) (by kernel_rfl) (by kernel_rfl) (fun _ _=>by kernel_rfl) ?_
  simp only [xae,xaa,xab,xac]
  refine Fre.ag (.string x.1) (by kernel_rfl) (by kernel_rfl) (by kernel_rfl) (fun W9 hW9=>exec_load_cell 9 (.tmp 8) rfl ⟨w.heap.size,0,none⟩ rfl _ _ W9 Tryz.underlying9 rfl (gi (H1.out.1.below hW9 H1.out.1.lt))) ?_
  simp only [xae,xaa,xab,xac]
  refine Fre.ag (.string (⟨#[99,108,97,115,115,32]⟩++x.1)) (by kernel_rfl) (by kernel_rfl) (by kernel_rfl) (fun W9 hW9=>bG 9 (.const (.string ⟨#[99,108,97,115,115,32]⟩)) (.tmp 9) 9 rfl (⟨#[99,108,97,115,115,32]⟩) (x.1) rfl rfl HL.out.1 W9) ?_
  simp only [xae,xaa,xab,xac]
  refine Fre.ag (.string ((⟨#[99,108,97,115,115,32]⟩++x.1)++⟨#[32]⟩)) (by kernel_rfl) (by kernel_rfl) (by kernel_rfl) (fun W9 hW9=>bG 9 (.tmp 10) (.const (.string ⟨#[32]⟩)) 9 rfl ((⟨#[99,108,97,115,115,32]⟩++x.1)) (⟨#[32]⟩) rfl rfl HL.out.2.1 W9) ?_
  simp only [xae,xaa,xab,xac]
  refine Fre.ag (.pointer (some ⟨w.heap.size,1,none⟩)) (by kernel_rfl) (by kernel_rfl) (by kernel_rfl) (fun _ _=>by kernel_rfl) ?_
  simp only [xae,xaa,xab,xac]
  refine Fre.ag (.pointer (some ⟨w.heap.size,22,none⟩)) (by kernel_rfl) (by kernel_rfl) (by kernel_rfl) (fun _ _=>by kernel_rfl) ?_
  simp only [xae,xaa,xab,xac]
  refine Fre.ag (.agg (bv x.2.2.1).toArray) (by kernel_rfl) (by kernel_rfl) (by kernel_rfl) (fun W9 hW9=>ai 34 (.tmp 13) rfl w.heap.size (22) rfl (bv x.2.2.1) _ W9 (jq hx (H1.out.1.below hW9 H1.out.1.lt)) Tryz.underlying34 rfl (by have:=bB hx.2.2;simpa using this)) ?_
  simp only [xae,xaa,xab,xac]
  refine Fre.fZ (.string ⟨(aU x.2.2.1).toArray⟩) 181 #[.agg (bv x.2.2.1).toArray] (by kernel_rfl) (by kernel_rfl) (by kernel_rfl) (fun W9=>by kernel_rfl) (fun W9 hW9=>(nL W9 x.2.2.1 hx.2.2)) ?_
  simp only [xae,xaa,xab,xac]
  refine Fre.ag (.string ((⟨#[99,108,97,115,115,32]⟩++x.1++⟨#[32]⟩)++⟨(aU x.2.2.1).toArray⟩)) (by kernel_rfl) (by kernel_rfl) (by kernel_rfl) (fun W9 hW9=>bG 9 (.tmp 11) (.tmp 15) 9 rfl ((⟨#[99,108,97,115,115,32]⟩++x.1++⟨#[32]⟩)) (⟨(aU x.2.2.1).toArray⟩) rfl rfl HL.out.2.2 W9) ?_
  simp only [xae,xaa,xab,xac]
  intro w4 hx4
  have H4:=ab (H1.out.2.trans (xar hx4 H1.out.2.size))
  clear hx4
  dsimp only [Fre.ended,xaE]
  go_wp2_with fail
  go_ret
  exact ⟨by rw [gG,if_pos HIS.out];rfl,H4.out⟩
 ·have his':x.2.2.2=false:=by simpa using his
  have HIS:=ab his
  have c42:=iw hx H1.out.1
  rw [his'] at c42
  have hszp:(Tryz.prog.info? 83).map (·.size)=some (pC x.2.1).length:=by have:=psz hx.2.1;simpa using this
  have hpn:=hsrc his'
  have c0:=gi H1.out.1
  have HL:=ab (uS (x:=x) hx hnm (ez hpn))
  have HPN:=ab hpn
  clear his his' hsrc hpn
  go_enter Tryz.func160,Tryz.ntmps160
  go_wp2_with (first | ((with_reducible refine ae 1 ?_);(refine aa rfl (.pointer (some ⟨w.heap.size,0,none⟩)) w1 (by rw [HW1.out];kernel_rfl) ?_)) | ((with_reducible refine ae 20 ?_);(refine aa rfl (.agg (pC x.2.1).toArray) w1 (ai 83 (.tmp 19) rfl w.heap.size (1) rfl (pC x.2.1) _ w1 (m9 H1.out.1) Tryz.underlying83 rfl hszp) ?_)))
  refine (CV w1 x.2.1 hx.2.1).mono ?_
  rintro e w2 ⟨rfl,hb⟩
  rw [if_pos HPN.out]
  dsimp only
  have c0':=gi (H1.out.1.below hb H1.out.1.lt)
  have H2:=ab (H1.out.2.trans (xar hb H1.out.2.size))
  have hs1:=HL.out.1
  have hs2:=HL.out.2.1
  have hs3:=HL.out.2.2
  clear hb c0 c42
  go_wp2_with (first | ((with_reducible refine ae 26 ?_);(refine aa rfl (.string (⟨#[115,114,99,32]⟩++x.1)) w2 (bG _ _ _ _ rfl ⟨#[115,114,99,32]⟩ x.1 rfl rfl hs1 w2) ?_)) | ((with_reducible refine ae 27 ?_);(refine aa rfl (.string (⟨#[115,114,99,32]⟩++x.1++⟨#[32]⟩)) w2 (bG _ _ _ _ rfl (⟨#[115,114,99,32]⟩++x.1) ⟨#[32]⟩ rfl rfl hs2 w2) ?_)) | ((with_reducible refine ae 29 ?_);(refine aa rfl (.string (⟨#[115,114,99,32]⟩++x.1++⟨#[32]⟩++ix x.2.1)) w2 (bG _ _ _ _ rfl (⟨#[115,114,99,32]⟩++x.1++⟨#[32]⟩) (ix x.2.1) rfl rfl hs3 w2) ?_)))
  go_ret
  exact ⟨by rw [gG,if_neg HIS.out];rfl,H2.out⟩
end Go.Proofs.YtomnhnmciopiiaaGreat
end
section
namespace Go.Proofs.YtomnhnmciopiiaaGreat
open Go Go.RowKit Go.Maps
def DS:List UInt8:=[48,49,50,51,52,53,54,55,56,57,97,98,99,100,101,102]
def bJ (k:Int):UInt8:=DS.getD k.toNat 0
def fD:ByteArray:=⟨#[48,49,50,51,52,53,54,55,56,57,97,98,99,100,101,102]⟩
theorem rH (k:Int) (h0:0≤k) (h1:k<16) (t:TypeId) (ht:Tryz.prog.underlying t=some .string) (w:World):(xbC t (.string fD) (.int .u8 k)).run Tryz.prog w=.ok (.int .u8 ((bJ k).toNat:Int)) w:=by
 obtain ⟨n,rfl⟩:=Int.eq_ofNat_of_zero_le h0
 have h:=run_index_string (P:=Tryz.prog) w t fD .u8 (n:Int) ht
 have h3:∀ k:Fin 16,(fD[k.val]'(k.isLt)).toNat=(bJ (k.val:Int)).toNat:=by decide
 have h2:0≤(n:Int)∧(n:Int)<(fD.size:Int):=⟨by omega,by rw [show fD.size=16 from rfl];omega⟩
 rw [h,dif_pos h2]
 have h4:=h3 ⟨n,by omega⟩
 dsimp only at h4
 have h5:(fD[(n:Int).toNat]'(by rw [xbr];exact (show n<16 by omega))).toNat=(bJ (n:Int)).toNat:=h4
 rw [h5]
theorem me {P:Program} {ρ:Operand→Value} {o:Oper} (t:TypeId) (x y:Operand) (ho:o.op=.index t x y) (s:ByteArray) (k:IntKind) (i:Int) (hx:ρ x=.string s) (hy:ρ y=.int k i) (v:Value) (hv:∀ W,(xbC t (.string s) (.int k i)).run P W=.ok v W) (W:World):(execOp ρ o).run P W=.ok (.value v) W:=by
 unfold execOp
 simp only [ho,hx,hy,xaI,hv W,xat,xaQ]
theorem Gx (c:Int) (h0:0≤c) (h1:c≤255):bits .and .u8 c 15=c % 16:=bits_mask .u8 8 (by decide) wraps_u8 4 (by decide) c h0 (by omega)
theorem bU {w:World} {g n m:Nat} {t:TypeId} {cs:List Value} (hb:Blk w g t cs.toArray) (hl:cs.length=m*n) (h1:∀ u∈cs,u.oneCell'=true):eZ w n (some ⟨g,0,none⟩) m m cs :=
 ⟨hl,(fun h=>by cases h),h1,fun ad had j u hu=>by
  injection had with had
  subst had
  rw [Addr.add_mid,Nat.zero_add,hb.cell]
  simpa using hu⟩
def Fu (xs:List Value) (u:Value) (w:World):Prop:=∃ r,u=.slice (some ⟨r,0,none⟩) 2 2∧eZ w 1 (some ⟨r,0,none⟩) 2 2 xs
theorem C7 (W:World) (a b:Int):Fu [.int .u8 a,.int .u8 b] (.slice (some ⟨W.heap.size,0,none⟩) 2 2) (W.alloc (.cells #[.int .u8 a,.int .u8 b] 5)) :=
 ⟨_,rfl,bU (n:=1) (m:=2) (Blk.new _ _ _) rfl (fun v hv=>by simp only [xaD,xaS,or_false] at hv;rcases hv with rfl | rfl<;>rfl)⟩
theorem EI (xs:List Value):Fre.df Bel (Fu xs):=⟨fun u w w' ⟨r,h1,h2⟩ hx=>⟨r,h1,h2.below hx⟩⟩
def cQ (b:List Int):List UInt8:=b.flatMap fun c=>[bJ (c / 16),bJ (c % 16)]
def di (b:List Int):List UInt8:=if b=[] then [45] else cQ b
theorem jN (b:List Int):(cQ b).length=2*b.length:=by
 induction b with
 | nil=>rfl
 | cons c b ih=>rw [cQ,xbf,xak,show (b.flatMap fun c=>[bJ (c / 16),bJ (c % 16)])=cQ b from rfl,ih];simp;omega
theorem xS (b:List Int) (j:Nat) (c:Int) (h:b[j]?=some c):bv (cQ (b.take (j+1)))=bv (cQ (b.take j))++[.int .u8 ((bJ (c / 16)).toNat:Int),.int .u8 ((bJ (c % 16)).toNat:Int)]:=by
 rw [xaB,h,cQ,List.flatMap_append]
 simp [bv,cQ]
theorem sh {w:World} {base g n cap s:Nat} {e:TypeId} {xs:List Value} (h:w.ownsRow base e s (.slice (some ⟨g,0,none⟩) n cap) n xs) (j:Nat) (v:Value) (hv:xs[j]?=some v):w.cell? ⟨g,j,none⟩=some v:=by
 obtain ⟨_,h | ⟨g',cap',cur,e1,_,hb,_,_,_,ht⟩⟩:=h
 ·cases h.1
 ·injection e1 with e1 _ _
  injection e1 with e1
  injection e1 with e1
  subst e1
  have hb':Blk w g e cur:=hb
  rw [hb'.cell]
  rw [← ht,List.getElem?_take] at hv
  split at hv
  ·simpa using hv
  ·cases hv
theorem eS {P:Program} {ρ:Operand→Value} {o:Oper} (src dst:TypeId) (x:Operand) (ho:o.op=.convert src dst x) (v:Value) (hx:ρ x=v) (u:Value) {W:World} (hr:(convert src dst v).run P W=.ok u W):(execOp ρ o).run P W=.ok (.value u) W:=by
 unfold execOp
 simp only [ho,hx,xaI,hr,xat,xaQ]
theorem AM (w:World) (b:List Int) (v:Value) (h:cA.At w w.heap.size [v] b) (hl:b.length≤1000000) :
  Calls Tryz.prog 162 #[v] w fun e w'=>e=.returned (.string ⟨(di b).toArray⟩)∧Below w.heap.size w w':=by
 obtain ⟨iu8,hih,hq0,hq1,hq2⟩:=info_parts rV
 have HK:=ab (xad hih (xad hq0 (xad hq1 hq2)))
 clear hih hq0 hq1 hq2
 obtain ⟨A,cap,rfl,hcl,hcm,_,hA⟩:=aj h
 have HA:=ab hA
 clear hA h hcm hcl
 by_cases hb0:b=[]
 ·subst hb0
  go_enter Tryz.func162,Tryz.ntmps162
  go_wp2_with fail
  go_ret
  exact ⟨rfl,xao _ _⟩
 ·have hpos:0<b.length:=List.length_pos_iff.2 hb0
  have e1:((b.length:Int) == 0)=false:=by simpa using hb0
  go_enter Tryz.func162,Tryz.ntmps162
  go_wp2_with (at_make;refine wpList_make_own _ rfl _ _ 24 rfl w.heap.size 5 iu8 _ 1 Tryz.underlying24 HK.out.1 HK.out.2.1 HK.out.2.2.1 _ _ _ (2*b.length) rfl rfl ?hC ?hB ?hM ?hZ ?_)
  case hC=>omega
  case hB=>have:=HK.out.2.2.2;rw [this];omega
  case hM=>simp only [maxLen];omega
  case hZ=>exact xag _
  intro w2 eM gr2
  have H2:=ab (xad eM ((xao _ w).grown gr2 (xag _) (fun k hk=>by cases hk)))
  clear eM gr2
  go_wp2_with fail
  go_loopw [3,15] (fun x3 x15 wr=>∃ (j:Nat) (u:Value),j≤b.length∧u=x3∧x15=.int .i64 (j:Int)∧wr.ownsRow w.heap.size 5 1 u (2*j) (bv (cQ (b.take j)))∧Below w.heap.size w wr) (fun _ x15 _=>b.length-(intOf x15).toNat)
  case atStart=>exact ⟨0,_,by omega,rfl,rfl,H2.out.1,H2.out.2⟩
  case round =>
   obtain ⟨wo,rfl⟩:∃ wo,wo=wr:=⟨_,rfl⟩
   obtain ⟨j,x3,hj,rfl,rfl,hown,hbw⟩:=hrel
   have HI:=ab (xad hown hbw)
   clear hown hbw
   have j0:(0:Int)≤(j:Int):=by omega
   by_cases hj2:j<b.length
   ·have j1:(j:Int)<(b.length:Int):=by omega
    obtain ⟨c,hx⟩:∃ c,b[j]?=some c:=⟨_,xai hj2⟩
    obtain ⟨bb,off,rfl,hlb,hE⟩:=HA.out (by omega)
    obtain ⟨cs,hr,hcs,hcw⟩:=hE j c hx
    subst hcs
    have hcb:=bounds_u8 hcw
    have c0:0≤c:=hcb.1
    have c1:c≤255:=by omega
    have hc9:wo.cell? ⟨bb,off+j,none⟩=some (.int .u8 c):=by have h9:=bX hr (HI.out.2.block bb (by omega)) 0 _ rfl;rwa [show off+j*(Lay.int 5 IntKind.u8).n+0=off+j by show off+j*1+0=off+j;omega] at h9
    have HXX:=ab hx
    have HC9:=ab hc9
    clear hx hE hr hcw hc9
    go_wp2_with (first | ((with_reducible refine ae 17 ?_);refine aa rfl (.pointer (some ⟨bb,off+(j:Int).toNat*1,none⟩)) wo (aJ 24 5 (.tmp 13) (.tmp 15) rfl bb off b.length cap (j:Int) .i64 rfl rfl ⟨j0,j1⟩ 1 Tryz.underlying24 (by kernel_rfl) wo) ?_;rw [show off+(j:Int).toNat*1=off+j by omega]) | ((with_reducible refine ae 18 ?_);refine aa rfl (.int .u8 c) wo (exec_load_cell 5 (.tmp 17) rfl ⟨bb,off+j,none⟩ rfl _ _ wo Tryz.underlying5 rfl HC9.out) ?_))
    refine Fre.b4 (X:=Bel) 8 [(26,Fu [.int .u8 ((bJ (c / 16)).toNat:Int),.int .u8 ((bJ (c % 16)).toNat:Int)])] (by kernel_rfl) (by kernel_rfl) (by intro p hp;rw [xan.1 hp];exact EI _) (by simp) (by simp) ?_
    simp only [xau,xaC,xay,xaK]
    refine Fre.ag (x3) (by kernel_rfl) (by kernel_rfl) (by kernel_rfl) (fun _ _=>by kernel_rfl) ?_
    simp only [xae,xaa,xab,xac]
    refine Fre.ag (.int .u8 c) (by kernel_rfl) (by kernel_rfl) (by kernel_rfl) (fun _ _=>by kernel_rfl) ?_
    simp only [xae,xaa,xab,xac]
    refine Fre.ag (.int .u8 (c / 16)) (by kernel_rfl) (by kernel_rfl) (by kernel_rfl) (fun W9 hW9=>?hs1) ?_
    case hs1 =>
     go_simp
     done
    simp only [xae,xaa,xab,xac]
    refine Fre.ag (.int .u8 ((bJ (c / 16)).toNat:Int)) (by kernel_rfl) (by kernel_rfl) (by kernel_rfl) (fun W9 hW9=>me 9 (.const (.string ⟨#[48,49,50,51,52,53,54,55,56,57,97,98,99,100,101,102]⟩)) (.tmp 21) rfl fD .u8 (c / 16) rfl rfl _ (fun W=>rH (c / 16) (by omega) (by omega) 9 Tryz.underlying9 W) W9) ?_
    simp only [xae,xaa,xab,xac]
    refine Fre.ag (.int .u8 c) (by kernel_rfl) (by kernel_rfl) (by kernel_rfl) (fun _ _=>by kernel_rfl) ?_
    simp only [xae,xaa,xab,xac]
    refine Fre.ag (.int .u8 (c % 16)) (by kernel_rfl) (by kernel_rfl) (by kernel_rfl) (fun W9 hW9=>?hs2) ?_
    case hs2 =>
     go_simp
     exact Gx c c0 c1
    simp only [xae,xaa,xab,xac]
    refine Fre.ag (.int .u8 ((bJ (c % 16)).toNat:Int)) (by kernel_rfl) (by kernel_rfl) (by kernel_rfl) (fun W9 hW9=>me 9 (.const (.string ⟨#[48,49,50,51,52,53,54,55,56,57,97,98,99,100,101,102]⟩)) (.tmp 24) rfl fD .u8 (c % 16) rfl rfl _ (fun W=>rH (c % 16) (by omega) (by omega) 9 Tryz.underlying9 W) W9) ?_
    simp only [xae,xaa,xab,xac]
    refine Fre.gI 26 _ (by kernel_rfl) (by kernel_rfl) rfl rfl (fun W hW=>⟨.slice (some ⟨W.heap.size,0,none⟩) 2 2,W.alloc (.cells #[.int .u8 ((bJ (c / 16)).toNat:Int),.int .u8 ((bJ (c % 16)).toNat:Int)] 5),by kernel_rfl,(xao _ W).alloc (xag _) _,C7 W _ _⟩) ?_
    simp only [xae,xaa,xab,xac]
    intro w4 hx4
    dsimp only [Fre.ended,xaE]
    rintro u26 ⟨r,rfl,hsr⟩
    have HO4:=ab (xad (ao HI.out.1 fun g _ hl=>hx4.block g hl) (xad hsr (HI.out.2.trans (xar hx4 HI.out.2.size))))
    clear hsr hx4
    go_wp2_with (at_builtin;((with_reducible refine ae 27 ?_);refine aE rfl _ _ 24 rfl w.heap.size 5 iu8 _ 1 1 Tryz.underlying24 HK.out.1 HK.out.2.1 HK.out.2.2.1 HK.out.2.2.2 rfl (by decide) _ (2*j) (bv (cQ (b.take j))) HO4.out.1 (some ⟨r,0,none⟩) 2 2 [.int .u8 ((bJ (c / 16)).toNat:Int),.int .u8 ((bJ (c % 16)).toNat:Int)] HO4.out.2.1 ?hm1 ?hb1 ?hz1 rfl rfl ?_))
    case hm1=>simp only [maxLen];omega
    case hb1=>omega
    case hz1=>exact HO4.out.2.2.size
    intro u5 w5 own5 gr5 _
    have hsn:bv (cQ (b.take (j+1)))=bv (cQ (b.take j))++[.int .u8 ((bJ (c / 16)).toNat:Int),.int .u8 ((bJ (c % 16)).toNat:Int)]:=xS b j c HXX.out
    rw [← hsn] at own5
    have HO5:=ab (xad own5 (HO4.out.2.2.grown gr5 HO4.out.2.2.size (fun k hk=>(az HO4.out.1 hk).1)))
    clear own5 gr5 hsn
    go_wp2_with fail
    go_roundw
    case rel=>exact ⟨j+1,u5,by omega,rfl,by go_num,HO5.out.1,HO5.out.2⟩
    case measure=>simp [intOf];omega
   ·obtain rfl:j=b.length:=by omega
    have hown:=HI.out.1
    rw [xaG] at hown
    obtain ⟨g,cap3,rfl⟩:=hJ hown (by omega)
    have hlen:=jN b
    have hcv:=run_convert_bytes_back (P:=Tryz.prog) wo 24 9 5 ⟨g,0,none⟩ cap3 (cQ b) Tryz.underlying24 Tryz.underlying5 Tryz.underlying9 (by
     intro k hk
     have h9:wo.cell? ⟨g,k,none⟩=some (.int .u8 ((cQ b)[k].toNat:Int)):=sh hown k (.int .u8 ((cQ b)[k].toNat:Int)) (by rw [bv,xaL,xai hk];rfl)
     rw [Addr.add_mid,Nat.zero_add]
     exact h9)
    rw [hlen] at hcv
    have HE:=ab (xad HI.out.2 hcv)
    clear hown hlen hcv
    go_wp2_with ((with_reducible refine ae 30 ?_);refine aa rfl (.string ⟨(cQ b).toArray⟩) wo (eS 24 9 (.tmp 29) rfl _ rfl _ HE.out.2) ?_)
    go_ret
    exact ⟨by rw [di,if_neg hb0];rfl,HE.out.1⟩
end Go.Proofs.YtomnhnmciopiiaaGreat
end
section
namespace Go.Proofs.YtomnhnmciopiiaaGreat
open Go Go.RowKit Go.Maps
def dD (w:World) (g:Nat) (s:ByteArray):Prop:=(∃ cs fz,w.heap[g]?=some (.cells cs 5 fz))∧∀ j,j<s.size→w.cell? ⟨g,j,none⟩=some (.int .u8 ((s.data.toList.getD j 0).toNat:Int))
theorem kq {P:Program} {ops:Array Oper} {rest:List Oper} {o:Oper} {a:Act} {w:World} {Q:Exit→Act→World→Prop} (hg:o.guard=none) (src dst e:TypeId) (x:Operand) (ho:o.op=.convert src dst x)
  (hs:P.underlying src=some .string) (hd:P.underlying dst=some (.slice e)) (he:P.underlying e=some (.int .u8)) (s:ByteArray) (hx:a.eval x=.string s)
  (h:∀ g cap w',((∃ cs fz,w'.heap[g]?=some (.cells cs e fz))∧∀ j,j<s.size→w'.cell? ⟨g,j,none⟩=some (.int .u8 ((s.data.toList.getD j 0).toNat:Int)))→s.size≤cap→w.heap.size≤g→g<w'.heap.size→Below w.heap.size w w' →
   wpList P ops Q rest (a.put o.dst (.slice (some ⟨g,0,none⟩) s.size cap)) w'):wpList P ops Q (o :: rest) a w :=
 wpList_plain hg fun K hK=>by
  unfold Oper.wp execOp
  simp only [ho,hx,xaI,run_bytes_of_string w src dst e s hs hd he,xat,xaQ]
  refine hK _ _ (h w.heap.size (grownCap w s.size 0 e) _ ⟨?_,?_⟩ (grownCap_ge w s.size 0 e) (xag _) ?_ ?_)
  ·exact ⟨_,_,heap_alloc_new w.drew _⟩
  ·intro j hj
   refine (World.cell?_alloc_mark w.drew _ e _ j).trans ?_
   rw [bytesRow_at s _ j hj]
   have hj':j<s.data.size:=hj
   simp [List.getD,Array.getElem?_eq_getElem hj']
  ·show _<(w.heap.push _).size
   simp
  ·exact ((xao _ _).drew).alloc (xag _) _
def gM (d:Drv) (j:Nat):List ByteArray:=(⟨#[100,114,118,32]⟩++d.1) :: (d.2.1.take j).map gG
def cU (d:Drv):List ByteArray:=(⟨#[100,114,118,32]⟩++d.1) :: (d.2.1.map gG++[⟨#[114,117,110,32]⟩++⟨(di d.2.2).toArray⟩])
def a8 (d:Drv):ByteArray:=⟨(xbV ((cU d).map (·.data.toList)) [10]).toArray⟩++⟨#[10]⟩
def bF (d:Drv):Int:=if jV d=true then (if 2000<(a8 d).size then 3 else 0) else 2
theorem xl (d:Drv) (j:Nat) (x:Nam) (h:d.2.1[j]?=some x):(gM d j).map xbd++[.string (gG x)]=(gM d (j+1)).map xbd:=by
 unfold gM
 rw [xaB,h]
 simp
theorem zL (d:Drv):(gM d d.2.1.length).map xbd++[.string (⟨#[114,117,110,32]⟩++⟨(di d.2.2).toArray⟩)]=(cU d).map xbd:=by
 unfold gM cU
 rw [xaG]
 simp
theorem pU (d:Drv):(cU d).length=d.2.1.length+1+1:=by simp [cU]
theorem mP {d:Drv} (h:jV d=true):cy d.1=true∧(d.2.1.length:Int)≤8∧(d.2.2.length:Int)≤1000:=by
 unfold jV at h
 simp only [xaw] at h
 exact ⟨h.2.1,of_decide_eq_true h.2.2.1,of_decide_eq_true h.2.2.2⟩
theorem nB:∀ (l:List Nam) (b:ByteArray),fC l b=true→∀ x∈l,x.1.size≤24∧(x.2.2.2=false→cy x.2.1.2=true)
 | [],_,_,x,hx=>by cases hx
 | y :: l,b,h,x,hx=>by
  rw [fC,xaw] at h
  rcases xaD.1 hx with rfl | hx
  ·have h1:=h.1
   unfold jC at h1
   simp only [xaw] at h1
   refine ⟨ez h1.1.1,fun hf=>?_⟩
   have h2:=h1.2
   rw [hf] at h2
   simp only [xbI,if_false,xaw] at h2
   exact h2.1
  ·exact nB l y.1 h.2 x hx
theorem o9 {d:Drv} (h:jV d=true):∀ x∈d.2.1,x.1.size≤24∧(x.2.2.2=false→cy x.2.1.2=true):=by
 unfold jV at h
 simp only [xaw] at h
 exact nB _ _ h.1
theorem lI (b:List Int):(di b).length≤2*b.length+1:=by
 unfold di
 split
 ·simp
 ·rw [jN];omega
theorem AI (b:List Int) (h:b.length≤1000):(⟨#[114,117,110,32]⟩:ByteArray).size+(⟨(di b).toArray⟩:ByteArray).size≤9223372036854775807:=by
 have h1:(⟨#[114,117,110,32]⟩:ByteArray).size=4:=rfl
 have h2:(⟨(di b).toArray⟩:ByteArray).size=(di b).length:=rfl
 have:=lI b
 omega
theorem CP {w:World} {base g n cap s:Nat} {e:TypeId} {xs:List Value} (h:w.ownsRow base e s (.slice (some ⟨g,0,none⟩) n cap) n xs):n≤cap:=by
 obtain ⟨_,h | ⟨g',cap',cur,e1,_,_,h2,_⟩⟩:=h
 ·cases h.1
 ·injection e1 with _ _ e3
  rw [e3]
  exact h2
theorem zK {x:Nam} (hs:x.1.size≤24) (hp:x.2.2.2=false→cy x.2.1.2=true) (h1:(aU x.2.2.1).length≤40) (h2:(aU x.2.1.1).length≤40):(gG x).size≤100:=by
 unfold gG
 split
 ·have hs1:(⟨(aU x.2.2.1).toArray⟩:ByteArray).size=(aU x.2.2.1).length:=rfl
  have hs2:(⟨#[32]⟩:ByteArray).size=1:=rfl
  have hs3:(⟨#[99,108,97,115,115,32]⟩:ByteArray).size=6:=rfl
  simp only [xaM,hs1,hs2,hs3]
  omega
 ·rename_i hf
  have hp2:=ez (hp (by simpa using hf))
  have hs2:(⟨#[32]⟩:ByteArray).size=1:=rfl
  have hs3:(⟨#[115,114,99,32]⟩:ByteArray).size=4:=rfl
  simp only [xaM,lC,hs2,hs3]
  omega
theorem El (l:List ByteArray) (k:Nat) (h:∀ s∈l,s.size≤k):xcC (l.map (·.data.toList))≤k*l.length:=by
 induction l with
 | nil=>exact Nat.zero_le _
 | cons s l ih =>
  have h1:=ih fun x hx=>h x (List.mem_cons_of_mem _ hx)
  have h2:=h s (List.mem_cons_self ..)
  have h3:s.data.toList.length=s.size:=rfl
  have e:xcC ((s :: l).map (·.data.toList))=s.data.toList.length+xcC (l.map (·.data.toList)):=by simp [xcC]
  rw [e,xaF,h3,Nat.mul_add,Nat.mul_one]
  omega
theorem xg {d:Drv} (hok:∀ x∈d.2.1,okN x) (h:jV d=true):(xbV ((cU d).map (·.data.toList)) [10]).length≤30000:=by
 have hs:=mP h
 have hn:=ez hs.1
 have hl:xcC ((cU d).map (·.data.toList))≤2100*(cU d).length:=El _ _ fun s hm=>by
  unfold cU at hm
  rcases xaD.1 hm with rfl | hm
  ·have:(⟨#[100,114,118,32]⟩:ByteArray).size=4:=rfl
   rw [xaM]
   omega
  ·rcases xax.1 hm with hm | hm
   ·obtain ⟨x,hx,rfl⟩:=xaA.1 hm
    have h1:=o9 h x hx
    have h2:=ei x.2.2.1
    have h3:=ei x.2.1.1
    have h4:x.2.2.1.length=20:=(hok x hx).2.2
    have h5:x.2.1.1.length=20:=(hok x hx).2.1.1
    have:=zK h1.1 h1.2 (by omega) (by omega)
    omega
   ·rw [xan.1 hm,xaM]
    have h1:(⟨#[114,117,110,32]⟩:ByteArray).size=4:=rfl
    have h2:(⟨(di d.2.2).toArray⟩:ByteArray).size=(di d.2.2).length:=rfl
    have:=lI d.2.2
    omega
 have hlp:=pU d
 have e:(cU d).map (·.data.toList)=(⟨#[100,114,118,32]⟩++d.1:ByteArray).data.toList :: (d.2.1.map gG++[⟨#[114,117,110,32]⟩++⟨(di d.2.2).toArray⟩]:List ByteArray).map (·.data.toList):=rfl
 rw [e,Lib.join_length,← e,xap,xak,xap]
 simp only [xaF,List.length_nil]
 omega
theorem Ch {d:Drv} (h:(xbV ((cU d).map (·.data.toList)) [10]).length≤30000):(⟨(xbV ((cU d).map (·.data.toList)) [10]).toArray⟩:ByteArray).size+(⟨#[10]⟩:ByteArray).size≤9223372036854775807:=by
 have h1:(⟨(xbV ((cU d).map (·.data.toList)) [10]).toArray⟩:ByteArray).size=(xbV ((cU d).map (·.data.toList)) [10]).length:=rfl
 have h2:(⟨#[10]⟩:ByteArray).size=1:=rfl
 omega
theorem au.eD {w w':World} {d:Drv} {v1 v2:Value} (h:au w w.heap.size d v1 v2) (hb:Below w.heap.size w w'):au w' w'.heap.size d v1 v2 :=
 ⟨h.name,dW.eY (dW.alike h.ins fun b hb9=>hb.block b hb9) hb.size,cA.eY (cA.alike h.rcp fun b hb9=>hb.block b hb9) hb.size⟩
theorem au.Hk {w w':World} {d:Drv} {v1 v2:Value} (h:au w w.heap.size d v1 v2) (hb:Below w.heap.size w w'):cA.At w' w'.heap.size [v2] d.2.2:=(h.eD hb).rcp
theorem au.okn {w:World} {B:Nat} {d:Drv} {v1 v2:Value} (h:au w B d v1 v2):∀ x∈d.2.1,okN x:=fun x hx=>by
 obtain ⟨cs,h9⟩:=fo h.ins hx
 exact (bZ.1 h9).2
theorem CR {w w':World} {t:TypeId} {cells:Array Value} {xs:List Value} {n:Nat} (h:fy w w' t cells) (hx:cells.toList=xs) (hn:cells.size=n):w'.ownsRow w.heap.size t n (.slice (some ⟨w.heap.size,0,none⟩) 1 1) (0+1) xs:=by
 subst hx hn
 exact ⟨by simp,.inr ⟨w.heap.size,1,cells,rfl,xag _,h.blk,xag _,by decide,by omega,xav (by simp)⟩⟩
theorem xY:(Tryz.prog.info? 9).map (·.size)=some 1:=by kernel_rfl
theorem zz:(Tryz.prog.info? 9).map (fun i=>(i.zero,i.size,i.bytes))=some (some (.string ⟨#[]⟩),1,16):=by kernel_rfl
theorem tv (w:World) (d:Drv) (v1 v2:Value) (h:au w w.heap.size d v1 v2) :
  Calls Tryz.prog 120 #[.agg (dC d v1 v2).toArray] w fun e w'=>∃ v,e=.returned (.tuple #[v,.int .i64 (bF d)])∧(bF d=0→∃ g cap,v=.slice (some ⟨g,0,none⟩) (a8 d).size cap∧dD w' g (a8 d)∧(a8 d).size≤cap∧w.heap.size≤g∧g<w'.heap.size)∧Below w.heap.size w w':=by
 have hok:=h.okn
 obtain ⟨istr,hih,hq0,hq1,hq2⟩:=info_parts zz
 have HK:=ab (xad hih (xad hq0 (xad hq1 hq2)))
 clear hih hq0 hq1 hq2
 have h0:=h
 obtain ⟨A,cap,rfl,hcl,hcm,_,hA⟩:=aj h0.ins
 obtain ⟨A2,cap2,rfl,hcl2,hcm2,_,_⟩:=aj h0.rcp
 have l9:(d.2.1.length:Int)≤9223372036854775807:=by simp only [maxLen] at hcm;omega
 have k9:(d.2.2.length:Int)≤9223372036854775807:=by simp only [maxLen] at hcm2;omega
 obtain ⟨w1,hw1⟩:∃ w1,w1=w.alloc (.cells (dC d (.slice A d.2.1.length cap) (.slice A2 d.2.2.length cap2)).toArray 26):=⟨_,rfl⟩
 have hb1:Below w.heap.size w w1:=by rw [hw1];exact (xao _ w).alloc (xag _) _
 have hk1:Blk w1 w.heap.size 26 (dC d (.slice A d.2.1.length cap) (.slice A2 d.2.2.length cap2)).toArray:=by rw [hw1];exact Blk.new _ _ _
 have H1:=ab (xad hk1 hb1)
 have HD:=ab h
 have HOK:=ab hok
 have HW1:=ab hw1
 have HA:=ab hA
 clear hk1 hb1 hw1 hA h0 h hcl hcm hcl2 hcm2 hok
 go_enter Tryz.func120,Tryz.ntmps120
 go_wp2_with (first | ((with_reducible refine ae 1 ?_);(refine aa rfl (.pointer (some ⟨w.heap.size,0,none⟩)) w1 (by rw [HW1.out];kernel_rfl) ?_)) | ((with_reducible refine ae 8 ?_);(refine aa rfl (.agg (dC d (.slice A d.2.1.length cap) (.slice A2 d.2.2.length cap2)).toArray) w1 (av 26 (.tmp 1) rfl w.heap.size rfl 26 _ _ w1 H1.out.1 Tryz.underlying26 rfl (by kernel_rfl)) ?_)))
 refine (Dy w1 d _ _ (HD.out.eD H1.out.2)).mono ?_
 rintro e w2 ⟨rfl,hb⟩
 dsimp only
 have H2:=ab (xad (H1.out.1.below hb H1.out.1.lt) (H1.out.2.trans (xar hb H1.out.2.size)))
 clear hb
 by_cases hc:jV d=true
 ·have hcs:=mP hc
  have HC:=ab hc
  have l8:(d.2.1.length:Int)≤8:=hcs.2.1
  have r9:(d.2.2.length:Int)≤1000:=hcs.2.2
  have hn24:=ez hcs.1
  have hcat1:(⟨#[100,114,118,32]⟩:ByteArray).size+d.1.size≤9223372036854775807:=by have:(⟨#[100,114,118,32]⟩:ByteArray).size=4:=rfl;omega
  have HCAT:=ab hcat1
  have hcl:=o9 hc
  have HCL:=ab hcl
  clear hcs hcat1 hcl
  rw [hc]
  clear hc
  go_wp2_with (first | ((with_reducible refine ae 12 ?_);(refine aa rfl (.string d.1) w2 (exec_load_cell 9 (.tmp 11) rfl ⟨w.heap.size,0,none⟩ rfl _ _ w2 Tryz.underlying9 rfl (show w2.cell? ⟨w.heap.size,0,none⟩=some (.string d.1) from H2.out.1.cell 0)) ?_)) | ((with_reducible refine ae 13 ?_);(refine aa rfl (.string (⟨#[100,114,118,32]⟩++d.1)) w2 (bG 9 (.const (.string ⟨#[100,114,118,32]⟩)) (.tmp 12) 9 rfl (⟨#[100,114,118,32]⟩) (d.1) rfl rfl HCAT.out w2) ?_)) | ((with_reducible refine ae 14 ?_);(refine aO rfl 60 (.tmp 13) rfl 9 1 (.string ⟨#[]⟩) _ rfl Tryz.underlying60 xY (by decide) (by decide) (fun w=>by kernel_rfl) rfl ?_);intro w3 hn;have own3:w3.ownsRow w2.heap.size 9 1 (.slice (some ⟨w2.heap.size,0,none⟩) 1 1) (0+1) ((gM d 0).map xbd):=CR hn rfl rfl;have H3:=ab (xad (H2.out.1.below hn.below H2.out.1.lt) (xad (H2.out.2.trans (xar hn.below H2.out.2.size)) own3));have HZ3:=ab hn.below.size;clear own3 hn;simp only [xae,xaa,xab,xac]) | ((with_reducible refine ae 16 ?_);(refine aa rfl (.slice A d.2.1.length cap) w3 (exec_load_cell 23 (.tmp 15) rfl ⟨w.heap.size,1,none⟩ rfl _ _ w3 Tryz.underlying23 rfl (show w3.cell? ⟨w.heap.size,1,none⟩=some (.slice A d.2.1.length cap) from H3.out.1.cell 1)) ?_)))
  go_loopw [4,18] (fun x4 x18 wr=>∃ (j:Nat) (u:Value),j≤d.2.1.length∧u=x4∧x18=.int .i64 (j:Int)∧Blk wr w.heap.size 26 (dC d (.slice A d.2.1.length cap) (.slice A2 d.2.2.length cap2)).toArray∧wr.ownsRow w2.heap.size 9 1 u (j+1) ((gM d j).map xbd)∧Below w.heap.size w wr∧w2.heap.size≤wr.heap.size) (fun _ x18 _=>d.2.1.length-(intOf x18).toNat)
  case atStart=>exact ⟨0,_,by omega,rfl,rfl,H3.out.1,H3.out.2.2,H3.out.2.1,HZ3.out⟩
  case round =>
   obtain ⟨wo,rfl⟩:∃ wo,wo=wr:=⟨_,rfl⟩
   obtain ⟨j,x4,hj,rfl,rfl,hk,hown,hbw,hzw⟩:=hrel
   have HI:=ab (xad hk (xad hown (xad hbw hzw)))
   clear hk hown hbw hzw
   have j0:(0:Int)≤(j:Int):=by omega
   by_cases hj2:j<d.2.1.length
   ·have j1:(j:Int)<(d.2.1.length:Int):=by omega
    obtain ⟨x,hx⟩:∃ x,d.2.1[j]?=some x:=⟨_,xai hj2⟩
    obtain ⟨b,off,rfl,hlb,hE⟩:=HA.out (by omega)
    obtain ⟨cs,hr,hatx⟩:=hE j x hx
    obtain ⟨rfl,hxo⟩:=bZ.1 hatx
    have HX:=ab (xad (bX hr (HI.out.2.2.1.block b (by omega))) hxo)
    have hszn2:=F7 hxo
    have hszn:(Tryz.prog.info? 87).map (·.size)=some (nC x).length:=by simpa using hszn2
    have hszzn:zcN.size=(nC x).toArray.size:=by rw [show (nC x).toArray.size=43 by rw [xal];exact cV hxo];kernel_rfl
    have honen:(nC x).toArray.all (·.oneCell')=true:=all_oneCell_toArray (fj x)
    have hll:=HCL.out x (xaj hx)
    have HXX:=ab hx
    clear hx hE hr hatx hxo
    go_wp2_with (first | ((with_reducible refine ae 20 ?_);(refine aa rfl (.pointer (some ⟨b,off+(j:Int).toNat*43,none⟩)) wo (aJ 23 87 (.tmp 16) (.tmp 18) rfl b off d.2.1.length cap (j:Int) .i64 rfl rfl ⟨j0,j1⟩ 43 Tryz.underlying23 bz wo) ?_;rw [show off+(j:Int).toNat*43=off+j*43 by omega])) | ((with_reducible refine ae 21 ?_);(refine aa rfl (.agg (nC x).toArray) wo (ai 87 (.tmp 20) rfl b (off+j*43) rfl (nC x) _ wo HX.out.1 Tryz.underlying87 rfl hszn) ?_)) | ((with_reducible refine ae 6 ?_);((with_reducible refine cW (o1:=⟨some 6,_,_,_,_,_⟩) (o2:=⟨none,_,_,_,_,_⟩) rfl rfl 87 (.tmp 6) (.tmp 21) ?_ zcN (nC x).toArray ?_ hszn2 ?_ honen ?_ ?_ ?_);rfl;kernel_rfl;exact hszzn;rfl;rfl;intro w3 hmm hbb;have H3:=ab (xad hmm hbb);clear hmm hbb;simp only [xae,xaa,xab,xac])) | ((with_reducible refine ae 23 ?_);(refine aa rfl (.agg (nC x).toArray) w3 (av 87 (.tmp 6) rfl wo.heap.size rfl 87 _ _ w3 H3.out.1 Tryz.underlying87 rfl hszn2) ?_)))
    refine (Cr w3 x HX.out.2 hll.1 hll.2).mono ?_
    rintro e w4 ⟨rfl,hb⟩
    dsimp only
    have h34:=H3.out.2.trans (xar hb H3.out.2.size)
    have H34:=ab h34
    clear hb h34
    go_wp2_with (first | ((with_reducible refine ae 25 ?_);(refine aO rfl 60 (.tmp 24) rfl 9 1 (.string ⟨#[]⟩) _ rfl Tryz.underlying60 xY (by decide) (by decide) (fun w=>by kernel_rfl) rfl ?_);intro w5 hn;have h45:=H34.out.trans (xar hn.below H34.out.size);have H5:=ab (xad (HI.out.1.below h45 HI.out.1.lt) (xad (ao HI.out.2.1 fun g _ hl=>h45.block g hl) (xad (HI.out.2.2.1.trans (xar h45 HI.out.2.2.1.size)) (xad (show eZ w5 1 (some ⟨w4.heap.size,0,none⟩) 1 1 [.string (gG x)] from hn.src rfl (fun v hv=>(by rw [xan.1 hv];rfl))) (xaH HI.out.2.2.2 h45.size)))));clear h45 hn;simp only [xae,xaa,xab,xac]) | (at_builtin;((with_reducible refine ae 26 ?_);refine aE rfl _ _ 60 rfl w2.heap.size 9 istr _ 1 16 Tryz.underlying60 HK.out.1 HK.out.2.1 HK.out.2.2.1 HK.out.2.2.2 rfl (by decide) _ (j+1) ((gM d j).map xbd) H5.out.2.1 (some ⟨w4.heap.size,0,none⟩) 1 1 [.string (gG x)] H5.out.2.2.2.1 ?hm1 ?hb1 ?hz1 rfl rfl ?_)))
    case hm1=>simp only [maxLen];omega
    case hb1=>omega
    case hz1=>exact H5.out.2.2.2.2
    intro u6 w6 own6 gr6 _
    have hln:(gM d j).map xbd++[.string (gG x)]=(gM d (j+1)).map xbd:=xl d j x HXX.out
    rw [hln] at own6
    have H6:=ab (xad ((gr6.block _ H5.out.1.lt (fun e=>ef H5.out.2.1 H5.out.1 (by decide) e.symm)).trans H5.out.1) (xad own6 (xad (H5.out.2.2.1.grown gr6 H5.out.2.2.1.size (fun k hk=>xaH H2.out.2.size (az H5.out.2.1 hk).1)) (xaH H5.out.2.2.2.2 gr6.size))))
    clear own6 gr6 hln
    go_wp2_with fail
    go_roundw
    case rel=>exact ⟨j+1,u6,by omega,rfl,by go_num,H6.out.1,H6.out.2.1,H6.out.2.2.1,H6.out.2.2.2⟩
    case measure=>simp [intOf];omega
   ·obtain rfl:j=d.2.1.length:=by omega
    have HZ2:=ab (xaH HI.out.2.2.1.size (xag _))
    go_wp2_with (first | ((with_reducible refine ae 30 ?_);(refine aa rfl (.slice A2 d.2.2.length cap2) wo (exec_load_cell 24 (.tmp 29) rfl ⟨w.heap.size,2,none⟩ rfl _ _ wo Tryz.underlying24 rfl (show wo.cell? ⟨w.heap.size,2,none⟩=some (.slice A2 d.2.2.length cap2) from HI.out.1.cell 2)) ?_)))
    refine (AM wo d.2.2 _ (HD.out.Hk HI.out.2.2.1) (by omega)).mono ?_
    rintro e w4 ⟨rfl,hb⟩
    dsimp only
    have hrs:=AI d.2.2 (by omega)
    have HRS:=ab hrs
    have H34:=ab hb
    clear hb hrs
    go_wp2_with (first | ((with_reducible refine ae 32 ?_);(refine aa rfl (.string (⟨#[114,117,110,32]⟩++⟨(di d.2.2).toArray⟩)) w4 (bG 9 (.const (.string ⟨#[114,117,110,32]⟩)) (.tmp 31) 9 rfl (⟨#[114,117,110,32]⟩) (⟨(di d.2.2).toArray⟩) rfl rfl HRS.out w4) ?_)) | ((with_reducible refine ae 33 ?_);(refine aO rfl 60 (.tmp 32) rfl 9 1 (.string ⟨#[]⟩) _ rfl Tryz.underlying60 xY (by decide) (by decide) (fun w=>by kernel_rfl) rfl ?_);intro w5 hn;have h45:=H34.out.trans (xar hn.below H34.out.size);have H5:=ab (xad (HI.out.1.below h45 HI.out.1.lt) (xad (ao HI.out.2.1 fun g _ hl=>h45.block g hl) (xad (HI.out.2.2.1.trans (xar h45 HI.out.2.2.1.size)) (xad (show eZ w5 1 (some ⟨w4.heap.size,0,none⟩) 1 1 [.string (⟨#[114,117,110,32]⟩++⟨(di d.2.2).toArray⟩)] from hn.src rfl (fun v hv=>(by rw [xan.1 hv];rfl))) (xaH HI.out.2.2.2 h45.size)))));clear h45 hn;simp only [xae,xaa,xab,xac]) | (at_builtin;((with_reducible refine ae 34 ?_);refine aE rfl _ _ 60 rfl w2.heap.size 9 istr _ 1 16 Tryz.underlying60 HK.out.1 HK.out.2.1 HK.out.2.2.1 HK.out.2.2.2 rfl (by decide) _ (d.2.1.length+1) ((gM d d.2.1.length).map xbd) H5.out.2.1 (some ⟨w4.heap.size,0,none⟩) 1 1 [.string (⟨#[114,117,110,32]⟩++⟨(di d.2.2).toArray⟩)] H5.out.2.2.2.1 ?hm2 ?hb2 ?hz2 rfl rfl ?_)))
    case hm2=>simp only [maxLen];omega
    case hb2=>omega
    case hz2=>exact H5.out.2.2.2.2
    intro u6 w6 own6 gr6 _
    have hln:(gM d d.2.1.length).map xbd++[.string (⟨#[114,117,110,32]⟩++⟨(di d.2.2).toArray⟩)]=(cU d).map xbd:=zL d
    rw [hln] at own6
    obtain ⟨g,cap6,rfl⟩:=hJ own6 (by omega)
    have hlp:(cU d).length=d.2.1.length+1+1:=pU d
    have hb6:Below w.heap.size w w6:=H5.out.2.2.1.grown gr6 H5.out.2.2.1.size (fun k hk=>xaH H2.out.2.size (az H5.out.2.1 hk).1)
    have hcells:∀ (j:Nat) x,(cU d)[j]?=some x→w6.cell? ⟨g,0+j,none⟩=some (.string x):=by
     intro k x hk
     rw [Nat.zero_add]
     exact sh own6 k _ (by rw [xaL,hk];rfl)
    have hgl:=(az own6 rfl).2
    have hjn:=xg HOK.out HC.out
    have hcp:(cU d).length≤cap6:=by
     have:=CP own6
     omega
    rw [show d.2.1.length+1+1=(cU d).length from hlp.symm]
    have H6:=ab hb6
    have HJN:=ab (Ch hjn)
    have HJ:=ab (xad hcells (xad hgl (xad (show (cU d).length≤140737488355328 by omega) (xad hcp (show (xbV ((cU d).map (·.data.toList)) [10]).length≤140737488355328 by omega)))))
    clear own6 gr6 hln hb6 hcells hgl hjn hcp hlp
    go_wp2_with fail
    refine (Tryz.strings_Join g 0 cap6 (cU d) ⟨#[10]⟩ w6 HJ.out.1 HJ.out.2.1 HJ.out.2.2.1 HJ.out.2.2.2.1 HJ.out.2.2.2.2).mono ?_
    rintro e w7 ⟨rfl,hb⟩
    dsimp only
    have H7:=ab (H6.out.trans (xar hb H6.out.size))
    clear hb
    by_cases hl:(2000:Int)<((a8 d).size:Int)
    ·have HE:Hid (bF d=3):=ab (by unfold bF;rw [HC.out,if_pos rfl,if_pos (by omega)])
     go_wp2_with (first | ((with_reducible refine ae 36 ?_);(refine aa rfl (.string (a8 d)) w7 (bG 9 (.tmp 35) (.const (.string ⟨#[10]⟩)) 9 rfl (⟨(xbV ((cU d).map (·.data.toList)) [10]).toArray⟩) (⟨#[10]⟩) rfl rfl HJN.out w7) ?_)))
     refine bodyPost_ret (v:=.tuple #[.slice none 0 0,.int .i64 3]) (by simp [results,Tryz.results120,go_sem]) rfl ?_
     exact ⟨_,by rw [HE.out],(fun h=>absurd (HE.out.symm.trans h) (by decide)),H7.out⟩
    ·have HE:Hid (bF d=0):=ab (by unfold bF;rw [HC.out,if_pos rfl,if_neg (by omega)])
     go_wp2_with (first | ((with_reducible refine ae 36 ?_);(refine aa rfl (.string (a8 d)) w7 (bG 9 (.tmp 35) (.const (.string ⟨#[10]⟩)) 9 rfl (⟨(xbV ((cU d).map (·.data.toList)) [10]).toArray⟩) (⟨#[10]⟩) rfl rfl HJN.out w7) ?_)) | ((with_reducible refine ae 41 ?_);(with_reducible refine kq rfl 9 24 5 (.tmp 40) rfl Tryz.underlying9 Tryz.underlying24 Tryz.underlying5 (a8 d) rfl ?_);intro g8 k8 w8 ht8 hc8 hg8 hl8 hb8;have H8:=ab (xad ht8 (xad hc8 (xad hg8 (xad hl8 (H7.out.trans (xar hb8 H7.out.size))))));clear ht8 hc8 hg8 hl8 hb8;simp only [xae,xaa,xab,xac]))
     refine bodyPost_ret (v:=.tuple #[.slice (some ⟨g8,0,none⟩) (a8 d).size k8,.int .i64 0]) (by simp [results,Tryz.results120,go_sem]) rfl ?_
     exact ⟨_,by rw [HE.out],(fun _=>⟨g8,k8,rfl,H8.out.1,H8.out.2.1,xaH H7.out.size H8.out.2.2.1,H8.out.2.2.2.1⟩),H8.out.2.2.2.2⟩
 ·have hc':jV d=false:=by simpa using hc
  have HE:Hid (bF d=2):=ab (by unfold bF;rw [hc'];rfl)
  rw [hc']
  go_wp2_with fail
  refine bodyPost_ret (v:=.tuple #[.slice none 0 0,.int .i64 2]) (by simp [results,Tryz.results120,go_sem]) rfl ?_
  exact ⟨_,by rw [HE.out],(fun h=>absurd (HE.out.symm.trans h) (by decide)),H2.out.2⟩
end Go.Proofs.YtomnhnmciopiiaaGreat
end
