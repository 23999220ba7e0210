/- Part 6 of the texts of one proof. -/
import Derived.Test.YtomnhnmciopiiaaGreatMMS5
set_option maxRecDepth 100000
set_option linter.unusedVariables false
set_option linter.unusedSimpArgs false
set_option maxHeartbeats 40000000
open Go.Act renaming put → xad
open And renaming intro → xae
open Array renaming getD_eq_getD_getElem? → xbB, getElem?_toList → xaM, length_toList → xbh, replicate → xbx, toList_append → xbN
open Go.RowKit.Below renaming block → xbw, mono → xam, refl → xaq
open Bool renaming and_eq_true → xaG, and_true → xbc, false_and → xaZ, true_and → xbe
open Go.Exit renaming inBlock → xbQ
open Go.IntWalk renaming i64_in → xaS
open Go.Instr renaming build → xcd, fill → xbL
open Go.IntKind renaming wrap → xbf
open List renaming all_eq_true → xbg, append_nil → xaT, drop → xas, drop_succ_cons → xaH, drop_zero → xaQ, eq_nil_of_length_eq_zero → xa4, getElem?_eq_getElem → xaj, getElem?_eq_none → xbi, getElem?_eq_some_iff → xah, getElem?_map → xaD, getElem?_of_mem → xaO, getElem?_toArray → xbn, idxOf_lt_length_iff → xba, length_append → xap, length_cons → xaE, length_map → xat, length_take → xaJ, mem_append → xau, mem_cons → xax, mem_map → xav, mem_of_getElem? → xak, mem_range → xbb, mem_singleton → xan, not_mem_nil → xaP, pairwise_append → xa7, range → xaf, replicate → xar, setIfInBounds_toArray → xaa, set_cons_succ → xab, set_cons_zero → xac, size_toArray → xal, take_add_one → xaz, take_length → xaB, take_succ_cons → xaI, take_zero → xaR
open Nat renaming le_refl → xai, le_trans → xay, lt_of_lt_of_le → xa3, mul_le_mul_right → xa8, testBit_shiftLeft → xcg
open Go.Op renaming bytesLess → xaF
open Option.some renaming inj → xao
open Go.Region renaming binds → xbR, noSelect → xbD, ready → xbo, wanted → xaw
open Go.Result renaming andThen_ok → xaA
open Go.Sem renaming run_bind → xaK, run_pure → xaN
open UInt8 renaming lt_iff_toNat_lt → xbj, ofNat → xaX
open Go.Value renaming bool → xbs, string → xaY
open Go.World renaming block_lt_of_cell? → xbk, cell?_of_block → xaU, ownsRow_nil → xaW
section
namespace Go.Proofs.YtomnhnmciopiiaaGreat
open Go Go.RowKit
section
variable {P:Program} {w:World}
def oL (P:Program) (tmps:Array Value) (w:World):List ResultVar→List Value→Prop
 | [],[]=>True
 | .tmp t :: l,v :: vs=>tmps.getD t undef=v∧oL P tmps w l vs
 | .cell a ty :: l,v :: vs=>(∃ p,tmps.getD a undef=.pointer (some p)∧(loadVar ty p).run P w=.ok v w)∧oL P tmps w l vs
 | _,_=>False
def kc (tmps:Array Value):ResultVar→Sem Value
 | .tmp t=>Pure.pure (tmps.getD t undef)
 | .cell a t=>do loadVar t (← asAddr (tmps.getD a undef))
theorem kb (tmps:Array Value):∀ (l:List ResultVar) (vs:List Value),oL P tmps w l vs→(l.mapM (kc tmps)).run P w=.ok vs w
 | [],[],_=>by simp [List.mapM_nil,xaN]
 | .tmp t :: l,v :: vs,h=>by
  obtain ⟨h1,h2⟩:=h
  rw [List.mapM_cons,xaK]
  unfold kc
  dsimp only
  rw [xaN,xaA,xaK]
  have e:=kb tmps l vs h2
  unfold kc at e
  rw [e,xaA,xaN,h1]
 | .cell a ty :: l,v :: vs,h=>by
  obtain ⟨⟨p,h1,h3⟩,h2⟩:=h
  rw [List.mapM_cons,xaK]
  have e:=kb tmps l vs h2
  have e1:(kc tmps (.cell a ty)).run P w=.ok v w:=by
   unfold kc
   dsimp only
   rw [h1,xaK]
   simp only [asAddr,xaN,xaA,h3]
  rw [e1,xaA,xaK,e,xaA,xaN]
 | .tmp _ :: _,[],h=>h.elim
 | .cell _ _ :: _,[],h=>h.elim
 | [],_ :: _,h=>h.elim
theorem nZ {fn:Func} {tmps:Array Value} {l:List ResultVar} (h:fn.results=l.toArray) {vs:List Value} (hl:oL P tmps w l vs):(results fn tmps).run P w=.ok (if h:vs.toArray.size=1 then vs.toArray[0] else .tuple vs.toArray) w:=by
 have e:=kb (P:=P) (w:=w) tmps l vs hl
 have e1:(fn.results.mapM (kc tmps)).run P w=.ok vs.toArray w:=by
  rw [h,List.mapM_toArray,Sem.run_map,e,xaA]
 have e2:results fn tmps=(fn.results.mapM (kc tmps)) >>= fun vs=>Pure.pure (if h:vs.size=1 then vs[0] else .tuple vs):=by
  unfold results
  congr 1
 rw [e2,xaK,e1,xaA,xaN]
theorem cB {fn:Func} {tmps:Array Value} {r1 r2:ResultVar} (h:fn.results=#[r1,r2]) {v1 v2:Value} (hl:oL P tmps w [r1,r2] [v1,v2]):(results fn tmps).run P w=.ok (.tuple #[v1,v2]) w:=nZ (l:=[r1,r2]) h hl
theorem fl {fn:Func} {tmps:Array Value} {r1:ResultVar} (h:fn.results=#[r1]) {v1:Value} (hl:oL P tmps w [r1] [v1]):(results fn tmps).run P w=.ok v1 w:=nZ (l:=[r1]) h hl
theorem im {ty:TypeId} {b off:Nat} {cs:List Value} {d:TypeDesc} (hc:w.rangeAt b off cs) (hu:P.underlying ty=some d) (hd:d.isRow=true) (hi:(P.info? ty).map (·.size)=some cs.length):(loadVar ty ⟨b,off,none⟩).run P w=.ok (.agg cs.toArray) w:=run_loadVar_mid w b off ty cs d hc hu hd hi
theorem range_cell {b o:Nat} {v:Value} (h:w.rangeAt b o [v]):w.cell? ⟨b,o,none⟩=some v:=h 0 v rfl
theorem Blk.range {g:Nat} {t:TypeId} {cs:List Value} (h:Blk w g t cs.toArray):w.rangeAt g 0 cs:=by simpa using dP h
theorem fH {b o k:Nat} {cs pre mid post:List Value} (h:w.rangeAt b o cs) (e:cs=pre++(mid++post)) (hk:pre.length=k):w.rangeAt b (o+k) mid:=by
 subst e hk
 exact cz (ed h)
theorem tK {w w':World} {b o:Nat} {cs:List Value} (h:w.rangeAt b o cs) (he:w'.heap[b]?=w.heap[b]?):w'.rangeAt b o cs:=by
 intro j v hv
 have:=h j v hv
 unfold World.cell? at this ⊢
 dsimp only at this ⊢
 rw [he]
 exact this
theorem Mem.range {w0 w:World} {L:List Ent} (h:Mem w0 w L) {b o:Nat} {cs:List Value} (hr:w0.rangeAt b o cs) (hb:b<w0.heap.size):w.rangeAt b o cs:=tK hr (h.old hb)
theorem dr {t:TypeId} {a b:Array Value} (h1:(P.info? t).map (·.size)=some a.size) (h2:(P.info? t).map (·.size)=some b.size):a.size=b.size:=xao (h1.symm.trans h2)
theorem BV {a b:ByteArray} {c:Bool} (hc:decide (a=b)=c):(a.toList == b.toList)=c:=by
 rw [← hc,ByteArray.toList_eq,ByteArray.toList_eq,Bool.eq_iff_iff,beq_iff_eq,decide_eq_true_iff]
 constructor
 ·intro h
  cases a;cases b
  congr 1
  exact Array.toList_inj.1 h
 ·intro h
  rw [h]
theorem kz {ρ:Operand→Value} {o:Oper} (t r:TypeId) (x y:Operand) (ho:o.op=.binOp .eql t x y r) (a b:ByteArray) (hx:ρ x=.string a) (hy:ρ y=.string b) (c:Bool) (hc:decide (a=b)=c) (W:World):(execOp ρ o).run P W=.ok (.value (.bool c)) W:=by
 have e:=BV hc
 unfold execOp
 simp [go_sem,ho,hx,hy]
 exact e
theorem bX {ρ:Operand→Value} {o:Oper} (t r:TypeId) (x y:Operand) (ho:o.op=.binOp .eql t x y r) (xs ys:Array Value) (hx:ρ x=.agg xs) (hy:ρ y=.agg ys) (hm:P.eqGuardType P.depth t=false) (c:Bool) (W:World) (hv:(Op.equal t (.agg xs) (.agg ys)).run P W=.ok c W):(execOp ρ o).run P W=.ok (.value (.bool c)) W:=by
 unfold execOp
 simp only [ho,hx,hy,xaK,run_eqGuard_agg W .eql t x y xs ys hm,binOp,hv,xaA,xaN]
theorem dK {ρ:Operand→Value} {o:Oper} (t r:TypeId) (x y:Operand) (ho:o.op=.binOp .neq t x y r) (xs ys:Array Value) (hx:ρ x=.agg xs) (hy:ρ y=.agg ys) (hm:P.eqGuardType P.depth t=false) (c:Bool) (W:World) (hv:(Op.equal t (.agg xs) (.agg ys)).run P W=.ok c W):(execOp ρ o).run P W=.ok (.value (.bool (!c))) W:=by
 unfold execOp
 simp only [ho,hx,hy,xaK,run_eqGuard_agg W .neq t x y xs ys hm,binOp,hv,xaA,xaN]
def xu (w:World) (E:Value→Ent) (u:Value) (W:World):Prop:=(E u).P W∧∀ b,(E u).F b→w.heap.size≤b∧b<W.heap.size
theorem yE (w:World) {E:Value→Ent} (h:∀ u,(E u).Ok):Fre.eC Bel (xu w E):=⟨fun u W W' hV hx=>⟨h u W W' hV.1 fun b _ hl=>xbw hx b hl,fun b hf=>⟨(hV.2 b hf).1,xa3 (hV.2 b hf).2 (Below.size hx)⟩⟩⟩
theorem dO {α:Type} {f:α→List Value} {w:World} {B s g n cap k:Nat} {t:TypeId} {l:List α} {x:α} (h0:0<s) (h:w.ownsRow B t s (.slice (some ⟨g,0,none⟩) n cap) l.length (l.flatMap f)) (hl:∀ x∈l,(f x).length=s) (hx:l[k]?=some x):w.rangeAt g (k*s) (f x):=by
 rcases aR h with ⟨h1,_⟩ | ⟨g',cap',cur,h1,_,_,_,hb,_,ht,_⟩
 ·cases h1
 ·injection h1 with e1 e2 e3
  injection e1 with e1
  injection e1 with e1
  subst e1
  intro j v hv
  have h2:=iW h0 l hl k x hx j v hv
  rw [← ht] at h2
  rw [hb.cell,← xaM]
  rw [List.getElem?_take] at h2
  split at h2
  ·exact h2
  ·cases h2
theorem BP {w:World} {B s k:Nat} {t:TypeId} {u:Value} {xs:List Value} (h:w.ownsRow B t s u k xs) (hk:0<k):∃ g cap,u=.slice (some ⟨g,0,none⟩) k cap∧g<w.heap.size:=by
 obtain ⟨g,cap,e⟩:=cN h hk
 exact ⟨g,cap,e,(aB h (by rw [e];rfl)).2⟩
theorem aI {w:World} {B s k:Nat} {t:TypeId} {u:Value} {xs:List Value} (h:w.ownsRow B t s u k xs):∃ A cap,u=.slice A k cap:=by
 rcases aR h with ⟨h1,h2,_⟩ | ⟨g,cap,cur,h1,_⟩
 ·exact ⟨none,0,by rw [h1,h2]⟩
 ·exact ⟨_,_,h1⟩
theorem Mem.seq {w0 w w':World} {L L':List Ent} (h:Mem w0 w L) (k:Mem w w' L'):Mem w0 w' (L'++L):=by
 have h2:=h.call k.below
 refine ⟨h2.below,fun e he=>?_,fun e he=>?_,fun e he b hf=>?_,xa7.2 ⟨k.far,h2.far,fun x hx y hy b h1 h3=>?_⟩⟩
 ·rcases xau.1 he with he | he
  ·exact k.ok e he
  ·exact h2.ok e he
 ·rcases xau.1 he with he | he
  ·exact k.holds e he
  ·exact h2.holds e he
 ·rcases xau.1 he with he | he
  ·exact ⟨xay h.below.size (k.lo e he b hf).1,(k.lo e he b hf).2⟩
  ·exact h2.lo e he b hf
 ·have:=(k.lo x hx b h1).1
  have:=(h.lo y hy b h3).2
  omega
end
end Go.Proofs.YtomnhnmciopiiaaGreat
end
section
namespace Go.Proofs.YtomnhnmciopiiaaGreat
open Go Go.RowKit Go.Maps
def findD (l:List Itm) (c:Hsh):Drv:=((l.find? fun x=>decide (x.1=c)).map (·.2)).getD (⟨#[]⟩,[],[])
theorem zL (l:List Nam):(az l).length≤l.length:=by have:=dZ l l.length;rwa [xaB] at this
theorem tI {H:Type} [DecidableEq H] {l:List H} {c:H} (h:c∈l):∃ p:Nat,nX l c=(p:Int)∧p=l.idxOf c∧p<l.length:=by
 refine ⟨l.idxOf c,?_,rfl,xba.2 h⟩
 unfold nX
 rw [if_pos h]
end Go.Proofs.YtomnhnmciopiiaaGreat
end
section
namespace Go.Proofs.YtomnhnmciopiiaaGreat
open Go Go.RowKit
theorem tS {P:Program} {t n1 n2:Nat} {fields:Array Field} {z v1 v2:Value} (ht:P.underlying t=some (.struct fields)) (hz:∀ w,(zeroValue t).run P w=.ok z w) (hzs:z.cells.size=n1+n2)
  (hpl:∀ w,(fields.mapM fun f=>do pure (f.offset,← sizeOf f.type):Sem (Array (Nat×Nat))).run P w=.ok #[(0,n1),(n1,n2)] w) (h1:v1.cells.size=n1) (h2:v2.cells.size=n2) (w:World) :
  (xcd t #[(0,v1),(1,v2)]).run P w=.ok (.agg (v1.cells++v2.cells)) w:=by
 have hfill:xbL (fun i=>(#[(0,n1),(n1,n2)]:Array (Nat×Nat))[i]?) z.cells [(0,v1),(1,v2)]=some (v1.cells++v2.cells):=by
  rw [lx _ _ 0 v1 _ 0 (by simp [h1]) (by omega)]
  rw [lx _ _ 1 v2 [] n1 (by simp [h2]) (by simp;omega)]
  unfold xbL
  congr 1
  apply Array.ext'
  have e1:v1.cells.toList.length=n1:=by rw [xbh,h1]
  have e2:z.cells.toList.length=n1+n2:=by rw [xbh,hzs]
  simp only [xaR,List.nil_append,xbN,Nat.zero_add,h1,h2]
  rw [List.take_left' e1,List.drop_of_length_le (by rw [xap,List.length_drop];omega),xaT]
 unfold xcd
 simp only [xaK,hz,xaA,run_underlying ht]
 rw [hpl]
 simp only [xaA]
 rw [hfill]
 rfl
theorem ep {P:Program} {ρ:Operand→Value} {o:Oper} (t:TypeId) (x y:Operand) (ho:o.op=.build t #[(0,x),(1,y)]) {n1 n2:Nat} {fields:Array Field} {z v1 v2:Value} (hx:ρ x=v1) (hy:ρ y=v2) (ht:P.underlying t=some (.struct fields)) (hz:∀ w,(zeroValue t).run P w=.ok z w) (hzs:z.cells.size=n1+n2)
  (hpl:∀ w,(fields.mapM fun f=>do pure (f.offset,← sizeOf f.type):Sem (Array (Nat×Nat))).run P w=.ok #[(0,n1),(n1,n2)] w) (h1:v1.cells.size=n1) (h2:v2.cells.size=n2) (w:World) :
  (execOp ρ o).run P w=.ok (.value (.agg (v1.cells++v2.cells))) w:=by
 have h:=tS (P:=P) ht hz hzs hpl h1 h2 w
 unfold execOp
 simp only [ho,List.map_toArray,List.map_cons,List.map_nil,hx,hy,xaK,h,xaA,xaN]
end Go.Proofs.YtomnhnmciopiiaaGreat
end
section
namespace Go.Proofs.YtomnhnmciopiiaaGreat
open Go Go.RowKit Go.Maps
theorem cP {h:Hsh} (hh:okH h):(Tryz.prog.info? 34).map (·.size)=some (bv h).length:=by have:=eX hh;simpa using this
theorem Bk (h:Hsh):(bv h).toArray.all (·.oneCell')=true:=all_oneCell_toArray (bv1 _)
theorem fX:(Tryz.prog.info? 26).map (·.size)=some zcD.size:=by kernel_rfl
theorem dF (d:Drv) (v1 v2:Value):(Tryz.prog.info? 26).map (·.size)=some (dC d v1 v2).toArray.size:=by kernel_rfl
theorem bL (d:Drv) (v1 v2:Value):(Tryz.prog.info? 26).map (·.size)=some (dC d v1 v2).length:=by kernel_rfl
theorem lq (d:Drv) {v1 v2:Value} (h1:v1.oneCell'=true) (h2:v2.oneCell'=true):(dC d v1 v2).toArray.all (·.oneCell')=true:=all_oneCell_toArray fun v hv=>by
 simp only [dC,xax,xaP,or_false] at hv
 rcases hv with rfl | rfl | rfl
 ·rfl
 ·exact h1
 ·exact h2
theorem cD {w:World} {b o:Nat} {d:Drv} {v1 v2:Value} (h:w.rangeAt b o (dC d v1 v2)):w.rangeAt b (o+1) [v1]:=fH (pre:=[.string d.1]) (post:=[v2]) h rfl rfl
theorem iS {w:World} {b o:Nat} {d:Drv} {v1 v2:Value} (h:w.rangeAt b o (dC d v1 v2)):w.rangeAt b (o+2) [v2]:=fH (pre:=[.string d.1,v1]) (post:=[]) h rfl rfl
theorem ga {w:World} {b o:Nat} {d:Drv} {v1 v2:Value} (h:w.rangeAt b o (dC d v1 v2)):w.rangeAt b o [.string d.1]:=cz (c2:=[v1,v2]) h
theorem aK.iy {w:World} {B:Nat} {d:Drv} {v1 v2:Value} (h:aK w B d v1 v2):v1.oneCell'=true∧v2.oneCell'=true:=by
 obtain ⟨A,cap,rfl,_⟩:=ak h.ins
 obtain ⟨A2,cap2,rfl,_⟩:=ak h.rcp
 exact ⟨rfl,rfl⟩
def zR (B:Nat) (d:Drv) (u1 u2:Value):Ent:=⟨fun b=>u1.ownBlock=some b∨u2.ownBlock=some b,fun w=>bz w B d u1 u2⟩
theorem zT (B:Nat) (d:Drv) (u1 u2:Value):(zR B d u1 u2).Ok:=fun _ _ h hk=>⟨h.name,h.okn,h.okb,an h.gF fun g hg hl=>hk g (.inl hg) hl,an h.iL fun g hg hl=>hk g (.inr hg) hl⟩
theorem zS {w:World} {B:Nat} {d:Drv} {u1 u2:Value} (h:bz w B d u1 u2) {b:Nat} (hf:(zR B d u1 u2).F b):B≤b∧b<w.heap.size:=by
 rcases hf with hf | hf
 ·exact aB h.gF hf
 ·exact aB h.iL hf
theorem j8 {α β:Type} {f:β→List Value} {pr:β→α} {t e:TypeId} {L:Lay α} (h0:0<L.n) {w:World} {R:Nat} {v:Value} {l:List β} (hown:w.ownsRow R e L.n v l.length (l.flatMap f)) (B:Nat) (hB:w.heap.size≤B) (hat:∀ x∈l,L.At w B (f x) (pr x)):(Lay.slice t L).At w B [v] (l.map pr):=by
 have hlen:∀ x∈l,(f x).length=L.n:=fun x hx=>L.len (hat x hx)
 rcases aR hown with ⟨rfl,hl,_⟩ | ⟨g,cap,cur,rfl,hbg,hnc,hcm,hg,hcs,htake,_⟩
 ·obtain rfl:=xa4 hl
  exact ⟨none,0,rfl,xai _,Nat.zero_le _,(fun _=>rfl),fun h=>absurd h (by simp)⟩
 ·refine ⟨_,cap,by rw [xat],by rw [xat];exact hnc,hcm,(fun h=>by cases h),fun _=>⟨g,0,rfl,by have:=hg.lt;omega,fun j x hj=>?_⟩⟩
  rw [xaD] at hj
  cases hy:l[j]? with
  | none=>rw [hy] at hj;cases hj
  | some y =>
   rw [hy] at hj
   have hxy:pr y=x:=xao hj
   subst hxy
   refine ⟨f y,fun i u hu=>?_,hat y (xak hy)⟩
   have h2:=iW h0 l hlen j y hy i u hu
   rw [hg.cell,← xaM,Nat.zero_add]
   rw [← htake] at h2
   have hlt:j*L.n+i<l.length*L.n:=by
    have:=(xah.1 h2).1
    rw [xaJ] at this
    omega
   rwa [List.getElem?_take_of_lt hlt] at h2
abbrev b4:=Itm×Value×Value
def tV (p:b4):List Value:=tC p.1 p.2.1 p.2.2
def ia (B:Nat) (p:b4):Ent:=zR B p.1.2 p.2.1 p.2.2
theorem uC (B:Nat) (p:b4):(ia B p).Ok:=zT _ _ _ _
theorem bz.base {w:World} {B B':Nat} {d:Drv} {u1 u2:Value} (h:bz w B d u1 u2) (hB:∀ b,(zR B d u1 u2).F b→B'≤b):bz w B' d u1 u2 :=
 ⟨h.name,h.okn,h.okb,bn h.gF fun g hg=>hB g (.inl hg),bn h.iL fun g hg=>hB g (.inr hg)⟩
theorem pf:(Tryz.prog.info? 59).map (fun i=>(i.zero,i.size,i.bytes))=some (some (.agg zcT),23,88):=by kernel_rfl
end Go.Proofs.YtomnhnmciopiiaaGreat
end
section
namespace Go.Proofs.YtomnhnmciopiiaaGreat
open Go Go.RowKit
theorem ir:∀ (x y:List UInt8),(!xaF x y&&!(x == y))=xaF y x
 | [],[]=>rfl
 | a :: x,[]=>rfl
 | [],b :: y=>rfl
 | a :: x,b :: y=>by
  have ih:=ir x y
  simp only [xaF,List.cons_beq_cons]
  by_cases h:a=b
  ·subst h
   have h1:¬ a<a:=by simp
   simp only [h1,decide_false,beq_self_eq_true,xbe,Bool.false_or]
   exact ih
  ·have e1:(a == b)=false:=beq_eq_false_iff_ne.2 h
   have e2:(b == a)=false:=beq_eq_false_iff_ne.2 fun e=>h e.symm
   rw [e1,e2]
   simp only [xaZ,Bool.or_false,Bool.not_false,xbc]
   have hn:a.toNat ≠ b.toNat:=fun e=>h (UInt8.toNat_inj.1 e)
   by_cases h2:a<b
   ·have h3:¬ b<a:=fun h3=>by
     have:=xbj.1 h2
     have:=xbj.1 h3
     omega
    rw [decide_eq_true h2,decide_eq_false h3]
    rfl
   ·have h3:b<a:=xbj.2 (by
     have:¬ a.toNat<b.toNat:=fun h4=>h2 (xbj.2 h4)
     omega)
    rw [decide_eq_false h2,decide_eq_true h3]
    rfl
end Go.Proofs.YtomnhnmciopiiaaGreat
end
section
namespace Go.Proofs.YtomnhnmciopiiaaGreat
open Go Go.RowKit
section
variable {P:Program} {ops:Array Oper} {rest:List Oper} {o:Oper} {a:Act} {w:World} {Q:Exit→Act→World→Prop} {K:Act→World→Prop}
theorem ab (h:K a w):Exit.then K Q .normal a w:=h
theorem ai {id:Nat} (h:Q (.exit id) a w):Exit.then K Q (.exit id) a w:=h
theorem al {id:Nat} (h:Q .normal a w):xbQ id Q .normal a w:=h
theorem ax {id:Nat} (h:Q .normal a w):xbQ id Q (.exit id) a w:=by
 simp only [xbQ,if_true]
 exact h
theorem pX (hw:xaw o (yielded ops a.tmps)=true) (f:FuncId) (args:Array Value) (hrun:(execOp a.eval o).run P w=.ok (.enter f args) w) {R:Ending→World→Prop} (hc:Calls P f args w R)
  (h:∀ e w',R e w'→∃ v,e=.returned v∧wpList P ops Q rest (a.put o.dst v) w'):wpList P ops Q (o :: rest) a w :=
 jR hw fun K hK=>by
  unfold Oper.wp
  rw [hrun,Oper.upon_enter]
  refine hc.mono fun e w' hr=>?_
  obtain ⟨v,rfl,h2⟩:=h e w' hr
  exact hK _ _ h2
theorem tY {f:FuncId} {args:Array Value} {v:Value} (h:Calls P f args w fun e w'=>e=.returned v∧w'=w):Calls P f args w fun e w'=>e=.returned v∧Bel w w' :=
 h.mono fun _ _ ⟨h1,h2⟩=>⟨h1,h2▸xaq _ _⟩
end
theorem aE {w:World} {B s n cap k:Nat} {A:Option Addr} {t:TypeId} {xs:List Value} (h:w.ownsRow B t s (.slice A n cap) k xs) (hk:0<k):∃ g,A=some ⟨g,0,none⟩∧g<w.heap.size:=by
 obtain ⟨g,c,e,hl⟩:=BP h hk
 injection e with e1 _ _
 exact ⟨g,e1,hl⟩
theorem ay {α:Type} {l:List α} {j:Nat} {x:α} (h:l[j]?=some x):l.drop j=x :: l.drop (j+1):=by
 obtain ⟨h1,rfl⟩:=xah.1 h
 exact List.drop_eq_getElem_cons h1
theorem bJ {α:Type} {l:List α} {j:Nat} (h:l.length≤j):l.drop j=[]:=List.drop_eq_nil_of_le h
section
variable {P:Program} {ρ:Operand→Value} {o:Oper}
theorem xQ (t r:TypeId) (x y:Operand) (ho:o.op=.binOp .add t x y r) (k:IntKind) (a b c:Int) (hx:ρ x=.int k a) (hy:ρ y=.int k b) (hc:xbf k (a+b)=c) (W:World):(execOp ρ o).run P W=.ok (.value (.int k c)) W:=by
 subst hc
 unfold execOp
 simp [ho,hx,hy,go_sem,eqGuard,binOp]
theorem By (t r:TypeId) (x y:Operand) (ho:o.op=.binOp .sub t x y r) (k:IntKind) (a b c:Int) (hx:ρ x=.int k a) (hy:ρ y=.int k b) (hc:xbf k (a-b)=c) (W:World):(execOp ρ o).run P W=.ok (.value (.int k c)) W:=by
 subst hc
 unfold execOp
 simp [ho,hx,hy,go_sem,eqGuard,binOp]
theorem xV (t r:TypeId) (x y:Operand) (ho:o.op=.binOp .mul t x y r) (k:IntKind) (a b c:Int) (hx:ρ x=.int k a) (hy:ρ y=.int k b) (hc:xbf k (a*b)=c) (W:World):(execOp ρ o).run P W=.ok (.value (.int k c)) W:=by
 subst hc
 unfold execOp
 simp [ho,hx,hy,go_sem,eqGuard,binOp]
theorem Bv (t r:TypeId) (x y:Operand) (ho:o.op=.binOp .lss t x y r) (k:IntKind) (a b:Int) (hx:ρ x=.int k a) (hy:ρ y=.int k b) (c:Bool) (hc:decide (a<b)=c) (W:World):(execOp ρ o).run P W=.ok (.value (.bool c)) W:=by
 subst hc
 unfold execOp
 simp [ho,hx,hy,go_sem,eqGuard,binOp]
theorem Bs (t r:TypeId) (x y:Operand) (ho:o.op=.binOp .gtr t x y r) (k:IntKind) (a b:Int) (hx:ρ x=.int k a) (hy:ρ y=.int k b) (c:Bool) (hc:decide (b<a)=c) (W:World):(execOp ρ o).run P W=.ok (.value (.bool c)) W:=by
 subst hc
 unfold execOp
 simp [ho,hx,hy,go_sem,eqGuard,binOp]
theorem Bu (t r:TypeId) (x y:Operand) (ho:o.op=.binOp .leq t x y r) (k:IntKind) (a b:Int) (hx:ρ x=.int k a) (hy:ρ y=.int k b) (c:Bool) (hc:decide (a≤b)=c) (W:World):(execOp ρ o).run P W=.ok (.value (.bool c)) W:=by
 subst hc
 unfold execOp
 simp [ho,hx,hy,go_sem,eqGuard,binOp]
theorem Br (t r:TypeId) (x y:Operand) (ho:o.op=.binOp .geq t x y r) (k:IntKind) (a b:Int) (hx:ρ x=.int k a) (hy:ρ y=.int k b) (c:Bool) (hc:decide (b≤a)=c) (W:World):(execOp ρ o).run P W=.ok (.value (.bool c)) W:=by
 subst hc
 unfold execOp
 simp [ho,hx,hy,go_sem,eqGuard,binOp]
theorem sQ (t r:TypeId) (x y:Operand) (ho:o.op=.binOp .eql t x y r) (k:IntKind) (a b:Int) (hx:ρ x=.int k a) (hy:ρ y=.int k b) (c:Bool) (hc:decide (a=b)=c) (W:World):(execOp ρ o).run P W=.ok (.value (.bool c)) W:=by
 subst hc
 unfold execOp
 simp [ho,hx,hy,go_sem,eqGuard,binOp]
 try rfl
theorem sR (t r:TypeId) (x y:Operand) (ho:o.op=.binOp .neq t x y r) (k:IntKind) (a b:Int) (hx:ρ x=.int k a) (hy:ρ y=.int k b) (c:Bool) (hc:decide (a=b)=c) (W:World):(execOp ρ o).run P W=.ok (.value (.bool (!c))) W:=by
 subst hc
 unfold execOp
 simp [ho,hx,hy,go_sem,eqGuard,binOp]
 try rfl
theorem sS (t:TypeId) (x:Operand) (ho:o.op=.unOp .not t x) (a:Bool) (hx:ρ x=.bool a) (W:World):(execOp ρ o).run P W=.ok (.value (.bool (!a))) W:=by
 unfold execOp
 simp [ho,hx,go_sem,Op.unary]
theorem dG (c x y:Operand) (ho:o.op=.pick c x y) (b:Bool) (hc:ρ c=.bool b) (v:Value) (hv:(if b then ρ x else ρ y)=v) (W:World):(execOp ρ o).run P W=.ok (.value v) W:=by
 unfold execOp
 subst hv
 simp [ho,hc,go_sem]
theorem aO (x:Operand) (ho:o.op=.move x) (v:Value) (hv:ρ x=v) (W:World):(execOp ρ o).run P W=.ok (.value v) W:=by
 unfold execOp
 simp [ho,hv,go_sem]
theorem lv (x:Operand) (ho:o.op=.assign x) (v:Value) (hv:ρ x=v) (W:World):(execOp ρ o).run P W=.ok (.value v) W:=by
 unfold execOp
 simp [ho,hv,go_sem]
theorem zX (t r:TypeId) (x y:Operand) (ho:o.op=.binOp .lss t x y r) (a b:ByteArray) (hx:ρ x=.string a) (hy:ρ y=.string b) (c:Bool) (hc:xaF a.toList b.toList=c) (W:World):(execOp ρ o).run P W=.ok (.value (.bool c)) W:=by
 subst hc
 unfold execOp
 simp [ho,hx,hy,go_sem,eqGuard,binOp,Op.stringOp]
theorem zW (t r:TypeId) (x y:Operand) (ho:o.op=.binOp .geq t x y r) (a b:ByteArray) (hx:ρ x=.string a) (hy:ρ y=.string b) (c:Bool) (hc:xaF a.toList b.toList=c) (W:World):(execOp ρ o).run P W=.ok (.value (.bool (!c))) W:=by
 subst hc
 unfold execOp
 simp [ho,hx,hy,go_sem,eqGuard,binOp,Op.stringOp]
end
end Go.Proofs.YtomnhnmciopiiaaGreat
end
section
namespace Go.Proofs.YtomnhnmciopiiaaGreat
open Go Go.RowKit
section
variable {P:Program} {ops:Array Oper} {rest l l':List Oper} {o:Oper} {a a' a1:Act} {w:World} {Q:Exit→Act→World→Prop} {K:Act→World→Prop} {v:Value} {tl:List Value} {i:Nat}
def Ru (P:Program) (ops:Array Oper) (Q:Exit→Act→World→Prop) (l l':List Oper) (a a':Act):Prop:=∀ w,wpList P ops Q l' a' w→wpList P ops Q l a w
theorem Ru.nil:Ru P ops Q l l a a:=fun _ h=>h
theorem Ru.nm (e:a=a1) (h:Ru P ops Q l l' a1 a'):Ru P ops Q l l' a a':=e▸h
theorem Ru.val (hw:Region.wanted o (yielded ops a.tmps)=true) (hr:∀ w,(execOp a.eval o).run P w=.ok (.value v) w) (e:a.put o.dst v=a1) (h:Ru P ops Q rest l' a1 a'):Ru P ops Q (o :: rest) l' a a' :=
 fun w hh=>aC hw v w (hr w) (e▸h w hh)
theorem fZ (h:a.tmps.toList.drop i=v :: tl):a.eval (.tmp i)=v:=by
 have h1:a.tmps.toList[i]?=some v:=by
  have h2:=congrArg (fun l=>l[0]?) h
  simpa using h2
 show a.tmps.getD i undef=v
 rw [Array.getD_eq_getD_getElem?]
 rw [Array.getElem?_toList] at h1
 rw [h1]
 rfl
theorem W.n (h:o.guard=none) {y:Nat→Option Bool}:Region.wanted o y=true:=by simp only [Region.wanted,h]
theorem yl {g:Nat} {og:Oper} {t:Tmp} {vb:Value} {c:Bool} {tl1:List Oper} {tl2:List Value} (ho:ops.toList.drop g=og :: tl1) (hd:og.dst=some t) (hx:a.tmps.toList.drop t=vb :: tl2) (hb:vb=.bool c):yielded ops a.tmps g=some c:=by
 have h1:ops[g]?=some og:=by
  have h2:=congrArg (fun l=>l[0]?) ho
  simpa using h2
 have h3:a.tmps[t]?=some vb:=by
  have h2:=congrArg (fun l=>l[0]?) hx
  simpa using h2
 unfold yielded
 simp [h1,hd,h3,hb]
theorem W.g {g:Nat} {b c d:Bool} (hg:o.guard=some (g,b)) (hy:yielded ops a.tmps g=some c) (hc:(c == b)=d):Region.wanted o (yielded ops a.tmps)=d:=by
 simp only [Region.wanted,hg,hy]
 cases c<;>cases b<;>simp_all
theorem W.u {g:Nat} {b:Bool} (hg:o.guard=some (g,b)) (hy:yielded ops a.tmps g=none):Region.wanted o (yielded ops a.tmps)=false:=by
 simp only [Region.wanted,hg,hy]
 simp
theorem Ru.sk (hw:Region.wanted o (yielded ops a.tmps)=false) (e:a.put o.dst undef=a1) (h:Ru P ops Q rest l' a1 a'):Ru P ops Q (o :: rest) l' a a' :=
 fun w hh=>wpList_skip hw (e▸h w hh)
theorem Bq {ρ:Operand→Value} (x:Operand) (k:Nat) (ho:o.op=.extract x k) {vs:Array Value} (hx:ρ x=.tuple vs) (hv:vs[k]?=some v) (W:World):(execOp ρ o).run P W=.ok (.value v) W:=by
 unfold execOp
 simp [ho,hx,Instr.extract,hv,go_sem]
theorem xU {ρ:Operand→Value} (x:Operand) (t:TypeId) (ho:o.op=.call { callee:=.builtin .len,args:=#[x],argTypes:=#[t] }) {A:Option Addr} {n c:Nat} (hx:ρ x=.slice A n c) (hu:((P.underlying t).any fun u=>match u with | .slice _=>true | _=>false)=true) (W:World):(execOp ρ o).run P W=.ok (.value (.int .i64 (n:Int))) W:=by
 cases h:P.underlying t with
 | none=>rw [h] at hu;cases hu
 | some u =>
  rw [h] at hu
  cases u<;>simp at hu
  unfold execOp
  simp [ho,hx,resolve,invoke,builtin,Builtin.len_,go_sem,goInt,run_underlying (P:=P) h]
theorem Ru.ln {A:Option Addr} {n c:Nat} {t:TypeId} (ho:o.op=.call { callee:=.builtin .len,args:=#[.tmp i],argTypes:=#[t] }) (hx:a.tmps.toList.drop i=.slice A n c :: tl) (hu:((P.underlying t).any fun u=>match u with | .slice _=>true | _=>false)=true) (hw:Region.wanted o (yielded ops a.tmps)=true) (e:a.put o.dst (.int .i64 (n:Int))=a1) (h:Ru P ops Q rest l' a1 a'):Ru P ops Q (o :: rest) l' a a' :=
 .val hw (xU _ _ ho (fZ hx) hu) e h
def yS (ops:Array Oper) (t:List Value) (g:Nat):Option Bool:=match ops.toList.drop g with
 | og :: _=>match og.dst with
  | some d=>match t.drop d with
   | .bool b :: _=>some b
   | _=>none
  | none=>none
 | []=>none
def opL (t:List Value):Operand→List Value
 | .tmp i=>t.drop i
 | .const v=>[v]
 | _=>[]
def vB (o:Oper) (t:List Value):List Value:=match o.op with
 | .move x=>opL t x
 | .assign x=>opL t x
 | .pick (.tmp c) x y=>match t.drop c with
  | .bool true :: _=>opL t x
  | .bool false :: _=>opL t y
  | _=>[]
 | .unOp .not _ (.tmp i)=>match t.drop i with
  | .bool true :: _=>[.bool false]
  | .bool false :: _=>[.bool true]
  | _=>[]
 | .extract (.tmp i) k=>match t.drop i with
  | .tuple vs :: _=>vs.toList.drop k
  | _=>[]
 | _=>[]
def vL (ops:Array Oper) (o:Oper) (t:List Value):List Value:=match o.guard with
 | none=>vB o t
 | some (g,b)=>match yS ops t g with
  | some true=>match b with
   | true=>vB o t
   | false=>[undef]
  | some false=>match b with
   | true=>[undef]
   | false=>vB o t
  | none=>[undef]
theorem lu {α:Type} {l:List α} {i:Nat} {x:α} {tl:List α} (h:l.drop i=x :: tl):l[i]?=some x:=by
 have h2:=congrArg (fun l=>l[0]?) h
 simpa using h2
theorem oY {α:Type} {l:List α} {i:Nat} (h:l.drop i=[]):l[i]?=none:=by
 have h2:=congrArg (fun l=>l[0]?) h
 simpa using h2
theorem Ci (ops:Array Oper) (t:Array Value) (g:Nat):yS ops t.toList g=yielded ops t g:=by
 unfold yS yielded
 cases h:ops.toList.drop g with
 | nil =>
  have h1:=oY h
  rw [Array.getElem?_toList] at h1
  simp [h1]
 | cons og tl =>
  have h1:=lu h
  rw [Array.getElem?_toList] at h1
  simp only [h1,Option.bind_some]
  cases hd:og.dst with
  | none=>rfl
  | some d =>
   simp only [Option.bind_some]
   cases h2:t.toList.drop d with
   | nil =>
    have h3:=oY h2
    rw [Array.getElem?_toList] at h3
    simp [h3]
   | cons v tl2 =>
    have h3:=lu h2
    rw [Array.getElem?_toList] at h3
    simp only [h3]
    cases v<;>rfl
theorem qG {x:Operand} (h:opL a.tmps.toList x=v :: tl):a.eval x=v:=by
 cases x with
 | tmp i=>exact fZ h
 | const u =>
  simp only [opL,List.cons.injEq] at h
  exact h.1
 | _=>simp [opL] at h
theorem zx (h:vB o a.tmps.toList=v :: tl) (w:World):(execOp a.eval o).run P w=.ok (.value v) w:=by
 unfold vB at h
 split at h
 ·rename_i x ho
  exact aO x ho v (qG h) w
 ·rename_i x ho
  exact lv x ho v (qG h) w
 ·rename_i c x y ho
  split at h
  ·rename_i hc
   exact dG _ _ _ ho true (fZ hc) v (qG h) w
  ·rename_i hc
   exact dG _ _ _ ho false (fZ hc) v (qG h) w
  ·cases h
 ·rename_i t i ho
  split at h
  ·rename_i hc
   injection h with h _
   subst h
   exact sS t _ ho true (fZ hc) w
  ·rename_i hc
   injection h with h _
   subst h
   exact sS t _ ho false (fZ hc) w
  ·cases h
 ·rename_i i k ho
  split at h
  ·rename_i vs _ hc
   have h1:=lu h
   rw [Array.getElem?_toList] at h1
   exact Bq _ k ho (fZ hc) h1 w
  ·cases h
 ·cases h
theorem Ba (h:vL ops o a.tmps.toList=v :: tl):(Region.wanted o (yielded ops a.tmps)=true∧∀ w,(execOp a.eval o).run P w=.ok (.value v) w)∨(Region.wanted o (yielded ops a.tmps)=false∧v=undef):=by
 unfold vL at h
 cases hg:o.guard with
 | none =>
  rw [hg] at h
  exact .inl ⟨W.n hg,fun w=>zx h w⟩
 | some p =>
  obtain ⟨g,b⟩:=p
  rw [hg] at h
  simp only [Ci] at h
  cases hy:yielded ops a.tmps g with
  | none =>
   rw [hy] at h
   injection h with h _
   exact .inr ⟨W.u hg hy,h.symm⟩
  | some c =>
   rw [hy] at h
   cases c<;>cases b
   ·exact .inl ⟨W.g hg hy rfl,fun w=>zx h w⟩
   ·injection h with h _
    exact .inr ⟨W.g hg hy rfl,h.symm⟩
   ·injection h with h _
    exact .inr ⟨W.g hg hy rfl,h.symm⟩
   ·exact .inl ⟨W.g hg hy rfl,fun w=>zx h w⟩
theorem Ru.st (hv:vL ops o a.tmps.toList=v :: tl) (e:a.put o.dst v=a1) (h:Ru P ops Q rest l' a1 a'):Ru P ops Q (o :: rest) l' a a':=by
 rcases Ba (P:=P) hv with ⟨h1,h2⟩ | ⟨h1,rfl⟩
 ·exact .val h1 h2 e h
 ·exact .sk h1 e h
theorem rn (h:wpList P ops Q l' a' w) (e:Ru P ops Q l l' a a':=by
  (first | (refine' Ru.nm (by simp only [Act.put,List.setIfInBounds_toArray,List.set_cons_zero,List.set_cons_succ];rfl) ?_;rotate_left 2) | skip)
  repeat (first
   | (refine' Ru.st rfl (by simp only [Act.put,List.setIfInBounds_toArray,List.set_cons_zero,List.set_cons_succ];rfl) ?_;rotate_left 2)
   | (refine' Ru.ln rfl rfl (by kernel_rfl) (by first | exact W.n rfl | exact W.g rfl (yl rfl rfl rfl (by with_reducible rfl)) rfl) (by simp only [Act.put,List.setIfInBounds_toArray,List.set_cons_zero,List.set_cons_succ];rfl) ?_;rotate_left 2))
  exact Ru.nil):wpList P ops Q l a w:=e w h
theorem rl {id:Nat} (h:wpList P l.toArray Q l' a' w) (e:Ru P l.toArray Q l l' a a':=by
  (first | (refine' Ru.nm (by simp only [Act.put,List.setIfInBounds_toArray,List.set_cons_zero,List.set_cons_succ];rfl) ?_;rotate_left 2) | skip)
  repeat (first
   | (refine' Ru.st rfl (by simp only [Act.put,List.setIfInBounds_toArray,List.set_cons_zero,List.set_cons_succ];rfl) ?_;rotate_left 2)
   | (refine' Ru.ln rfl rfl (by kernel_rfl) (by first | exact W.n rfl | exact W.g rfl (yl rfl rfl rfl (by with_reducible rfl)) rfl) (by simp only [Act.put,List.setIfInBounds_toArray,List.set_cons_zero,List.set_cons_succ];rfl) ?_;rotate_left 2))
  exact Ru.nil):(Code.region id l.toArray false).wp P Q a w:=wp_region_lit (e w h)
theorem rv (hr:(execOp a.eval o).run P w=.ok (.value v) w) (h:wpList P ops Q l' a' w) (hw:Region.wanted o (yielded ops a.tmps)=true:=by kernel_rfl) (e:Ru P ops Q rest l' (a.put o.dst v) a':=by
  (first | (refine' Ru.nm (by simp only [Act.put,List.setIfInBounds_toArray,List.set_cons_zero,List.set_cons_succ];rfl) ?_;rotate_left 2) | skip)
  repeat (first
   | (refine' Ru.st rfl (by simp only [Act.put,List.setIfInBounds_toArray,List.set_cons_zero,List.set_cons_succ];rfl) ?_;rotate_left 2)
   | (refine' Ru.ln rfl rfl (by kernel_rfl) (by first | exact W.n rfl | exact W.g rfl (yl rfl rfl rfl (by with_reducible rfl)) rfl) (by simp only [Act.put,List.setIfInBounds_toArray,List.set_cons_zero,List.set_cons_succ];rfl) ?_;rotate_left 2))
  exact Ru.nil):wpList P ops Q (o :: rest) a w:=aC hw v w hr (e w h)
theorem rvw {w':World} (hr:(execOp a.eval o).run P w=.ok (.value v) w') (h:wpList P ops Q rest (a.put o.dst v) w') (hw:Region.wanted o (yielded ops a.tmps)=true:=by kernel_rfl):wpList P ops Q (o :: rest) a w:=aC hw v w' hr h
theorem nt (h:K a w):wpList P ops (Exit.then K Q) [] a w:=h
theorem ks (h:K a w):Code.skip.wp P (Exit.then K Q) a w:=wp_skip h
theorem ct {c:Operand} {x y:Code} (h:x.wp P Q a w) (hc:a.eval c=.bool true:=by rfl):(Code.cond c x y).wp P Q a w:=wp_cond hc h
theorem cf {c:Operand} {x y:Code} (h:y.wp P Q a w) (hc:a.eval c=.bool false:=by rfl):(Code.cond c x y).wp P Q a w:=wp_cond hc h
end
section
variable {P:Program} {ρ:Operand→Value} {o:Oper} {W:World} {t r:TypeId} {x y:Operand} {k:IntKind} {p q:Int} {c:Bool}
theorem aA (hc:decide (p<q)=c) (ho:o.op=.binOp .lss t x y r:=by rfl) (hx:ρ x=.int k p:=by rfl) (hy:ρ y=.int k q:=by rfl):(execOp ρ o).run P W=.ok (.value (.bool c)) W:=Bv t r x y ho k p q hx hy c hc W
theorem sB (hc:decide (q<p)=c) (ho:o.op=.binOp .gtr t x y r:=by rfl) (hx:ρ x=.int k p:=by rfl) (hy:ρ y=.int k q:=by rfl):(execOp ρ o).run P W=.ok (.value (.bool c)) W:=Bs t r x y ho k p q hx hy c hc W
theorem Cr (hc:decide (p≤q)=c) (ho:o.op=.binOp .leq t x y r:=by rfl) (hx:ρ x=.int k p:=by rfl) (hy:ρ y=.int k q:=by rfl):(execOp ρ o).run P W=.ok (.value (.bool c)) W:=Bu t r x y ho k p q hx hy c hc W
theorem sA (hc:decide (q≤p)=c) (ho:o.op=.binOp .geq t x y r:=by rfl) (hx:ρ x=.int k p:=by rfl) (hy:ρ y=.int k q:=by rfl):(execOp ρ o).run P W=.ok (.value (.bool c)) W:=Br t r x y ho k p q hx hy c hc W
theorem gG (hc:decide (p=q)=c) (ho:o.op=.binOp .eql t x y r:=by rfl) (hx:ρ x=.int k p:=by rfl) (hy:ρ y=.int k q:=by rfl):(execOp ρ o).run P W=.ok (.value (.bool c)) W:=sQ t r x y ho k p q hx hy c hc W
theorem sC (hc:decide (p=q)=c) (ho:o.op=.binOp .neq t x y r:=by rfl) (hx:ρ x=.int k p:=by rfl) (hy:ρ y=.int k q:=by rfl):(execOp ρ o).run P W=.ok (.value (.bool (!c))) W:=sR t r x y ho k p q hx hy c hc W
theorem aL (z:Int) (ho:o.op=.binOp .add t x y r:=by rfl) (hx:ρ x=.int .i64 p:=by rfl) (hy:ρ y=.int .i64 q:=by rfl) (hc:IntKind.wrap .i64 (p+q)=z:=by first | (rw [Go.IntWalk.i64_in _ (by omega)];done) | (rw [Go.IntWalk.i64_in _ (by omega)];omega) | (rw [Go.IntWalk.i64_in _ (by omega)];push_cast;omega)):(execOp ρ o).run P W=.ok (.value (.int .i64 z)) W:=xQ t r x y ho .i64 p q z hx hy hc W
theorem xr (z:Int) (ho:o.op=.binOp .sub t x y r:=by rfl) (hx:ρ x=.int .i64 p:=by rfl) (hy:ρ y=.int .i64 q:=by rfl) (hc:IntKind.wrap .i64 (p-q)=z:=by first | (rw [Go.IntWalk.i64_in _ (by omega)];done) | (rw [Go.IntWalk.i64_in _ (by omega)];omega) | (rw [Go.IntWalk.i64_in _ (by omega)];push_cast;omega)):(execOp ρ o).run P W=.ok (.value (.int .i64 z)) W:=By t r x y ho .i64 p q z hx hy hc W
theorem dy (j:Nat) {e:TypeId} {s b off n cap:Nat} (hu:P.underlying t=some (.slice e)) (hs:(P.info? e).map (·.size)=some s) (ho:o.op=.indexAddr t x y:=by rfl) (hx:ρ x=.slice (some ⟨b,off,none⟩) n cap:=by rfl) (hy:ρ y=.int .i64 (j:Int):=by rfl) (hj:j<n:=by omega):(execOp ρ o).run P W=.ok (.value (.pointer (some ⟨b,off+j*s,none⟩))) W:=by
 have h:=aH (P:=P) (ρ:=ρ) (o:=o) t e x y ho b off n cap (j:Int) .i64 hx hy ⟨by omega,by omega⟩ s hu hs W
 rwa [Int.toNat_natCast] at h
theorem aT (j:Nat) {e:TypeId} {s b n cap:Nat} (hu:P.underlying t=some (.slice e)) (hs:(P.info? e).map (·.size)=some s) (ho:o.op=.indexAddr t x y:=by rfl) (hx:ρ x=.slice (some ⟨b,0,none⟩) n cap:=by rfl) (hy:ρ y=.int .i64 (j:Int):=by rfl) (hj:j<n:=by omega):(execOp ρ o).run P W=.ok (.value (.pointer (some ⟨b,j*s,none⟩))) W:=by
 have h:=aH (P:=P) (ρ:=ρ) (o:=o) t e x y ho b 0 n cap (j:Int) .i64 hx hy ⟨by omega,by omega⟩ s hu hs W
 rwa [Int.toNat_natCast,Nat.zero_add] at h
theorem xld {b off:Nat} {cs:List Value} {d:TypeDesc} (hc:W.rangeAt b off cs) (hu:P.underlying t=some d) (hi:(P.info? t).map (·.size)=some cs.length) (ho:o.op=.load t x:=by rfl) (hx:ρ x=.pointer (some ⟨b,off,none⟩):=by rfl) (hd:d.isRow=true:=by rfl):(execOp ρ o).run P W=.ok (.value (.agg cs.toArray)) W:=aj t x ho b off hx cs d W hc hu hd hi
theorem xlc {a:Addr} {u:Value} {d:TypeDesc} (hc:W.cell? a=some u) (hu:P.underlying t=some d) (ho:o.op=.load t x:=by rfl) (hx:ρ x=.pointer (some a):=by rfl) (hd:d.isRow=false:=by rfl):(execOp ρ o).run P W=.ok (.value u) W:=exec_load_cell t x ho a hx u d W hu hd hc
theorem Ch {xs ys:Array Value} {d:Bool} (hv:(Op.equal t (.agg xs) (.agg ys)).run P W=.ok d W) (hc:d=c) (ho:o.op=.binOp .eql t x y r:=by rfl) (hx:ρ x=.agg xs:=by rfl) (hy:ρ y=.agg ys:=by rfl) (hm:P.eqGuardType P.depth t=false:=by kernel_rfl):(execOp ρ o).run P W=.ok (.value (.bool c)) W:=bX t r x y ho xs ys hx hy hm c W (hc▸hv)
theorem kj (a b:ByteArray) (hs:a.size+b.size≤9223372036854775807) (ho:o.op=.binOp .add t x y r:=by rfl) (hx:ρ x=.string a:=by rfl) (hy:ρ y=.string b:=by rfl):(execOp ρ o).run P W=.ok (.value (.string (a++b))) W:=aZ t x y r ho a b hx hy hs W
theorem uo {b:Bool} (ho:o.op=.unOp .not t x:=by rfl) (hx:ρ x=.bool b:=by rfl):(execOp ρ o).run P W=.ok (.value (.bool (!b))) W:=sS t x ho b hx W
end
end Go.Proofs.YtomnhnmciopiiaaGreat
namespace Go.Proofs.YtomnhnmciopiiaaGreat.Fre
open Go Go.RowKit
section
variable {P:Program} {ops:Array Oper} {L:fv} {w0:World} {rest l l':List Oper} {o:Oper} {a a' a1:Act} {Q:Act→Prop} {X:World→World→Prop} {v:Value} {tl:List Value} {i:Nat}
def Rm (X:World→World→Prop) (P:Program) (ops:Array Oper) (L:fv) (w0:World) (Q:Act→Prop) (l l':List Oper) (a a':Act):Prop:=bK X P ops (aF L) w0 Q l' a'→bK X P ops (aF L) w0 Q l a
theorem Rm.nil:Rm X P ops L w0 Q l l a a:=fun h=>h
theorem Rm.nm (e:a=a1) (h:Rm X P ops L w0 Q l l' a1 a'):Rm X P ops L w0 Q l l' a a':=e▸h
theorem Rm.val (hB:cR (L.map (·.1)) ops o=true) (hw:Region.wanted o (yielded ops a.tmps)=true) (hd:o.dst.bind (aF L)=none) (hr:∀ w,(execOp a.eval o).run P w=.ok (.value v) w) (e:a.put o.dst v=a1) (h:Rm X P ops L w0 Q rest l' a1 a'):Rm X P ops L w0 Q (o :: rest) l' a a' :=
 fun hh=>ae v hB hw hd (fun w _=>hr w) (e▸h hh)
def AZ:Op→Bool
 | .select _ _=>false
 | _=>true
theorem LB.b {keys:List Tmp} (h:AZ o.op=true) (hk:((o.looksAt ops).all fun s=>!keys.contains s)=true):cR keys ops o=true:=by
 unfold cR
 rw [hk,Bool.and_true]
 cases hop:o.op<;>first | rfl | (rw [hop] at h;cases h)
theorem LB.z (h:AZ o.op=true):cR [] ops o=true:=LB.b h (by simp)
theorem Rm.ln {A:Option Addr} {n c:Nat} {t:TypeId} (ho:o.op=.call { callee:=.builtin .len,args:=#[.tmp i],argTypes:=#[t] }) (hx:a.tmps.toList.drop i=.slice A n c :: tl) (hu:((P.underlying t).any fun u=>match u with | .slice _=>true | _=>false)=true) (hB:cR (L.map (·.1)) ops o=true) (hw:Region.wanted o (yielded ops a.tmps)=true) (hd:o.dst.bind (aF L)=none) (e:a.put o.dst (.int .i64 (n:Int))=a1) (h:Rm X P ops L w0 Q rest l' a1 a'):Rm X P ops L w0 Q (o :: rest) l' a a' :=
 .val hB hw hd (xU _ _ ho (fZ hx) hu) e h
theorem Rm.sk (hB:cR (L.map (·.1)) ops o=true) (hw:Region.wanted o (yielded ops a.tmps)=false) (hd:o.dst.bind (aF L)=none) (e:a.put o.dst undef=a1) (h:Rm X P ops L w0 Q rest l' a1 a'):Rm X P ops L w0 Q (o :: rest) l' a a' :=
 fun hh=>bF hB hw hd (e▸h hh)
theorem Rm.st (hB:cR (L.map (·.1)) ops o=true) (hd:o.dst.bind (aF L)=none) (hv:vL ops o a.tmps.toList=v :: tl) (e:a.put o.dst v=a1) (h:Rm X P ops L w0 Q rest l' a1 a'):Rm X P ops L w0 Q (o :: rest) l' a a':=by
 rcases Ba (P:=P) hv with ⟨h1,h2⟩ | ⟨h1,rfl⟩
 ·exact .val hB h1 hd h2 e h
 ·exact .sk hB h1 hd e h
theorem rmd (h:bK X P ops (aF L) w0 Q l' a') (e:Rm X P ops L w0 Q l l' a a':=by
  (first | (refine' Fre.Rm.nm (by simp only [Act.put,List.setIfInBounds_toArray,List.set_cons_zero,List.set_cons_succ];rfl) ?_;rotate_left 2) | skip)
  repeat (first
   | (refine' Fre.Rm.st (by first | exact Fre.LB.z rfl | exact Fre.LB.b rfl rfl) rfl rfl (by simp only [Act.put,List.setIfInBounds_toArray,List.set_cons_zero,List.set_cons_succ];rfl) ?_;rotate_left 2)
   | (refine' Fre.Rm.ln rfl rfl (by kernel_rfl) (by first | exact Fre.LB.z rfl | exact Fre.LB.b rfl rfl) (by first | exact W.n rfl | exact W.g rfl (yl rfl rfl rfl (by with_reducible rfl)) rfl) rfl (by simp only [Act.put,List.setIfInBounds_toArray,List.set_cons_zero,List.set_cons_succ];rfl) ?_;rotate_left 2))
  exact Fre.Rm.nil):bK X P ops (aF L) w0 Q l a:=e h
theorem mvv (hr:∀ w,Ext X w0 w→(execOp a.eval o).run P w=.ok (.value v) w) (h:bK X P ops (aF L) w0 Q l' a') (hB:cR (L.map (·.1)) ops o=true:=by kernel_rfl) (hw:Region.wanted o (yielded ops a.tmps)=true:=by kernel_rfl) (hd:o.dst.bind (aF L)=none:=by kernel_rfl) (e:Rm X P ops L w0 Q rest l' (a.put o.dst v) a':=by
  (first | (refine' Fre.Rm.nm (by simp only [Act.put,List.setIfInBounds_toArray,List.set_cons_zero,List.set_cons_succ];rfl) ?_;rotate_left 2) | skip)
  repeat (first
   | (refine' Fre.Rm.st (by first | exact Fre.LB.z rfl | exact Fre.LB.b rfl rfl) rfl rfl (by simp only [Act.put,List.setIfInBounds_toArray,List.set_cons_zero,List.set_cons_succ];rfl) ?_;rotate_left 2)
   | (refine' Fre.Rm.ln rfl rfl (by kernel_rfl) (by first | exact Fre.LB.z rfl | exact Fre.LB.b rfl rfl) (by first | exact W.n rfl | exact W.g rfl (yl rfl rfl rfl (by with_reducible rfl)) rfl) rfl (by simp only [Act.put,List.setIfInBounds_toArray,List.set_cons_zero,List.set_cons_succ];rfl) ?_;rotate_left 2))
  exact Fre.Rm.nil):bK X P ops (aF L) w0 Q (o :: rest) a:=ae v hB hw hd hr (e h)
end
end Go.Proofs.YtomnhnmciopiiaaGreat.Fre
end
section
namespace Go.Proofs.YtomnhnmciopiiaaGreat
open Go Go.RowKit
section
variable {P:Program} {ops:Array Oper} {rest:List Oper} {o:Oper} {a:Act} {w:World} {Q:Exit→Act→World→Prop} {K:Act→World→Prop} {v:Value}
theorem sk {x y:Code} (h:∀ K:Act→World→Prop,(∀ a w,y.wp P Q a w→K a w)→x.wp P (Exit.then K Q) a w):(Code.seq x y).wp P Q a w:=wp_seq_k h
theorem rp {l':List Oper} {a':Act} (b k:Nat) (h:wpList P ops Q l' a' w) (hr:(execOp a.eval o).run P w=.ok (.value (.pointer (some ⟨b,k,none⟩))) w:=by kernel_rfl) (hw:Region.wanted o (yielded ops a.tmps)=true:=by kernel_rfl) (e:Ru P ops Q rest l' (a.put o.dst (.pointer (some ⟨b,k,none⟩))) a':=by
  (first | (refine' Ru.nm (by simp only [Act.put,List.setIfInBounds_toArray,List.set_cons_zero,List.set_cons_succ];rfl) ?_;rotate_left 2) | skip)
  repeat (first
   | (refine' Ru.st rfl (by simp only [Act.put,List.setIfInBounds_toArray,List.set_cons_zero,List.set_cons_succ];rfl) ?_;rotate_left 2)
   | (refine' Ru.ln rfl rfl (by kernel_rfl) (by first | exact W.n rfl | exact W.g rfl (yl rfl rfl rfl (by with_reducible rfl)) rfl) (by simp only [Act.put,List.setIfInBounds_toArray,List.set_cons_zero,List.set_cons_succ];rfl) ?_;rotate_left 2))
  exact Ru.nil):wpList P ops Q (o :: rest) a w:=aC hw _ w hr (e w h)
theorem rt {fn:Func} {R:Ending→World→Prop} {t:Tmp} (h:R (.returned (a.tmps.getD t undef)) w) (hq:Q .ret a w=bodyPost P fn R .ret a w:=by first | (simp only [Exit.then,Exit.inBlock];done) | (simp only [Exit.then,Exit.inBlock];rfl) | rfl) (hr:fn.results=#[.tmp t]:=by rfl) (hd:a.defers=[]:=by rfl):Code.ret.wp P Q a w :=
 wp_ret (hq▸bodyPost_ret (results_tmp hr _ _ _) hd h)
theorem cs {f:FuncId} {args:Array Value} (hc:Calls P f args w fun e w'=>e=.returned v∧w'=w) (h:wpList P ops Q rest (a.put o.dst v) w) (hw:Region.wanted o (yielded ops a.tmps)=true:=by kernel_rfl) (hrun:(execOp a.eval o).run P w=.ok (.enter f args) w:=by kernel_rfl):wpList P ops Q (o :: rest) a w :=
 pX hw f args hrun hc fun _ _ ⟨e1,e2⟩=>⟨v,e1,e2▸h⟩
theorem ac {f:FuncId} {args:Array Value} {R:Ending→World→Prop} (hc:Calls P f args w R) (h:∀ e w',R e w'→∃ v,e=.returned v∧wpList P ops Q rest (a.put o.dst v) w') (hw:Region.wanted o (yielded ops a.tmps)=true:=by kernel_rfl) (hrun:(execOp a.eval o).run P w=.ok (.enter f args) w:=by kernel_rfl):wpList P ops Q (o :: rest) a w :=
 pX hw f args hrun hc h
theorem gx {α:Type} {l:List α} {j:Nat} (h:j<l.length:=by first | omega | (rw [List.length_map,List.length_range];omega)):∃ x,l[j]?=some x:=⟨_,List.getElem?_eq_getElem h⟩
theorem nz (ty:TypeId) (zc:Array Value) (h:∀ w',hI w w' ty zc→wpList P ops Q rest (a.put o.dst (.pointer (some ⟨w.heap.size,0,none⟩))) w') (hg:o.guard=none:=by rfl) (hr:(execOp a.eval o).run P w=.ok (.value (.pointer (some ⟨w.heap.size,0,none⟩))) (w.alloc (.cells zc ty)):=by kernel_rfl):wpList P ops Q (o :: rest) a w:=bq hg ty zc hr h
theorem bx (ty:TypeId) {x:Operand} (cells:List Value) (h:∀ w',hI w w' ty cells.toArray→wpList P ops Q rest (a.put o.dst (.pointer (some ⟨w.heap.size,0,none⟩))) w') (hg:o.guard=none:=by rfl) (ho:o.op=.box ty x:=by rfl) (hx:a.eval x=.agg cells.toArray:=by rfl):wpList P ops Q (o :: rest) a w:=aW hg ty x ho cells.toArray hx h
theorem stb {ty:TypeId} {x y:Operand} {g:Nat} {t:TypeId} {old new:Array Value} (hb:Blk w g t old) (hi:(P.info? ty).map (·.size)=some new.size) (he:old.size=new.size) (h1:new.all (·.oneCell')=true) (h:∀ w',Blk w' g t new→w.grownBy w' (some g)→wpList P ops Q rest (a.put o.dst undef) w')
  (hg:o.guard=none:=by rfl) (ho:o.op=.store ty x y:=by rfl) (hx:a.eval x=.pointer (some ⟨g,0,none⟩):=by rfl) (hy:a.eval y=.agg new:=by rfl):wpList P ops Q (o :: rest) a w:=ar hg ty x y ho g old new t hb hi he h1 hx hy h
end
end Go.Proofs.YtomnhnmciopiiaaGreat
namespace Go.Proofs.YtomnhnmciopiiaaGreat.Fre
open Go Go.RowKit
section
variable {P:Program} {ops:Array Oper} {L:fv} {w0:World} {rest:List Oper} {o:Oper} {a:Act} {Q:Act→Prop} {X:World→World→Prop} {v:Value}
theorem mc {f:FuncId} {args:Array Value} (hc:∀ w,Ext X w0 w→Calls P f args w fun e w'=>e=.returned v∧Ext X w w') (h:bK X P ops (aF L) w0 Q rest (a.put o.dst v))
  (hB:cR (L.map (·.1)) ops o=true:=by kernel_rfl) (hw:Region.wanted o (yielded ops a.tmps)=true:=by kernel_rfl) (hd:o.dst.bind (aF L)=none:=by kernel_rfl) (hrun:∀ w,(execOp a.eval o).run P w=.ok (.enter f args) w:=by intro W9;kernel_rfl):bK X P ops (aF L) w0 Q (o :: rest) a:=dB v f args hB hw hd hrun hc h
end
end Go.Proofs.YtomnhnmciopiiaaGreat.Fre
end
section
namespace Go.Proofs.YtomnhnmciopiiaaGreat
open Go Go.RowKit
section
variable {P:Program} {w:World} {ops:Array Oper} {rest:List Oper} {o:Oper} {a:Act} {Q:Exit→Act→World→Prop}
theorem cU (hg:o.guard=none) (ty:TypeId) (x y:Operand) (ho:o.op=.store ty x y) {B g n cap s k:Nat} {xs:List Value} (hown:w.ownsRow B ty s (.slice (some ⟨g,0,none⟩) n cap) n xs) (cs:List Value) (hk:k<n) (hcs:cs.length=s) (hi:(P.info? ty).map (·.size)=some cs.toArray.size) (h1:cs.toArray.all (·.oneCell')=true)
  (hx:a.eval x=.pointer (some ⟨g,k*s,none⟩)) (hy:a.eval y=.agg cs.toArray)
  (h:∀ w',w'.ownsRow B ty s (.slice (some ⟨g,0,none⟩) n cap) n (xs.take (k*s)++(cs++xs.drop (k*s+s)))→w.grownBy w' (some g)→w'.heap.size=w.heap.size→wpList P ops Q rest (a.put o.dst undef) w'):wpList P ops Q (o :: rest) a w:=by
 have hks:k*s+s≤n*s:=by
  have:(k+1)*s≤n*s:=xa8 _ hk
  rwa [Nat.add_mul,Nat.one_mul] at this
 have hth:=lM hown (k*s) cs.length (by rw [hcs];exact hks)
 refine wpList_store_mid hg ty x y ho g (k*s) cs.toArray hx hy (by simpa using hth) hi h1 ?_
 have h2:=fE hown (k*s) cs (by rw [hcs];exact hks)
 rw [hcs] at h2
 have hg2:=eF (g:=g) cs (k*s) w (World.grownBy.refl w (some g))
 have hsz:∀ (vs:List Value) (q:Nat) (w:World),(w.setCells g q vs).heap.size=w.heap.size:=by
  intro vs
  induction vs with
  | nil=>intro q w;rfl
  | cons v vs ih=>intro q w;rw [World.setCells,ih];simp [World.setCell]
 exact h _ (by simpa using h2) (by simpa using hg2) (by first | (simp;done) | (simpa using hsz cs (k*s) w))
end
end Go.Proofs.YtomnhnmciopiiaaGreat
end
section
namespace Go.Proofs.YtomnhnmciopiiaaGreat
open Go Go.RowKit
def lst (n m:Nat):Array Bool:=((xaf n).map fun j=>m.testBit j).toArray
theorem nH (n m j:Nat) (d:Bool):(lst n m).getD j d=if j<n then m.testBit j else d:=by
 unfold lst
 rw [xbB,xbn,xaD]
 by_cases h:j<n
 ·rw [List.getElem?_range h,if_pos h]
  rfl
 ·rw [xbi (by simp;omega),if_neg h]
  rfl
theorem yD (n:Nat):lst n 0=xbx n false:=by
 unfold lst
 apply Array.ext_getElem?
 intro j
 rw [xbn,xaD,Array.getElem?_replicate]
 by_cases h:j<n
 ·rw [List.getElem?_range h,if_pos h]
  simp
 ·rw [xbi (by simp;omega),if_neg h]
  rfl
theorem qw (n m i:Nat):(lst n m).setIfInBounds i true=lst n (m ||| 1 <<< i):=by
 unfold lst
 apply Array.ext_getElem?
 intro j
 rw [xaa,xbn,xbn,List.getElem?_set,xaD,xaD]
 by_cases h:j<n
 ·rw [List.getElem?_range h]
  simp only [Option.map_some,xat,List.length_range]
  by_cases hij:i=j
  ·subst hij
   rw [if_pos rfl,if_pos h,Nat.testBit_or,xcg]
   simp
  ·rw [if_neg hij,Nat.testBit_or,xcg]
   have:(decide (j ≥ i)&&Nat.testBit 1 (j-i))=false:=by
    by_cases hji:i≤j
    ·have:j-i ≠ 0:=by omega
     obtain ⟨k,hk⟩:=Nat.exists_eq_succ_of_ne_zero this
     rw [hk]
     simp [Nat.testBit_succ]
    ·simp [hji]
   rw [this,Bool.or_false]
 ·rw [xbi (l:=xaf n) (by simp;omega)]
  simp only [Option.map_none,xat,List.length_range]
  by_cases hij:i=j
  ·subst hij
   rw [if_pos rfl,if_neg h]
  ·rw [if_neg hij]
def oD (ops:Array Oper) (m i:Nat):Bool:=!m.testBit i&&((ops[i]?).map (·.after.all fun e=>!xbR .any e||(decide (e.on<ops.size)&&m.testBit e.on))).getD false
theorem qN (ops:Array Oper) (m:Nat):xbo .any ops (lst ops.size m)=(xaf ops.size).filter (oD ops m):=by
 unfold xbo
 refine List.filter_congr fun i hi=>?_
 have hi:=xbb.1 hi
 unfold oD
 rw [nH,if_pos hi]
 congr 2
 congr 1
 funext o
 congr 1
 funext e
 rw [nH]
 congr 1
 by_cases h:e.on<ops.size
 ·rw [if_pos h]
  simp [h]
 ·rw [if_neg h]
  simp [h]
def uE (ops:Array Oper) (m i:Nat):Bool:=match ops[i]? with
 | none=>false
 | some oi=>(xaf ops.size).all fun j=>j == i||m.testBit j||match ops[j]? with
   | some oj=>oj.after.any (fun e=>xbR .any e&&e.on == i)||oi.apart ops oj
   | none=>true
theorem rm {ops:Array Oper} {m i:Nat} (h:uE ops m i=true):Region.free .any ops (lst ops.size m) i=true:=by
 unfold uE at h
 unfold Region.free
 cases e:ops[i]? with
 | none=>rw [e] at h;cases h
 | some oi =>
  rw [e] at h
  simp only at h ⊢
  rw [xbg] at h ⊢
  intro j hj
  rw [nH,if_pos (xbb.1 hj)]
  exact h j hj
section
variable {P:Program} {ops:Array Oper} {Q:Exit→Act→World→Prop} {w0:World} {L:List Ent} {fuel:Nat} {m:Nat} {a:Act} {w:World}
def HD (P:Program) (ops:Array Oper) (Q:Exit→Act→World→Prop) (w0:World) (L:List Ent) (fuel:Nat) (m:Nat) (a:Act) (w:World):Prop :=
 (∀ d v c (a:Act) w,Q (.panic c) (a.put d v) w→Q (.panic c) a w)→xbD ops=true→wpAnyH P .any ops Q (fun W=>Mem w0 W L) fuel (lst ops.size m) a w
theorem gN {id:Nat} (n:Nat) (hn:ops.size=n) (hm:P.follows .mixedOrders=true) (hQ:∀ d v c (a:Act) w,Q (.panic c) (a.put d v) w→Q (.panic c) a w) (hs:xbD ops=true) (hS:Mem w0 w L)
  (h:∀ w1,Below w.heap.size w w1→Mem w0 w1 L→HD P ops Q w0 L n 0 a w1):(Code.region id ops true).wp P Q a w:=by
 have hb:Below w.heap.size w w.drew:=(xaq _ w).drew
 refine wp_region_held (S:=fun W=>Mem w0 W L) hm ?_
 have h2:=h w.drew hb (hS.call hb) hQ hs
 rw [← hn,yD] at h2
 exact h2
theorem uV {ops:Array Oper} {m i:Nat} {o:Oper} (hi:ops[i]?=some o) (hr:oD ops m i=true):(xbo .any ops (lst ops.size m)).contains i=true:=by
 rw [qN,List.contains_iff_mem]
 exact List.mem_filter.2 ⟨xbb.2 (Array.getElem?_eq_some_iff.1 hi).1,hr⟩
theorem nr {ops:Array Oper} {i:Nat} {o:Oper} {rest:List Oper} (h:ops.toList.drop i=o :: rest):ops[i]?=some o:=by
 have h2:(ops.toList.drop i)[0]?=some o:=by rw [h];rfl
 rw [List.getElem?_drop] at h2
 rw [← xaM]
 exact h2
theorem ao (i m':Nat) (o:Oper) (v:Value) {rest:List Oper} (hi9:ops.toList.drop i=o :: rest) (hf:(uE ops m i&&oD ops m i&&xaw o (yielded ops a.tmps)&&(m ||| 1 <<< i) == m')=true)
  (hx:∀ W9,Mem w0 W9 L→(execOp a.eval o).run P W9=.ok (.value v) W9) (hS:Mem w0 w L) (h:HD P ops Q w0 L fuel m' (a.put o.dst v) w):HD P ops Q w0 L (fuel+1) m a w:=by
 have hi:=nr hi9
 simp only [xaG,beq_iff_eq] at hf
 intro hQ hs
 refine wpAnyH_take hi hs (rm hf.1.1.1) (uV hi hf.1.1.2) (fun c a w=>hQ o.dst v c a w) (.inl ⟨hf.1.2,hx⟩) hS ?_
 rw [qw,hf.2]
 exact h hQ hs
theorem mz (i m':Nat) (o:Oper) {rest:List Oper} (hi9:ops.toList.drop i=o :: rest) (hf:(uE ops m i&&oD ops m i&&!xaw o (yielded ops a.tmps)&&(m ||| 1 <<< i) == m')=true)
  (hS:Mem w0 w L) (h:HD P ops Q w0 L fuel m' (a.put o.dst undef) w):HD P ops Q w0 L (fuel+1) m a w:=by
 have hi:=nr hi9
 simp only [xaG,beq_iff_eq,Bool.not_eq_true'] at hf
 intro hQ hs
 refine wpAnyH_take hi hs (rm hf.1.1.1) (uV hi hf.1.1.2) (fun c a w=>hQ o.dst undef c a w) (.inr ⟨hf.1.2,rfl⟩) hS ?_
 rw [qw,hf.2]
 exact h hQ hs
theorem s7 {i m':Nat} {o:Oper} (hi:ops[i]?=some o) (hf:((xaf ops.size).filter (oD ops m) == [i]&&xaw o (yielded ops a.tmps)&&(m ||| 1 <<< i) == m')=true)
  (h:(∀ d v c (a:Act) w,Q (.panic c) (a.put d v) w→Q (.panic c) a w)→xbD ops=true→Oper.wp P o a w (fun a' w'=>Mem w0 w' L∧wpAnyH P .any ops Q (fun W=>Mem w0 W L) fuel (lst ops.size m') a' w') Q):HD P ops Q w0 L (fuel+1) m a w:=by
 simp only [xaG,beq_iff_eq] at hf
 intro hQ hs
 refine wpAnyH_all ((qN ops m).trans hf.1.1) (by simp) fun j hj=>?_
 rw [xan.1 hj,qw,hf.2]
 unfold wpOp
 simp only [hi,hf.1.2,if_true]
 exact .inl (h hQ hs)
theorem b7 (i m':Nat) (o:Oper) {rest:List Oper} (hi9:ops.toList.drop i=o :: rest) (hf:((xaf ops.size).filter (oD ops m) == [i]&&xaw o (yielded ops a.tmps)&&(m ||| 1 <<< i) == m')=true) (f:FuncId) (args:Array Value) (hrun:(execOp a.eval o).run P w=.ok (.enter f args) w)
  {R:Ending→World→Prop} (hc:Calls P f args w R) (h:∀ e w',R e w'→∃ v,e=.returned v∧Mem w0 w' L∧HD P ops Q w0 L fuel m' (a.put o.dst v) w'):HD P ops Q w0 L (fuel+1) m a w:=by
 refine s7 (nr hi9) hf fun hQ hs=>?_
 unfold Oper.wp
 rw [hrun,Oper.upon_enter]
 refine hc.mono fun e w' he=>?_
 obtain ⟨v,rfl,h1,h2⟩:=h e w' he
 exact ⟨h1,h2 hQ hs⟩
theorem z7 (i m':Nat) (o:Oper) (v:Value) (w':World) {rest:List Oper} (hi9:ops.toList.drop i=o :: rest) (hf:((xaf ops.size).filter (oD ops m) == [i]&&xaw o (yielded ops a.tmps)&&(m ||| 1 <<< i) == m')=true) (hrun:(execOp a.eval o).run P w=.ok (.value v) w')
  (hS:Mem w0 w' L) (h:HD P ops Q w0 L fuel m' (a.put o.dst v) w'):HD P ops Q w0 L (fuel+1) m a w:=by
 refine s7 (nr hi9) hf fun hQ hs=>?_
 unfold Oper.wp
 rw [hrun]
 exact ⟨hS,h hQ hs⟩
theorem ij (hr:(xaf ops.size).all (fun i=>m.testBit i)=true) (h:Q .normal a w):HD P ops Q w0 L fuel m a w:=fun _ _=>wpAnyH_done (by
 rw [qN,List.filter_eq_nil_iff]
 intro i hi
 have:=xbg.1 hr i hi
 simp [oD,this]) h fuel
end
theorem xW {ρ:Operand→Value} {o:Oper} (t r:TypeId) (x y:Operand) (ho:o.op=.binOp .neq t x y r) (b:Bool) (hx:ρ x=.bool b) (hy:ρ y=.bool b) (W:World) (ht:t=4:=by rfl):(execOp ρ o).run Tryz.prog W=.ok (.value (.bool false)) W:=by
 subst ht
 unfold execOp
 simp only [ho,hx,hy]
 cases b<;>kernel_rfl
end Go.Proofs.YtomnhnmciopiiaaGreat
end
section
namespace Go.Proofs.YtomnhnmciopiiaaGreat
open Go Go.RowKit
section
variable {P:Program} {ρ:Operand→Value} {o:Oper}
theorem BI {n:Int} (h0:0≤n) (h:n<9223372036854775808):xbf .i64 n=n:=xaS _ (by omega)
theorem gb (t r:TypeId) (x y:Operand) (ho:o.op=.binOp .rem t x y r) (a b:Nat) (hx:ρ x=.int .i64 (a:Int)) (hy:ρ y=.int .i64 (b:Int)) (hb:b ≠ 0) (W:World):(execOp ρ o).run P W=.ok (.value (.int .i64 ((a % b:Nat):Int))) W:=by
 have h1:(a:Int).tmod (b:Int)=((a % b:Nat):Int):=by rw [Int.tmod_eq_emod_of_nonneg (by omega)];rfl
 have h2:¬ (b:Int)=0:=by omega
 unfold execOp
 simp [ho,hx,hy,go_sem,Op.intDiv,h1,hb]
theorem ic (t r:TypeId) (x y:Operand) (ho:o.op=.binOp .quo t x y r) (a b:Nat) (hx:ρ x=.int .i64 (a:Int)) (hy:ρ y=.int .i64 (b:Int)) (hb:b ≠ 0) (ha:a<9223372036854775808) (W:World):(execOp ρ o).run P W=.ok (.value (.int .i64 ((a / b:Nat):Int))) W:=by
 have h1:(a:Int).tdiv (b:Int)=((a / b:Nat):Int):=by rw [Int.tdiv_eq_ediv_of_nonneg (by omega)];rfl
 have h2:¬ (b:Int)=0:=by omega
 have h3:a / b≤a:=Nat.div_le_self a b
 have h4:xbf .i64 ((a / b:Nat):Int)=((a / b:Nat):Int):=BI (Int.natCast_nonneg _) (Int.ofNat_lt.2 (Nat.lt_of_le_of_lt h3 ha))
 unfold execOp
 simp only [ho,hx,hy,go_sem,Op.intDiv,h1,h2,if_false,h4]
 simp
theorem zZ (t r:TypeId) (x y:Operand) (ho:o.op=.binOp .shr t x y r) (a b:Int) (hx:ρ x=.int .i64 a) (hy:ρ y=.int .i64 b) (hb:0≤b) (W:World):(execOp ρ o).run P W=.ok (.value (.int .i64 (a.fdiv (2 ^ min b.toNat 64)))) W:=by
 have h2:¬ b<0:=by omega
 unfold execOp
 simp [ho,hx,hy,go_sem,Op.shift,h2,IntKind.bits]
theorem zV (t r:TypeId) (x y:Operand) (ho:o.op=.binOp .and t x y r) (a b:Int) (hx:ρ x=.int .i64 a) (hy:ρ y=.int .i64 b) (W:World):(execOp ρ o).run P W=.ok (.value (.int .i64 (xbf .i64 (BitVec.ofInt 64 a &&& BitVec.ofInt 64 b).toNat))) W:=by
 unfold execOp
 simp only [ho,hx,hy]
 rfl
end
section
variable {P:Program} {w:World} {ops:Array Oper} {rest:List Oper} {o:Oper} {a:Act} {Q:Exit→Act→World→Prop}
theorem fW (hg:o.guard=none) (ty:TypeId) (x y:Operand) (ho:o.op=.store ty x y) {B g n cap s off:Nat} {e:TypeId} {xs:List Value} (hown:w.ownsRow B e s (.slice (some ⟨g,0,none⟩) n cap) n xs) (cs:List Value) (hk:off+cs.length≤n*s) (hi:(P.info? ty).map (·.size)=some cs.toArray.size) (h1:cs.toArray.all (·.oneCell')=true)
  (hx:a.eval x=.pointer (some ⟨g,off,none⟩)) (hy:a.eval y=.agg cs.toArray)
  (h:∀ w',w'.ownsRow B e s (.slice (some ⟨g,0,none⟩) n cap) n (xs.take off++(cs++xs.drop (off+cs.length)))→w.grownBy w' (some g)→wpList P ops Q rest (a.put o.dst undef) w'):wpList P ops Q (o :: rest) a w:=by
 refine wpList_store_mid hg ty x y ho g off cs.toArray hx hy (by simpa using lM hown off cs.length hk) hi h1 ?_
 exact h _ (by simpa using fE hown off cs hk) (by simpa using eF (g:=g) cs off w (World.grownBy.refl w (some g)))
theorem dA (hg:o.guard=none) (ty:TypeId) (x y:Operand) (ho:o.op=.store ty x y) {B g n cap s off:Nat} {e:TypeId} {xs:List Value} (hown:w.ownsRow B e s (.slice (some ⟨g,0,none⟩) n cap) n xs) (hk:off+1≤n*s) (hs:(P.info? ty).map (·.size)=some 1) (v:Value) (h1:v.oneCell'=true)
  (hx:a.eval x=.pointer (some ⟨g,off,none⟩)) (hy:a.eval y=v)
  (h:∀ w',w'.ownsRow B e s (.slice (some ⟨g,0,none⟩) n cap) n (xs.take off++(v :: xs.drop (off+1)))→w.grownBy w' (some g)→wpList P ops Q rest (a.put o.dst undef) w'):wpList P ops Q (o :: rest) a w:=by
 rcases aR hown with ⟨h',_⟩ | ⟨g',cap',cur,h',_,hnc,_,hb,hsz,_,_⟩
 ·cases h'
 ·injection h' with e1 e2 e3
  injection e1 with e1
  injection e1 with e1
  subst e1 e3
  have hlt:off<cur.size:=by
   rw [hsz]
   exact xa3 (Nat.lt_of_succ_le hk) (xa8 _ hnc)
  refine bM hg ty x y ho g off e cur hb hlt hs v h1 hx hy fun w' hb' hg' _=>?_
  have h2:=fE hown off [v] hk
  have h3:w'.heap[g]?=(w.setCells g off [v]).heap[g]?:=by
   have h4:Blk (w.setCells g off [v]) g e (cur.setIfInBounds off v):=hb.tZ off v
   exact hb'.trans h4.symm
  exact h w' (an h2 fun g9 hg9 _=>(xao hg9)▸h3) hg'
end
section
variable {P:Program} {ops:Array Oper} {Q:Exit→Act→World→Prop} {w0:World} {L:List Ent} {fuel:Nat} {m:Nat} {a:Act} {w:World}
theorem nu (i m':Nat) (o:Oper) {rest:List Oper} (hi9:ops.toList.drop i=o :: rest) (hf:((xaf ops.size).filter (oD ops m) == [i]&&xaw o (yielded ops a.tmps)&&(m ||| 1 <<< i) == m')=true) (ty:TypeId) (x y:Operand) (ho:o.op=.store ty x y) {B g n cap s off:Nat} {e:TypeId} {xs:List Value} (hown:w.ownsRow B e s (.slice (some ⟨g,0,none⟩) n cap) n xs) (cs:List Value) (hk:off+cs.length≤n*s) (hi:(P.info? ty).map (·.size)=some cs.toArray.size) (h1:cs.toArray.all (·.oneCell')=true)
  (hx:a.eval x=.pointer (some ⟨g,off,none⟩)) (hy:a.eval y=.agg cs.toArray)
  (h:∀ w',w'.ownsRow B e s (.slice (some ⟨g,0,none⟩) n cap) n (xs.take off++(cs++xs.drop (off+cs.length)))→w.grownBy w' (some g)→Mem w0 w' L∧HD P ops Q w0 L fuel m' (a.put o.dst undef) w'):HD P ops Q w0 L (fuel+1) m a w :=
 s7 (nr hi9) hf fun hQ hs=>by
  have h2:=h _ (by simpa using fE hown off cs hk) (by simpa using eF (g:=g) cs off w (World.grownBy.refl w (some g)))
  exact wp_store_mid ty x y ho g off cs.toArray hx hy (by simpa using lM hown off cs.length hk) hi h1 ⟨by simpa using h2.1,by simpa using h2.2 hQ hs⟩
end
end Go.Proofs.YtomnhnmciopiiaaGreat
end
section
namespace Go.Proofs.YtomnhnmciopiiaaGreat
open Go Go.RowKit
theorem iU {P:Program} {ρ:Operand→Value} {o:Oper} (t:TypeId) (xs:Array (Nat×Operand)) (ho:o.op=.build t xs) {fields:Array Field} {places:Array (Nat×Nat)} {z:Value} {cells:Array Value} (ht:P.underlying t=some (.struct fields)) (hz:∀ w,(zeroValue t).run P w=.ok z w)
  (hpl:∀ w,(fields.mapM fun f=>do pure (f.offset,← sizeOf f.type):Sem (Array (Nat×Nat))).run P w=.ok places w) (parts:List (Nat×Value)) (hx:(xs.map fun (i,x)=>(i,ρ x))=parts.toArray) (hf:xbL (fun i=>places[i]?) z.cells parts=some cells) (w:World) :
  (execOp ρ o).run P w=.ok (.value (.agg cells)) w:=by
 have h:(xcd t parts.toArray).run P w=.ok (.agg cells) w:=by
  unfold xcd
  simp only [xaK,hz,xaA,run_underlying ht]
  rw [hpl]
  simp only [xaA]
  rw [hf]
  rfl
 unfold execOp
 simp only [ho,hx,xaK,h,xaA,xaN]
end Go.Proofs.YtomnhnmciopiiaaGreat
end
section
namespace Go.Proofs.YtomnhnmciopiiaaGreat
open Go Go.RowKit Go.Maps
def eO (j m:Nat):Nam:=(⟨#[xaX (97+j)]⟩,((xar 20 0,⟨#[]⟩),aN m,true))
def nds (ns:List Nat):List Nam:=ns.zipIdx.map fun p=>eO p.2 p.1
def aw (n:Nat) (ns:List Nat):Itm:=(aN n,(⟨#[100]⟩,nds ns,[]))
theorem uQ (ns:List Nat):(nds ns).length=ns.length:=by simp [nds]
theorem yK {ns:List Nat} {j m:Nat} (h:ns[j]?=some m):nds (ns.take (j+1))=nds (ns.take j)++[eO j m]:=by
 have hj:=(xah.1 h).1
 unfold nds
 rw [xaz,h,List.zipIdx_append,List.map_append,xaJ,Nat.min_eq_left (by omega)]
 simp
theorem qB (j m:Nat):okN (eO j m):=⟨(by show 1≤maxLen;decide),⟨rfl,Nat.zero_le _⟩,dL m⟩
theorem BJ (ns:List Nat):∀ x∈nds ns,okN x:=fun x hx=>by
 obtain ⟨p,_,rfl⟩:=xav.1 hx
 exact qB _ _
def itC (n:Nat) (u:Value):List Value:=bv (aN n)++[.string ⟨#[100]⟩,u,.slice none 0 0]
theorem mA (n:Nat) (u:Value):(itC n u).length=23:=rfl
theorem uH (n:Nat) {u:Value} (h:u.oneCell'=true):(itC n u).toArray.all (·.oneCell')=true:=all_oneCell_toArray fun v hv=>by
 rcases xau.1 hv with hv | hv
 ·exact bv1 _ v hv
 ·simp only [xax,xaP,or_false] at hv
  rcases hv with rfl | rfl | rfl
  ·rfl
  ·exact h
  ·rfl
theorem xY {ρ:Operand→Value} {o:Oper} (x y:Operand) (ho:o.op=.build 59 #[(0,x),(1,y)]) (n:Nat) (h1:ρ x=.agg (bv (aN n)).toArray) (h2:ρ y=.agg #[.string ⟨#[100]⟩,.slice none 0 0,.slice none 0 0]) (w:World) :
  (execOp ρ o).run Tryz.prog w=.ok (.value (.agg (itC n (.slice none 0 0)).toArray)) w:=by
 refine Eq.trans (ep 59 x y ho (n1:=20) (n2:=3) (z:=.agg zcT) h1 h2 Tryz.underlying59 (fun w=>by kernel_rfl) (by kernel_rfl) (fun w=>by kernel_rfl) (by kernel_rfl) (by kernel_rfl) w) ?_
 rfl
def zcI:Array Value:=((bv (xar 20 0)++[xaY ByteArray.empty])++(bv (xar 20 0)++[xbs false])).toArray
theorem xX {ρ:Operand→Value} {o:Oper} (x y:Operand) (ho:o.op=.build 85 #[(1,x),(2,y)]) (m:Nat) (h1:ρ x=.agg (bv (aN m)).toArray) (h2:ρ y=.bool true) (w:World) :
  (execOp ρ o).run Tryz.prog w=.ok (.value (.agg (iC ((xar 20 0,⟨#[]⟩),aN m,true)).toArray)) w :=
 iU 85 _ ho (z:=.agg zcI) (places:=#[(0,21),(21,20),(41,1)]) Tryz.underlying85 (fun w=>by kernel_rfl) (fun w=>by kernel_rfl) [(1,.agg (bv (aN m)).toArray),(2,.bool true)] (by simp [h1,h2]) (by kernel_rfl) w
theorem xZ {ρ:Operand→Value} {o:Oper} (x y:Operand) (ho:o.op=.build 87 #[(0,x),(1,y)]) (j m:Nat) (h1:ρ x=.string ⟨#[xaX (97+j)]⟩) (h2:ρ y=.agg (iC ((xar 20 0,⟨#[]⟩),aN m,true)).toArray) (w:World) :
  (execOp ρ o).run Tryz.prog w=.ok (.value (.agg (nC (eO j m)).toArray)) w:=by
 refine Eq.trans (ep 87 x y ho (n1:=1) (n2:=42) (z:=.agg zcN) h1 h2 Tryz.underlying87 (fun w=>by kernel_rfl) (by kernel_rfl) (fun w=>by kernel_rfl) (by kernel_rfl) (by kernel_rfl) w) ?_
 kernel_rfl
def zE (b:Nat) (u:Value) (w:World):Prop:=∃ r,u=.slice (some ⟨r,0,none⟩) 1 1∧Blk w r 5 #[.int .u8 (b:Int)]
def Bc (x:Nam) (u:Value) (w:World):Prop:=∃ r,u=.slice (some ⟨r,0,none⟩) 1 1∧Blk w r 87 (nC x).toArray
theorem AF (b:Nat):Fre.eC Bel (zE b):=⟨fun u w w' ⟨r,h1,h2⟩ hx=>⟨r,h1,h2.below hx h2.lt⟩⟩
theorem AG (x:Nam):Fre.eC Bel (Bc x):=⟨fun u w w' ⟨r,h1,h2⟩ hx=>⟨r,h1,h2.below hx h2.lt⟩⟩
theorem yR {ρ:Operand→Value} {o:Oper} (x:Operand) (ho:o.op=.buildSlice 24 1 #[(0,x)]) (b:Nat) (hx:ρ x=.int .u8 (b:Int)) (W:World) :
  ∃ u w',(execOp ρ o).run Tryz.prog W=.ok (.value u) w'∧Fre.Ext Bel W w'∧zE b u w' :=
 ⟨_,_,bO (v:=.int .u8 (b:Int)) 24 x ho hx Tryz.underlying24 (e:=5) (n:=1) (by kernel_rfl) (by omega) (by omega) (z:=.int .u8 0) (fun w=>by kernel_rfl) rfl W,(xaq _ W).alloc (xai _) _,_,rfl,Blk.new _ _ _⟩
theorem yT {ρ:Operand→Value} {o:Oper} (x:Operand) (ho:o.op=.buildSlice 23 1 #[(0,x)]) (y:Nam) (hy:okN y) (hx:ρ x=.agg (nC y).toArray) (W:World) :
  ∃ u w',(execOp ρ o).run Tryz.prog W=.ok (.value u) w'∧Fre.Ext Bel W w'∧Bc y u w' :=
 ⟨_,_,bO (v:=.agg (nC y).toArray) 23 x ho hx Tryz.underlying23 (e:=87) (n:=43) aY (by omega) (by omega) (z:=.agg zcN) (fun w=>by kernel_rfl) (by rw [Value.cells,xal];exact da hy) W,(xaq _ W).alloc (xai _) _,_,rfl,Blk.new _ _ _⟩
theorem wI {u:Value} {W:World} {j:Nat} (hj:97+j<256) (h:zE (97+j) u W):(convert 24 9 u).run Tryz.prog W=.ok (.string ⟨#[xaX (97+j)]⟩) W:=by
 obtain ⟨r,rfl,hb⟩:=h
 have e:((xaX (97+j)).toNat:Int)=((97+j:Nat):Int):=by
  rw [UInt8.toNat_ofNat',Nat.mod_eq_of_lt (by omega)]
 refine run_convert_bytes_back (P:=Tryz.prog) W 24 9 5 ⟨r,0,none⟩ 1 [xaX (97+j)] Tryz.underlying24 Tryz.underlying5 Tryz.underlying9 fun k hk=>?_
 have hk0:k=0:=by simp at hk;omega
 subst hk0
 rw [Addr.add_mid,Nat.zero_add]
 show W.cell? ⟨r,0,none⟩=some (.int .u8 ((xaX (97+j)).toNat:Int))
 rw [e]
 exact hb.cell 0
theorem ja (w:World) (n:Nat) (hn9:n≤1000000000) (ns:List Nat) (hns:∀ m∈ns,m≤1000000000) (hl:ns.length≤100) (A:Option Addr) (cap:Nat)
  (hA:0<ns.length→∃ b,A=some ⟨b,0,none⟩∧b<w.heap.size∧∀ (j m:Nat),ns[j]?=some m→w.cell? ⟨b,j,none⟩=some (.int .i64 (m:Int))) :
  Calls Tryz.prog 50 #[.int .i64 (n:Int),.slice A ns.length cap] w fun e w'=>∃ u,e=.returned (.agg (tC (aw n ns) u (.slice none 0 0)).toArray)∧bz w' w.heap.size (aw n ns).2 u (.slice none 0 0)∧Below w.heap.size w w':=by
 obtain ⟨inm,hih,hq0,hq1,hq2⟩:=info_parts lA
 have HJ:=ah (xae hih (xae hq0 (xae hq1 hq2)))
 clear hih hq0 hq1 hq2
 have hsz5:(Tryz.prog.info? 59).map (·.size)=some (itC n (.slice none 0 0)).toArray.size:=by kernel_rfl
 have HA:=ah hA
 clear hA
 go_enter Tryz.func50,Tryz.ntmps50
 go_wp2_with (first | ((with_reducible refine ag 4 ?_);(refine bq rfl 59 zcT (by kernel_rfl) ?_);intro w1 hn;have H1:=ah hn;clear hn;simp only [xad,xaa,xac,xab]))
 refine (cX w1 n hn9).mono ?_
 rintro e w2 ⟨rfl,hb⟩
 dsimp only
 have H2:=ah (xae (H1.out.blk.below hb H1.out.blk.lt) (H1.out.below.trans (xam hb H1.out.below.size)))
 clear hb
 go_wp2_with (first | ((with_reducible refine ag 9 ?_);(refine aa rfl (.agg #[.string ⟨#[100]⟩,.slice none 0 0,.slice none 0 0]) w2 (by kernel_rfl) ?_)) | ((with_reducible refine ag 10 ?_);(refine aa rfl (.agg (itC n (.slice none 0 0)).toArray) w2 (xY (.tmp 8) (.tmp 9) rfl n rfl rfl w2) ?_)) | ((with_reducible refine ag 5 ?_);(refine bq rfl 59 zcT (by kernel_rfl) ?_);intro w3 hn;have H3:=ah hn;clear hn;simp only [xad,xaa,xac,xab]) | ((with_reducible refine bI 5 10 ?_);(with_reducible refine ar rfl 59 (.tmp 5) (.tmp 10) rfl w2.heap.size zcT (itC n (.slice none 0 0)).toArray 59 H3.out.blk ?_ ?_ ?_ ?_ ?_ ?_);(exact hsz5);kernel_rfl;(exact uH n rfl);rfl;rfl;intro w4 hk4 hg4;have h4:=H3.out.below.grown hg4 (by have:=H3.out.size;omega) (fun b hb=>(by have:=xao hb;omega));have H4:=ah (xae hk4 (xae (H2.out.1.below h4 H2.out.1.lt) (xae (H2.out.2.trans (xam h4 H2.out.2.size)) (xae (show w2.heap.size<w3.heap.size by have:=H3.out.size;omega) (show w3.heap.size≤w4.heap.size from hg4.size)))));clear hk4 hg4 h4;simp only [xad]))
 go_loopw [6] (fun x6 wr=>∃ (j:Nat) (u:Value),j≤ns.length∧x6=.int .i64 (j:Int)∧Blk wr w2.heap.size 59 (itC n u).toArray∧wr.ownsRow w3.heap.size 87 43 u (nds (ns.take j)).length ((nds (ns.take j)).flatMap nC)∧Blk wr w.heap.size 59 zcT∧Below w.heap.size w wr∧w3.heap.size≤wr.heap.size) (fun x6 _=>ns.length-(intOf x6).toNat)
 case atStart=>exact ⟨0,_,by omega,rfl,H4.out.1,xaW _ _ _ _,H4.out.2.1,H4.out.2.2.1,H4.out.2.2.2.2⟩
 case round =>
  obtain ⟨wo,rfl⟩:∃ wo,wo=wr:=⟨_,rfl⟩
  obtain ⟨j,u,hj,rfl,hk5,hown,hk4,hb,hsz⟩:=hrel
  have HB:=ah (xae hk5 (xae hown (xae hk4 (xae hb hsz))))
  clear hk5 hown hk4 hb hsz
  have j0:(0:Int)≤(j:Int):=by omega
  by_cases hj2:j<ns.length
  ·have j1:(j:Int)<(ns.length:Int):=by omega
   obtain ⟨m,hm⟩:∃ m,ns[j]?=some m:=⟨_,xaj hj2⟩
   have hm9:=hns m (xak hm)
   obtain ⟨b,rfl,hlb,hE⟩:=HA.out (by omega)
   have cm:wo.cell? ⟨b,j,none⟩=some (.int .i64 (m:Int)):=(xaU (HB.out.2.2.2.1.block b hlb)).trans (hE j m hm)
   have HCM:=ah cm
   have hst:=yK hm
   have HST:=ah hst
   have c21:wo.cell? ⟨w2.heap.size,21,none⟩=some u:=HB.out.1.cell 21
   have HC21:=ah c21
   have hnl:=uQ (ns.take j)
   have htk:(ns.take j).length=j:=by rw [xaJ];omega
   rw [htk] at hnl
   clear hm hE cm hst c21 htk
   go_wp2_with fail
   refine Fre.cq (X:=Bel) 16 [(23,zE (97+j)),(32,Bc (eO j m))] (by kernel_rfl) (by kernel_rfl) (by intro p hp;simp only [xax,xaP,or_false] at hp;rcases hp with rfl | rfl;exact AF _;exact AG _) (by simp) (by simp) ?_
   simp only [xaI,xaR,xaH,xaQ]
   refine Fre.ae (.pointer (some ⟨w2.heap.size,20,none⟩)) (by kernel_rfl) (by kernel_rfl) (by kernel_rfl) (fun _ _=>by kernel_rfl) ?_
   simp only [xad,xaa,xac,xab]
   refine Fre.ae (.pointer (some ⟨w2.heap.size,21,none⟩)) (by kernel_rfl) (by kernel_rfl) (by kernel_rfl) (fun _ _=>by kernel_rfl) ?_
   simp only [xad,xaa,xac,xab]
   refine Fre.ae (u) (by kernel_rfl) (by kernel_rfl) (by kernel_rfl) (fun W9 hW9=>exec_load_cell 23 (.tmp 18) rfl ⟨w2.heap.size,21,none⟩ rfl _ _ W9 Tryz.underlying23 rfl (((xaU (xbw hW9 _ (xbk wo _ HC21.out))).trans HC21.out))) ?_
   simp only [xad,xaa,xac,xab]
   refine Fre.ae (.int .i64 (j:Int)) (by kernel_rfl) (by kernel_rfl) (by kernel_rfl) (fun _ _=>by kernel_rfl) ?_
   simp only [xad,xaa,xac,xab]
   refine Fre.ae (.int .i64 ((97+j:Nat):Int)) (by kernel_rfl) (by kernel_rfl) (by kernel_rfl) (fun W9 hW9=>?hs1) ?_
   case hs1 =>
    go_simp
    all_goals (rw [xaS _ (by omega)])
   simp only [xad,xaa,xac,xab]
   refine Fre.ae (.int .u8 ((97+j:Nat):Int)) (by kernel_rfl) (by kernel_rfl) (by kernel_rfl) (fun W9 hW9=>?hs2) ?_
   case hs2 =>
    go_simp
    all_goals (rw [Go.IntWalk.u8_in _ (by omega)])
   simp only [xad,xaa,xac,xab]
   refine Fre.fP 23 _ (by kernel_rfl) (by kernel_rfl) rfl rfl (fun W hW=>yR (.tmp 22) rfl (97+j) rfl W) ?_
   simp only [xad,xaa,xac,xab]
   refine Fre.v8 23 _ (.string ⟨#[xaX (97+j)]⟩) (by kernel_rfl) rfl (by kernel_rfl) (by kernel_rfl) (fun u W hW hu=>ky 24 9 (.tmp 23) rfl u rfl _ (wI (by omega) hu)) ?_
   simp only [xad,xaa,xac,xab]
   refine Fre.ae (.slice (some ⟨b,0,none⟩) ns.length cap) (by kernel_rfl) (by kernel_rfl) (by kernel_rfl) (fun _ _=>by kernel_rfl) ?_
   simp only [xad,xaa,xac,xab]
   refine Fre.ae (.int .i64 (j:Int)) (by kernel_rfl) (by kernel_rfl) (by kernel_rfl) (fun _ _=>by kernel_rfl) ?_
   simp only [xad,xaa,xac,xab]
   refine Fre.ae (.pointer (some ⟨b,j,none⟩)) (by kernel_rfl) (by kernel_rfl) (by kernel_rfl) (fun W9 hW9=>eU 79 3 (.tmp 25) (.tmp 26) rfl b ns.length cap j rfl rfl hj2 Tryz.underlying79 (by kernel_rfl) W9) ?_
   simp only [xad,xaa,xac,xab]
   refine Fre.ae (.int .i64 (m:Int)) (by kernel_rfl) (by kernel_rfl) (by kernel_rfl) (fun W9 hW9=>exec_load_cell 3 (.tmp 27) rfl ⟨b,j,none⟩ rfl _ _ W9 Tryz.underlying3 rfl (((xaU (xbw hW9 _ (xbk wo _ HCM.out))).trans HCM.out))) ?_
   simp only [xad,xaa,xac,xab]
   refine Fre.dB (.agg (bv (aN m)).toArray) 51 #[.int .i64 (m:Int)] (by kernel_rfl) (by kernel_rfl) (by kernel_rfl) (fun W9=>by kernel_rfl) (fun W9 hW9=>cX W9 m hm9) ?_
   simp only [xad,xaa,xac,xab]
   refine Fre.ae (.agg (iC ((xar 20 0,⟨#[]⟩),aN m,true)).toArray) (by kernel_rfl) (by kernel_rfl) (by kernel_rfl) (fun W9 hW9=>xX (.tmp 29) (.const (.bool true)) rfl m rfl rfl W9) ?_
   simp only [xad,xaa,xac,xab]
   refine Fre.ae (.agg (nC (eO j m)).toArray) (by kernel_rfl) (by kernel_rfl) (by kernel_rfl) (fun W9 hW9=>xZ (.tmp 24) (.tmp 30) rfl j m rfl rfl W9) ?_
   simp only [xad,xaa,xac,xab]
   refine Fre.fP 32 _ (by kernel_rfl) (by kernel_rfl) rfl rfl (fun W hW=>yT (.tmp 31) rfl (eO j m) (qB j m) rfl W) ?_
   simp only [xad,xaa,xac,xab]
   intro w6 hx6
   dsimp only [Fre.ended,xas]
   rintro u23 _ u32 ⟨r,rfl,hkr⟩
   have H6:=ah (xae (HB.out.1.below hx6 HB.out.1.lt) (xae (an HB.out.2.1 fun g _ hl9=>xbw hx6 g hl9) (xae (HB.out.2.2.1.below hx6 HB.out.2.2.1.lt) (xae (HB.out.2.2.2.1.trans (xam hx6 HB.out.2.2.2.1.size)) (xae (xay HB.out.2.2.2.2 (Below.size hx6)) (bl (n:=43) (m:=1) hkr (da (qB j m)) (fun v hv=>fQ _ v hv)))))))
   clear hx6 hkr
   go_wp2_with (at_builtin;((with_reducible refine ag 33 ?_);refine aD rfl _ _ 23 rfl w3.heap.size 87 inm _ 43 80 Tryz.underlying23 HJ.out.1 HJ.out.2.1 HJ.out.2.2.1 HJ.out.2.2.2 rfl (by decide) _ ((nds (ns.take j)).length) ((nds (ns.take j)).flatMap nC) H6.out.2.1 (some ⟨r,0,none⟩) 1 1 (nC (eO j m)) H6.out.2.2.2.2.2 ?hm1 ?hb1 ?hz1 rfl rfl ?_))
   case hm1=>simp only [maxLen];omega
   case hb1=>omega
   case hz1=>exact H6.out.2.2.2.2.1
   intro u7 w7 own7 gr7 _
   have hown7:w7.ownsRow w3.heap.size 87 43 u7 (nds (ns.take (j+1))).length ((nds (ns.take (j+1))).flatMap nC):=by rw [HST.out,xap,hnl];simpa using own7
   have hne5:∀ q,u.ownBlock=some q→q ≠ w2.heap.size:=fun q hq e=>by have h1:=(aB H6.out.2.1 hq).1;have:=H4.out.2.2.2.1;omega
   have hne4:∀ q,u.ownBlock=some q→q ≠ w.heap.size:=fun q hq e=>by have h1:=(aB H6.out.2.1 hq).1;have:=H4.out.2.2.2.1;have:=H2.out.2.size;omega
   have H7:=ah (xae ((gr7.block _ H6.out.1.lt (fun e=>hne5 _ e.symm rfl)).trans H6.out.1) (xae hown7 (xae ((gr7.block _ H6.out.2.2.1.lt (fun e=>hne4 _ e.symm rfl)).trans H6.out.2.2.1) (xae (H6.out.2.2.2.1.grown gr7 H6.out.2.2.2.1.size (fun q hq=>by have h1:=(aB H6.out.2.1 hq).1;have:=H4.out.2.2.2.1;have:=H2.out.2.size;omega)) (xay H6.out.2.2.2.2.1 gr7.size)))))
   have hu1:u7.oneCell'=true:=by obtain ⟨A7,c7,rfl⟩:=gU H7.out.2.1;rfl
   clear own7 hown7 hne5 hne4 gr7
   go_wp2_with (first | ((with_reducible refine bI 35 33 ?_);(refine bM rfl 23 (.tmp 35) (.tmp 33) rfl w2.heap.size (21) 59 (itC n u).toArray H7.out.1 (by rw [xal,mA];omega) (by kernel_rfl) (u7) hu1 rfl rfl ?_);intro w8 hk hg hz;have h8:=an H7.out.2.1 (fun q hq hl9=>hg.block q hl9 (fun e=>by have h1:=(aB H7.out.2.1 hq).1;have:=xao e;have:=H4.out.2.2.2.1;omega));have H8:=ah (xae hk (xae h8 (xae ((hg.block _ (Blk.lt H7.out.2.2.1) (fun e=>by have:=xao e;have:=H2.out.1.lt;omega)).trans H7.out.2.2.1) (xae (H7.out.2.2.2.1.grown hg H7.out.2.2.2.1.size (fun q hq=>by have:=xao hq;have:=H2.out.2.size;omega)) (xay H7.out.2.2.2.2 hg.size)))));clear hk hg hz h8;simp only [xad]))
   go_roundw
   case rel=>exact ⟨j+1,u7,by omega,by go_num,H8.out⟩
   case measure=>simp [intOf];omega
  ·obtain rfl:j=ns.length:=by omega
   have hown:=HB.out.2.1
   rw [xaB] at hown
   have hu1:u.oneCell'=true:=by obtain ⟨A7,c7,rfl⟩:=gU hown;rfl
   have HO:=ah hown
   have hsz6:(Tryz.prog.info? 59).map (·.size)=some (itC n u).toArray.size:=by rw [xal,mA];kernel_rfl
   clear hown
   go_wp2_with (first | ((with_reducible refine ag 36 ?_);(refine aa rfl (.agg ((itC n u).toArray)) wo (av 59 (.tmp 5) rfl w2.heap.size rfl 59 _ _ wo HB.out.1 Tryz.underlying59 rfl hsz6) ?_)) | ((with_reducible refine bI 4 36 ?_);(with_reducible refine ar rfl 59 (.tmp 4) (.tmp 36) rfl w.heap.size zcT (itC n u).toArray 59 HB.out.2.2.1 ?_ ?_ ?_ ?_ ?_ ?_);(exact hsz6);(rw [show (itC n u).toArray.size=23 by rw [xal,mA]];kernel_rfl);(exact uH n hu1);rfl;rfl;intro w9 hk9 hg9;have h9:=an HO.out (fun q hq hl9=>hg9.block q hl9 (fun e=>by have h1:=(aB HO.out hq).1;have:=xao e;have:=H4.out.2.2.2.1;have:=H2.out.2.size;omega));have H9:=ah (xae hk9 (xae h9 (HB.out.2.2.2.1.grown hg9 HB.out.2.2.2.1.size (fun q hq=>by have:=xao hq;omega))));clear hk9 hg9 h9;simp only [xad,xaa,xac,xab]))
   refine bodyPost_ret (results_cell_row rfl _ _ w.heap.size 59 (itC n u).toArray (0,0) _ rfl H9.out.1 Tryz.underlying59 rfl (by rw [xal,mA];kernel_rfl)) rfl ⟨u,rfl,⟨(by show 1≤maxLen;decide),BJ ns,(fun x hx=>by cases hx),bn H9.out.2.1 (fun g hg=>by have:=(aB H9.out.2.1 hg).1;have:=H4.out.2.2.2.1;have:=H2.out.2.size;omega),xaW _ _ _ _⟩,H9.out.2.2⟩
end Go.Proofs.YtomnhnmciopiiaaGreat
end
section
namespace Go.Proofs.YtomnhnmciopiiaaGreat
open Go Go.RowKit
theorem sn {α:Type} {t e:TypeId} {L:Lay α} (h0:0<L.n) {w:World} {B g:Nat} {cells:List (List Value)} {l:List α} (hb:Blk w g e cells.flatten.toArray) (hg:g<B) (hlen:cells.length=l.length) (hn:l.length≤maxLen) (hat:∀ (j:Nat) x cs,l[j]?=some x→cells[j]?=some cs→L.At w B cs x) :
  (Lay.slice t L).At w B [.slice (some ⟨g,0,none⟩) l.length l.length] l:=by
 have hl:∀ cs∈cells,(id cs).length=L.n:=fun cs hcs=>by
  obtain ⟨j,hj⟩:=xaO hcs
  obtain ⟨x,hx⟩:∃ x,l[j]?=some x:=⟨_,xaj (by have:=(xah.1 hj).1;omega)⟩
  exact L.len (hat j x cs hx hj)
 refine ⟨_,l.length,rfl,xai _,hn,(fun h=>by cases h),fun _=>⟨g,0,rfl,hg,fun j x hj=>?_⟩⟩
 obtain ⟨cs,hcs⟩:∃ cs,cells[j]?=some cs:=⟨_,xaj (by have:=(xah.1 hj).1;omega)⟩
 refine ⟨cs,fun i u hu=>?_,hat j x cs hj hcs⟩
 have h2:=iW (f:=id) h0 cells hl j cs hcs i u hu
 rw [hb.cell,Nat.zero_add]
 have e:cells.flatMap id=cells.flatten:=by simp [List.flatMap]
 rw [e] at h2
 simpa using h2
end Go.Proofs.YtomnhnmciopiiaaGreat
end
section
namespace Go.Proofs.YtomnhnmciopiiaaGreat
open Go Go.RowKit Go.Maps
theorem ez {P:Program} {ops:Array Oper} {rest:List Oper} {o:Oper} {a:Act} {w:World} {Q:Exit→Act→World→Prop} (hg:o.guard=none) (k:Nat) (ty:TypeId) (cs:Array Value) (hr:(execOp a.eval o).run P w=.ok (.value (.slice (some ⟨w.heap.size,0,none⟩) k k)) (w.alloc (.cells cs ty)))
  (h:∀ w',hI w w' ty cs→wpList P ops Q rest (a.put o.dst (.slice (some ⟨w.heap.size,0,none⟩) k k)) w'):wpList P ops Q (o :: rest) a w :=
 aa hg _ _ hr (h _ (cF w ty cs))
def qa:List Itm:=[aw 1 [],aw 2 [1],aw 3 [1,2],aw 4 []]
theorem q9:dE qa (aN 3)=0∧cA qa (aN 3)=[aN 1,aN 2,aN 3]:=by decide +kernel
theorem xT:dI qa (aN 3)=3:=by decide +kernel
theorem jC {w:World} {g:Nat} (ns:List Nat) (hb:Blk w g 3 (ns.map fun n:Nat=>Value.int .i64 (n:Int)).toArray):0<ns.length→∃ b,some (⟨g,0,none⟩:Addr)=some ⟨b,0,none⟩∧b<w.heap.size∧∀ (j m:Nat),ns[j]?=some m→w.cell? ⟨b,j,none⟩=some (.int .i64 (m:Int)) :=
 fun _=>⟨g,rfl,hb.lt,fun j m h=>by rw [hb.cell];simp [h]⟩
def exC (u1 u2 u3 u4:Value):List (List Value):=[tC (aw 1 []) u1 (.slice none 0 0),tC (aw 2 [1]) u2 (.slice none 0 0),tC (aw 3 [1,2]) u3 (.slice none 0 0),tC (aw 4 []) u4 (.slice none 0 0)]
theorem B5 {w:World} {g N:Nat} {u1 u2 u3 u4:Value} (hb:Blk w g 59 (exC u1 u2 u3 u4).flatten.toArray) (hN:w.heap.size≤N) (h1:aK w N (aw 1 []).2 u1 (.slice none 0 0)) (h2:aK w N (aw 2 [1]).2 u2 (.slice none 0 0)) (h3:aK w N (aw 3 [1,2]).2 u3 (.slice none 0 0)) (h4:aK w N (aw 4 []).2 u4 (.slice none 0 0)) :
  bB.At w N [.slice (some ⟨g,0,none⟩) 4 4] qa:=by
 refine sn (t:=22) (L:=jY) (l:=qa) (by decide) hb (xa3 hb.lt hN) rfl (by decide) fun j x cs hx hcs=>?_
 match j,hx,hcs with
 | 0,hx,hcs=>injection hx with hx;injection hcs with hcs;subst hx hcs;exact bP.2 ⟨_,_,rfl,rfl,h1⟩
 | 1,hx,hcs=>injection hx with hx;injection hcs with hcs;subst hx hcs;exact bP.2 ⟨_,_,rfl,rfl,h2⟩
 | 2,hx,hcs=>injection hx with hx;injection hcs with hcs;subst hx hcs;exact bP.2 ⟨_,_,rfl,rfl,h3⟩
 | 3,hx,hcs=>injection hx with hx;injection hcs with hcs;subst hx hcs;exact bP.2 ⟨_,_,rfl,rfl,h4⟩
 | j+4,hx,_=>cases hx
theorem kx:(∀ x∈qa,x.2.2.1.length≤1000000)∧qa.length≤1000000:=by decide +kernel
theorem bz.eT {w w':World} {B:Nat} {d:Drv} {u1 u2:Value} (h:bz w B d u1 u2) (hb:Below w.heap.size w w'):bz w' B d u1 u2:=h.vR fun g _ hl=>hb.block g hl
theorem vh (w:World):Calls Tryz.prog 28 #[] w fun e w'=>e=.returned (.bool true)∧Below w.heap.size w w':=by
 go_enter Tryz.func28,Tryz.ntmps28
 go_wp2_with fail
 refine (ja w 1 (by omega) [] (by decide) (by decide) none 0 (fun h=>absurd h (by decide))).mono ?_
 rintro e w1 ⟨u1,rfl,ho,hb⟩
 dsimp only
 have H1:=ah (xae ho hb)
 clear ho hb
 go_wp2_with (first | ((with_reducible refine ag 5 ?_);(refine ez rfl 1 3 #[.int .i64 1] (by kernel_rfl) ?_);intro w2 hn;have H2:=ah (xae hn.blk (xae (H1.out.1.eT hn.below) (H1.out.2.trans (xam hn.below H1.out.2.size))));clear hn;simp only [xad,xaa,xac,xab]))
 refine (ja w2 2 (by omega) [1] (by decide) (by decide) _ 1 (jC [1] H2.out.1)).mono ?_
 rintro e w3 ⟨u2,rfl,ho,hb⟩
 dsimp only
 have H3:=ah (xae (H2.out.2.1.eT hb) (xae ho (H2.out.2.2.trans (xam hb H2.out.2.2.size))))
 clear ho hb
 go_wp2_with (first | ((with_reducible refine ag 7 ?_);(refine ez rfl 2 3 #[.int .i64 1,.int .i64 2] (by kernel_rfl) ?_);intro w4 hn;have H4:=ah (xae hn.blk (xae (H3.out.1.eT hn.below) (xae (H3.out.2.1.eT hn.below) (H3.out.2.2.trans (xam hn.below H3.out.2.2.size)))));clear hn;simp only [xad,xaa,xac,xab]))
 refine (ja w4 3 (by omega) [1,2] (by decide) (by decide) _ 2 (jC [1,2] H4.out.1)).mono ?_
 rintro e w5 ⟨u3,rfl,ho,hb⟩
 dsimp only
 have H5:=ah (xae (H4.out.2.1.eT hb) (xae (H4.out.2.2.1.eT hb) (xae ho (H4.out.2.2.2.trans (xam hb H4.out.2.2.2.size)))))
 clear ho hb
 go_wp2_with fail
 refine (ja w5 4 (by omega) [] (by decide) (by decide) none 0 (fun h=>absurd h (by decide))).mono ?_
 rintro e w6 ⟨u4,rfl,ho,hb⟩
 dsimp only
 have H6:=ah (xae (H5.out.1.eT hb) (xae (H5.out.2.1.eT hb) (xae (H5.out.2.2.1.eT hb) (xae ho (H5.out.2.2.2.trans (xam hb H5.out.2.2.2.size))))))
 clear ho hb
 go_wp2_with (first | ((with_reducible refine ag 10 ?_);(refine ez rfl 4 59 (exC u1 u2 u3 u4).flatten.toArray (by kernel_rfl) ?_);intro w7 hn;have hat:=B5 hn.blk (xai _) ((H6.out.1.eT hn.below).at_ (xai _)) ((H6.out.2.1.eT hn.below).at_ (xai _)) ((H6.out.2.2.1.eT hn.below).at_ (xai _)) ((H6.out.2.2.2.1.eT hn.below).at_ (xai _));have H7:=ah (xae hat (H6.out.2.2.2.2.trans (xam hn.below H6.out.2.2.2.2.size)));clear hn hat;simp only [xad,xaa,xac,xab]))
 refine (cX w7 3 (by omega)).mono ?_
 rintro e w8 ⟨rfl,hb⟩
 dsimp only
 have H8:=ah (xae (eY H7.out.1 hb) (H7.out.2.trans (xam hb H7.out.2.size)))
 clear hb
 go_wp2_with fail
 refine (py w8 qa _ 4 H8.out.1 kx.1 kx.2 (aN 3) rfl).mono ?_
 rintro e w9 ⟨u,rfl,hown,hb⟩
 rw [q9.2] at hown
 rw [q9.1]
 obtain ⟨g,cap,rfl⟩:=cN hown (by decide)
 have hgl:=(aB hown rfl).2
 have H9:=ah (xae (show w9.rangeAt g 0 (bv (aN 1)) from gV hown 0 20 _ rfl) (xae (show w9.rangeAt g 40 (bv (aN 3)) from gV hown 40 20 _ rfl) (xae (eY H8.out.1 hb) (H8.out.2.trans (xam hb H8.out.2.size)))))
 clear hown hb
 dsimp only
 go_wp2_with fail
 refine Fre.cq (X:=Bel) 27 [] (by kernel_rfl) (by kernel_rfl) (by simp) (by simp) (by simp) ?_
 simp only [xaI,xaR,xaH,xaQ]
 refine Fre.ae (.int .i64 0) (by kernel_rfl) (by kernel_rfl) (by kernel_rfl) (fun _ _=>by kernel_rfl) ?_
 simp only [xad,xaa,xac,xab]
 refine Fre.ae (.bool true) (by kernel_rfl) (by kernel_rfl) (by kernel_rfl) (fun _ _=>by kernel_rfl) ?_
 simp only [xad,xaa,xac,xab]
 refine Fre.ae (.bool true) (by kernel_rfl) (by kernel_rfl) (by kernel_rfl) (fun _ _=>by kernel_rfl) ?_
 simp only [xad,xaa,xac,xab]
 refine Fre.ae (.slice (some ⟨g,0,none⟩) 3 cap) (by kernel_rfl) (by kernel_rfl) (by kernel_rfl) (fun _ _=>by kernel_rfl) ?_
 simp only [xad,xaa,xac,xab]
 refine Fre.ae (.int .i64 3) (by kernel_rfl) (by kernel_rfl) (by kernel_rfl) (fun _ _=>by kernel_rfl) ?_
 simp only [xad,xaa,xac,xab]
 refine Fre.ae (.bool true) (by kernel_rfl) (by kernel_rfl) (by kernel_rfl) (fun _ _=>by kernel_rfl) ?_
 simp only [xad,xaa,xac,xab]
 refine Fre.ae (.bool true) (by kernel_rfl) (by kernel_rfl) (by kernel_rfl) (fun _ _=>by kernel_rfl) ?_
 simp only [xad,xaa,xac,xab]
 refine Fre.ae (.bool true) (by kernel_rfl) (by kernel_rfl) (by kernel_rfl) (fun _ _=>by kernel_rfl) ?_
 simp only [xad,xaa,xac,xab]
 refine Fre.ae (.slice (some ⟨g,0,none⟩) 3 cap) (by kernel_rfl) (by kernel_rfl) (by kernel_rfl) (fun _ _=>by kernel_rfl) ?_
 simp only [xad,xaa,xac,xab]
 refine Fre.ae (.pointer (some ⟨g,0,none⟩)) (by kernel_rfl) (by kernel_rfl) (by kernel_rfl) (fun _ _=>by kernel_rfl) ?_
 simp only [xad,xaa,xac,xab]
 refine Fre.ae (.agg (bv (aN 1)).toArray) (by kernel_rfl) (by kernel_rfl) (by kernel_rfl) (fun W9 hW9=>aj 34 (.tmp 26) rfl g 0 rfl (bv (aN 1)) _ W9 (a7 H9.out.1 (xbw hW9 _ hgl)) Tryz.underlying34 rfl (by kernel_rfl)) ?_
 simp only [xad,xaa,xac,xab]
 refine Fre.dB (.agg (bv (aN 1)).toArray) 51 #[.int .i64 1] (by kernel_rfl) (by kernel_rfl) (by kernel_rfl) (fun W9=>by kernel_rfl) (fun W9 hW9=>cX W9 1 (by omega)) ?_
 simp only [xad,xaa,xac,xab]
 refine Fre.ae (.bool true) (by kernel_rfl) (by kernel_rfl) (by kernel_rfl) (fun W9 hW9=>bU .eql 34 (.tmp 27) (.tmp 28) _ rfl (bv (aN 1)).toArray (bv (aN 1)).toArray rfl rfl (by kernel_rfl) _ (fun W=>(dH (aN 1) (aN 1) rfl rfl W).trans (by rw [decide_eq_true rfl])) W9) ?_
 simp only [xad,xaa,xac,xab]
 refine Fre.ae (.bool true) (by kernel_rfl) (by kernel_rfl) (by kernel_rfl) (fun _ _=>by kernel_rfl) ?_
 simp only [xad,xaa,xac,xab]
 refine Fre.ae (.bool true) (by kernel_rfl) (by kernel_rfl) (by kernel_rfl) (fun _ _=>by kernel_rfl) ?_
 simp only [xad,xaa,xac,xab]
 refine Fre.ae (.slice (some ⟨g,0,none⟩) 3 cap) (by kernel_rfl) (by kernel_rfl) (by kernel_rfl) (fun _ _=>by kernel_rfl) ?_
 simp only [xad,xaa,xac,xab]
 refine Fre.ae (.pointer (some ⟨g,40,none⟩)) (by kernel_rfl) (by kernel_rfl) (by kernel_rfl) (fun _ _=>by kernel_rfl) ?_
 simp only [xad,xaa,xac,xab]
 refine Fre.ae (.agg (bv (aN 3)).toArray) (by kernel_rfl) (by kernel_rfl) (by kernel_rfl) (fun W9 hW9=>aj 34 (.tmp 33) rfl g 40 rfl (bv (aN 3)) _ W9 (a7 H9.out.2.1 (xbw hW9 _ hgl)) Tryz.underlying34 rfl (by kernel_rfl)) ?_
 simp only [xad,xaa,xac,xab]
 refine Fre.dB (.agg (bv (aN 3)).toArray) 51 #[.int .i64 3] (by kernel_rfl) (by kernel_rfl) (by kernel_rfl) (fun W9=>by kernel_rfl) (fun W9 hW9=>cX W9 3 (by omega)) ?_
 simp only [xad,xaa,xac,xab]
 refine Fre.ae (.bool true) (by kernel_rfl) (by kernel_rfl) (by kernel_rfl) (fun W9 hW9=>bU .eql 34 (.tmp 34) (.tmp 35) _ rfl (bv (aN 3)).toArray (bv (aN 3)).toArray rfl rfl (by kernel_rfl) _ (fun W=>(dH (aN 3) (aN 3) rfl rfl W).trans (by rw [decide_eq_true rfl])) W9) ?_
 simp only [xad,xaa,xac,xab]
 refine Fre.ae (.bool true) (by kernel_rfl) (by kernel_rfl) (by kernel_rfl) (fun _ _=>by kernel_rfl) ?_
 simp only [xad,xaa,xac,xab]
 refine Fre.ae (.bool true) (by kernel_rfl) (by kernel_rfl) (by kernel_rfl) (fun _ _=>by kernel_rfl) ?_
 simp only [xad,xaa,xac,xab]
 refine Fre.ae (.slice (some ⟨w6.heap.size,0,none⟩) 4 4) (by kernel_rfl) (by kernel_rfl) (by kernel_rfl) (fun _ _=>by kernel_rfl) ?_
 simp only [xad,xaa,xac,xab]
 refine Fre.dB (.agg (bv (aN 3)).toArray) 51 #[.int .i64 3] (by kernel_rfl) (by kernel_rfl) (by kernel_rfl) (fun W9=>by kernel_rfl) (fun W9 hW9=>cX W9 3 (by omega)) ?_
 simp only [xad,xaa,xac,xab]
 refine Fre.dB (.int .i64 3) 39 #[.slice (some ⟨w6.heap.size,0,none⟩) 4 4,.agg (bv (aN 3)).toArray] (by kernel_rfl) (by kernel_rfl) (by kernel_rfl) (fun W9=>by kernel_rfl) (fun W9 hW9=>?hcd) ?_
 case hcd =>
  have h:=oU W9 qa _ 4 (eY H9.out.2.2.1 hW9) kx.1 kx.2 (aN 3) rfl
  rw [xT] at h
  exact h
 simp only [xad,xaa,xac,xab]
 refine Fre.ae (.bool true) (by kernel_rfl) (by kernel_rfl) (by kernel_rfl) (fun _ _=>by kernel_rfl) ?_
 simp only [xad,xaa,xac,xab]
 refine Fre.ae (.bool true) (by kernel_rfl) (by kernel_rfl) (by kernel_rfl) (fun _ _=>by kernel_rfl) ?_
 simp only [xad,xaa,xac,xab]
 intro wx hx
 have HX:=ah (H9.out.2.2.2.trans (xam hx H9.out.2.2.2.size))
 clear hx
 dsimp only [Fre.ended,xas]
 go_wp2_with fail
 go_ret
 exact ⟨rfl,HX.out⟩
end Go.Proofs.YtomnhnmciopiiaaGreat
end
section
namespace Go.Proofs.YtomnhnmciopiiaaGreat
open Go Go.RowKit Go.Maps
theorem Ag {w:World} {B:Nat} {v:Value} {l:List Itm} (h:bB.At w B [v] l):∀ x∈l,okH x.1:=fun x hx=>by
 obtain ⟨j,hj⟩:=xaO hx
 obtain ⟨A,cap,rfl,_,_,_,hA⟩:=ak h
 obtain ⟨b,off,rfl,_,hE⟩:=hA (by have:=(xah.1 hj).1;omega)
 obtain ⟨cs,_,hat⟩:=hE j x hj
 obtain ⟨_,_,_,ho,_⟩:=bP.1 hat
 exact ho
theorem jB {H:Type} [DecidableEq H] {l:List (Dr.It H)} {c h:H} (hm:h∈Dr.bW l c):h∈Dr.css l:=(Dr.gT _ _).subset hm
theorem zN {l:List Itm} {h:Hsh} (hm:h∈Dr.css (l.map itP)):∃ x∈l,x.1=h:=by
 unfold Dr.css at hm
 obtain ⟨y,hy,rfl⟩:=xav.1 hm
 obtain ⟨x,hx,rfl⟩:=xav.1 hy
 exact ⟨x,hx,rfl⟩
theorem wD {l:List Itm} (hok:∀ x∈l,okH x.1) (z:Hsh):∀ h∈cA l z,okH h:=fun h hm=>by
 unfold cA at hm
 split at hm
 ·split at hm
  ·obtain ⟨x,hx,rfl⟩:=zN (jB hm)
   exact hok x hx
  ·cases hm
 ·cases hm
theorem xk {l:List Itm} (hok:∀ x∈l,okH x.1) (c:Hsh):∀ h∈Dr.cy (l.map itP) c,okH h:=fun h hm=>by
 obtain ⟨y,hy,_,h2⟩:=Dr.wm.1 hm
 obtain ⟨x,hx,rfl⟩:=xav.1 hy
 rw [← h2]
 exact hok x hx
theorem wF {H:Type} [DecidableEq H] (l:List (Dr.It H)) (c:H):(Dr.bW l c).length≤l.length:=by
 have h:(Dr.bW l c).length≤(Dr.css l).length:=(Dr.gT _ _).length_le
 simpa [Dr.css] using h
theorem tB {l:List Itm} (z:Hsh):(cA l z).length≤l.length:=by
 unfold cA
 split
 ·split
  ·have:=wF (l.map itP) z
   rwa [xat] at this
  ·exact Nat.zero_le _
 ·exact Nat.zero_le _
end Go.Proofs.YtomnhnmciopiiaaGreat
end
section
namespace Go.Proofs.YtomnhnmciopiiaaGreat
open Go Go.RowKit Go.Maps
section
variable {H:Type} [DecidableEq H]
theorem tG {l:List (Dr.It H)} (hr:Dr.eP l) {c z:H} {i:Nat} (hz:(Dr.bW l c)[i]?=some z):∃ (n:Nat) (y:Dr.It H),l[n]?=some y∧y.cls=z∧(∀ d∈y.ins,(∃ p:Nat,nX (Dr.bW l c) d=(p:Int)∧p<i)∧d∈Dr.css l∧Dr.cE l d<Dr.cE l z)∧(Dr.bW l z).length≤i+1∧∀ d∈Dr.bW l z,d∈Dr.bW l c:=by
 obtain ⟨n,y,hy,hm,h1,h2,_⟩:=Dr.lH hr (c:=c) i (xah.1 hz).1
 rw [hz] at h1
 injection h1 with h1
 subst h1
 have hsub:=Dr.wG hr hy hm
 rw [h2] at hsub
 refine ⟨n,y,hy,rfl,fun d hd=>?_,hsub.2,hsub.1⟩
 have ha:=Dr.rU hr hy hm hd
 obtain ⟨p,hp,e,_⟩:=tI ha.2
 have hat:=(Dr.lK hr (Dr.cT l ((Dr.css l).idxOf c)) hy hm).2
 rw [h2] at hat
 refine ⟨⟨p,hp,?_⟩,jB ha.2,Dr.xL hr hy hd⟩
 have h3:=ha.1
 rw [← e] at h3
 have h4:(Dr.bW l c).idxOf y.cls=i:=hat
 omega
end
end Go.Proofs.YtomnhnmciopiiaaGreat
end
section
namespace Go.Proofs.YtomnhnmciopiiaaGreat
open Go Go.RowKit Go.Maps
namespace Dr
variable {H:Type} [DecidableEq H]
theorem kd:∀ (l m:List (It H)) (known:List H),cw known (l++m)=(cw known l&&cw (known++css l) m)
 | [],m,known=>by simp [cw,css]
 | x :: l,m,known=>by
  have e:known++css (x :: l)=known++[x.cls]++css l:=by simp [css]
  rw [List.cons_append,cw,cw,kd l m (known++[x.cls]),e]
  simp only [Bool.and_assoc]
end Dr
variable (hof:Drv→Hsh)
def db (l:List Itm) (c:Hsh):Option Itm:=l.find? fun x=>decide (x.1=c)
variable {hof}
end Go.Proofs.YtomnhnmciopiiaaGreat
end
section
namespace Go.Proofs.YtomnhnmciopiiaaGreat
open Go Go.RowKit Go.Maps
theorem wO {H:Type} [DecidableEq H] {l:List H} {c:H} {p:Nat} (h:nX l c=(p:Int)):c∈l:=by
 unfold nX at h
 split at h
 ·assumption
 ·omega
theorem oB {H:Type} [DecidableEq H] {l:List (Dr.It H)} (hr:Dr.eP l) {k:H} {y:Dr.It H} (hy:y∈l) (hm:y.cls∈Dr.bW l k):∀ c∈y.ins,c∈Dr.bW l k:=fun c hc=>by
 obtain ⟨i,hi⟩:=xaO hm
 obtain ⟨n,z,hz,h1,h2,_⟩:=tG hr hi
 have e:=Dr.oZ hr (xak hz) hy h1
 rw [e] at h2
 obtain ⟨⟨p,hp,_⟩,_⟩:=h2 c hc
 exact wO hp
variable {hof:Drv→Hsh}
theorem rV {α:Type} [DecidableEq α]:∀ {a b:List α},a.Nodup→(∀ x∈a,x∈b)→a.length≤b.length
 | [],b,_,_=>Nat.zero_le _
 | x :: a,b,hn,hs=>by
  obtain ⟨h1,h2⟩:=List.nodup_cons.1 hn
  have hx:=hs x (List.mem_cons_self ..)
  have h3:a.length≤(b.erase x).length:=rV h2 fun y hy=>(List.mem_erase_of_ne (fun e=>h1 (by rw [← e];exact hy))).2 (hs y (List.mem_cons_of_mem _ hy))
  rw [List.length_erase_of_mem hx] at h3
  have:=List.length_pos_of_mem hx
  rw [xaE]
  omega
end Go.Proofs.YtomnhnmciopiiaaGreat
end
section
namespace Go.Proofs.YtomnhnmciopiiaaGreat
open Go Go.RowKit Go.Maps
section
variable {w0 w w':World} {L:List Ent}
theorem Mem.alike (h:Mem w0 w L):Alike w0.heap.size w0 w:=fun _ hb=>h.old hb
theorem Mem.lay {α:Type} {M:Lay α} {cs:List Value} {x:α} (h:Mem w0 w L) (hx:M.At w0 w0.heap.size cs x):M.At w w.heap.size cs x:=M.dV (M.alike hx h.alike) h.below.size
theorem Mem.drv {d:Drv} {v1 v2:Value} (h:Mem w0 w L) (hx:aK w0 w0.heap.size d v1 v2):aK w w.heap.size d v1 v2:=hx.gA h.below
end
section
variable {hof:Drv→Hsh} {l:List Itm} {d:Drv}
end
end Go.Proofs.YtomnhnmciopiiaaGreat
end
section
namespace Go.Proofs.YtomnhnmciopiiaaGreat
open Go Go.RowKit Go.Maps
attribute [local irreducible] wpList
theorem aK.Ca {w:World} {B:Nat} {d:Drv} {v1 v2:Value} (h:aK w B d v1 v2):∀ x∈d.2.1,okN x:=fun x hx=>by
 obtain ⟨cs,hat⟩:=fc h.ins hx
 exact (bw.1 hat).2
theorem re {l:List Itm} {c:Hsh} (h:db l c=none):findD l c=(⟨#[]⟩,[],[]):=by
 unfold findD
 unfold db at h
 rw [h]
 rfl
end Go.Proofs.YtomnhnmciopiiaaGreat
end
