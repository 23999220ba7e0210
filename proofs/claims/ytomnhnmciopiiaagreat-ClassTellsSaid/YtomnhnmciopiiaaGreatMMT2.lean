/- Part 2 of the texts of one proof. -/
import Derived.Test.YtomnhnmciopiiaaGreatMMT1
set_option maxRecDepth 100000
set_option linter.unusedVariables false
set_option linter.unusedSimpArgs false
set_option maxHeartbeats 40000000
open Go.Act renaming put → xae
open Array renaming ext_getElem? → xbZ, getD_eq_getD_getElem? → xbF, getElem?_eq_some_iff → xa2, getElem?_setIfInBounds → xcc, getElem?_setIfInBounds_ne → xcn, getElem?_toList → xa7, replicate → xbu, setIfInBounds_comm → xb7
open Go.RowKit.Below renaming mono → xar, refl → xao
open Bool renaming and_eq_true → xaw
open Go.Instr renaming sureAddr → xbM
open List renaming all_eq_true → xaO, any_eq_true → xbW, length_cons → xaF, map_cons → xa9, mem_append → xax, mem_append_left → xaY, mem_append_right → xbi, mem_cons → xaD, mem_map → xaA, mem_range → xba, mem_singleton → xan, ne_nil_of_mem → xbJ, pairwise_append → xbw, range → xaf
open Nat renaming decEq → xb0, le_trans → xaH
open Go.Oper renaming looksAt → xct
open Option renaming bind_some → xbk
open Option.some renaming inj → xam
open Go.Region renaming Mode → xbY, binds → xbS, chainB → xb8, lexHead → xbn, lexTailB → xbD, noSelect → xbE, noSelect_spec → xch, ready → xa4, sinkB → xce, waitsFor_spec → xcF, wanted → xaq
open Go.Result renaming andThen_ok → xat
open Go.Sem renaming run_bind → xaI, run_pure → xaQ
section
namespace Go.Proofs.YtomnhnmciopiiaaGreat.Fre
open Go Go.RowKit
class eb (X:World→World→Prop):Prop where
 refl:∀ w,X w w
 trans:∀ a b c,X a b→X b c→X a c
 drew:∀ w,X w w.drew
def Ext (X:World→World→Prop) (w w':World):Prop:=X w w'
theorem Ext.refl {X:World→World→Prop} [eb X] (w:World):Ext X w w:=eb.refl (X:=X) w
theorem Ext.trans {X:World→World→Prop} [eb X] {a b c:World} (h:Ext X a b) (k:Ext X b c):Ext X a c:=eb.trans (X:=X) a b c h k
theorem Ext.drew {X:World→World→Prop} [eb X] (w:World):Ext X w w.drew:=eb.drew (X:=X) w
abbrev Made:=Tmp→Option (Value→World→Prop)
section
variable {P:Program} {ops:Array Oper} {md:xbY} {F:Made} {w0:World} {X:World→World→Prop} [eb X]
def stays (X:World→World→Prop) (F:Made):Prop:=∀ t V,F t=some V→∀ u w w',V u w→Ext X w w'→V u w'
def mC (X:World→World→Prop) (P:Program) (v:Value) (w:World):Result Next→Prop
 | .ok (.value u) w'=>w'=w∧u=v
 | .ok .skip w'=>w'=w∧v=undef
 | .ok (.enter f args) w'=>w'=w∧Calls P f args w (fun e w''=>e=.returned v∧Ext X w w'')
 | _=>False
def iQ (_:Made) (_:Option Tmp) (_:World) (_:Value):Prop:=True
def mh (X:World→World→Prop) (P:Program) (F:Made) (d:Option Tmp) (V:Value→World→Prop) (w:World):Result Next→Prop
 | .ok (.value u) w'=>Ext X w w'∧V u w'∧iQ F d w u
 | .ok (.enter f args) w'=>w'=w∧Calls P f args w (fun e w''=>∃ u,e=.returned u∧Ext X w w''∧V u w''∧iQ F d w u)
 | _=>False
def jG (X:World→World→Prop) (P:Program) (F:Made) (d:Option Tmp) (V?:Option (Value→World→Prop)) (v:Value) (w:World) (r:Result Next):Prop :=
 match V? with
 | some V=>v=undef∧mh X P F d V w r
 | none=>mC X P v w r
def dx (F:Made) (a b:Act):Prop:=a.defers=b.defers∧a.tmps.size=b.tmps.size∧∀ t,F t=none→a.tmps[t]?=b.tmps[t]?
def fx (F:Made) (l:List Tmp) (b:Act) (w:World):Prop:=∀ t∈l,∀ V,F t=some V→∃ u,b.tmps[t]?=some u∧V u w
def fM (X:World→World→Prop) (P:Program) (ops:Array Oper) (F:Made) (w0:World) (o:Oper) (v:Value) (a:Act):Prop :=
 ∀ b w,Ext X w0 w→dx F b a→fx F (o.looksAt ops) b w →
  (xaq o (yielded ops b.tmps)=true→jG X P F o.dst (o.dst.bind F) v w ((execOp b.eval o).run P w)) ∧
  (xaq o (yielded ops b.tmps)=false→v=undef∧o.dst.bind F=none)
theorem cB (a:Act) (d:Tmp) (x:Value) (t:Tmp) (h:t ≠ d):(a.put (some d) x).tmps[t]?=a.tmps[t]?:=by
 simp only [xae]
 rw [xcn (Ne.symm h)]
theorem size_put (a:Act) (dst:Option Tmp) (x:Value):(a.put dst x).tmps.size=a.tmps.size:=by cases dst<;>simp [xae]
theorem cD (a:Act) (dst:Option Tmp) (x:Value):(a.put dst x).defers=a.defers:=by cases dst<;>rfl
theorem b7 (a:Act) (d:Tmp) (x:Value):(a.put (some d) x).tmps[d]?=if d<a.tmps.size then some x else none:=by
 simp only [xae,xcc,if_true]
theorem dx.put {a b:Act} (h:dx F a b) (dst:Option Tmp) (x:Value):dx F (a.put dst x) (b.put dst x):=by
 refine ⟨by rw [cD,cD,h.1],by rw [size_put,size_put,h.2.1],fun t ht=>?_⟩
 cases dst with
 | none=>exact h.2.2 t ht
 | some d =>
  by_cases e:t=d
  ·subst e
   rw [b7,b7,h.2.1]
  ·rw [cB _ _ _ _ e,cB _ _ _ _ e]
   exact h.2.2 t ht
theorem fx.put {l:List Tmp} {b:Act} {w:World} (dst:Option Tmp) (x:Value) (hl:∀ d,dst=some d→d ∉ l):fx F l (b.put dst x) w↔fx F l b w:=by
 unfold fx
 constructor
 ·intro h t ht V hV
  obtain ⟨u,hu,hv⟩:=h t ht V hV
  refine ⟨u,?_,hv⟩
  cases dst with
  | none=>exact hu
  | some d=>rwa [cB _ _ _ _ (fun e=>hl d rfl (by rw [← e];exact ht))] at hu
 ·intro h t ht V hV
  obtain ⟨u,hu,hv⟩:=h t ht V hV
  refine ⟨u,?_,hv⟩
  cases dst with
  | none=>exact hu
  | some d=>rw [cB _ _ _ _ (fun e=>hl d rfl (by rw [← e];exact ht))];exact hu
omit [eb X] in
theorem fM.xA {o:Oper} (hs:∀ cs b,o.op ≠ .select cs b) {v:Value} {a:Act} {dst:Option Tmp} {x:Value} (hd:∀ d,dst=some d→d ∉ o.looksAt ops) (h:fM X P ops F w0 o v (a.put dst x)):fM X P ops F w0 o v a:=by
 intro b w hw hb hh
 have h2:=h (b.put dst x) w hw (hb.put dst x) ((fx.put dst x hd).2 hh)
 rwa [wanted_put o b dst x hd,execOp_put o hs b dst x hd] at h2
omit [eb X] in
theorem fM.put {o:Oper} (hs:∀ cs b,o.op ≠ .select cs b) {v:Value} {a:Act} {dst:Option Tmp} {x:Value} (hd:∀ d,dst=some d→d ∉ o.looksAt ops) (h:fM X P ops F w0 o v a):fM X P ops F w0 o v (a.put dst x):=by
 cases dst with
 | none=>exact h
 | some d =>
  intro b w hw hb hh
  have hsame:dx F (b.put (some d) (a.tmps.getD d undef)) a:=by
   refine ⟨by rw [cD,hb.1,cD],by rw [size_put,hb.2.1,size_put],fun t ht=>?_⟩
   by_cases e:t=d
   ·subst e
    rw [b7,hb.2.1,size_put]
    split
    ·rename_i hlt;simp [hlt]
    ·rename_i hlt;rw [Array.getElem?_eq_none (Nat.le_of_not_lt hlt)]
   ·rw [cB _ _ _ _ e,hb.2.2 t ht,cB _ _ _ _ e]
  have h2:=h (b.put (some d) (a.tmps.getD d undef)) w hw hsame ((fx.put (some d) _ hd).2 hh)
  rwa [wanted_put o b (some d) _ hd,execOp_put o hs b (some d) _ hd] at h2
def eI (X:World→World→Prop) (P:Program) (ops:Array Oper) (F:Made) (w0:World) (i:Nat) (K:Act→Prop) (a:Act):Prop :=
 match ops[i]? with
 | none=>K a
 | some o=>∃ v,fM X P ops F w0 o v a∧K (a.put o.dst v)
omit [eb X] in
theorem jA {i:Nat} {a:Act} {K K':Act→Prop} (h:∀ a,K a→K' a) (hh:eI X P ops F w0 i K a):eI X P ops F w0 i K' a:=by
 unfold eI at *
 cases ho:ops[i]? with
 | none=>simp only [ho] at hh;exact h _ hh
 | some o =>
  simp only [ho] at hh
  obtain ⟨v,h1,h2⟩:=hh
  exact ⟨v,h1,h _ h2⟩
omit [eb X] in
theorem ku {j:Nat} {oi oj:Oper} {v:Value} (hj:ops[j]?=some oj) (hap:oi.apart ops oj=true)
  (hsi:∀ cs b,oi.op ≠ .select cs b) (hsj:∀ cs b,oj.op ≠ .select cs b) {K:Act→Prop} {a:Act}
  (hy:fM X P ops F w0 oi v a) (h:eI X P ops F w0 j K (a.put oi.dst v)) :
  eI X P ops F w0 j (fun a'=>fM X P ops F w0 oi v a'∧K (a'.put oi.dst v)) a:=by
 obtain ⟨h1,h2,h3⟩:=Oper.apart_spec hap
 unfold eI at *
 simp only [hj] at *
 obtain ⟨u,hu,hk⟩:=h
 exact ⟨u,hu.xA hsj h1,hy.put hsi h3,by rw [← Act.put_comm a v u h2];exact hk⟩
def iK (X:World→World→Prop) (P:Program) (md:xbY) (ops:Array Oper) (F:Made) (w0:World) (n:Nat) (L:Array Bool→Act→Prop):Nat→Array Bool→Act→Prop
 | 0,d,a=>L d a
 | f+1,d,a=>xa4 md ops d ≠ []∧∀ i∈xa4 md ops d,i<n∧eI X P ops F w0 i (iK X P md ops F w0 n L f (d.setIfInBounds i true)) a
omit [eb X] in
theorem j7 {n i:Nat} {oi:Oper} {v:Value} {L:Array Bool→Act→Prop} (hi:ops[i]?=some oi) (hsel:∀ (j:Nat) (o:Oper) cs b,ops[j]?=some o→o.op ≠ .select cs b)
  (hs:xce md ops n=true) (hc:xb8 md ops n=true) (hn:n<ops.size) (hin:i<n) (hdone:∀ d a,L d a→∀ j∈xa4 md ops d,n≤j) (f:Nat) :
  ∀ (d:Array Bool) (a:Act),HeadInv md ops n d →
   (∀ j oj,ops[j]?=some oj→j ≠ i→d.getD j true=false→(∀ e∈oj.after,xbS md e=true→e.on ≠ i)→oi.apart ops oj=true) →
   i∈xa4 md ops d→fM X P ops F w0 oi v a →
   iK X P md ops F w0 n L f (d.setIfInBounds i true) (a.put oi.dst v)→iK X P md ops F w0 n L (f+1) d a:=by
 have own:∀ (K:Act→Prop) (a:Act),fM X P ops F w0 oi v a→K (a.put oi.dst v)→eI X P ops F w0 i K a:=by
  intro K a hy hk
  unfold eI
  simp only [hi]
  exact ⟨v,hy,hk⟩
 induction f with
 | zero =>
  intro d a inv _ hr hy H
  refine ⟨xbJ hr,fun j hj=>?_⟩
  have hjn:=ji hs hc hn inv hin (mem_ready.1 hr).1 hj
  refine ⟨hjn,?_⟩
  rcases xb0 j i with hji | hji
  ·exact absurd (hdone _ _ H j (ready_mono hj hji)) (by omega)
  ·subst hji
   exact own _ _ hy H
 | succ f ih =>
  intro d a inv hfree hr hy H
  refine ⟨xbJ hr,fun j hj=>?_⟩
  have hjn:=ji hs hc hn inv hin (mem_ready.1 hr).1 hj
  refine ⟨hjn,?_⟩
  rcases xb0 j i with hji | hji
  ·obtain ⟨hjun,oj,hoj,hall⟩:=mem_ready.1 hj
   have hnot:∀ e∈oj.after,xbS md e=true→e.on ≠ i:=by
    intro e he hb heq
    have h1:=hall e he hb
    rw [heq,getD_both (mem_ready.1 hr).1] at h1
    cases h1
   have hstep:=ku hoj (hfree j oj hoj hji hjun hnot) (fun cs b=>hsel i oi cs b hi) (fun cs b=>hsel j oj cs b hoj) hy (H.2 j (ready_mono hj hji)).2
   refine jA (fun a' h3=>ih (d.setIfInBounds j true) a' (inv.set hj hjn) ?_ (ready_mono hr (Ne.symm hji)) h3.1 ?_) hstep
   ·intro k ok hk hki hunk hno
    refine hfree k ok hk hki ?_ hno
    rcases xb0 j k with hjk | hjk
    ·rwa [getD_set_ne true hjk] at hunk
    ·subst hjk
     exact hjun
   ·rw [xb7 _ _ hji]
    exact h3.2
  ·subst hji
   exact own _ _ hy H
def aQ (X:World→World→Prop) (P:Program) (ops:Array Oper) (F:Made) (w0:World) (Q:Act→Prop):List Oper→Act→Prop
 | [],a=>Q a
 | o :: rest,a=>∃ v,fM X P ops F w0 o v a∧aQ X P ops F w0 Q rest (a.put o.dst v)
omit [eb X] in
theorem jh {n g:Nat} {Lq:Act→Prop} (hsel:xbE ops=true) (hs:xce md ops n=true) (hc:xb8 md ops n=true) (hn:n<ops.size) :
  ∀ (l:List Oper) (k:Nat) (d:Array Bool) (a:Act),(∀ j,j<l.length→l[j]?=ops[k+j]?)→k+l.length=n→HeadInv md ops n d→(∀ i,i<k→d.getD i false=true) →
  xbn md ops g l.length k d=true→aQ X P ops F w0 Lq l a →
  iK X P md ops F w0 n (fun d' a'=>(Region.seqB md ops g n d'=true∧∀ i,i<n→d'.getD i false=true)∧Lq a') l.length d a
 | [],k,d,a,_,hk,_,hd,hB,h=>by
  obtain rfl:k=n:=by simpa using hk
  exact ⟨⟨by simpa [xbn] using hB,hd⟩,h⟩
 | o :: l,k,d,a,hl,hk,inv,hd,hB,h=>by
  have h0:ops[k]?=some o:=by simpa using (hl 0 (by simp)).symm
  simp only [xaF,xbn,xaw] at hB
  obtain ⟨⟨hr,hf⟩,hB'⟩:=hB
  have hkn:k<n:=by simp only [xaF] at hk;omega
  have hr':k∈xa4 md ops d:=by simpa using hr
  obtain ⟨v,hy,hK⟩:=h
  refine j7 h0 (xch hsel) hs hc hn hkn (fun d' a' hL=>seqB_ready hL.1.1) l.length d a inv (Region.free_spec h0 hf) hr' hy ?_
  refine jh hsel hs hc hn l (k+1) _ _ (fun j hj=>?_) (by simp only [xaF] at hk;omega) (inv.set hr' hkn) (fun i hi=>?_) hB' hK
  ·have:=hl (j+1) (by simp;omega)
   simpa [Nat.add_assoc,Nat.add_comm 1 j] using this
  ·by_cases e:k=i
   ·subst e
    have:k<d.size:=by rw [inv.size];omega
    simp [this]
   ·rw [getD_set_ne false e]
    exact hd i (by omega)
def ke (md:xbY) (ops:Array Oper) (keys:List Tmp) (n:Nat):Bool :=
 (xaf n).all fun j=>match ops[j]? with
  | none=>true
  | some o=>(o.looksAt ops).all fun t=>!keys.contains t||(xaf n).any fun i=>(ops[i]?).bind (·.dst) == some t&&Region.waitsFor md ops j i
def fB (ops:Array Oper) (keys:List Tmp) (n:Nat):Bool:=keys.all fun t=>(xaf n).any fun i=>(ops[i]?).bind (·.dst) == some t
def Sim (X:World→World→Prop) (ops:Array Oper) (F:Made) (w0:World) (d:Array Bool) (a b:Act) (w:World):Prop :=
 Ext X w0 w∧dx F b a∧∀ i o t V,ops[i]?=some o→d.getD i false=true→o.dst=some t→F t=some V→∃ u,b.tmps[t]?=some u∧V u w
theorem eP {n g:Nat} {keys:List Tmp} (hF:stays X F) (hkeys:∀ t V,F t=some V→t∈keys) (hmade:ke md ops keys n=true) (hsz:∀ t∈keys,∀ a:Act,∀ b:Act,dx F b a→True)
  {L:Array Bool→Act→Prop} {Q':Exit→Act→World→Prop} {size:Nat} (hrange:∀ t V,F t=some V→t<size)
  (hL:∀ d a b w,b.tmps.size=size→Sim X ops F w0 d a b w→L d a→wpAny P md ops Q' g d b w) :
  ∀ (f:Nat) (d:Array Bool) (a b:Act) (w:World),b.tmps.size=size→HeadInv md ops n d→Sim X ops F w0 d a b w→iK X P md ops F w0 n L f d a→wpAny P md ops Q' (f+g) d b w
 | 0,d,a,b,w,hb,_,hs,h=>by
  rw [Nat.zero_add]
  exact hL _ _ _ _ hb hs h
 | f+1,d,a,b,w,hb,inv,hs,h=>by
  rw [Nat.add_right_comm]
  refine ⟨fun he=>absurd he h.1,fun i hi=>?_⟩
  obtain ⟨hin,hop⟩:=h.2 i hi
  obtain ⟨hun,oi,hoi,hall⟩:=mem_ready.1 hi
  obtain ⟨hw,hsame,hV⟩:=hs
  unfold eI at hop
  simp only [hoi] at hop
  obtain ⟨v,hdo,hk⟩:=hop
  have hhold:fx F (oi.looksAt ops) b w:=by
   intro t ht V hFt
   have h1:=xaO.1 hmade i (xba.2 hin)
   simp only [hoi] at h1
   have h2:=xaO.1 h1 t ht
   have hk2:keys.contains t=true:=by simpa using hkeys t V hFt
   simp only [hk2,Bool.not_true,Bool.false_or] at h2
   obtain ⟨j,_,hj2⟩:=xbW.1 h2
   simp only [xaw,beq_iff_eq] at hj2
   obtain ⟨hj3,hj4⟩:=hj2
   obtain ⟨oi',hoi',e,he,hbd,hon⟩:=xcF hj4
   obtain rfl:oi'=oi:=xam (hoi'.symm.trans hoi)
   cases hoj:ops[j]? with
   | none=>simp [hoj] at hj3
   | some oj =>
    have hdst:oj.dst=some t:=by simpa [hoj] using hj3
    exact (hV j oj t V hoj (by have:=hall e he hbd;rwa [hon] at this) hdst hFt)
  obtain ⟨hyes,hno⟩:=hdo b w hw hsame hhold
  have next:∀ (x:Value) (w':World),Ext X w w'→(∀ t V,oi.dst=some t→F t=some V→V x w'∧iQ F oi.dst w x)→(oi.dst.bind F=none→x=v) →
    wpAny P md ops Q' (f+g) (d.setIfInBounds i true) (b.put oi.dst x) w':=by
   intro x w' hx hVx hxv
   refine eP hF hkeys hmade hsz hrange hL f _ (a.put oi.dst v) _ w' (by rw [size_put];exact hb) (inv.set hi hin) ⟨hw.trans hx,?_,?_⟩ hk
   ·refine ⟨by rw [cD,cD,hsame.1],by rw [size_put,size_put,hsame.2.1],fun t ht=>?_⟩
    cases hd:oi.dst with
    | none=>exact hsame.2.2 t ht
    | some dd =>
     by_cases e:t=dd
     ·subst e
      rw [hxv (by simp [hd,ht]),b7,b7,hsame.2.1]
     ·rw [cB _ _ _ _ e,cB _ _ _ _ e]
      exact hsame.2.2 t ht
   ·
    have at_new:∀ t V,oi.dst=some t→F t=some V→(b.put oi.dst x).tmps[t]?=some x:=by
     intro t V e hFt
     rw [e,b7,if_pos (by rw [hb];exact hrange t V hFt)]
    have at_old:∀ t,oi.dst ≠ some t→(b.put oi.dst x).tmps[t]?=b.tmps[t]?:=by
     intro t e
     cases hd:oi.dst with
     | none=>rfl
     | some dd=>exact cB _ _ _ _ (fun e3=>e (by rw [hd,e3]))
    have was:∀ j oj t V,ops[j]?=some oj→(d.setIfInBounds i true).getD j false=true→oj.dst=some t→F t=some V→oi.dst ≠ some t→d.getD j false=true:=by
     intro j oj t V hoj hlj hdj hFt e
     have hji:j ≠ i:=by
      intro e2
      subst e2
      obtain rfl:oj=oi:=xam (hoj.symm.trans hoi)
      exact e hdj
     rwa [getD_set_ne false (Ne.symm hji)] at hlj
    intro j oj t V hoj hlj hdj hFt
    by_cases e:oi.dst=some t
    ·exact ⟨x,at_new t V e hFt,(hVx t V e hFt).1⟩
    ·obtain ⟨u,hu,hVu⟩:=hV j oj t V hoj (was j oj t V hoj hlj hdj hFt e) hdj hFt
     exact ⟨u,by rw [at_old t e];exact hu,hF t V hFt u w w' hVu hx⟩
  unfold wpOp
  simp only [hoi]
  by_cases hwt:xaq oi (yielded ops b.tmps)=true
  ·rw [if_pos hwt]
   refine .inl ?_
   have hm:=hyes hwt
   unfold Oper.wp
   generalize (execOp b.eval oi).run P w=r at hm
   cases hbind:oi.dst.bind F with
   | none =>
    simp only [jG,hbind] at hm
    have hVx:∀ (x:Value) (w':World) t V,oi.dst=some t→F t=some V→V x w'∧iQ F oi.dst w x:=by
     intro x w' t V h1 h2
     simp [h1,h2] at hbind
    cases r with
    | halt x w'=>exact hm.elim
    | ok nx w' =>
     cases nx<;>simp only [mC] at hm
     case value u =>
      obtain ⟨rfl,rfl⟩:=hm
      exact next _ _ (Ext.refl _) (hVx _ _) (fun _=>rfl)
     case skip =>
      obtain ⟨rfl,rfl⟩:=hm
      exact next _ _ (Ext.refl _) (hVx _ _) (fun _=>rfl)
     case enter fn args =>
      obtain ⟨rfl,hcall⟩:=hm
      refine hcall.mono ?_
      rintro e w'' ⟨rfl,hx⟩
      exact next _ _ hx (hVx _ _) (fun _=>rfl)
   | some V =>
    simp only [jG,hbind] at hm
    obtain ⟨_,hm⟩:=hm
    have hnone:oi.dst.bind F=none→∀ x:Value,x=v:=fun h=>by rw [hbind] at h;cases h
    have hVx:∀ (x:Value) (w':World),V x w'∧iQ F oi.dst w x→∀ t V',oi.dst=some t→F t=some V'→V' x w'∧iQ F oi.dst w x:=by
     intro x w' hx t V' h1 h2
     simp only [h1,xbk,h2,Option.some.injEq] at hbind
     rw [hbind];exact hx
    cases r with
    | halt x w'=>exact hm.elim
    | ok nx w' =>
     cases nx<;>simp only [mh] at hm
     case value u=>exact next _ _ hm.1 (hVx _ _ hm.2) (fun h=>hnone h _)
     case enter fn args =>
      obtain ⟨rfl,hcall⟩:=hm
      refine hcall.mono ?_
      rintro e w'' ⟨u,rfl,hx,hVu⟩
      exact next _ _ hx (hVx _ _ hVu) (fun h=>hnone h _)
  ·rw [if_neg hwt]
   have h3:=hno (by simpa using hwt)
   refine next _ _ (Ext.refl _) ?_ (fun _=>h3.1.symm)
   intro t V h1 h2
   have h4:=h3.2
   simp [h1,h2] at h4
theorem jz {Q:Exit→Act→World→Prop} {a:Act} {w:World} {l:List Oper} (n:Nat) (keys:List Tmp) (F:Made) (_:P.follows .mixedOrders=true)
  (hB:(xbD .any l.toArray n&&ke .any l.toArray keys n&&fB l.toArray keys n)=true) (hkeys:∀ t V,F t=some V→t∈keys) (hF:stays X F) (hrange:∀ t∈keys,t<a.tmps.size)
  (h:aQ X P l.toArray F w (fun a'=>∀ b w',Ext X w w'→dx F b a'→(∀ t V,F t=some V→∃ u,b.tmps[t]?=some u∧V u w')→wpList P l.toArray Q (l.drop n) b w') (l.take n) a) :
  wpAny P .any l.toArray Q l.toArray.size (xbu l.toArray.size false) a w.drew:=by
 simp only [xaw] at hB
 obtain ⟨⟨hB,hmade⟩,hallm⟩:=hB
 simp only [xbD,xaw,decide_eq_true_eq] at hB
 obtain ⟨⟨⟨⟨hsel,hn⟩,hs⟩,hc⟩,hlex⟩:=hB
 have hn':n<l.length:=by simpa using hn
 have htl:(l.take n).length=n:=by simp;omega
 have hdl:(l.drop n).length=l.toArray.size-n:=by simp
 have inv0:HeadInv .any l.toArray n (xbu l.toArray.size false) :=
  ⟨by simp,fun j oj _ hl=>(by rw [getD_replicate_false] at hl;cases hl),fun t _ ht=>getD_in (by simpa using ht) (getD_replicate_false _ _)⟩
 have H:=jh (md:=.any) (g:=l.toArray.size-n) hsel hs hc hn (l.take n) 0 _ a (fun j hj=>by
  have hj':j<n:=by rw [htl] at hj;exact hj
  simp [hj']) (by simpa using htl) inv0 (fun i hi=>absurd hi (Nat.not_lt_zero _)) (by rw [htl];exact hlex) h
 have hfin:=eP (Q':=Q) (g:=l.toArray.size-n) (size:=a.tmps.size) hF hkeys hmade (fun _ _ _ _ _=>trivial) (fun t V h=>hrange t (hkeys t V h)) (fun d a' b w' _ hsim hL=>by
  have mk:∀ t V,F t=some V→∃ i oi,l.toArray[i]?=some oi∧d.getD i false=true∧oi.dst=some t:=by
   intro t V hFt
   have h5:=xaO.1 hallm t (hkeys t V hFt)
   obtain ⟨i,hi,hi2⟩:=xbW.1 h5
   simp only [beq_iff_eq] at hi2
   cases hoi:l.toArray[i]? with
   | none=>simp [hoi] at hi2
   | some oi=>exact ⟨i,oi,hoi,hL.1.2 i (xba.1 hi),by simpa [hoi] using hi2⟩
  have h2:=hL.2 b w' hsim.1 hsim.2.1 (fun t V hFt=>by
   obtain ⟨i,oi,hoi,hdn,hdst⟩:=mk t V hFt
   exact hsim.2.2 i oi t V hoi hdn hdst hFt)
  have h4:=wpAny_of_seq (md:=.any) (Q':=Q) (l.drop n) n d b w' (fun j=>by simp [List.getElem?_drop]) (by rw [hdl];exact hL.1.1) h2
  rwa [hdl] at h4) _ _ a a w.drew rfl inv0 ⟨Ext.drew w,⟨rfl,rfl,fun _ _=>rfl⟩,fun i o t V _ hd=>by rw [getD_replicate_false] at hd;cases hd⟩ H
 rw [htl,show n+(l.toArray.size-n)=l.toArray.size by omega] at hfin
 exact hfin
theorem mJ {id:Nat} {Q:Exit→Act→World→Prop} {a:Act} {w:World} {l:List Oper} (n:Nat) (keys:List Tmp) (F:Made) (hm:P.follows .mixedOrders=true)
  (hB:(xbD .any l.toArray n&&ke .any l.toArray keys n&&fB l.toArray keys n)=true) (hkeys:∀ t V,F t=some V→t∈keys) (hF:stays X F) (hrange:∀ t∈keys,t<a.tmps.size)
  (h:aQ X P l.toArray F w (fun a'=>∀ b w',Ext X w w'→dx F b a'→(∀ t V,F t=some V→∃ u,b.tmps[t]?=some u∧V u w')→wpList P l.toArray Q (l.drop n) b w') (l.take n) a) :
  (Code.region id l.toArray true).wp P Q a w:=wp_region_any hm (jz n keys F hm hB hkeys hF hrange h)
theorem dx.fix {a b:Act} {t:Tmp} {u:Value} (h:dx F b a) (hu:b.tmps[t]?=some u):dx (fun s=>if s=t then none else F s) b (a.put (some t) u):=by
 have ht:t<b.tmps.size:=by
  rcases Nat.lt_or_ge t b.tmps.size with h | h
  ·exact h
  ·rw [Array.getElem?_eq_none h] at hu;cases hu
 refine ⟨by rw [cD];exact h.1,by rw [size_put];exact h.2.1,fun s hs=>?_⟩
 by_cases e:s=t
 ·subst e
  rw [b7,if_pos (by rw [← h.2.1];exact ht),hu]
 ·rw [cB _ _ _ _ e]
  exact h.2.2 s (by simpa [e] using hs)
theorem dx.eq {a b:Act} (h:dx F b a) (hF:∀ s,F s=none):b=a:=by
 obtain ⟨bt,bd⟩:=b
 obtain ⟨at',ad⟩:=a
 obtain ⟨h1,_,h3⟩:=h
 have h4:bt=at':=xbZ fun i=>h3 i (hF i)
 cases h1;cases h4;rfl
theorem dx.eval {a b:Act} (h:dx F b a) {x:Operand} (hx:∀ t,x=.tmp t→F t=none):b.eval x=a.eval x:=by
 cases x with
 | tmp t =>
  have h1:=h.2.2 t (hx t rfl)
  show b.tmps.getD t undef=a.tmps.getD t undef
  rw [xbF,xbF,h1]
 | _=>rfl
end
end Go.Proofs.YtomnhnmciopiiaaGreat.Fre
end
section
namespace Go.Proofs.YtomnhnmciopiiaaGreat.Fre
open Go Go.RowKit
abbrev dZ:=List (Tmp×(Value→World→Prop))
def aq (L:dZ):Made:=fun t=>(L.find? (fun p=>p.1 == t)).map (·.2)
structure df (X:World→World→Prop) (V:Value→World→Prop):Prop where
 stays:∀ u w w',V u w→Ext X w w'→V u w'
theorem ey {L:dZ} {t:Tmp} {V:Value→World→Prop} (h:aq L t=some V):(t,V)∈L:=by
 unfold aq at h
 cases hf:L.find? (fun p=>p.1 == t) with
 | none=>rw [hf] at h;cases h
 | some p =>
  rw [hf] at h
  obtain rfl:=xam h
  have h1:=List.mem_of_find?_eq_some hf
  have h2:=List.find?_some hf
  simp only [beq_iff_eq] at h2
  obtain ⟨a,b⟩:=p
  subst h2
  exact h1
theorem gH (t:Tmp) (V:Value→World→Prop) (L:dZ) (s:Tmp):aq ((t,V) :: L) s=if t=s then some V else aq L s:=by
 unfold aq
 by_cases h:t=s
 ·simp [h]
 ·simp [h]
theorem ej:∀ {L:dZ} {t:Tmp} {V:Value→World→Prop},(L.map (·.1)).Nodup→(t,V)∈L→aq L t=some V
 | [],_,_,_,hm=>by cases hm
 | (t',V') :: L,t,V,hn,hm=>by
  simp only [xa9,List.nodup_cons] at hn
  rw [gH]
  rcases xaD.1 hm with hm | hm
  ·injection hm with e1 e2
   subst e1 e2
   rw [if_pos rfl]
  ·rw [if_neg (fun e=>hn.1 (xaA.2 ⟨_,hm,e.symm⟩))]
   exact ej hn.2 hm
theorem dJ {L:dZ} {t:Tmp} (h:(L.map (·.1)).contains t=false):aq L t=none:=by
 cases hm:aq L t with
 | none=>rfl
 | some V =>
  have h1:=ey hm
  have h2:(L.map (·.1)).contains t=true:=by
   rw [List.contains_iff_mem]
   exact xaA.2 ⟨_,h1,rfl⟩
  rw [h2] at h;cases h
section
variable {P:Program} {ops:Array Oper} {L:dZ} {w0:World} {rest:List Oper} {o:Oper} {a:Act} {Q:Act→Prop} {X:World→World→Prop} [eb X]
omit [eb X] in
theorem mH (hL:∀ p∈L,df X p.2):stays X (aq L):=fun _ _ hV u w w' hu hw=>(hL _ (ey hV)).stays u w w' hu hw
def bW (keys:List Tmp) (ops:Array Oper) (o:Oper):Bool:=(match o.op with | .select _ _=>false | _=>true)&&(o.looksAt ops).all fun s=>!keys.contains s
theorem lx {keys:List Tmp} (h:bW keys ops o=true):∀ cs b,o.op ≠ .select cs b:=by
 intro cs b e
 unfold bW at h
 rw [e] at h
 cases h
theorem lv {keys:List Tmp} (h:bW keys ops o=true) {x:Operand} (hx:x∈o.op.operands) {t:Tmp} (e:x=.tmp t):keys.contains t=false:=by
 simp only [bW,xaw] at h
 have h2:=xaO.1 h.2 t (by
  unfold xct
  exact xaY _ (List.mem_filterMap.2 ⟨x,by simpa using hx,by rw [e]⟩))
 simpa using h2
theorem jF {keys:List Tmp} (h:bW keys ops o=true) {g:Nat} {y:Bool} (hg:o.guard=some (g,y)) {t:Tmp} (ht:(ops[g]?).bind (·.dst)=some t):keys.contains t=false:=by
 simp only [bW,xaw] at h
 have h2:=xaO.1 h.2 t (by
  unfold xct
  refine xbi _ ?_
  rw [hg]
  simp [ht])
 simpa using h2
theorem gL {F:Made} {b:Act} (hb:dx F b a) (hg:∀ g x,o.guard=some (g,x)→∀ t,(ops[g]?).bind (·.dst)=some t→F t=none):xaq o (yielded ops b.tmps)=xaq o (yielded ops a.tmps):=by
 unfold xaq
 cases hgd:o.guard with
 | none=>rfl
 | some p =>
  obtain ⟨g,x⟩:=p
  simp only
  unfold yielded
  cases ht:(ops[g]?).bind (·.dst) with
  | none=>rfl
  | some t=>simp only [xbk,hb.2.2 t (hg g x hgd t ht)]
theorem b8 {b:Act} (hB:bW (L.map (·.1)) ops o=true) (hb:dx (aq L) b a):xaq o (yielded ops b.tmps)=xaq o (yielded ops a.tmps) :=
 gL hb fun _ _ hg _ ht=>dJ (jF hB hg ht)
theorem dv {b:Act} (hB:bW (L.map (·.1)) ops o=true) (hb:dx (aq L) b a):execOp b.eval o=execOp a.eval o :=
 execOp_congr o (lx hB) fun _ hx=>hb.eval fun _ e=>dJ (lv hB hx e)
omit [eb X] in
theorem ag (v:Value) (hB:bW (L.map (·.1)) ops o=true) (hw:xaq o (yielded ops a.tmps)=true) (hd:o.dst.bind (aq L)=none)
  (hrun:∀ w,Ext X w0 w→(execOp a.eval o).run P w=.ok (.value v) w) (h:aQ X P ops (aq L) w0 Q rest (a.put o.dst v)):aQ X P ops (aq L) w0 Q (o :: rest) a:=by
 refine ⟨v,fun b w hx hb _=>⟨fun _=>?_,fun h2=>?_⟩,h⟩
 ·rw [hd,dv hB hb,hrun w hx]
  exact ⟨rfl,rfl⟩
 ·rw [b8 hB hb,hw] at h2;cases h2
omit [eb X] in
theorem bR (hB:bW (L.map (·.1)) ops o=true) (hw:xaq o (yielded ops a.tmps)=false) (hd:o.dst.bind (aq L)=none)
  (h:aQ X P ops (aq L) w0 Q rest (a.put o.dst undef)):aQ X P ops (aq L) w0 Q (o :: rest) a:=by
 refine ⟨undef,fun b w hx hb _=>⟨fun h2=>?_,fun _=>⟨rfl,hd⟩⟩,h⟩
 rw [b8 hB hb,hw] at h2;cases h2
omit [eb X] in
theorem fZ (v:Value) (f:Nat) (args:Array Value) (hB:bW (L.map (·.1)) ops o=true) (hw:xaq o (yielded ops a.tmps)=true) (hd:o.dst.bind (aq L)=none)
  (hrun:∀ w,(execOp a.eval o).run P w=.ok (.enter f args) w) (hc:∀ w,Ext X w0 w→Calls P f args w fun e w'=>e=.returned v∧Ext X w w')
  (h:aQ X P ops (aq L) w0 Q rest (a.put o.dst v)):aQ X P ops (aq L) w0 Q (o :: rest) a:=by
 refine ⟨v,fun b w hx hb _=>⟨fun _=>?_,fun h2=>?_⟩,h⟩
 ·rw [hd,dv hB hb,hrun w]
  exact ⟨rfl,hc w hx⟩
 ·rw [b8 hB hb,hw] at h2;cases h2
omit [eb X] in
theorem gI (t:Tmp) (V:Value→World→Prop) (hB:bW (L.map (·.1)) ops o=true) (hw:xaq o (yielded ops a.tmps)=true) (hd:o.dst=some t) (hV:aq L t=some V)
  (hrun:∀ w,Ext X w0 w→∃ u w',(execOp a.eval o).run P w=.ok (.value u) w'∧Ext X w w'∧V u w')
  (h:aQ X P ops (aq L) w0 Q rest (a.put o.dst undef)):aQ X P ops (aq L) w0 Q (o :: rest) a:=by
 refine ⟨undef,fun b w hx hb _=>⟨fun _=>?_,fun h2=>?_⟩,h⟩
 ·obtain ⟨u,w',h1,h2,h3⟩:=hrun w hx
  rw [hd,xbk,hV,dv hB hb,h1]
  exact ⟨rfl,h2,h3,trivial⟩
 ·rw [b8 hB hb,hw] at h2;cases h2
omit [eb X] in
theorem dt (t:Tmp) (V:Value→World→Prop) (f:Nat) (args:Array Value) (hB:bW (L.map (·.1)) ops o=true) (hw:xaq o (yielded ops a.tmps)=true) (hd:o.dst=some t) (hV:aq L t=some V)
  (hrun:∀ w,(execOp a.eval o).run P w=.ok (.enter f args) w) (hc:∀ w,Ext X w0 w→Calls P f args w fun e w'=>∃ u,e=.returned u∧Ext X w w'∧V u w')
  (h:aQ X P ops (aq L) w0 Q rest (a.put o.dst undef)):aQ X P ops (aq L) w0 Q (o :: rest) a:=by
 refine ⟨undef,fun b w hx hb _=>⟨fun _=>?_,fun h2=>?_⟩,h⟩
 ·rw [hd,xbk,hV,dv hB hb,hrun w]
  refine ⟨rfl,rfl,(hc w hx).mono ?_⟩
  rintro e w' ⟨u,h1,h2,h3⟩
  exact ⟨u,h1,h2,h3,trivial⟩
 ·rw [b8 hB hb,hw] at h2;cases h2
def dI (s:Tmp) (keys:List Tmp) (ops:Array Oper) (o:Oper):Bool:=(match o.op with | .select _ _=>false | _=>true)&&(o.op.operands.toList.all fun x=>match x with | .tmp t=>t == s||!keys.contains t | _=>true) &&
 (match o.guard with | some (g,_)=>((ops[g]?).bind (·.dst)).toList.all fun t=>!keys.contains t | none=>true)&&(o.looksAt ops).contains s
theorem eK {s:Tmp} {b:Act} (hB:dI s (L.map (·.1)) ops o=true) (hb:dx (aq L) b a):xaq o (yielded ops b.tmps)=xaq o (yielded ops a.tmps):=by
 refine gL hb fun g _ hg t ht=>dJ ?_
 simp only [dI,xaw] at hB
 have h:=hB.1.2
 rw [hg] at h
 simpa [ht] using h
theorem fF {s:Tmp} {u:Value} {b:Act} (hB:dI s (L.map (·.1)) ops o=true) (hb:dx (aq L) b a) (hu:b.tmps[s]?=some u):execOp b.eval o=execOp (a.put (some s) u).eval o:=by
 simp only [dI,xaw] at hB
 refine execOp_congr o ?_ fun x hx=>?_
 ·intro cs d e
  have h:=hB.1.1.1
  rw [e] at h
  cases h
 ·refine (hb.fix hu).eval fun t e=>?_
  have h:=xaO.1 hB.1.1.2 x (by simpa using hx)
  rw [e] at h
  simp only [Bool.or_eq_true,beq_iff_eq,Bool.not_eq_true'] at h
  rcases h with h | h
  ·rw [if_pos h]
  ·split
   ·rfl
   ·exact dJ h
theorem fe {s:Tmp} {V:Value→World→Prop} {b:Act} {w:World} (hB:dI s (L.map (·.1)) ops o=true) (hV:aq L s=some V) (hh:fx (aq L) (o.looksAt ops) b w):∃ u,b.tmps[s]?=some u∧V u w:=by
 simp only [dI,xaw] at hB
 exact hh s (by simpa using hB.2) V hV
omit [eb X] in
theorem ga (s:Tmp) (V:Value→World→Prop) (v:Value) (f:Nat) (args:Value→Array Value) (hB:dI s (L.map (·.1)) ops o=true) (hV:aq L s=some V) (hw:xaq o (yielded ops a.tmps)=true) (hd:o.dst.bind (aq L)=none)
  (hrun:∀ u w,(execOp (a.put (some s) u).eval o).run P w=.ok (.enter f (args u)) w) (hc:∀ u w,Ext X w0 w→V u w→Calls P f (args u) w fun e w'=>e=.returned v∧Ext X w w')
  (h:aQ X P ops (aq L) w0 Q rest (a.put o.dst v)):aQ X P ops (aq L) w0 Q (o :: rest) a:=by
 refine ⟨v,fun b w hx hb hh=>⟨fun _=>?_,fun h2=>?_⟩,h⟩
 ·obtain ⟨u,hu,hVu⟩:=fe hB hV hh
  rw [hd,fF hB hb hu,hrun u w]
  exact ⟨rfl,hc u w hx hVu⟩
 ·rw [eK hB hb,hw] at h2;cases h2
omit [eb X] in
theorem jo (s:Tmp) (V:Value→World→Prop) (t:Tmp) (V':Value→World→Prop) (hB:dI s (L.map (·.1)) ops o=true) (hV:aq L s=some V) (hw:xaq o (yielded ops a.tmps)=true) (hd:o.dst=some t) (hV':aq L t=some V')
  (hrun:∀ u w,Ext X w0 w→V u w→∃ u' w',(execOp (a.put (some s) u).eval o).run P w=.ok (.value u') w'∧Ext X w w'∧V' u' w')
  (h:aQ X P ops (aq L) w0 Q rest (a.put o.dst undef)):aQ X P ops (aq L) w0 Q (o :: rest) a:=by
 refine ⟨undef,fun b w hx hb hh=>⟨fun _=>?_,fun h2=>?_⟩,h⟩
 ·obtain ⟨u,hu,hVu⟩:=fe hB hV hh
  obtain ⟨u',w',h1,h2,h3⟩:=hrun u w hx hVu
  rw [hd,xbk,hV',fF hB hb hu,h1]
  exact ⟨rfl,h2,h3,trivial⟩
 ·rw [eK hB hb,hw] at h2;cases h2
def ended:dZ→World→Act→(Act→Prop)→Prop
 | [],_,a,K=>K a
 | (t,V) :: L,w,a,K=>∀ u,V u w→ended L w (a.put (some t) u) K
theorem fT (K:Act→Prop) (w:World):∀ (L:dZ) (a b:Act),dx (aq L) b a→(L.map (·.1)).Nodup→(∀ t V,(t,V)∈L→∃ u,b.tmps[t]?=some u∧V u w)→ended L w a K→K b
 | [],a,b,hs,_,_,h=>by
  obtain rfl:=hs.eq (fun _=>rfl)
  exact h
 | (t,V) :: L,a,b,hs,hn,hh,h=>by
  obtain ⟨u,hu,hVu⟩:=hh t V (by simp)
  have h2:=h u hVu
  simp only [xa9,List.nodup_cons] at hn
  refine fT K w L _ b ?_ hn.2 (fun s V' hm=>hh s V' (by simp [hm])) h2
  have h3:=hs.fix hu
  refine ⟨h3.1,h3.2.1,fun s hs'=>h3.2.2 s ?_⟩
  show (if s=t then none else aq ((t,V) :: L) s)=none
  split
  ·rfl
  ·rename_i hne
   rw [gH,if_neg (Ne.symm hne)]
   exact hs'
theorem nV {Q:Exit→Act→World→Prop} {a:Act} {w:World} {l:List Oper} (n:Nat) (L:dZ) (hm:P.follows .mixedOrders=true)
  (hB:(xbD .any l.toArray n&&ke .any l.toArray (L.map (·.1)) n&&fB l.toArray (L.map (·.1)) n)=true) (hL:∀ p∈L,df X p.2) (hn:(L.map (·.1)).Nodup) (hrange:∀ t∈L.map (·.1),t<a.tmps.size)
  (h:aQ X P l.toArray (aq L) w (fun a'=>∀ w',Ext X w w'→ended L w' a' fun b=>wpList P l.toArray Q (l.drop n) b w') (l.take n) a) :
  wpAny P .any l.toArray Q l.toArray.size (xbu l.toArray.size false) a w.drew:=by
 refine jz n (L.map (·.1)) (aq L) hm hB (fun t V hV=>xaA.2 ⟨_,ey hV,rfl⟩) (mH hL) hrange ?_
 have e:∀ (rest:List Oper) (a:Act),aQ X P l.toArray (aq L) w (fun a'=>∀ w',Ext X w w'→ended L w' a' fun b=>wpList P l.toArray Q (l.drop n) b w') rest a →
   aQ X P l.toArray (aq L) w (fun a'=>∀ b w',Ext X w w'→dx (aq L) b a'→(∀ t V,aq L t=some V→∃ u,b.tmps[t]?=some u∧V u w')→wpList P l.toArray Q (l.drop n) b w') rest a:=by
  intro rest
  induction rest with
  | nil =>
   intro a h b w' hx hs hh
   exact fT _ w' L a b hs hn (fun t V hm=>hh t V (ej hn hm)) (h w' hx)
  | cons o rest ih =>
   intro a h
   obtain ⟨v,h1,h2⟩:=h
   exact ⟨v,h1,ih _ h2⟩
 exact e _ _ h
theorem b4 {id:Nat} {Q:Exit→Act→World→Prop} {a:Act} {w:World} {l:List Oper} (n:Nat) (L:dZ) (hm:P.follows .mixedOrders=true)
  (hB:(xbD .any l.toArray n&&ke .any l.toArray (L.map (·.1)) n&&fB l.toArray (L.map (·.1)) n)=true) (hL:∀ p∈L,df X p.2) (hn:(L.map (·.1)).Nodup) (hrange:∀ t∈L.map (·.1),t<a.tmps.size)
  (h:aQ X P l.toArray (aq L) w (fun a'=>∀ w',Ext X w w'→ended L w' a' fun b=>wpList P l.toArray Q (l.drop n) b w') (l.take n) a) :
  (Code.region id l.toArray true).wp P Q a w:=wp_region_any hm (nV n L hm hB hL hn hrange h)
end
end Go.Proofs.YtomnhnmciopiiaaGreat.Fre
end
section
namespace Go.Proofs.YtomnhnmciopiiaaGreat.Fre
open Go Go.RowKit
section
variable {P:Program} {ops:Array Oper} {md:xbY} {F:Made} {w0:World} {X:World→World→Prop} [eb X]
theorem Bk {n j:Nat} {d:Array Bool} (hn:n=ops.size) (hj:j∈xa4 md ops d):j<n:=by
 obtain ⟨_,oj,hoj,_⟩:=mem_ready.1 hj
 rw [hn]
 exact (xa2.1 hoj).1
omit [eb X] in
theorem sS {n i:Nat} {oi:Oper} {v:Value} {L:Array Bool→Act→Prop} (hi:ops[i]?=some oi) (hsel:∀ (j:Nat) (o:Oper) cs b,ops[j]?=some o→o.op ≠ .select cs b)
  (hn:n=ops.size) (hin:i<n) (hdone:∀ d a,L d a→∀ j∈xa4 md ops d,n≤j) (f:Nat) :
  ∀ (d:Array Bool) (a:Act),HeadInv md ops n d →
   (∀ j oj,ops[j]?=some oj→j ≠ i→d.getD j true=false→(∀ e∈oj.after,xbS md e=true→e.on ≠ i)→oi.apart ops oj=true) →
   i∈xa4 md ops d→fM X P ops F w0 oi v a →
   iK X P md ops F w0 n L f (d.setIfInBounds i true) (a.put oi.dst v)→iK X P md ops F w0 n L (f+1) d a:=by
 have own:∀ (K:Act→Prop) (a:Act),fM X P ops F w0 oi v a→K (a.put oi.dst v)→eI X P ops F w0 i K a:=by
  intro K a hy hk
  unfold eI
  simp only [hi]
  exact ⟨v,hy,hk⟩
 induction f with
 | zero =>
  intro d a inv _ hr hy H
  refine ⟨xbJ hr,fun j hj=>?_⟩
  have hjn:=Bk hn hj
  refine ⟨hjn,?_⟩
  rcases xb0 j i with hji | hji
  ·exact absurd (hdone _ _ H j (ready_mono hj hji)) (by omega)
  ·subst hji
   exact own _ _ hy H
 | succ f ih =>
  intro d a inv hfree hr hy H
  refine ⟨xbJ hr,fun j hj=>?_⟩
  have hjn:=Bk hn hj
  refine ⟨hjn,?_⟩
  rcases xb0 j i with hji | hji
  ·obtain ⟨hjun,oj,hoj,hall⟩:=mem_ready.1 hj
   have hnot:∀ e∈oj.after,xbS md e=true→e.on ≠ i:=by
    intro e he hb heq
    have h1:=hall e he hb
    rw [heq,getD_both (mem_ready.1 hr).1] at h1
    cases h1
   have hstep:=ku hoj (hfree j oj hoj hji hjun hnot) (fun cs b=>hsel i oi cs b hi) (fun cs b=>hsel j oj cs b hoj) hy (H.2 j (ready_mono hj hji)).2
   refine jA (fun a' h3=>ih (d.setIfInBounds j true) a' (inv.set hj hjn) ?_ (ready_mono hr (Ne.symm hji)) h3.1 ?_) hstep
   ·intro k ok hk hki hunk hno
    refine hfree k ok hk hki ?_ hno
    rcases xb0 j k with hjk | hjk
    ·rwa [getD_set_ne true hjk] at hunk
    ·subst hjk
     exact hjun
   ·rw [xb7 _ _ hji]
    exact h3.2
  ·subst hji
   exact own _ _ hy H
omit [eb X] in
theorem pK {n g:Nat} {Lq:Act→Prop} (hsel:xbE ops=true) (hn:n=ops.size) :
  ∀ (l:List Oper) (k:Nat) (d:Array Bool) (a:Act),(∀ j,j<l.length→l[j]?=ops[k+j]?)→k+l.length=n→HeadInv md ops n d→(∀ i,i<k→d.getD i false=true) →
  xbn md ops g l.length k d=true→aQ X P ops F w0 Lq l a →
  iK X P md ops F w0 n (fun d' a'=>(Region.seqB md ops g n d'=true∧∀ i,i<n→d'.getD i false=true)∧Lq a') l.length d a
 | [],k,d,a,_,hk,_,hd,hB,h=>by
  obtain rfl:k=n:=by simpa using hk
  exact ⟨⟨by simpa [xbn] using hB,hd⟩,h⟩
 | o :: l,k,d,a,hl,hk,inv,hd,hB,h=>by
  have h0:ops[k]?=some o:=by simpa using (hl 0 (by simp)).symm
  simp only [xaF,xbn,xaw] at hB
  obtain ⟨⟨hr,hf⟩,hB'⟩:=hB
  have hkn:k<n:=by simp only [xaF] at hk;omega
  have hr':k∈xa4 md ops d:=by simpa using hr
  obtain ⟨v,hy,hK⟩:=h
  refine sS h0 (xch hsel) hn hkn (fun d' a' hL=>seqB_ready hL.1.1) l.length d a inv (Region.free_spec h0 hf) hr' hy ?_
  refine pK hsel hn l (k+1) _ _ (fun j hj=>?_) (by simp only [xaF] at hk;omega) (inv.set hr' hkn) (fun i hi=>?_) hB' hK
  ·have:=hl (j+1) (by simp;omega)
   simpa [Nat.add_assoc,Nat.add_comm 1 j] using this
  ·by_cases e:k=i
   ·subst e
    have:k<d.size:=by rw [inv.size];omega
    simp [this]
   ·rw [getD_set_ne false e]
    exact hd i (by omega)
theorem rr {id:Nat} {Q:Exit→Act→World→Prop} {a:Act} {w:World} {l:List Oper} (keys:List Tmp) (F:Made) (hm:P.follows .mixedOrders=true)
  (hB:(xbE l.toArray&&xbn .any l.toArray 0 l.length 0 (xbu l.toArray.size false)&&ke .any l.toArray keys l.length&&fB l.toArray keys l.length)=true) (hkeys:∀ t V,F t=some V→t∈keys) (hF:stays X F) (hrange:∀ t∈keys,t<a.tmps.size)
  (h:aQ X P l.toArray F w (fun a'=>∀ b w',Ext X w w'→dx F b a'→(∀ t V,F t=some V→∃ u,b.tmps[t]?=some u∧V u w')→Q .normal b w') l a) :
  (Code.region id l.toArray true).wp P Q a w:=by
 simp only [xaw] at hB
 obtain ⟨⟨⟨hsel,hlex⟩,hmade⟩,hallm⟩:=hB
 have inv0:HeadInv .any l.toArray l.length (xbu l.toArray.size false) :=
  ⟨by simp,fun j oj _ hl=>(by rw [getD_replicate_false] at hl;cases hl),fun t ht ht'=>absurd ht' (by simp;omega)⟩
 have H:=pK (md:=.any) (g:=0) (n:=l.length) hsel (by simp) l 0 _ a (fun j hj=>by simp) (by simp) inv0 (fun i hi=>absurd hi (Nat.not_lt_zero _)) hlex h
 refine wp_region_any hm ?_
 have hfin:=eP (Q':=Q) (g:=0) (size:=a.tmps.size) hF hkeys hmade (fun _ _ _ _ _=>trivial) (fun t V h=>hrange t (hkeys t V h)) (fun d a' b w' _ hsim hL=>by
  have mk:∀ t V,F t=some V→∃ i oi,l.toArray[i]?=some oi∧d.getD i false=true∧oi.dst=some t:=by
   intro t V hFt
   have h5:=xaO.1 hallm t (hkeys t V hFt)
   obtain ⟨i,hi,hi2⟩:=xbW.1 h5
   simp only [beq_iff_eq] at hi2
   cases hoi:l.toArray[i]? with
   | none=>simp [hoi] at hi2
   | some oi=>exact ⟨i,oi,hoi,hL.1.2 i (xba.1 hi),by simpa [hoi] using hi2⟩
  have h2:=hL.2 b w' hsim.1 hsim.2.1 (fun t V hFt=>by
   obtain ⟨i,oi,hoi,hdn,hdst⟩:=mk t V hFt
   exact hsim.2.2 i oi t V hoi hdn hdst hFt)
  exact ⟨by simpa [Region.seqB] using hL.1.1,h2⟩) _ _ a a w.drew rfl inv0 ⟨Ext.drew w,⟨rfl,rfl,fun _ _=>rfl⟩,fun i o t V _ hd=>by rw [getD_replicate_false] at hd;cases hd⟩ H
 rw [show l.length+0=l.toArray.size by simp] at hfin
 exact hfin
end
section
variable {P:Program} {ops:Array Oper} {L:dZ} {w0:World} {X:World→World→Prop} [eb X]
theorem cC {id:Nat} {Q:Exit→Act→World→Prop} {a:Act} {w:World} {l:List Oper} (L:dZ) (hm:P.follows .mixedOrders=true)
  (hB:(xbE l.toArray&&xbn .any l.toArray 0 l.length 0 (xbu l.toArray.size false)&&ke .any l.toArray (L.map (·.1)) l.length&&fB l.toArray (L.map (·.1)) l.length)=true) (hL:∀ p∈L,df X p.2) (hn:(L.map (·.1)).Nodup) (hrange:∀ t∈L.map (·.1),t<a.tmps.size)
  (h:aQ X P l.toArray (aq L) w (fun a'=>∀ w',Ext X w w'→ended L w' a' fun b=>Q .normal b w') l a) :
  (Code.region id l.toArray true).wp P Q a w:=by
 refine rr (L.map (·.1)) (aq L) hm hB (fun t V hV=>xaA.2 ⟨_,ey hV,rfl⟩) (mH hL) hrange ?_
 have e:∀ (rest:List Oper) (a:Act),aQ X P l.toArray (aq L) w (fun a'=>∀ w',Ext X w w'→ended L w' a' fun b=>Q .normal b w') rest a →
   aQ X P l.toArray (aq L) w (fun a'=>∀ b w',Ext X w w'→dx (aq L) b a'→(∀ t V,aq L t=some V→∃ u,b.tmps[t]?=some u∧V u w')→Q .normal b w') rest a:=by
  intro rest
  induction rest with
  | nil =>
   intro a h b w' hx hs hh
   exact fT _ w' L a b hs hn (fun t V hm=>hh t V (ej hn hm)) (h w' hx)
  | cons o rest ih =>
   intro a h
   obtain ⟨v,h1,h2⟩:=h
   exact ⟨v,h1,ih _ h2⟩
 exact e _ _ h
end
end Go.Proofs.YtomnhnmciopiiaaGreat.Fre
end
section
namespace Go.Proofs.YtomnhnmciopiiaaGreat
open Go Go.RowKit
def Bel (w w':World):Prop:=Below w.heap.size w w'
instance:Fre.eb Bel where
 refl:=fun w=>xao _ w
 trans:=fun _ _ _ h k=>Below.trans h (xar k h.size)
 drew:=fun w=>(xao _ w).drew
end Go.Proofs.YtomnhnmciopiiaaGreat
end
section
namespace Go.Proofs.YtomnhnmciopiiaaGreat
open Go Go.RowKit
def Ext (w w':World):Prop:=Below w.heap.size w w'
theorem Ext.refl (w:World):Ext w w:=xao _ _
theorem Ext.trans {a b c:World} (h:Ext a b) (k:Ext b c):Ext a c:=Below.trans h (xar k h.size)
theorem Ext.drew (w:World):Ext w w.drew:=(xao _ _).drew
abbrev Made:=Tmp→Option (Value→World→Prop)
section
variable {P:Program} {ops:Array Oper} {md:xbY} {F:Made} {w0:World}
def stays (F:Made):Prop:=∀ t V,F t=some V→∀ u w w',V u w→Ext w w'→V u w'
def mC (P:Program) (v:Value) (w:World):Result Next→Prop
 | .ok (.value u) w'=>w'=w∧u=v
 | .ok .skip w'=>w'=w∧v=undef
 | .ok (.enter f args) w'=>w'=w∧Calls P f args w (fun e w''=>e=.returned v∧Ext w w'')
 | _=>False
def iQ (F:Made) (w:World) (u:Value):Prop:=∀ t V u',F t=some V→V u' w→u' ≠ u
def mh (P:Program) (F:Made) (V:Value→World→Prop) (w:World):Result Next→Prop
 | .ok (.value u) w'=>Ext w w'∧V u w'∧iQ F w u
 | .ok (.enter f args) w'=>w'=w∧Calls P f args w (fun e w''=>∃ u,e=.returned u∧Ext w w''∧V u w''∧iQ F w u)
 | _=>False
def jG (P:Program) (F:Made) (V?:Option (Value→World→Prop)) (v:Value) (w:World) (r:Result Next):Prop :=
 match V? with
 | some V=>v=undef∧mh P F V w r
 | none=>mC P v w r
def dx (F:Made) (a b:Act):Prop:=a.defers=b.defers∧a.tmps.size=b.tmps.size∧∀ t,F t=none→a.tmps[t]?=b.tmps[t]?
def fx (F:Made) (l:List Tmp) (b:Act) (w:World):Prop:=∀ t∈l,∀ V,F t=some V→∃ u,b.tmps[t]?=some u∧V u w
def fM (P:Program) (ops:Array Oper) (F:Made) (w0:World) (o:Oper) (v:Value) (a:Act):Prop :=
 ∀ b w,Ext w0 w→dx F b a→fx F (o.looksAt ops) b w →
  (xaq o (yielded ops b.tmps)=true→jG P F (o.dst.bind F) v w ((execOp b.eval o).run P w)) ∧
  (xaq o (yielded ops b.tmps)=false→v=undef∧o.dst.bind F=none)
theorem cB (a:Act) (d:Tmp) (x:Value) (t:Tmp) (h:t ≠ d):(a.put (some d) x).tmps[t]?=a.tmps[t]?:=by
 simp only [xae]
 rw [xcn (Ne.symm h)]
theorem size_put (a:Act) (dst:Option Tmp) (x:Value):(a.put dst x).tmps.size=a.tmps.size:=by cases dst<;>simp [xae]
theorem cD (a:Act) (dst:Option Tmp) (x:Value):(a.put dst x).defers=a.defers:=by cases dst<;>rfl
theorem b7 (a:Act) (d:Tmp) (x:Value):(a.put (some d) x).tmps[d]?=if d<a.tmps.size then some x else none:=by
 simp only [xae,xcc,if_true]
theorem dx.put {a b:Act} (h:dx F a b) (dst:Option Tmp) (x:Value):dx F (a.put dst x) (b.put dst x):=by
 refine ⟨by rw [cD,cD,h.1],by rw [size_put,size_put,h.2.1],fun t ht=>?_⟩
 cases dst with
 | none=>exact h.2.2 t ht
 | some d =>
  by_cases e:t=d
  ·subst e
   rw [b7,b7,h.2.1]
  ·rw [cB _ _ _ _ e,cB _ _ _ _ e]
   exact h.2.2 t ht
theorem fx.put {l:List Tmp} {b:Act} {w:World} (dst:Option Tmp) (x:Value) (hl:∀ d,dst=some d→d ∉ l):fx F l (b.put dst x) w↔fx F l b w:=by
 unfold fx
 constructor
 ·intro h t ht V hV
  obtain ⟨u,hu,hv⟩:=h t ht V hV
  refine ⟨u,?_,hv⟩
  cases dst with
  | none=>exact hu
  | some d=>rwa [cB _ _ _ _ (fun e=>hl d rfl (by rw [← e];exact ht))] at hu
 ·intro h t ht V hV
  obtain ⟨u,hu,hv⟩:=h t ht V hV
  refine ⟨u,?_,hv⟩
  cases dst with
  | none=>exact hu
  | some d=>rw [cB _ _ _ _ (fun e=>hl d rfl (by rw [← e];exact ht))];exact hu
theorem fM.xA {o:Oper} (hs:∀ cs b,o.op ≠ .select cs b) {v:Value} {a:Act} {dst:Option Tmp} {x:Value} (hd:∀ d,dst=some d→d ∉ o.looksAt ops) (h:fM P ops F w0 o v (a.put dst x)):fM P ops F w0 o v a:=by
 intro b w hw hb hh
 have h2:=h (b.put dst x) w hw (hb.put dst x) ((fx.put dst x hd).2 hh)
 rwa [wanted_put o b dst x hd,execOp_put o hs b dst x hd] at h2
theorem fM.put {o:Oper} (hs:∀ cs b,o.op ≠ .select cs b) {v:Value} {a:Act} {dst:Option Tmp} {x:Value} (hd:∀ d,dst=some d→d ∉ o.looksAt ops) (h:fM P ops F w0 o v a):fM P ops F w0 o v (a.put dst x):=by
 cases dst with
 | none=>exact h
 | some d =>
  intro b w hw hb hh
  have hsame:dx F (b.put (some d) (a.tmps.getD d undef)) a:=by
   refine ⟨by rw [cD,hb.1,cD],by rw [size_put,hb.2.1,size_put],fun t ht=>?_⟩
   by_cases e:t=d
   ·subst e
    rw [b7,hb.2.1,size_put]
    split
    ·rename_i hlt;simp [hlt]
    ·rename_i hlt;rw [Array.getElem?_eq_none (Nat.le_of_not_lt hlt)]
   ·rw [cB _ _ _ _ e,hb.2.2 t ht,cB _ _ _ _ e]
  have h2:=h (b.put (some d) (a.tmps.getD d undef)) w hw hsame ((fx.put (some d) _ hd).2 hh)
  rwa [wanted_put o b (some d) _ hd,execOp_put o hs b (some d) _ hd] at h2
def eI (P:Program) (ops:Array Oper) (F:Made) (w0:World) (i:Nat) (K:Act→Prop) (a:Act):Prop :=
 match ops[i]? with
 | none=>K a
 | some o=>∃ v,fM P ops F w0 o v a∧K (a.put o.dst v)
theorem jA {i:Nat} {a:Act} {K K':Act→Prop} (h:∀ a,K a→K' a) (hh:eI P ops F w0 i K a):eI P ops F w0 i K' a:=by
 unfold eI at *
 cases ho:ops[i]? with
 | none=>simp only [ho] at hh;exact h _ hh
 | some o =>
  simp only [ho] at hh
  obtain ⟨v,h1,h2⟩:=hh
  exact ⟨v,h1,h _ h2⟩
theorem ku {j:Nat} {oi oj:Oper} {v:Value} (hj:ops[j]?=some oj) (hap:oi.apart ops oj=true)
  (hsi:∀ cs b,oi.op ≠ .select cs b) (hsj:∀ cs b,oj.op ≠ .select cs b) {K:Act→Prop} {a:Act}
  (hy:fM P ops F w0 oi v a) (h:eI P ops F w0 j K (a.put oi.dst v)) :
  eI P ops F w0 j (fun a'=>fM P ops F w0 oi v a'∧K (a'.put oi.dst v)) a:=by
 obtain ⟨h1,h2,h3⟩:=Oper.apart_spec hap
 unfold eI at *
 simp only [hj] at *
 obtain ⟨u,hu,hk⟩:=h
 exact ⟨u,hu.xA hsj h1,hy.put hsi h3,by rw [← Act.put_comm a v u h2];exact hk⟩
def iK (P:Program) (md:xbY) (ops:Array Oper) (F:Made) (w0:World) (n:Nat) (L:Array Bool→Act→Prop):Nat→Array Bool→Act→Prop
 | 0,d,a=>L d a
 | f+1,d,a=>xa4 md ops d ≠ []∧∀ i∈xa4 md ops d,i<n∧eI P ops F w0 i (iK P md ops F w0 n L f (d.setIfInBounds i true)) a
theorem j7 {n i:Nat} {oi:Oper} {v:Value} {L:Array Bool→Act→Prop} (hi:ops[i]?=some oi) (hsel:∀ (j:Nat) (o:Oper) cs b,ops[j]?=some o→o.op ≠ .select cs b)
  (hs:xce md ops n=true) (hc:xb8 md ops n=true) (hn:n<ops.size) (hin:i<n) (hdone:∀ d a,L d a→∀ j∈xa4 md ops d,n≤j) (f:Nat) :
  ∀ (d:Array Bool) (a:Act),HeadInv md ops n d →
   (∀ j oj,ops[j]?=some oj→j ≠ i→d.getD j true=false→(∀ e∈oj.after,xbS md e=true→e.on ≠ i)→oi.apart ops oj=true) →
   i∈xa4 md ops d→fM P ops F w0 oi v a →
   iK P md ops F w0 n L f (d.setIfInBounds i true) (a.put oi.dst v)→iK P md ops F w0 n L (f+1) d a:=by
 have own:∀ (K:Act→Prop) (a:Act),fM P ops F w0 oi v a→K (a.put oi.dst v)→eI P ops F w0 i K a:=by
  intro K a hy hk
  unfold eI
  simp only [hi]
  exact ⟨v,hy,hk⟩
 induction f with
 | zero =>
  intro d a inv _ hr hy H
  refine ⟨xbJ hr,fun j hj=>?_⟩
  have hjn:=ji hs hc hn inv hin (mem_ready.1 hr).1 hj
  refine ⟨hjn,?_⟩
  rcases xb0 j i with hji | hji
  ·exact absurd (hdone _ _ H j (ready_mono hj hji)) (by omega)
  ·subst hji
   exact own _ _ hy H
 | succ f ih =>
  intro d a inv hfree hr hy H
  refine ⟨xbJ hr,fun j hj=>?_⟩
  have hjn:=ji hs hc hn inv hin (mem_ready.1 hr).1 hj
  refine ⟨hjn,?_⟩
  rcases xb0 j i with hji | hji
  ·obtain ⟨hjun,oj,hoj,hall⟩:=mem_ready.1 hj
   have hnot:∀ e∈oj.after,xbS md e=true→e.on ≠ i:=by
    intro e he hb heq
    have h1:=hall e he hb
    rw [heq,getD_both (mem_ready.1 hr).1] at h1
    cases h1
   have hstep:=ku hoj (hfree j oj hoj hji hjun hnot) (fun cs b=>hsel i oi cs b hi) (fun cs b=>hsel j oj cs b hoj) hy (H.2 j (ready_mono hj hji)).2
   refine jA (fun a' h3=>ih (d.setIfInBounds j true) a' (inv.set hj hjn) ?_ (ready_mono hr (Ne.symm hji)) h3.1 ?_) hstep
   ·intro k ok hk hki hunk hno
    refine hfree k ok hk hki ?_ hno
    rcases xb0 j k with hjk | hjk
    ·rwa [getD_set_ne true hjk] at hunk
    ·subst hjk
     exact hjun
   ·rw [xb7 _ _ hji]
    exact h3.2
  ·subst hji
   exact own _ _ hy H
def aQ (P:Program) (ops:Array Oper) (F:Made) (w0:World) (Q:Act→Prop):List Oper→Act→Prop
 | [],a=>Q a
 | o :: rest,a=>∃ v,fM P ops F w0 o v a∧aQ P ops F w0 Q rest (a.put o.dst v)
theorem jh {n g:Nat} {Lq:Act→Prop} (hsel:xbE ops=true) (hs:xce md ops n=true) (hc:xb8 md ops n=true) (hn:n<ops.size) :
  ∀ (l:List Oper) (k:Nat) (d:Array Bool) (a:Act),(∀ j,j<l.length→l[j]?=ops[k+j]?)→k+l.length=n→HeadInv md ops n d→(∀ i,i<k→d.getD i false=true) →
  xbn md ops g l.length k d=true→aQ P ops F w0 Lq l a →
  iK P md ops F w0 n (fun d' a'=>(Region.seqB md ops g n d'=true∧∀ i,i<n→d'.getD i false=true)∧Lq a') l.length d a
 | [],k,d,a,_,hk,_,hd,hB,h=>by
  obtain rfl:k=n:=by simpa using hk
  exact ⟨⟨by simpa [xbn] using hB,hd⟩,h⟩
 | o :: l,k,d,a,hl,hk,inv,hd,hB,h=>by
  have h0:ops[k]?=some o:=by simpa using (hl 0 (by simp)).symm
  simp only [xaF,xbn,xaw] at hB
  obtain ⟨⟨hr,hf⟩,hB'⟩:=hB
  have hkn:k<n:=by simp only [xaF] at hk;omega
  have hr':k∈xa4 md ops d:=by simpa using hr
  obtain ⟨v,hy,hK⟩:=h
  refine j7 h0 (xch hsel) hs hc hn hkn (fun d' a' hL=>seqB_ready hL.1.1) l.length d a inv (Region.free_spec h0 hf) hr' hy ?_
  refine jh hsel hs hc hn l (k+1) _ _ (fun j hj=>?_) (by simp only [xaF] at hk;omega) (inv.set hr' hkn) (fun i hi=>?_) hB' hK
  ·have:=hl (j+1) (by simp;omega)
   simpa [Nat.add_assoc,Nat.add_comm 1 j] using this
  ·by_cases e:k=i
   ·subst e
    have:k<d.size:=by rw [inv.size];omega
    simp [this]
   ·rw [getD_set_ne false e]
    exact hd i (by omega)
def ke (md:xbY) (ops:Array Oper) (keys:List Tmp) (n:Nat):Bool :=
 (xaf n).all fun j=>match ops[j]? with
  | none=>true
  | some o=>(o.looksAt ops).all fun t=>!keys.contains t||(xaf n).any fun i=>(ops[i]?).bind (·.dst) == some t&&Region.waitsFor md ops j i
def fB (ops:Array Oper) (keys:List Tmp) (n:Nat):Bool:=keys.all fun t=>(xaf n).any fun i=>(ops[i]?).bind (·.dst) == some t
def Sim (ops:Array Oper) (F:Made) (w0:World) (d:Array Bool) (a b:Act) (w:World):Prop :=
 Ext w0 w∧dx F b a∧∀ i o t V,ops[i]?=some o→d.getD i false=true→o.dst=some t→F t=some V→(∃ u,b.tmps[t]?=some u∧V u w) ∧
  ∀ i' o' t' V',ops[i']?=some o'→d.getD i' false=true→o'.dst=some t'→F t'=some V'→t ≠ t'→b.tmps[t]? ≠ b.tmps[t']?
theorem eP {n g:Nat} {keys:List Tmp} (hF:stays F) (hkeys:∀ t V,F t=some V→t∈keys) (hmade:ke md ops keys n=true) (hsz:∀ t∈keys,∀ a:Act,∀ b:Act,dx F b a→True)
  {L:Array Bool→Act→Prop} {Q':Exit→Act→World→Prop} {size:Nat} (hrange:∀ t V,F t=some V→t<size)
  (hL:∀ d a b w,b.tmps.size=size→Sim ops F w0 d a b w→L d a→wpAny P md ops Q' g d b w) :
  ∀ (f:Nat) (d:Array Bool) (a b:Act) (w:World),b.tmps.size=size→HeadInv md ops n d→Sim ops F w0 d a b w→iK P md ops F w0 n L f d a→wpAny P md ops Q' (f+g) d b w
 | 0,d,a,b,w,hb,_,hs,h=>by
  rw [Nat.zero_add]
  exact hL _ _ _ _ hb hs h
 | f+1,d,a,b,w,hb,inv,hs,h=>by
  rw [Nat.add_right_comm]
  refine ⟨fun he=>absurd he h.1,fun i hi=>?_⟩
  obtain ⟨hin,hop⟩:=h.2 i hi
  obtain ⟨hun,oi,hoi,hall⟩:=mem_ready.1 hi
  obtain ⟨hw,hsame,hV⟩:=hs
  unfold eI at hop
  simp only [hoi] at hop
  obtain ⟨v,hdo,hk⟩:=hop
  have hhold:fx F (oi.looksAt ops) b w:=by
   intro t ht V hFt
   have h1:=xaO.1 hmade i (xba.2 hin)
   simp only [hoi] at h1
   have h2:=xaO.1 h1 t ht
   have hk2:keys.contains t=true:=by simpa using hkeys t V hFt
   simp only [hk2,Bool.not_true,Bool.false_or] at h2
   obtain ⟨j,_,hj2⟩:=xbW.1 h2
   simp only [xaw,beq_iff_eq] at hj2
   obtain ⟨hj3,hj4⟩:=hj2
   obtain ⟨oi',hoi',e,he,hbd,hon⟩:=xcF hj4
   obtain rfl:oi'=oi:=xam (hoi'.symm.trans hoi)
   cases hoj:ops[j]? with
   | none=>simp [hoj] at hj3
   | some oj =>
    have hdst:oj.dst=some t:=by simpa [hoj] using hj3
    exact (hV j oj t V hoj (by have:=hall e he hbd;rwa [hon] at this) hdst hFt).1
  obtain ⟨hyes,hno⟩:=hdo b w hw hsame hhold
  have next:∀ (x:Value) (w':World),Ext w w'→(∀ t V,oi.dst=some t→F t=some V→V x w'∧iQ F w x)→(oi.dst.bind F=none→x=v) →
    wpAny P md ops Q' (f+g) (d.setIfInBounds i true) (b.put oi.dst x) w':=by
   intro x w' hx hVx hxv
   refine eP hF hkeys hmade hsz hrange hL f _ (a.put oi.dst v) _ w' (by rw [size_put];exact hb) (inv.set hi hin) ⟨hw.trans hx,?_,?_⟩ hk
   ·refine ⟨by rw [cD,cD,hsame.1],by rw [size_put,size_put,hsame.2.1],fun t ht=>?_⟩
    cases hd:oi.dst with
    | none=>exact hsame.2.2 t ht
    | some dd =>
     by_cases e:t=dd
     ·subst e
      rw [hxv (by simp [hd,ht]),b7,b7,hsame.2.1]
     ·rw [cB _ _ _ _ e,cB _ _ _ _ e]
      exact hsame.2.2 t ht
   ·
    have at_new:∀ t V,oi.dst=some t→F t=some V→(b.put oi.dst x).tmps[t]?=some x:=by
     intro t V e hFt
     rw [e,b7,if_pos (by rw [hb];exact hrange t V hFt)]
    have at_old:∀ t,oi.dst ≠ some t→(b.put oi.dst x).tmps[t]?=b.tmps[t]?:=by
     intro t e
     cases hd:oi.dst with
     | none=>rfl
     | some dd=>exact cB _ _ _ _ (fun e3=>e (by rw [hd,e3]))
    have was:∀ j oj t V,ops[j]?=some oj→(d.setIfInBounds i true).getD j false=true→oj.dst=some t→F t=some V→oi.dst ≠ some t→d.getD j false=true:=by
     intro j oj t V hoj hlj hdj hFt e
     have hji:j ≠ i:=by
      intro e2
      subst e2
      obtain rfl:oj=oi:=xam (hoj.symm.trans hoi)
      exact e hdj
     rwa [getD_set_ne false (Ne.symm hji)] at hlj
    intro j oj t V hoj hlj hdj hFt
    constructor
    ·by_cases e:oi.dst=some t
     ·exact ⟨x,at_new t V e hFt,(hVx t V e hFt).1⟩
     ·obtain ⟨u,hu,hVu⟩:=(hV j oj t V hoj (was j oj t V hoj hlj hdj hFt e) hdj hFt).1
      exact ⟨u,by rw [at_old t e];exact hu,hF t V hFt u w w' hVu hx⟩
    ·intro j' oj' t' V' hoj' hlj' hdj' hFt' hne
     by_cases e:oi.dst=some t
     ·have e':oi.dst ≠ some t':=by rw [e];intro h;exact hne (xam h)
      obtain ⟨u,hu,hVu⟩:=(hV j' oj' t' V' hoj' (was j' oj' t' V' hoj' hlj' hdj' hFt' e') hdj' hFt').1
      rw [at_new t V e hFt,at_old t' e',hu]
      intro h
      exact (hVx t V e hFt).2 t' V' u hFt' hVu (xam h).symm
     ·by_cases e':oi.dst=some t'
      ·obtain ⟨u,hu,hVu⟩:=(hV j oj t V hoj (was j oj t V hoj hlj hdj hFt e) hdj hFt).1
       rw [at_new t' V' e' hFt',at_old t e,hu]
       intro h
       exact (hVx t' V' e' hFt').2 t V u hFt hVu (xam h)
      ·rw [at_old t e,at_old t' e']
       exact (hV j oj t V hoj (was j oj t V hoj hlj hdj hFt e) hdj hFt).2 j' oj' t' V' hoj' (was j' oj' t' V' hoj' hlj' hdj' hFt' e') hdj' hFt' hne
  unfold wpOp
  simp only [hoi]
  by_cases hwt:xaq oi (yielded ops b.tmps)=true
  ·rw [if_pos hwt]
   refine .inl ?_
   have hm:=hyes hwt
   unfold Oper.wp
   generalize (execOp b.eval oi).run P w=r at hm
   cases hbind:oi.dst.bind F with
   | none =>
    simp only [jG,hbind] at hm
    have hVx:∀ (x:Value) (w':World) t V,oi.dst=some t→F t=some V→V x w'∧iQ F w x:=by
     intro x w' t V h1 h2
     simp [h1,h2] at hbind
    cases r with
    | halt x w'=>exact hm.elim
    | ok nx w' =>
     cases nx<;>simp only [mC] at hm
     case value u =>
      obtain ⟨rfl,rfl⟩:=hm
      exact next _ _ (Ext.refl _) (hVx _ _) (fun _=>rfl)
     case skip =>
      obtain ⟨rfl,rfl⟩:=hm
      exact next _ _ (Ext.refl _) (hVx _ _) (fun _=>rfl)
     case enter fn args =>
      obtain ⟨rfl,hcall⟩:=hm
      refine hcall.mono ?_
      rintro e w'' ⟨rfl,hx⟩
      exact next _ _ hx (hVx _ _) (fun _=>rfl)
   | some V =>
    simp only [jG,hbind] at hm
    obtain ⟨_,hm⟩:=hm
    have hnone:oi.dst.bind F=none→∀ x:Value,x=v:=fun h=>by rw [hbind] at h;cases h
    have hVx:∀ (x:Value) (w':World),V x w'∧iQ F w x→∀ t V',oi.dst=some t→F t=some V'→V' x w'∧iQ F w x:=by
     intro x w' hx t V' h1 h2
     simp only [h1,xbk,h2,Option.some.injEq] at hbind
     rw [hbind];exact hx
    cases r with
    | halt x w'=>exact hm.elim
    | ok nx w' =>
     cases nx<;>simp only [mh] at hm
     case value u=>exact next _ _ hm.1 (hVx _ _ hm.2) (fun h=>hnone h _)
     case enter fn args =>
      obtain ⟨rfl,hcall⟩:=hm
      refine hcall.mono ?_
      rintro e w'' ⟨u,rfl,hx,hVu⟩
      exact next _ _ hx (hVx _ _ hVu) (fun h=>hnone h _)
  ·rw [if_neg hwt]
   have h3:=hno (by simpa using hwt)
   refine next _ _ (Ext.refl _) ?_ (fun _=>h3.1.symm)
   intro t V h1 h2
   have h4:=h3.2
   simp [h1,h2] at h4
theorem mJ {id:Nat} {Q:Exit→Act→World→Prop} {a:Act} {w:World} {l:List Oper} (n:Nat) (keys:List Tmp) (F:Made) (hm:P.follows .mixedOrders=true)
  (hB:(xbD .any l.toArray n&&ke .any l.toArray keys n&&fB l.toArray keys n)=true) (hkeys:∀ t V,F t=some V→t∈keys) (hF:stays F) (hrange:∀ t∈keys,t<a.tmps.size)
  (h:aQ P l.toArray F w (fun a'=>∀ b w',Ext w w'→dx F b a'→(∀ t V,F t=some V→(∃ u,b.tmps[t]?=some u∧V u w')∧∀ t' V',F t'=some V'→t ≠ t'→b.tmps[t]? ≠ b.tmps[t']?)→wpList P l.toArray Q (l.drop n) b w') (l.take n) a) :
  (Code.region id l.toArray true).wp P Q a w:=by
 simp only [xaw] at hB
 obtain ⟨⟨hB,hmade⟩,hallm⟩:=hB
 simp only [xbD,xaw,decide_eq_true_eq] at hB
 obtain ⟨⟨⟨⟨hsel,hn⟩,hs⟩,hc⟩,hlex⟩:=hB
 have hn':n<l.length:=by simpa using hn
 have htl:(l.take n).length=n:=by simp;omega
 have hdl:(l.drop n).length=l.toArray.size-n:=by simp
 have inv0:HeadInv .any l.toArray n (xbu l.toArray.size false) :=
  ⟨by simp,fun j oj _ hl=>(by rw [getD_replicate_false] at hl;cases hl),fun t _ ht=>getD_in (by simpa using ht) (getD_replicate_false _ _)⟩
 have H:=jh (md:=.any) (g:=l.toArray.size-n) hsel hs hc hn (l.take n) 0 _ a (fun j hj=>by
  have hj':j<n:=by rw [htl] at hj;exact hj
  simp [hj']) (by simpa using htl) inv0 (fun i hi=>absurd hi (Nat.not_lt_zero _)) (by rw [htl];exact hlex) h
 refine wp_region_any hm ?_
 have hfin:=eP (Q':=Q) (g:=l.toArray.size-n) (size:=a.tmps.size) hF hkeys hmade (fun _ _ _ _ _=>trivial) (fun t V h=>hrange t (hkeys t V h)) (fun d a' b w' _ hsim hL=>by
  have mk:∀ t V,F t=some V→∃ i oi,l.toArray[i]?=some oi∧d.getD i false=true∧oi.dst=some t:=by
   intro t V hFt
   have h5:=xaO.1 hallm t (hkeys t V hFt)
   obtain ⟨i,hi,hi2⟩:=xbW.1 h5
   simp only [beq_iff_eq] at hi2
   cases hoi:l.toArray[i]? with
   | none=>simp [hoi] at hi2
   | some oi=>exact ⟨i,oi,hoi,hL.1.2 i (xba.1 hi),by simpa [hoi] using hi2⟩
  have h2:=hL.2 b w' hsim.1 hsim.2.1 (fun t V hFt=>by
   obtain ⟨i,oi,hoi,hdn,hdst⟩:=mk t V hFt
   have h6:=hsim.2.2 i oi t V hoi hdn hdst hFt
   refine ⟨h6.1,fun t' V' hFt' hne=>?_⟩
   obtain ⟨i',oi',hoi',hdn',hdst'⟩:=mk t' V' hFt'
   exact h6.2 i' oi' t' V' hoi' hdn' hdst' hFt' hne)
  have h4:=wpAny_of_seq (md:=.any) (Q':=Q) (l.drop n) n d b w' (fun j=>by simp [List.getElem?_drop]) (by rw [hdl];exact hL.1.1) h2
  rwa [hdl] at h4) _ _ a a w.drew rfl inv0 ⟨Ext.drew w,⟨rfl,rfl,fun _ _=>rfl⟩,fun i o t V _ hd=>by rw [getD_replicate_false] at hd;cases hd⟩ H
 rw [htl,show n+(l.toArray.size-n)=l.toArray.size by omega] at hfin
 exact hfin
theorem dx.fix {a b:Act} {t:Tmp} {u:Value} (h:dx F b a) (hu:b.tmps[t]?=some u):dx (fun s=>if s=t then none else F s) b (a.put (some t) u):=by
 have ht:t<b.tmps.size:=by
  rcases Nat.lt_or_ge t b.tmps.size with h | h
  ·exact h
  ·rw [Array.getElem?_eq_none h] at hu;cases hu
 refine ⟨by rw [cD];exact h.1,by rw [size_put];exact h.2.1,fun s hs=>?_⟩
 by_cases e:s=t
 ·subst e
  rw [b7,if_pos (by rw [← h.2.1];exact ht),hu]
 ·rw [cB _ _ _ _ e]
  exact h.2.2 s (by simpa [e] using hs)
theorem dx.eq {a b:Act} (h:dx F b a) (hF:∀ s,F s=none):b=a:=by
 obtain ⟨bt,bd⟩:=b
 obtain ⟨at',ad⟩:=a
 obtain ⟨h1,_,h3⟩:=h
 have h4:bt=at':=xbZ fun i=>h3 i (hF i)
 cases h1;cases h4;rfl
theorem dx.eval {a b:Act} (h:dx F b a) {x:Operand} (hx:∀ t,x=.tmp t→F t=none):b.eval x=a.eval x:=by
 cases x with
 | tmp t =>
  have h1:=h.2.2 t (hx t rfl)
  show b.tmps.getD t undef=a.tmps.getD t undef
  rw [xbF,xbF,h1]
 | _=>rfl
end
end Go.Proofs.YtomnhnmciopiiaaGreat
end
section
namespace Go.Proofs.YtomnhnmciopiiaaGreat
open Go Go.RowKit
def uf:Value→Option Nat
 | .pointer (some a)=>some a.block
 | .slice (some a) _ _=>some a.block
 | _=>none
abbrev dZ:=List (Tmp×(Value→World→Prop))
def aq (L:dZ):Made:=fun t=>(L.find? (fun p=>p.1 == t)).map (·.2)
structure df (V:Value→World→Prop):Prop where
 stays:∀ u w w',V u w→Ext w w'→V u w'
 there:∀ u w,V u w→∃ r,uf u=some r∧r<w.heap.size
theorem ey {L:dZ} {t:Tmp} {V:Value→World→Prop} (h:aq L t=some V):(t,V)∈L:=by
 unfold aq at h
 cases hf:L.find? (fun p=>p.1 == t) with
 | none=>rw [hf] at h;cases h
 | some p =>
  rw [hf] at h
  obtain rfl:=xam h
  have h1:=List.mem_of_find?_eq_some hf
  have h2:=List.find?_some hf
  simp only [beq_iff_eq] at h2
  obtain ⟨a,b⟩:=p
  subst h2
  exact h1
theorem gH (t:Tmp) (V:Value→World→Prop) (L:dZ) (s:Tmp):aq ((t,V) :: L) s=if t=s then some V else aq L s:=by
 unfold aq
 by_cases h:t=s
 ·simp [h]
 ·simp [h]
theorem ej:∀ {L:dZ} {t:Tmp} {V:Value→World→Prop},(L.map (·.1)).Nodup→(t,V)∈L→aq L t=some V
 | [],_,_,_,hm=>by cases hm
 | (t',V') :: L,t,V,hn,hm=>by
  simp only [xa9,List.nodup_cons] at hn
  rw [gH]
  rcases xaD.1 hm with hm | hm
  ·injection hm with e1 e2
   subst e1 e2
   rw [if_pos rfl]
  ·rw [if_neg (fun e=>hn.1 (xaA.2 ⟨_,hm,e.symm⟩))]
   exact ej hn.2 hm
theorem dJ {L:dZ} {t:Tmp} (h:(L.map (·.1)).contains t=false):aq L t=none:=by
 cases hm:aq L t with
 | none=>rfl
 | some V =>
  have h1:=ey hm
  have h2:(L.map (·.1)).contains t=true:=by
   rw [List.contains_iff_mem]
   exact xaA.2 ⟨_,h1,rfl⟩
  rw [h2] at h;cases h
section
variable {P:Program} {ops:Array Oper} {L:dZ} {w0:World} {rest:List Oper} {o:Oper} {a:Act} {Q:Act→Prop}
theorem mH (hL:∀ p∈L,df p.2):stays (aq L):=fun _ _ hV u w w' hu hw=>(hL _ (ey hV)).stays u w w' hu hw
theorem qe (hL:∀ p∈L,df p.2) {w:World} {u:Value} {r:Nat} (hu:uf u=some r) (hr:w.heap.size≤r):iQ (aq L) w u:=by
 intro t V u' hV hu' e
 obtain ⟨r',h1,h2⟩:=(hL _ (ey hV)).there u' w hu'
 rw [e,hu] at h1
 have:=xam h1
 omega
def bW (keys:List Tmp) (ops:Array Oper) (o:Oper):Bool:=(match o.op with | .select _ _=>false | _=>true)&&(o.looksAt ops).all fun s=>!keys.contains s
theorem lx {keys:List Tmp} (h:bW keys ops o=true):∀ cs b,o.op ≠ .select cs b:=by
 intro cs b e
 unfold bW at h
 rw [e] at h
 cases h
theorem lv {keys:List Tmp} (h:bW keys ops o=true) {x:Operand} (hx:x∈o.op.operands) {t:Tmp} (e:x=.tmp t):keys.contains t=false:=by
 simp only [bW,xaw] at h
 have h2:=xaO.1 h.2 t (by
  unfold xct
  exact xaY _ (List.mem_filterMap.2 ⟨x,by simpa using hx,by rw [e]⟩))
 simpa using h2
theorem jF {keys:List Tmp} (h:bW keys ops o=true) {g:Nat} {y:Bool} (hg:o.guard=some (g,y)) {t:Tmp} (ht:(ops[g]?).bind (·.dst)=some t):keys.contains t=false:=by
 simp only [bW,xaw] at h
 have h2:=xaO.1 h.2 t (by
  unfold xct
  refine xbi _ ?_
  rw [hg]
  simp [ht])
 simpa using h2
theorem gL {F:Made} {b:Act} (hb:dx F b a) (hg:∀ g x,o.guard=some (g,x)→∀ t,(ops[g]?).bind (·.dst)=some t→F t=none):xaq o (yielded ops b.tmps)=xaq o (yielded ops a.tmps):=by
 unfold xaq
 cases hgd:o.guard with
 | none=>rfl
 | some p =>
  obtain ⟨g,x⟩:=p
  simp only
  unfold yielded
  cases ht:(ops[g]?).bind (·.dst) with
  | none=>rfl
  | some t=>simp only [xbk,hb.2.2 t (hg g x hgd t ht)]
theorem b8 {b:Act} (hB:bW (L.map (·.1)) ops o=true) (hb:dx (aq L) b a):xaq o (yielded ops b.tmps)=xaq o (yielded ops a.tmps) :=
 gL hb fun _ _ hg _ ht=>dJ (jF hB hg ht)
theorem dv {b:Act} (hB:bW (L.map (·.1)) ops o=true) (hb:dx (aq L) b a):execOp b.eval o=execOp a.eval o :=
 execOp_congr o (lx hB) fun _ hx=>hb.eval fun _ e=>dJ (lv hB hx e)
theorem ag (v:Value) (hB:bW (L.map (·.1)) ops o=true) (hw:xaq o (yielded ops a.tmps)=true) (hd:o.dst.bind (aq L)=none)
  (hrun:∀ w,Ext w0 w→(execOp a.eval o).run P w=.ok (.value v) w) (h:aQ P ops (aq L) w0 Q rest (a.put o.dst v)):aQ P ops (aq L) w0 Q (o :: rest) a:=by
 refine ⟨v,fun b w hx hb _=>⟨fun _=>?_,fun h2=>?_⟩,h⟩
 ·rw [hd,dv hB hb,hrun w hx]
  exact ⟨rfl,rfl⟩
 ·rw [b8 hB hb,hw] at h2;cases h2
theorem bR (hB:bW (L.map (·.1)) ops o=true) (hw:xaq o (yielded ops a.tmps)=false) (hd:o.dst.bind (aq L)=none)
  (h:aQ P ops (aq L) w0 Q rest (a.put o.dst undef)):aQ P ops (aq L) w0 Q (o :: rest) a:=by
 refine ⟨undef,fun b w hx hb _=>⟨fun h2=>?_,fun _=>⟨rfl,hd⟩⟩,h⟩
 rw [b8 hB hb,hw] at h2;cases h2
theorem fZ (v:Value) (f:Nat) (args:Array Value) (hB:bW (L.map (·.1)) ops o=true) (hw:xaq o (yielded ops a.tmps)=true) (hd:o.dst.bind (aq L)=none)
  (hrun:∀ w,(execOp a.eval o).run P w=.ok (.enter f args) w) (hc:∀ w,Ext w0 w→Calls P f args w fun e w'=>e=.returned v∧Ext w w')
  (h:aQ P ops (aq L) w0 Q rest (a.put o.dst v)):aQ P ops (aq L) w0 Q (o :: rest) a:=by
 refine ⟨v,fun b w hx hb _=>⟨fun _=>?_,fun h2=>?_⟩,h⟩
 ·rw [hd,dv hB hb,hrun w]
  exact ⟨rfl,hc w hx⟩
 ·rw [b8 hB hb,hw] at h2;cases h2
theorem gI (t:Tmp) (V:Value→World→Prop) (hL:∀ p∈L,df p.2) (hB:bW (L.map (·.1)) ops o=true) (hw:xaq o (yielded ops a.tmps)=true) (hd:o.dst=some t) (hV:aq L t=some V)
  (hrun:∀ w,Ext w0 w→∃ u w' r,(execOp a.eval o).run P w=.ok (.value u) w'∧Ext w w'∧V u w'∧uf u=some r∧w.heap.size≤r)
  (h:aQ P ops (aq L) w0 Q rest (a.put o.dst undef)):aQ P ops (aq L) w0 Q (o :: rest) a:=by
 refine ⟨undef,fun b w hx hb _=>⟨fun _=>?_,fun h2=>?_⟩,h⟩
 ·obtain ⟨u,w',r,h1,h2,h3,h4,h5⟩:=hrun w hx
  rw [hd,xbk,hV,dv hB hb,h1]
  exact ⟨rfl,h2,h3,qe hL h4 h5⟩
 ·rw [b8 hB hb,hw] at h2;cases h2
theorem dt (t:Tmp) (V:Value→World→Prop) (f:Nat) (args:Array Value) (hL:∀ p∈L,df p.2) (hB:bW (L.map (·.1)) ops o=true) (hw:xaq o (yielded ops a.tmps)=true) (hd:o.dst=some t) (hV:aq L t=some V)
  (hrun:∀ w,(execOp a.eval o).run P w=.ok (.enter f args) w) (hc:∀ w,Ext w0 w→Calls P f args w fun e w'=>∃ u r,e=.returned u∧Ext w w'∧V u w'∧uf u=some r∧w.heap.size≤r)
  (h:aQ P ops (aq L) w0 Q rest (a.put o.dst undef)):aQ P ops (aq L) w0 Q (o :: rest) a:=by
 refine ⟨undef,fun b w hx hb _=>⟨fun _=>?_,fun h2=>?_⟩,h⟩
 ·rw [hd,xbk,hV,dv hB hb,hrun w]
  refine ⟨rfl,rfl,(hc w hx).mono ?_⟩
  rintro e w' ⟨u,r,h1,h2,h3,h4,h5⟩
  exact ⟨u,h1,h2,h3,qe hL h4 h5⟩
 ·rw [b8 hB hb,hw] at h2;cases h2
def dI (s:Tmp) (keys:List Tmp) (ops:Array Oper) (o:Oper):Bool:=(match o.op with | .select _ _=>false | _=>true)&&(o.op.operands.toList.all fun x=>match x with | .tmp t=>t == s||!keys.contains t | _=>true) &&
 (match o.guard with | some (g,_)=>((ops[g]?).bind (·.dst)).toList.all fun t=>!keys.contains t | none=>true)&&(o.looksAt ops).contains s
theorem eK {s:Tmp} {b:Act} (hB:dI s (L.map (·.1)) ops o=true) (hb:dx (aq L) b a):xaq o (yielded ops b.tmps)=xaq o (yielded ops a.tmps):=by
 refine gL hb fun g _ hg t ht=>dJ ?_
 simp only [dI,xaw] at hB
 have h:=hB.1.2
 rw [hg] at h
 simpa [ht] using h
theorem fF {s:Tmp} {u:Value} {b:Act} (hB:dI s (L.map (·.1)) ops o=true) (hb:dx (aq L) b a) (hu:b.tmps[s]?=some u):execOp b.eval o=execOp (a.put (some s) u).eval o:=by
 simp only [dI,xaw] at hB
 refine execOp_congr o ?_ fun x hx=>?_
 ·intro cs d e
  have h:=hB.1.1.1
  rw [e] at h
  cases h
 ·refine (hb.fix hu).eval fun t e=>?_
  have h:=xaO.1 hB.1.1.2 x (by simpa using hx)
  rw [e] at h
  simp only [Bool.or_eq_true,beq_iff_eq,Bool.not_eq_true'] at h
  rcases h with h | h
  ·rw [if_pos h]
  ·split
   ·rfl
   ·exact dJ h
theorem fe {s:Tmp} {V:Value→World→Prop} {b:Act} {w:World} (hB:dI s (L.map (·.1)) ops o=true) (hV:aq L s=some V) (hh:fx (aq L) (o.looksAt ops) b w):∃ u,b.tmps[s]?=some u∧V u w:=by
 simp only [dI,xaw] at hB
 exact hh s (by simpa using hB.2) V hV
theorem ga (s:Tmp) (V:Value→World→Prop) (v:Value) (f:Nat) (args:Value→Array Value) (hB:dI s (L.map (·.1)) ops o=true) (hV:aq L s=some V) (hw:xaq o (yielded ops a.tmps)=true) (hd:o.dst.bind (aq L)=none)
  (hrun:∀ u w,(execOp (a.put (some s) u).eval o).run P w=.ok (.enter f (args u)) w) (hc:∀ u w,Ext w0 w→V u w→Calls P f (args u) w fun e w'=>e=.returned v∧Ext w w')
  (h:aQ P ops (aq L) w0 Q rest (a.put o.dst v)):aQ P ops (aq L) w0 Q (o :: rest) a:=by
 refine ⟨v,fun b w hx hb hh=>⟨fun _=>?_,fun h2=>?_⟩,h⟩
 ·obtain ⟨u,hu,hVu⟩:=fe hB hV hh
  rw [hd,fF hB hb hu,hrun u w]
  exact ⟨rfl,hc u w hx hVu⟩
 ·rw [eK hB hb,hw] at h2;cases h2
theorem jo (s:Tmp) (V:Value→World→Prop) (t:Tmp) (V':Value→World→Prop) (hL:∀ p∈L,df p.2) (hB:dI s (L.map (·.1)) ops o=true) (hV:aq L s=some V) (hw:xaq o (yielded ops a.tmps)=true) (hd:o.dst=some t) (hV':aq L t=some V')
  (hrun:∀ u w,Ext w0 w→V u w→∃ u' w' r,(execOp (a.put (some s) u).eval o).run P w=.ok (.value u') w'∧Ext w w'∧V' u' w'∧uf u'=some r∧w.heap.size≤r)
  (h:aQ P ops (aq L) w0 Q rest (a.put o.dst undef)):aQ P ops (aq L) w0 Q (o :: rest) a:=by
 refine ⟨undef,fun b w hx hb hh=>⟨fun _=>?_,fun h2=>?_⟩,h⟩
 ·obtain ⟨u,hu,hVu⟩:=fe hB hV hh
  obtain ⟨u',w',r,h1,h2,h3,h4,h5⟩:=hrun u w hx hVu
  rw [hd,xbk,hV',fF hB hb hu,h1]
  exact ⟨rfl,h2,h3,qe hL h4 h5⟩
 ·rw [eK hB hb,hw] at h2;cases h2
def ended:dZ→List Value→World→Act→(Act→Prop)→Prop
 | [],_,_,a,K=>K a
 | (t,V) :: L,us,w,a,K=>∀ u,V u w→(∀ x∈us,x ≠ u)→ended L (us++[u]) w (a.put (some t) u) K
theorem fT (K:Act→Prop) (w:World):∀ (L:dZ) (us:List Value) (a b:Act),dx (aq L) b a→(L.map (·.1)).Nodup→(∀ t V,(t,V)∈L→∃ u,b.tmps[t]?=some u∧V u w) →
  (∀ t V,(t,V)∈L→∀ x∈us,b.tmps[t]? ≠ some x)→(∀ t V t' V',(t,V)∈L→(t',V')∈L→t ≠ t'→b.tmps[t]? ≠ b.tmps[t']?)→ended L us w a K→K b
 | [],us,a,b,hs,_,_,_,_,h=>by
  obtain rfl:=hs.eq (fun _=>rfl)
  exact h
 | (t,V) :: L,us,a,b,hs,hn,hh,hx,hd,h=>by
  obtain ⟨u,hu,hVu⟩:=hh t V (by simp)
  have h2:=h u hVu (fun x hxu e=>hx t V (by simp) x hxu (by rw [hu,e]))
  simp only [xa9,List.nodup_cons] at hn
  refine fT K w L (us++[u]) _ b ?_ hn.2 (fun s V' hm=>hh s V' (by simp [hm])) ?_ (fun s V' s' V'' hm hm'=>hd s V' s' V'' (by simp [hm]) (by simp [hm'])) h2
  ·have h3:=hs.fix hu
   refine ⟨h3.1,h3.2.1,fun s hs'=>h3.2.2 s ?_⟩
   show (if s=t then none else aq ((t,V) :: L) s)=none
   split
   ·rfl
   ·rename_i hne
    rw [gH,if_neg (Ne.symm hne)]
    exact hs'
  ·intro s V' hm x hxu
   rcases xax.1 hxu with hxu | hxu
   ·exact hx s V' (by simp [hm]) x hxu
   ·rw [xan.1 hxu,← hu]
    exact fun e=>hd s V' t V (by simp [hm]) (by simp) (fun e2=>hn.1 (xaA.2 ⟨_,hm,e2⟩)) e
theorem b4 {id:Nat} {Q:Exit→Act→World→Prop} {a:Act} {w:World} {l:List Oper} (n:Nat) (L:dZ) (hm:P.follows .mixedOrders=true)
  (hB:(xbD .any l.toArray n&&ke .any l.toArray (L.map (·.1)) n&&fB l.toArray (L.map (·.1)) n)=true) (hL:∀ p∈L,df p.2) (hn:(L.map (·.1)).Nodup) (hrange:∀ t∈L.map (·.1),t<a.tmps.size)
  (h:aQ P l.toArray (aq L) w (fun a'=>∀ w',Ext w w'→ended L [] w' a' fun b=>wpList P l.toArray Q (l.drop n) b w') (l.take n) a) :
  (Code.region id l.toArray true).wp P Q a w:=by
 refine mJ n (L.map (·.1)) (aq L) hm hB (fun t V hV=>xaA.2 ⟨_,ey hV,rfl⟩) (mH hL) hrange ?_
 have e:∀ (rest:List Oper) (a:Act),aQ P l.toArray (aq L) w (fun a'=>∀ w',Ext w w'→ended L [] w' a' fun b=>wpList P l.toArray Q (l.drop n) b w') rest a →
   aQ P l.toArray (aq L) w (fun a'=>∀ b w',Ext w w'→dx (aq L) b a'→(∀ t V,aq L t=some V→(∃ u,b.tmps[t]?=some u∧V u w')∧∀ t' V',aq L t'=some V'→t ≠ t'→b.tmps[t]? ≠ b.tmps[t']?)→wpList P l.toArray Q (l.drop n) b w') rest a:=by
  intro rest
  induction rest with
  | nil =>
   intro a h b w' hx hs hh
   exact fT _ w' L [] a b hs hn (fun t V hm=>(hh t V (ej hn hm)).1) (fun _ _ _ x hx=>absurd hx (by simp)) (fun t V t' V' hm hm' hne=>(hh t V (ej hn hm)).2 t' V' (ej hn hm') hne) (h w' hx)
  | cons o rest ih =>
   intro a h
   obtain ⟨v,h1,h2⟩:=h
   exact ⟨v,h1,ih _ h2⟩
 exact e _ _ h
end
end Go.Proofs.YtomnhnmciopiiaaGreat
end
section
namespace Go.Proofs.YtomnhnmciopiiaaGreat
open Go.RowKit
theorem Df {P:Program} (e:Nat) (hs:(P.info? e).map (·.size)=some 1) (w:World):(sizeOf e).run P w=.ok 1 w:=by
 cases hq:P.info? e with
 | none=>simp [hq] at hs
 | some j =>
  have h1:j.size=1:=by simpa [hq] using hs
  simp [sizeOf,typeInfo,hq,h1]
section
variable {P:Program} (t e n:Nat) (ht:P.underlying t=some (.array n e)) (he:P.underlying e=some (.int .u8)) (hs:(P.info? e).map (·.size)=some 1)
include ht he hs
end
end Go.Proofs.YtomnhnmciopiiaaGreat
end
section
namespace Go.Proofs.YtomnhnmciopiiaaGreat
open Go Go.RowKit
section
variable {P:Program} {ρ:Operand→Value} {o:Oper}
theorem iq (t:TypeId) (x:Operand) (lo hi mx:Option Operand) (ho:o.op=.slice t x lo hi mx) (v:Value) (hv:∀ W,(Instr.sliceAt t (ρ x) (lo.map ρ) (hi.map ρ) (mx.map ρ)).run P W=.ok v W) (W:World):(execOp ρ o).run P W=.ok (.value v) W:=by
 unfold execOp
 simp only [ho,xaI,hv W,xat,xaQ]
theorem dz (op:BinOp) (t:TypeId) (x y:Operand) (r:TypeId) (ho:o.op=.binOp op t x y r) (xs ys:Array Value) (hx:ρ x=.agg xs) (hy:ρ y=.agg ys) (hm:P.eqGuardType P.depth t=false) (v:Value) (hv:∀ W,(binOp op t (.agg xs) (.agg ys)).run P W=.ok v W) (W:World):(execOp ρ o).run P W=.ok (.value v) W:=by
 unfold execOp
 simp only [ho,hx,hy,xaI,run_eqGuard_agg W op t x y xs ys hm,hv W,xat,xaQ]
section
variable (t e:TypeId) (ht:P.underlying t=some (.slice e)) (hs:(P.info? e).map (·.size)=some 1)
include ht hs
end
end
theorem iZ {P:Program} {ops:Array Oper} {rest:List Oper} {o:Oper} {a:Act} {w:World} {Q:Exit→Act→World→Prop} (hw:xaq o (yielded ops a.tmps)=true)
  (h:∀ K:Act→World→Prop,(∀ a w,wpList P ops Q rest a w→K a w)→o.wp P a w K Q):wpList P ops Q (o :: rest) a w :=
 wpList_step fun K hK=>by rw [if_pos hw];exact h K hK
theorem ay {P:Program} {ops:Array Oper} {rest:List Oper} {o:Oper} {a:Act} {w:World} {Q:Exit→Act→World→Prop} (hw:xaq o (yielded ops a.tmps)=true) (v:Value) (w':World) (hrun:(execOp a.eval o).run P w=.ok (.value v) w') (h:wpList P ops Q rest (a.put o.dst v) w'):wpList P ops Q (o :: rest) a w :=
 iZ hw fun K hK=>by
  unfold Oper.wp
  rw [hrun]
  exact hK _ _ h
end Go.Proofs.YtomnhnmciopiiaaGreat
end
section
namespace Go.Proofs.YtomnhnmciopiiaaGreat
open Go Go.RowKit
section
variable {P:Program} {w:World}
def oQ (P:Program) (tmps:Array Value) (w:World):List ResultVar→List Value→Prop
 | [],[]=>True
 | .tmp t :: l,v :: vs=>tmps.getD t undef=v∧oQ P tmps w l vs
 | .cell a ty :: l,v :: vs=>(∃ p,tmps.getD a undef=.pointer (some p)∧(loadVar ty p).run P w=.ok v w)∧oQ P tmps w l vs
 | _,_=>False
def lE (tmps:Array Value):ResultVar→Sem Value
 | .tmp t=>Pure.pure (tmps.getD t undef)
 | .cell a t=>do loadVar t (← asAddr (tmps.getD a undef))
theorem lD (tmps:Array Value):∀ (l:List ResultVar) (vs:List Value),oQ P tmps w l vs→(l.mapM (lE tmps)).run P w=.ok vs w
 | [],[],_=>by simp [List.mapM_nil,xaQ]
 | .tmp t :: l,v :: vs,h=>by
  obtain ⟨h1,h2⟩:=h
  rw [List.mapM_cons,xaI]
  unfold lE
  dsimp only
  rw [xaQ,xat,xaI]
  have e:=lD tmps l vs h2
  unfold lE at e
  rw [e,xat,xaQ,h1]
 | .cell a ty :: l,v :: vs,h=>by
  obtain ⟨⟨p,h1,h3⟩,h2⟩:=h
  rw [List.mapM_cons,xaI]
  have e:=lD tmps l vs h2
  have e1:(lE tmps (.cell a ty)).run P w=.ok v w:=by
   unfold lE
   dsimp only
   rw [h1,xaI]
   simp only [asAddr,xaQ,xat,h3]
  rw [e1,xat,xaI,e,xat,xaQ]
 | .tmp _ :: _,[],h=>h.elim
 | .cell _ _ :: _,[],h=>h.elim
 | [],_ :: _,h=>h.elim
theorem lF {fn:Func} {tmps:Array Value} {l:List ResultVar} (h:fn.results=l.toArray) {vs:List Value} (hl:oQ P tmps w l vs):(results fn tmps).run P w=.ok (if h:vs.toArray.size=1 then vs.toArray[0] else .tuple vs.toArray) w:=by
 have e:=lD (P:=P) (w:=w) tmps l vs hl
 have e1:(fn.results.mapM (lE tmps)).run P w=.ok vs.toArray w:=by
  rw [h,List.mapM_toArray,Sem.run_map,e,xat]
 have e2:results fn tmps=(fn.results.mapM (lE tmps)) >>= fun vs=>Pure.pure (if h:vs.size=1 then vs[0] else .tuple vs):=by
  unfold results
  congr 1
 rw [e2,xaI,e1,xat,xaQ]
theorem bu {fn:Func} {tmps:Array Value} {r1 r2:ResultVar} (h:fn.results=#[r1,r2]) {v1 v2:Value} (hl:oQ P tmps w [r1,r2] [v1,v2]):(results fn tmps).run P w=.ok (.tuple #[v1,v2]) w:=lF (l:=[r1,r2]) h hl
theorem dw {fn:Func} {tmps:Array Value} {r1 r2 r3:ResultVar} (h:fn.results=#[r1,r2,r3]) {v1 v2 v3:Value} (hl:oQ P tmps w [r1,r2,r3] [v1,v2,v3]):(results fn tmps).run P w=.ok (.tuple #[v1,v2,v3]) w:=lF (l:=[r1,r2,r3]) h hl
theorem gK {fn:Func} {tmps:Array Value} {r1:ResultVar} (h:fn.results=#[r1]) {v1:Value} (hl:oQ P tmps w [r1] [v1]):(results fn tmps).run P w=.ok v1 w:=lF (l:=[r1]) h hl
theorem ld_cell {ty:TypeId} {p:Addr} {u:Value} {d:TypeDesc} (hu:P.underlying ty=some d) (hd:d.isRow=false) (hc:w.cell? p=some u):(loadVar ty p).run P w=.ok u w:=by
 have hagg:(isAgg ty).run P w=.ok false w:=by
  unfold isAgg
  rw [xaI,run_underlying hu w]
  cases d<;>simp_all
 simp [loadVar,hagg,hc]
theorem dP {ty:TypeId} {b off:Nat} {cs:List Value} {d:TypeDesc} (hc:w.rangeAt b off cs) (hu:P.underlying ty=some d) (hd:d.isRow=true) (hi:(P.info? ty).map (·.size)=some cs.length):(loadVar ty ⟨b,off,none⟩).run P w=.ok (.agg cs.toArray) w:=run_loadVar_mid w b off ty cs d hc hu hd hi
theorem range_cell {b o:Nat} {v:Value} (h:w.rangeAt b o [v]):w.cell? ⟨b,o,none⟩=some v:=h 0 v rfl
theorem Blk.range {g:Nat} {t:TypeId} {cs:List Value} (h:Blk w g t cs.toArray):w.rangeAt g 0 cs:=by simpa using en h
theorem ig {b o k:Nat} {cs pre mid post:List Value} (h:w.rangeAt b o cs) (e:cs=pre++(mid++post)) (hk:pre.length=k):w.rangeAt b (o+k) mid:=by
 subst e hk
 exact da (ff h)
theorem qu {w w':World} {b o:Nat} {cs:List Value} (h:w.rangeAt b o cs) (he:w'.heap[b]?=w.heap[b]?):w'.rangeAt b o cs:=by
 intro j v hv
 have:=h j v hv
 unfold World.cell? at this ⊢
 dsimp only at this ⊢
 rw [he]
 exact this
theorem Mem.range {w0 w:World} {L:List Ent} (h:Mem w0 w L) {b o:Nat} {cs:List Value} (hr:w0.rangeAt b o cs) (hb:b<w0.heap.size):w.rangeAt b o cs:=qu hr (h.old hb)
theorem bP {t:TypeId} {a b:Array Value} (h1:(P.info? t).map (·.size)=some a.size) (h2:(P.info? t).map (·.size)=some b.size):a.size=b.size:=xam (h1.symm.trans h2)
theorem Gs {a b:ByteArray} {c:Bool} (hc:decide (a=b)=c):(a.toList == b.toList)=c:=by
 rw [← hc,ByteArray.toList_eq,ByteArray.toList_eq,Bool.eq_iff_iff,beq_iff_eq,decide_eq_true_iff]
 constructor
 ·intro h
  cases a;cases b
  congr 1
  exact Array.toList_inj.1 h
 ·intro h
  rw [h]
theorem j5 {ρ:Operand→Value} {o:Oper} (t r:TypeId) (x y:Operand) (ho:o.op=.binOp .eql t x y r) (a b:ByteArray) (hx:ρ x=.string a) (hy:ρ y=.string b) (c:Bool) (hc:decide (a=b)=c) (W:World):(execOp ρ o).run P W=.ok (.value (.bool c)) W:=by
 have e:=Gs hc
 unfold execOp
 simp [go_sem,ho,hx,hy]
 exact e
theorem dG {ρ:Operand→Value} {o:Oper} (t r:TypeId) (x y:Operand) (ho:o.op=.binOp .eql t x y r) (xs ys:Array Value) (hx:ρ x=.agg xs) (hy:ρ y=.agg ys) (hm:P.eqGuardType P.depth t=false) (c:Bool) (W:World) (hv:(Op.equal t (.agg xs) (.agg ys)).run P W=.ok c W):(execOp ρ o).run P W=.ok (.value (.bool c)) W:=by
 unfold execOp
 simp only [ho,hx,hy,xaI,run_eqGuard_agg W .eql t x y xs ys hm,binOp,hv,xat,xaQ]
theorem dA {ρ:Operand→Value} {o:Oper} (t r:TypeId) (x y:Operand) (ho:o.op=.binOp .neq t x y r) (xs ys:Array Value) (hx:ρ x=.agg xs) (hy:ρ y=.agg ys) (hm:P.eqGuardType P.depth t=false) (c:Bool) (W:World) (hv:(Op.equal t (.agg xs) (.agg ys)).run P W=.ok c W):(execOp ρ o).run P W=.ok (.value (.bool (!c))) W:=by
 unfold execOp
 simp only [ho,hx,hy,xaI,run_eqGuard_agg W .neq t x y xs ys hm,binOp,hv,xat,xaQ]
theorem nM {h:Array Obj} {g:Nat} {f:Obj→Obj} {o:Obj} (hg:h[g]?=some o) (hf:f o=o):h.modify g f=h:=by
 apply xbZ
 intro i
 rw [Array.getElem?_modify]
 split
 ·rename_i e
  subst e
  rw [hg]
  simp [hf]
 ·rfl
theorem vF {g:Nat} {t:TypeId} {cs:Array Value} (h:Blk w g t cs):w.setRow g cs=w:=by
 unfold World.setRow
 rw [nM (f:=_) h rfl]
theorem tD {g i:Nat} {t:TypeId} {cs:Array Value} {v:Value} (h:Blk w g t cs) (hv:cs[i]?=some v):w.setCell ⟨g,i,none⟩ v=w:=by
 have e:cs.setIfInBounds i v=cs:=by
  apply xbZ
  intro k
  rw [xcc]
  split
  ·rename_i e
   subst e
   have hi:=(xa2.1 hv).1
   rw [if_pos hi,hv]
  ·rfl
 have hm:w.heap.modify g (fun | .cells c elem frozen=>.cells (if (none:Option Nat).isSome then c else c.setIfInBounds i v) elem frozen | o=>o)=w.heap:=nM h (by simp [e])
 show ({ w with heap:=w.heap.modify g _ }:World)=w
 have h2:({ w with heap:=w.heap.modify g (fun | .cells c elem frozen=>.cells (if (none:Option Nat).isSome then c else c.setIfInBounds i v) elem frozen | o=>o) }:World)=w:=by rw [hm]
 exact h2
theorem jQ {ρ:Operand→Value} {o:Oper} (ty:TypeId) (x y:Operand) (ho:o.op=.store ty x y) {g:Nat} {t:TypeId} {cs:List Value} (hb:Blk w g t cs.toArray) (hi:(P.info? ty).map (·.size)=some cs.toArray.size) (h1:cs.toArray.all (·.oneCell')=true)
  (hx:ρ x=.pointer (some ⟨g,0,none⟩)) (hy:ρ y=.agg cs.toArray):(execOp ρ o).run P w=.ok .skip w:=by
 have hrun:=run_storeVar_row (P:=P) w g t ty cs.toArray cs.toArray hb hi rfl h1
 unfold execOp
 simp only [ho,hx,hy,Instr.storeAt,xbM,xaI,xaQ,xat,hrun,vF hb]
theorem je {ρ:Operand→Value} {o:Oper} (ty:TypeId) (x y:Operand) (ho:o.op=.store ty x y) {g i:Nat} {t:TypeId} {cs:Array Value} {v:Value} (hb:Blk w g t cs) (hv:cs[i]?=some v) (hs:(P.info? ty).map (·.size)=some 1) (h1:v.oneCell'=true)
  (hx:ρ x=.pointer (some ⟨g,i,none⟩)) (hy:ρ y=v):(execOp ρ o).run P w=.ok .skip w:=by
 have hi:=(xa2.1 hv).1
 have hr:(storeVar ty ⟨g,i,none⟩ v).run P w=.ok () (w.setCell ⟨g,i,none⟩ v):=by
  have:=run_storeCells_cells (P:=P) g i [v] 0 w (fun j hj=>by
   have hj0:j=0:=by simpa using hj
   subst hj0
   rw [Nat.add_zero,hb.cell,Array.getElem?_eq_getElem hi]
   rfl) (fun j _=>hb.frozen _) (fun u hu=>by rw [xan.1 hu];exact h1)
  have hc:v.cells=#[v]:=by cases v<;>first | rfl | cases h1
  cases hq:P.info? ty with
  | none=>simp [hq] at hs
  | some j =>
   have hs:j.size=1:=by simpa [hq] using hs
   simp only [Nat.add_zero] at this
   simp [storeVar,sizeOf,typeInfo,hq,hc,hs,this]
   rfl
 unfold execOp
 simp only [ho,hx,hy,Instr.storeAt,xbM,xaI,xaQ,xat,hr,tD hb hv]
theorem Fre.kI {ops:Array Oper} {L:Fre.dZ} {w0:World} {rest:List Oper} {o:Oper} {a:Act} {Q:Act→Prop} {X:World→World→Prop} (hB:Fre.bW (L.map (·.1)) ops o=true) (hw:xaq o (yielded ops a.tmps)=true) (hd:o.dst.bind (Fre.aq L)=none)
  (hrun:∀ w,Fre.Ext X w0 w→(execOp a.eval o).run P w=.ok .skip w) (h:Fre.aQ X P ops (Fre.aq L) w0 Q rest (a.put o.dst undef)):Fre.aQ X P ops (Fre.aq L) w0 Q (o :: rest) a:=by
 refine ⟨undef,fun b w hx hb _=>⟨fun _=>?_,fun h2=>?_⟩,h⟩
 ·rw [hd,Fre.dv hB hb,hrun w hx]
  exact ⟨rfl,rfl⟩
 ·rw [Fre.b8 hB hb,hw] at h2;cases h2
theorem nU {ops:Array Oper} {rest:List Oper} {o:Oper} {a:Act} {Q:Exit→Act→World→Prop} (hg:o.guard=none) (ty:TypeId) (x:Operand) (ho:o.op=.box ty x) (v:Value) (h1:v.oneCell'=true) (hx:a.eval x=v)
  (h:∀ w',fy w w' ty #[v]→wpList P ops Q rest (a.put o.dst (.pointer (some ⟨w.heap.size,0,none⟩))) w'):wpList P ops Q (o :: rest) a w:=by
 have hc:v.cells=#[v]:=by cases v<;>first | rfl | cases h1
 refine aa hg (.pointer (some ⟨w.heap.size,0,none⟩)) (w.alloc (.cells #[v] ty)) ?_ (h _ (bS w ty #[v]))
 rw [← hc]
 unfold execOp
 simp only [ho,hx]
 rfl
def Ent.no:Ent:=⟨fun _=>False,fun _=>True⟩
theorem Mem.Eo {w0 w w':World} {L:List Ent} {g:Nat} {t:TypeId} {cs:Array Value} (h:Mem w0 w L) (i:Nat) (hi:L[i]?=some (bh g t cs)) (hg:w.grownBy w' (some g)):Mem w0 w' (L.set i Ent.no) :=
 h.upd i hi hg (fun _ hb=>(xam hb).symm) (fun _ _ _ _=>trivial) trivial fun _ hf=>False.elim hf
theorem dQ {α:Type} {f:α→List Value} {w:World} {B s g n cap k:Nat} {t:TypeId} {l:List α} {x:α} (h0:0<s) (h:w.ownsRow B t s (.slice (some ⟨g,0,none⟩) n cap) l.length (l.flatMap f)) (hl:∀ x∈l,(f x).length=s) (hx:l[k]?=some x):w.rangeAt g (k*s) (f x):=by
 rcases a7 h with ⟨h1,_⟩ | ⟨g',cap',cur,h1,_,_,_,hb,_,ht,_⟩
 ·cases h1
 ·injection h1 with e1 e2 e3
  injection e1 with e1
  injection e1 with e1
  subst e1
  intro j v hv
  have h2:=mg h0 l hl k x hx j v hv
  rw [← ht] at h2
  rw [hb.cell,← xa7]
  rw [List.getElem?_take] at h2
  split at h2
  ·exact h2
  ·cases h2
theorem CQ {w:World} {B s k:Nat} {t:TypeId} {u:Value} {xs:List Value} (h:w.ownsRow B t s u k xs) (hk:0<k):∃ g cap,u=.slice (some ⟨g,0,none⟩) k cap∧g<w.heap.size:=by
 obtain ⟨g,cap,e⟩:=hJ h hk
 exact ⟨g,cap,e,(az h (by rw [e];rfl)).2⟩
theorem aI {w:World} {B s k:Nat} {t:TypeId} {u:Value} {xs:List Value} (h:w.ownsRow B t s u k xs):∃ A cap,u=.slice A k cap:=by
 rcases a7 h with ⟨h1,h2,_⟩ | ⟨g,cap,cur,h1,_⟩
 ·exact ⟨none,0,by rw [h1,h2]⟩
 ·exact ⟨_,_,h1⟩
theorem Mem.seq {w0 w w':World} {L L':List Ent} (h:Mem w0 w L) (k:Mem w w' L'):Mem w0 w' (L'++L):=by
 have h2:=h.call k.below
 refine ⟨h2.below,fun e he=>?_,fun e he=>?_,fun e he b hf=>?_,xbw.2 ⟨k.far,h2.far,fun x hx y hy b h1 h3=>?_⟩⟩
 ·rcases xax.1 he with he | he
  ·exact k.ok e he
  ·exact h2.ok e he
 ·rcases xax.1 he with he | he
  ·exact k.holds e he
  ·exact h2.holds e he
 ·rcases xax.1 he with he | he
  ·exact ⟨xaH h.below.size (k.lo e he b hf).1,(k.lo e he b hf).2⟩
  ·exact h2.lo e he b hf
 ·have:=(k.lo x hx b h1).1
  have:=(h.lo y hy b h3).2
  omega
end
end Go.Proofs.YtomnhnmciopiiaaGreat
end
