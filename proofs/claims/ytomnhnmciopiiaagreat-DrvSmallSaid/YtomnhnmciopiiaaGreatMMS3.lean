/- Part 3 of the texts of one proof. -/
import Derived.Test.YtomnhnmciopiiaaGreatMMS2
set_option maxRecDepth 100000
set_option linter.unusedVariables false
set_option linter.unusedSimpArgs false
set_option maxHeartbeats 40000000
open Go.Act renaming put → xad
open And renaming intro → xae
open Array renaming getD_eq_getD_getElem? → xbB, getElem?_eq_getElem → xa5, replicate → xbx, setIfInBounds_comm → xb6
open Go.RowKit.Below renaming mono → xam, refl → xaq
open Bool renaming and_eq_true → xaG, false_eq_true → xa9
open ByteArray renaming size_append → xaC
open Go.Instr renaming sureAddr → xbT
open Go.Lib renaming join → xby, lens → xcj
open List renaming all_eq_true → xbg, any_eq_true → xb9, drop → xas, drop_succ_cons → xaH, drop_zero → xaQ, getElem?_eq_getElem → xaj, getElem?_map → xaD, getElem?_toArray → xbn, length_append → xap, length_cons → xaE, length_map → xat, mem_append → xau, mem_append_left → xa1, mem_cons → xax, mem_map → xav, mem_of_getElem? → xak, mem_range → xbb, mem_singleton → xan, ne_nil_of_mem → xbI, not_mem_nil → xaP, range → xaf, setIfInBounds_toArray → xaa, set_cons_succ → xab, set_cons_zero → xac, size_toArray → xal, take_add_one → xaz, take_length → xaB, take_succ_cons → xaI, take_zero → xaR
open Nat renaming decEq → xb3, le_refl → xai, le_trans → xay
open Option renaming bind_some → xbv
open Option.some renaming inj → xao
open Go.Region renaming binds → xbR, lexHead → xbz, lexTailB → xb0, noSelect → xbD, noSelect_spec → xcl, ready → xbo, seqB → xcv, wanted → xaw
open Go.Result renaming andThen_ok → xaA
open Go.Sem renaming run_bind → xaK, run_pure → xaN
open Go.Value renaming string → xaY
section
namespace Go.Proofs.YtomnhnmciopiiaaGreat.Fre
open Go Go.RowKit
class cV (X:World→World→Prop):Prop where
 refl:∀ w,X w w
 trans:∀ a b c,X a b→X b c→X a c
 drew:∀ w,X w w.drew
def Ext (X:World→World→Prop) (w w':World):Prop:=X w w'
theorem Ext.refl {X:World→World→Prop} [cV X] (w:World):Ext X w w:=cV.refl (X:=X) w
theorem Ext.trans {X:World→World→Prop} [cV X] {a b c:World} (h:Ext X a b) (k:Ext X b c):Ext X a c:=cV.trans (X:=X) a b c h k
theorem Ext.drew {X:World→World→Prop} [cV X] (w:World):Ext X w w.drew:=cV.drew (X:=X) w
abbrev Made:=Tmp→Option (Value→World→Prop)
section
variable {P:Program} {ops:Array Oper} {md:Region.Mode} {F:Made} {w0:World} {X:World→World→Prop} [cV X]
def stays (X:World→World→Prop) (F:Made):Prop:=∀ t V,F t=some V→∀ u w w',V u w→Ext X w w'→V u w'
def uU (X:World→World→Prop) (P:Program) (v:Value) (w:World):Result Next→Prop
 | .ok (.value u) w'=>w'=w∧u=v
 | .ok .skip w'=>w'=w∧v=undef
 | .ok (.enter f args) w'=>w'=w∧Calls P f args w (fun e w''=>e=.returned v∧Ext X w w'')
 | _=>False
def pz (_:Made) (_:Option Tmp) (_:World) (_:Value):Prop:=True
def uF (X:World→World→Prop) (P:Program) (F:Made) (d:Option Tmp) (V:Value→World→Prop) (w:World):Result Next→Prop
 | .ok (.value u) w'=>Ext X w w'∧V u w'∧pz F d w u
 | .ok (.enter f args) w'=>w'=w∧Calls P f args w (fun e w''=>∃ u,e=.returned u∧Ext X w w''∧V u w''∧pz F d w u)
 | _=>False
def qx (X:World→World→Prop) (P:Program) (F:Made) (d:Option Tmp) (V?:Option (Value→World→Prop)) (v:Value) (w:World) (r:Result Next):Prop :=
 match V? with
 | some V=>v=undef∧uF X P F d V w r
 | none=>uU X P v w r
def fA (F:Made) (a b:Act):Prop:=a.defers=b.defers∧a.tmps.size=b.tmps.size∧∀ t,F t=none→a.tmps[t]?=b.tmps[t]?
def Holds (F:Made) (l:List Tmp) (b:Act) (w:World):Prop:=∀ t∈l,∀ V,F t=some V→∃ u,b.tmps[t]?=some u∧V u w
def kp (X:World→World→Prop) (P:Program) (ops:Array Oper) (F:Made) (w0:World) (o:Oper) (v:Value) (a:Act):Prop :=
 ∀ b w,Ext X w0 w→fA F b a→Holds F (o.looksAt ops) b w →
  (xaw o (yielded ops b.tmps)=true→qx X P F o.dst (o.dst.bind F) v w ((execOp b.eval o).run P w)) ∧
  (xaw o (yielded ops b.tmps)=false→v=undef∧o.dst.bind F=none)
theorem ee (a:Act) (d:Tmp) (x:Value) (t:Tmp) (h:t ≠ d):(a.put (some d) x).tmps[t]?=a.tmps[t]?:=by
 simp only [xad]
 rw [Array.getElem?_setIfInBounds_ne (Ne.symm h)]
theorem size_put (a:Act) (dst:Option Tmp) (x:Value):(a.put dst x).tmps.size=a.tmps.size:=by cases dst<;>simp [xad]
theorem ej (a:Act) (dst:Option Tmp) (x:Value):(a.put dst x).defers=a.defers:=by cases dst<;>rfl
theorem dR (a:Act) (d:Tmp) (x:Value):(a.put (some d) x).tmps[d]?=if d<a.tmps.size then some x else none:=by
 simp only [xad,Array.getElem?_setIfInBounds,if_true]
theorem fA.put {a b:Act} (h:fA F a b) (dst:Option Tmp) (x:Value):fA F (a.put dst x) (b.put dst x):=by
 refine ⟨by rw [ej,ej,h.1],by rw [size_put,size_put,h.2.1],fun t ht=>?_⟩
 cases dst with
 | none=>exact h.2.2 t ht
 | some d =>
  by_cases e:t=d
  ·subst e
   rw [dR,dR,h.2.1]
  ·rw [ee _ _ _ _ e,ee _ _ _ _ e]
   exact h.2.2 t ht
theorem Holds.put {l:List Tmp} {b:Act} {w:World} (dst:Option Tmp) (x:Value) (hl:∀ d,dst=some d→d ∉ l):Holds F l (b.put dst x) w↔Holds F l b w:=by
 unfold Holds
 constructor
 ·intro h t ht V hV
  obtain ⟨u,hu,hv⟩:=h t ht V hV
  refine ⟨u,?_,hv⟩
  cases dst with
  | none=>exact hu
  | some d=>rwa [ee _ _ _ _ (fun e=>hl d rfl (by rw [← e];exact ht))] at hu
 ·intro h t ht V hV
  obtain ⟨u,hu,hv⟩:=h t ht V hV
  refine ⟨u,?_,hv⟩
  cases dst with
  | none=>exact hu
  | some d=>rw [ee _ _ _ _ (fun e=>hl d rfl (by rw [← e];exact ht))];exact hu
omit [cV X] in
theorem kp.BO {o:Oper} (hs:∀ cs b,o.op ≠ .select cs b) {v:Value} {a:Act} {dst:Option Tmp} {x:Value} (hd:∀ d,dst=some d→d ∉ o.looksAt ops) (h:kp X P ops F w0 o v (a.put dst x)):kp X P ops F w0 o v a:=by
 intro b w hw hb hh
 have h2:=h (b.put dst x) w hw (hb.put dst x) ((Holds.put dst x hd).2 hh)
 rwa [wanted_put o b dst x hd,execOp_put o hs b dst x hd] at h2
omit [cV X] in
theorem kp.put {o:Oper} (hs:∀ cs b,o.op ≠ .select cs b) {v:Value} {a:Act} {dst:Option Tmp} {x:Value} (hd:∀ d,dst=some d→d ∉ o.looksAt ops) (h:kp X P ops F w0 o v a):kp X P ops F w0 o v (a.put dst x):=by
 cases dst with
 | none=>exact h
 | some d =>
  intro b w hw hb hh
  have hsame:fA F (b.put (some d) (a.tmps.getD d undef)) a:=by
   refine ⟨by rw [ej,hb.1,ej],by rw [size_put,hb.2.1,size_put],fun t ht=>?_⟩
   by_cases e:t=d
   ·subst e
    rw [dR,hb.2.1,size_put]
    split
    ·rename_i hlt;simp [hlt]
    ·rename_i hlt;rw [Array.getElem?_eq_none (Nat.le_of_not_lt hlt)]
   ·rw [ee _ _ _ _ e,hb.2.2 t ht,ee _ _ _ _ e]
  have h2:=h (b.put (some d) (a.tmps.getD d undef)) w hw hsame ((Holds.put (some d) _ hd).2 hh)
  rwa [wanted_put o b (some d) _ hd,execOp_put o hs b (some d) _ hd] at h2
def iE (X:World→World→Prop) (P:Program) (ops:Array Oper) (F:Made) (w0:World) (i:Nat) (K:Act→Prop) (a:Act):Prop :=
 match ops[i]? with
 | none=>K a
 | some o=>∃ v,kp X P ops F w0 o v a∧K (a.put o.dst v)
omit [cV X] in
theorem mK {i:Nat} {a:Act} {K K':Act→Prop} (h:∀ a,K a→K' a) (hh:iE X P ops F w0 i K a):iE X P ops F w0 i K' a:=by
 unfold iE at *
 cases ho:ops[i]? with
 | none=>simp only [ho] at hh;exact h _ hh
 | some o =>
  simp only [ho] at hh
  obtain ⟨v,h1,h2⟩:=hh
  exact ⟨v,h1,h _ h2⟩
omit [cV X] in
theorem oM {j:Nat} {oi oj:Oper} {v:Value} (hj:ops[j]?=some oj) (hap:oi.apart ops oj=true)
  (hsi:∀ cs b,oi.op ≠ .select cs b) (hsj:∀ cs b,oj.op ≠ .select cs b) {K:Act→Prop} {a:Act}
  (hy:kp X P ops F w0 oi v a) (h:iE X P ops F w0 j K (a.put oi.dst v)) :
  iE X P ops F w0 j (fun a'=>kp X P ops F w0 oi v a'∧K (a'.put oi.dst v)) a:=by
 obtain ⟨h1,h2,h3⟩:=Oper.apart_spec hap
 unfold iE at *
 simp only [hj] at *
 obtain ⟨u,hu,hk⟩:=h
 exact ⟨u,hu.BO hsj h1,hy.put hsi h3,by rw [← Act.put_comm a v u h2];exact hk⟩
def lX (X:World→World→Prop) (P:Program) (md:Region.Mode) (ops:Array Oper) (F:Made) (w0:World) (n:Nat) (L:Array Bool→Act→Prop):Nat→Array Bool→Act→Prop
 | 0,d,a=>L d a
 | f+1,d,a=>xbo md ops d ≠ []∧∀ i∈xbo md ops d,i<n∧iE X P ops F w0 i (lX X P md ops F w0 n L f (d.setIfInBounds i true)) a
omit [cV X] in
theorem ry {n i:Nat} {oi:Oper} {v:Value} {L:Array Bool→Act→Prop} (hi:ops[i]?=some oi) (hsel:∀ (j:Nat) (o:Oper) cs b,ops[j]?=some o→o.op ≠ .select cs b)
  (hs:Region.sinkB md ops n=true) (hc:Region.chainB md ops n=true) (hn:n<ops.size) (hin:i<n) (hdone:∀ d a,L d a→∀ j∈xbo md ops d,n≤j) (f:Nat) :
  ∀ (d:Array Bool) (a:Act),HeadInv md ops n d →
   (∀ j oj,ops[j]?=some oj→j ≠ i→d.getD j true=false→(∀ e∈oj.after,xbR md e=true→e.on ≠ i)→oi.apart ops oj=true) →
   i∈xbo md ops d→kp X P ops F w0 oi v a →
   lX X P md ops F w0 n L f (d.setIfInBounds i true) (a.put oi.dst v)→lX X P md ops F w0 n L (f+1) d a:=by
 have own:∀ (K:Act→Prop) (a:Act),kp X P ops F w0 oi v a→K (a.put oi.dst v)→iE X P ops F w0 i K a:=by
  intro K a hy hk
  unfold iE
  simp only [hi]
  exact ⟨v,hy,hk⟩
 induction f with
 | zero =>
  intro d a inv _ hr hy H
  refine ⟨xbI hr,fun j hj=>?_⟩
  have hjn:=rz hs hc hn inv hin (mem_ready.1 hr).1 hj
  refine ⟨hjn,?_⟩
  rcases xb3 j i with hji | hji
  ·exact absurd (hdone _ _ H j (ready_mono hj hji)) (by omega)
  ·subst hji
   exact own _ _ hy H
 | succ f ih =>
  intro d a inv hfree hr hy H
  refine ⟨xbI hr,fun j hj=>?_⟩
  have hjn:=rz hs hc hn inv hin (mem_ready.1 hr).1 hj
  refine ⟨hjn,?_⟩
  rcases xb3 j i with hji | hji
  ·obtain ⟨hjun,oj,hoj,hall⟩:=mem_ready.1 hj
   have hnot:∀ e∈oj.after,xbR md e=true→e.on ≠ i:=by
    intro e he hb heq
    have h1:=hall e he hb
    rw [heq,getD_both (mem_ready.1 hr).1] at h1
    cases h1
   have hstep:=oM hoj (hfree j oj hoj hji hjun hnot) (fun cs b=>hsel i oi cs b hi) (fun cs b=>hsel j oj cs b hoj) hy (H.2 j (ready_mono hj hji)).2
   refine mK (fun a' h3=>ih (d.setIfInBounds j true) a' (inv.set hj hjn) ?_ (ready_mono hr (Ne.symm hji)) h3.1 ?_) hstep
   ·intro k ok hk hki hunk hno
    refine hfree k ok hk hki ?_ hno
    rcases xb3 j k with hjk | hjk
    ·rwa [getD_set_ne true hjk] at hunk
    ·subst hjk
     exact hjun
   ·rw [xb6 _ _ hji]
    exact h3.2
  ·subst hji
   exact own _ _ hy H
def bK (X:World→World→Prop) (P:Program) (ops:Array Oper) (F:Made) (w0:World) (Q:Act→Prop):List Oper→Act→Prop
 | [],a=>Q a
 | o :: rest,a=>∃ v,kp X P ops F w0 o v a∧bK X P ops F w0 Q rest (a.put o.dst v)
omit [cV X] in
theorem o9 {n g:Nat} {Lq:Act→Prop} (hsel:xbD ops=true) (hs:Region.sinkB md ops n=true) (hc:Region.chainB md ops n=true) (hn:n<ops.size) :
  ∀ (l:List Oper) (k:Nat) (d:Array Bool) (a:Act),(∀ j,j<l.length→l[j]?=ops[k+j]?)→k+l.length=n→HeadInv md ops n d→(∀ i,i<k→d.getD i false=true) →
  xbz md ops g l.length k d=true→bK X P ops F w0 Lq l a →
  lX X P md ops F w0 n (fun d' a'=>(xcv md ops g n d'=true∧∀ i,i<n→d'.getD i false=true)∧Lq a') l.length d a
 | [],k,d,a,_,hk,_,hd,hB,h=>by
  obtain rfl:k=n:=by simpa using hk
  exact ⟨⟨by simpa [xbz] using hB,hd⟩,h⟩
 | o :: l,k,d,a,hl,hk,inv,hd,hB,h=>by
  have h0:ops[k]?=some o:=by simpa using (hl 0 (by simp)).symm
  simp only [xaE,xbz,xaG] at hB
  obtain ⟨⟨hr,hf⟩,hB'⟩:=hB
  have hkn:k<n:=by simp only [xaE] at hk;omega
  have hr':k∈xbo md ops d:=by simpa using hr
  obtain ⟨v,hy,hK⟩:=h
  refine ry h0 (xcl hsel) hs hc hn hkn (fun d' a' hL=>seqB_ready hL.1.1) l.length d a inv (Region.free_spec h0 hf) hr' hy ?_
  refine o9 hsel hs hc hn l (k+1) _ _ (fun j hj=>?_) (by simp only [xaE] at hk;omega) (inv.set hr' hkn) (fun i hi=>?_) hB' hK
  ·have:=hl (j+1) (by simp;omega)
   simpa [Nat.add_assoc,Nat.add_comm 1 j] using this
  ·by_cases e:k=i
   ·subst e
    have:k<d.size:=by rw [inv.size];omega
    simp [this]
   ·rw [getD_set_ne false e]
    exact hd i (by omega)
def pn (md:Region.Mode) (ops:Array Oper) (keys:List Tmp) (n:Nat):Bool :=
 (xaf n).all fun j=>match ops[j]? with
  | none=>true
  | some o=>(o.looksAt ops).all fun t=>!keys.contains t||(xaf n).any fun i=>(ops[i]?).bind (·.dst) == some t&&Region.waitsFor md ops j i
def iP (ops:Array Oper) (keys:List Tmp) (n:Nat):Bool:=keys.all fun t=>(xaf n).any fun i=>(ops[i]?).bind (·.dst) == some t
def Sim (X:World→World→Prop) (ops:Array Oper) (F:Made) (w0:World) (d:Array Bool) (a b:Act) (w:World):Prop :=
 Ext X w0 w∧fA F b a∧∀ i o t V,ops[i]?=some o→d.getD i false=true→o.dst=some t→F t=some V→∃ u,b.tmps[t]?=some u∧V u w
theorem hT {n g:Nat} {keys:List Tmp} (hF:stays X F) (hkeys:∀ t V,F t=some V→t∈keys) (hmade:pn md ops keys n=true) (hsz:∀ t∈keys,∀ a:Act,∀ b:Act,fA F b a→True)
  {L:Array Bool→Act→Prop} {Q':Exit→Act→World→Prop} {size:Nat} (hrange:∀ t V,F t=some V→t<size)
  (hL:∀ d a b w,b.tmps.size=size→Sim X ops F w0 d a b w→L d a→wpAny P md ops Q' g d b w) :
  ∀ (f:Nat) (d:Array Bool) (a b:Act) (w:World),b.tmps.size=size→HeadInv md ops n d→Sim X ops F w0 d a b w→lX X P md ops F w0 n L f d a→wpAny P md ops Q' (f+g) d b w
 | 0,d,a,b,w,hb,_,hs,h=>by
  rw [Nat.zero_add]
  exact hL _ _ _ _ hb hs h
 | f+1,d,a,b,w,hb,inv,hs,h=>by
  rw [Nat.add_right_comm]
  refine ⟨fun he=>absurd he h.1,fun i hi=>?_⟩
  obtain ⟨hin,hop⟩:=h.2 i hi
  obtain ⟨hun,oi,hoi,hall⟩:=mem_ready.1 hi
  obtain ⟨hw,hsame,hV⟩:=hs
  unfold iE at hop
  simp only [hoi] at hop
  obtain ⟨v,hdo,hk⟩:=hop
  have hhold:Holds F (oi.looksAt ops) b w:=by
   intro t ht V hFt
   have h1:=xbg.1 hmade i (xbb.2 hin)
   simp only [hoi] at h1
   have h2:=xbg.1 h1 t ht
   have hk2:keys.contains t=true:=by simpa using hkeys t V hFt
   simp only [hk2,Bool.not_true,Bool.false_or] at h2
   obtain ⟨j,_,hj2⟩:=xb9.1 h2
   simp only [xaG,beq_iff_eq] at hj2
   obtain ⟨hj3,hj4⟩:=hj2
   obtain ⟨oi',hoi',e,he,hbd,hon⟩:=Region.waitsFor_spec hj4
   obtain rfl:oi'=oi:=xao (hoi'.symm.trans hoi)
   cases hoj:ops[j]? with
   | none=>simp [hoj] at hj3
   | some oj =>
    have hdst:oj.dst=some t:=by simpa [hoj] using hj3
    exact (hV j oj t V hoj (by have:=hall e he hbd;rwa [hon] at this) hdst hFt)
  obtain ⟨hyes,hno⟩:=hdo b w hw hsame hhold
  have next:∀ (x:Value) (w':World),Ext X w w'→(∀ t V,oi.dst=some t→F t=some V→V x w'∧pz F oi.dst w x)→(oi.dst.bind F=none→x=v) →
    wpAny P md ops Q' (f+g) (d.setIfInBounds i true) (b.put oi.dst x) w':=by
   intro x w' hx hVx hxv
   refine hT hF hkeys hmade hsz hrange hL f _ (a.put oi.dst v) _ w' (by rw [size_put];exact hb) (inv.set hi hin) ⟨hw.trans hx,?_,?_⟩ hk
   ·refine ⟨by rw [ej,ej,hsame.1],by rw [size_put,size_put,hsame.2.1],fun t ht=>?_⟩
    cases hd:oi.dst with
    | none=>exact hsame.2.2 t ht
    | some dd =>
     by_cases e:t=dd
     ·subst e
      rw [hxv (by simp [hd,ht]),dR,dR,hsame.2.1]
     ·rw [ee _ _ _ _ e,ee _ _ _ _ e]
      exact hsame.2.2 t ht
   ·
    have at_new:∀ t V,oi.dst=some t→F t=some V→(b.put oi.dst x).tmps[t]?=some x:=by
     intro t V e hFt
     rw [e,dR,if_pos (by rw [hb];exact hrange t V hFt)]
    have at_old:∀ t,oi.dst ≠ some t→(b.put oi.dst x).tmps[t]?=b.tmps[t]?:=by
     intro t e
     cases hd:oi.dst with
     | none=>rfl
     | some dd=>exact ee _ _ _ _ (fun e3=>e (by rw [hd,e3]))
    have was:∀ j oj t V,ops[j]?=some oj→(d.setIfInBounds i true).getD j false=true→oj.dst=some t→F t=some V→oi.dst ≠ some t→d.getD j false=true:=by
     intro j oj t V hoj hlj hdj hFt e
     have hji:j ≠ i:=by
      intro e2
      subst e2
      obtain rfl:oj=oi:=xao (hoj.symm.trans hoi)
      exact e hdj
     rwa [getD_set_ne false (Ne.symm hji)] at hlj
    intro j oj t V hoj hlj hdj hFt
    by_cases e:oi.dst=some t
    ·exact ⟨x,at_new t V e hFt,(hVx t V e hFt).1⟩
    ·obtain ⟨u,hu,hVu⟩:=hV j oj t V hoj (was j oj t V hoj hlj hdj hFt e) hdj hFt
     exact ⟨u,by rw [at_old t e];exact hu,hF t V hFt u w w' hVu hx⟩
  unfold wpOp
  simp only [hoi]
  by_cases hwt:xaw oi (yielded ops b.tmps)=true
  ·rw [if_pos hwt]
   refine .inl ?_
   have hm:=hyes hwt
   unfold Oper.wp
   generalize (execOp b.eval oi).run P w=r at hm
   cases hbind:oi.dst.bind F with
   | none =>
    simp only [qx,hbind] at hm
    have hVx:∀ (x:Value) (w':World) t V,oi.dst=some t→F t=some V→V x w'∧pz F oi.dst w x:=by
     intro x w' t V h1 h2
     simp [h1,h2] at hbind
    cases r with
    | halt x w'=>exact hm.elim
    | ok nx w' =>
     cases nx<;>simp only [uU] at hm
     case value u =>
      obtain ⟨rfl,rfl⟩:=hm
      exact next _ _ (Ext.refl _) (hVx _ _) (fun _=>rfl)
     case skip =>
      obtain ⟨rfl,rfl⟩:=hm
      exact next _ _ (Ext.refl _) (hVx _ _) (fun _=>rfl)
     case enter fn args =>
      obtain ⟨rfl,hcall⟩:=hm
      refine hcall.mono ?_
      rintro e w'' ⟨rfl,hx⟩
      exact next _ _ hx (hVx _ _) (fun _=>rfl)
   | some V =>
    simp only [qx,hbind] at hm
    obtain ⟨_,hm⟩:=hm
    have hnone:oi.dst.bind F=none→∀ x:Value,x=v:=fun h=>by rw [hbind] at h;cases h
    have hVx:∀ (x:Value) (w':World),V x w'∧pz F oi.dst w x→∀ t V',oi.dst=some t→F t=some V'→V' x w'∧pz F oi.dst w x:=by
     intro x w' hx t V' h1 h2
     simp only [h1,xbv,h2,Option.some.injEq] at hbind
     rw [hbind];exact hx
    cases r with
    | halt x w'=>exact hm.elim
    | ok nx w' =>
     cases nx<;>simp only [uF] at hm
     case value u=>exact next _ _ hm.1 (hVx _ _ hm.2) (fun h=>hnone h _)
     case enter fn args =>
      obtain ⟨rfl,hcall⟩:=hm
      refine hcall.mono ?_
      rintro e w'' ⟨u,rfl,hx,hVu⟩
      exact next _ _ hx (hVx _ _ hVu) (fun h=>hnone h _)
  ·rw [if_neg hwt]
   have h3:=hno (by simpa using hwt)
   refine next _ _ (Ext.refl _) ?_ (fun _=>h3.1.symm)
   intro t V h1 h2
   have h4:=h3.2
   simp [h1,h2] at h4
theorem lR {Q:Exit→Act→World→Prop} {a:Act} {w:World} {l:List Oper} (n:Nat) (keys:List Tmp) (F:Made) (_:P.follows .mixedOrders=true)
  (hB:(xb0 .any l.toArray n&&pn .any l.toArray keys n&&iP l.toArray keys n)=true) (hkeys:∀ t V,F t=some V→t∈keys) (hF:stays X F) (hrange:∀ t∈keys,t<a.tmps.size)
  (h:bK X P l.toArray F w (fun a'=>∀ b w',Ext X w w'→fA F b a'→(∀ t V,F t=some V→∃ u,b.tmps[t]?=some u∧V u w')→wpList P l.toArray Q (l.drop n) b w') (l.take n) a) :
  wpAny P .any l.toArray Q l.toArray.size (xbx l.toArray.size false) a w.drew:=by
 simp only [xaG] at hB
 obtain ⟨⟨hB,hmade⟩,hallm⟩:=hB
 simp only [xb0,xaG,decide_eq_true_eq] at hB
 obtain ⟨⟨⟨⟨hsel,hn⟩,hs⟩,hc⟩,hlex⟩:=hB
 have hn':n<l.length:=by simpa using hn
 have htl:(l.take n).length=n:=by simp;omega
 have hdl:(l.drop n).length=l.toArray.size-n:=by simp
 have inv0:HeadInv .any l.toArray n (xbx l.toArray.size false) :=
  ⟨by simp,fun j oj _ hl=>(by rw [getD_replicate_false] at hl;cases hl),fun t _ ht=>getD_in (by simpa using ht) (getD_replicate_false _ _)⟩
 have H:=o9 (md:=.any) (g:=l.toArray.size-n) hsel hs hc hn (l.take n) 0 _ a (fun j hj=>by
  have hj':j<n:=by rw [htl] at hj;exact hj
  simp [hj']) (by simpa using htl) inv0 (fun i hi=>absurd hi (Nat.not_lt_zero _)) (by rw [htl];exact hlex) h
 have hfin:=hT (Q':=Q) (g:=l.toArray.size-n) (size:=a.tmps.size) hF hkeys hmade (fun _ _ _ _ _=>trivial) (fun t V h=>hrange t (hkeys t V h)) (fun d a' b w' _ hsim hL=>by
  have mk:∀ t V,F t=some V→∃ i oi,l.toArray[i]?=some oi∧d.getD i false=true∧oi.dst=some t:=by
   intro t V hFt
   have h5:=xbg.1 hallm t (hkeys t V hFt)
   obtain ⟨i,hi,hi2⟩:=xb9.1 h5
   simp only [beq_iff_eq] at hi2
   cases hoi:l.toArray[i]? with
   | none=>simp [hoi] at hi2
   | some oi=>exact ⟨i,oi,hoi,hL.1.2 i (xbb.1 hi),by simpa [hoi] using hi2⟩
  have h2:=hL.2 b w' hsim.1 hsim.2.1 (fun t V hFt=>by
   obtain ⟨i,oi,hoi,hdn,hdst⟩:=mk t V hFt
   exact hsim.2.2 i oi t V hoi hdn hdst hFt)
  have h4:=wpAny_of_seq (md:=.any) (Q':=Q) (l.drop n) n d b w' (fun j=>by simp [List.getElem?_drop]) (by rw [hdl];exact hL.1.1) h2
  rwa [hdl] at h4) _ _ a a w.drew rfl inv0 ⟨Ext.drew w,⟨rfl,rfl,fun _ _=>rfl⟩,fun i o t V _ hd=>by rw [getD_replicate_false] at hd;cases hd⟩ H
 rw [htl,show n+(l.toArray.size-n)=l.toArray.size by omega] at hfin
 exact hfin
theorem fA.fix {a b:Act} {t:Tmp} {u:Value} (h:fA F b a) (hu:b.tmps[t]?=some u):fA (fun s=>if s=t then none else F s) b (a.put (some t) u):=by
 have ht:t<b.tmps.size:=by
  rcases Nat.lt_or_ge t b.tmps.size with h | h
  ·exact h
  ·rw [Array.getElem?_eq_none h] at hu;cases hu
 refine ⟨by rw [ej];exact h.1,by rw [size_put];exact h.2.1,fun s hs=>?_⟩
 by_cases e:s=t
 ·subst e
  rw [dR,if_pos (by rw [← h.2.1];exact ht),hu]
 ·rw [ee _ _ _ _ e]
  exact h.2.2 s (by simpa [e] using hs)
theorem fA.eq {a b:Act} (h:fA F b a) (hF:∀ s,F s=none):b=a:=by
 obtain ⟨bt,bd⟩:=b
 obtain ⟨at',ad⟩:=a
 obtain ⟨h1,_,h3⟩:=h
 have h4:bt=at':=Array.ext_getElem? fun i=>h3 i (hF i)
 cases h1;cases h4;rfl
theorem fA.eval {a b:Act} (h:fA F b a) {x:Operand} (hx:∀ t,x=.tmp t→F t=none):b.eval x=a.eval x:=by
 cases x with
 | tmp t =>
  have h1:=h.2.2 t (hx t rfl)
  show b.tmps.getD t undef=a.tmps.getD t undef
  rw [xbB,xbB,h1]
 | _=>rfl
end
end Go.Proofs.YtomnhnmciopiiaaGreat.Fre
end
section
namespace Go.Proofs.YtomnhnmciopiiaaGreat.Fre
open Go Go.RowKit
abbrev fv:=List (Tmp×(Value→World→Prop))
def aF (L:fv):Made:=fun t=>(L.find? (fun p=>p.1 == t)).map (·.2)
structure eC (X:World→World→Prop) (V:Value→World→Prop):Prop where
 stays:∀ u w w',V u w→Ext X w w'→V u w'
theorem iv {L:fv} {t:Tmp} {V:Value→World→Prop} (h:aF L t=some V):(t,V)∈L:=by
 unfold aF at h
 cases hf:L.find? (fun p=>p.1 == t) with
 | none=>rw [hf] at h;cases h
 | some p =>
  rw [hf] at h
  obtain rfl:=xao h
  have h1:=List.mem_of_find?_eq_some hf
  have h2:=List.find?_some hf
  simp only [beq_iff_eq] at h2
  obtain ⟨a,b⟩:=p
  subst h2
  exact h1
theorem l7 (t:Tmp) (V:Value→World→Prop) (L:fv) (s:Tmp):aF ((t,V) :: L) s=if t=s then some V else aF L s:=by
 unfold aF
 by_cases h:t=s
 ·simp [h]
 ·simp [h]
theorem je:∀ {L:fv} {t:Tmp} {V:Value→World→Prop},(L.map (·.1)).Nodup→(t,V)∈L→aF L t=some V
 | [],_,_,_,hm=>by cases hm
 | (t',V') :: L,t,V,hn,hm=>by
  simp only [List.map_cons,List.nodup_cons] at hn
  rw [l7]
  rcases xax.1 hm with hm | hm
  ·injection hm with e1 e2
   subst e1 e2
   rw [if_pos rfl]
  ·rw [if_neg (fun e=>hn.1 (xav.2 ⟨_,hm,e.symm⟩))]
   exact je hn.2 hm
theorem gl {L:fv} {t:Tmp} (h:(L.map (·.1)).contains t=false):aF L t=none:=by
 cases hm:aF L t with
 | none=>rfl
 | some V =>
  have h1:=iv hm
  have h2:(L.map (·.1)).contains t=true:=by
   rw [List.contains_iff_mem]
   exact xav.2 ⟨_,h1,rfl⟩
  rw [h2] at h;cases h
section
variable {P:Program} {ops:Array Oper} {L:fv} {w0:World} {rest:List Oper} {o:Oper} {a:Act} {Q:Act→Prop} {X:World→World→Prop} [cV X]
omit [cV X] in
theorem sv (hL:∀ p∈L,eC X p.2):stays X (aF L):=fun _ _ hV u w w' hu hw=>(hL _ (iv hV)).stays u w w' hu hw
def cR (keys:List Tmp) (ops:Array Oper) (o:Oper):Bool:=(match o.op with | .select _ _=>false | _=>true)&&(o.looksAt ops).all fun s=>!keys.contains s
theorem tt {keys:List Tmp} (h:cR keys ops o=true):∀ cs b,o.op ≠ .select cs b:=by
 intro cs b e
 unfold cR at h
 rw [e] at h
 cases h
theorem tr {keys:List Tmp} (h:cR keys ops o=true) {x:Operand} (hx:x∈o.op.operands) {t:Tmp} (e:x=.tmp t):keys.contains t=false:=by
 simp only [cR,xaG] at h
 have h2:=xbg.1 h.2 t (by
  unfold Oper.looksAt
  exact xa1 _ (List.mem_filterMap.2 ⟨x,by simpa using hx,by rw [e]⟩))
 simpa using h2
theorem qv {keys:List Tmp} (h:cR keys ops o=true) {g:Nat} {y:Bool} (hg:o.guard=some (g,y)) {t:Tmp} (ht:(ops[g]?).bind (·.dst)=some t):keys.contains t=false:=by
 simp only [cR,xaG] at h
 have h2:=xbg.1 h.2 t (by
  unfold Oper.looksAt
  refine List.mem_append_right _ ?_
  rw [hg]
  simp [ht])
 simpa using h2
theorem mh {F:Made} {b:Act} (hb:fA F b a) (hg:∀ g x,o.guard=some (g,x)→∀ t,(ops[g]?).bind (·.dst)=some t→F t=none):xaw o (yielded ops b.tmps)=xaw o (yielded ops a.tmps):=by
 unfold xaw
 cases hgd:o.guard with
 | none=>rfl
 | some p =>
  obtain ⟨g,x⟩:=p
  simp only
  unfold yielded
  cases ht:(ops[g]?).bind (·.dst) with
  | none=>rfl
  | some t=>simp only [xbv,hb.2.2 t (hg g x hgd t ht)]
theorem eb {b:Act} (hB:cR (L.map (·.1)) ops o=true) (hb:fA (aF L) b a):xaw o (yielded ops b.tmps)=xaw o (yielded ops a.tmps) :=
 mh hb fun _ _ hg _ ht=>gl (qv hB hg ht)
theorem gk {b:Act} (hB:cR (L.map (·.1)) ops o=true) (hb:fA (aF L) b a):execOp b.eval o=execOp a.eval o :=
 execOp_congr o (tt hB) fun _ hx=>hb.eval fun _ e=>gl (tr hB hx e)
omit [cV X] in
theorem ae (v:Value) (hB:cR (L.map (·.1)) ops o=true) (hw:xaw o (yielded ops a.tmps)=true) (hd:o.dst.bind (aF L)=none)
  (hrun:∀ w,Ext X w0 w→(execOp a.eval o).run P w=.ok (.value v) w) (h:bK X P ops (aF L) w0 Q rest (a.put o.dst v)):bK X P ops (aF L) w0 Q (o :: rest) a:=by
 refine ⟨v,fun b w hx hb _=>⟨fun _=>?_,fun h2=>?_⟩,h⟩
 ·rw [hd,gk hB hb,hrun w hx]
  exact ⟨rfl,rfl⟩
 ·rw [eb hB hb,hw] at h2;cases h2
omit [cV X] in
theorem bF (hB:cR (L.map (·.1)) ops o=true) (hw:xaw o (yielded ops a.tmps)=false) (hd:o.dst.bind (aF L)=none)
  (h:bK X P ops (aF L) w0 Q rest (a.put o.dst undef)):bK X P ops (aF L) w0 Q (o :: rest) a:=by
 refine ⟨undef,fun b w hx hb _=>⟨fun h2=>?_,fun _=>⟨rfl,hd⟩⟩,h⟩
 rw [eb hB hb,hw] at h2;cases h2
omit [cV X] in
theorem dB (v:Value) (f:Nat) (args:Array Value) (hB:cR (L.map (·.1)) ops o=true) (hw:xaw o (yielded ops a.tmps)=true) (hd:o.dst.bind (aF L)=none)
  (hrun:∀ w,(execOp a.eval o).run P w=.ok (.enter f args) w) (hc:∀ w,Ext X w0 w→Calls P f args w fun e w'=>e=.returned v∧Ext X w w')
  (h:bK X P ops (aF L) w0 Q rest (a.put o.dst v)):bK X P ops (aF L) w0 Q (o :: rest) a:=by
 refine ⟨v,fun b w hx hb _=>⟨fun _=>?_,fun h2=>?_⟩,h⟩
 ·rw [hd,gk hB hb,hrun w]
  exact ⟨rfl,hc w hx⟩
 ·rw [eb hB hb,hw] at h2;cases h2
omit [cV X] in
theorem fP (t:Tmp) (V:Value→World→Prop) (hB:cR (L.map (·.1)) ops o=true) (hw:xaw o (yielded ops a.tmps)=true) (hd:o.dst=some t) (hV:aF L t=some V)
  (hrun:∀ w,Ext X w0 w→∃ u w',(execOp a.eval o).run P w=.ok (.value u) w'∧Ext X w w'∧V u w')
  (h:bK X P ops (aF L) w0 Q rest (a.put o.dst undef)):bK X P ops (aF L) w0 Q (o :: rest) a:=by
 refine ⟨undef,fun b w hx hb _=>⟨fun _=>?_,fun h2=>?_⟩,h⟩
 ·obtain ⟨u,w',h1,h2,h3⟩:=hrun w hx
  rw [hd,xbv,hV,gk hB hb,h1]
  exact ⟨rfl,h2,h3,trivial⟩
 ·rw [eb hB hb,hw] at h2;cases h2
omit [cV X] in
theorem fD (t:Tmp) (V:Value→World→Prop) (f:Nat) (args:Array Value) (hB:cR (L.map (·.1)) ops o=true) (hw:xaw o (yielded ops a.tmps)=true) (hd:o.dst=some t) (hV:aF L t=some V)
  (hrun:∀ w,(execOp a.eval o).run P w=.ok (.enter f args) w) (hc:∀ w,Ext X w0 w→Calls P f args w fun e w'=>∃ u,e=.returned u∧Ext X w w'∧V u w')
  (h:bK X P ops (aF L) w0 Q rest (a.put o.dst undef)):bK X P ops (aF L) w0 Q (o :: rest) a:=by
 refine ⟨undef,fun b w hx hb _=>⟨fun _=>?_,fun h2=>?_⟩,h⟩
 ·rw [hd,xbv,hV,gk hB hb,hrun w]
  refine ⟨rfl,rfl,(hc w hx).mono ?_⟩
  rintro e w' ⟨u,h1,h2,h3⟩
  exact ⟨u,h1,h2,h3,trivial⟩
 ·rw [eb hB hb,hw] at h2;cases h2
def fC (s:Tmp) (keys:List Tmp) (ops:Array Oper) (o:Oper):Bool:=(match o.op with | .select _ _=>false | _=>true)&&(o.op.operands.toList.all fun x=>match x with | .tmp t=>t == s||!keys.contains t | _=>true) &&
 (match o.guard with | some (g,_)=>((ops[g]?).bind (·.dst)).toList.all fun t=>!keys.contains t | none=>true)&&(o.looksAt ops).contains s
theorem fN {s:Tmp} {b:Act} (hB:fC s (L.map (·.1)) ops o=true) (hb:fA (aF L) b a):xaw o (yielded ops b.tmps)=xaw o (yielded ops a.tmps):=by
 refine mh hb fun g _ hg t ht=>gl ?_
 simp only [fC,xaG] at hB
 have h:=hB.1.2
 rw [hg] at h
 simpa [ht] using h
theorem iu {s:Tmp} {u:Value} {b:Act} (hB:fC s (L.map (·.1)) ops o=true) (hb:fA (aF L) b a) (hu:b.tmps[s]?=some u):execOp b.eval o=execOp (a.put (some s) u).eval o:=by
 simp only [fC,xaG] at hB
 refine execOp_congr o ?_ fun x hx=>?_
 ·intro cs d e
  have h:=hB.1.1.1
  rw [e] at h
  cases h
 ·refine (hb.fix hu).eval fun t e=>?_
  have h:=xbg.1 hB.1.1.2 x (by simpa using hx)
  rw [e] at h
  simp only [Bool.or_eq_true,beq_iff_eq,Bool.not_eq_true'] at h
  rcases h with h | h
  ·rw [if_pos h]
  ·split
   ·rfl
   ·exact gl h
theorem gD {s:Tmp} {V:Value→World→Prop} {b:Act} {w:World} (hB:fC s (L.map (·.1)) ops o=true) (hV:aF L s=some V) (hh:Holds (aF L) (o.looksAt ops) b w):∃ u,b.tmps[s]?=some u∧V u w:=by
 simp only [fC,xaG] at hB
 exact hh s (by simpa using hB.2) V hV
omit [cV X] in
theorem v8 (s:Tmp) (V:Value→World→Prop) (v:Value) (hB:fC s (L.map (·.1)) ops o=true) (hV:aF L s=some V) (hw:xaw o (yielded ops a.tmps)=true) (hd:o.dst.bind (aF L)=none)
  (hrun:∀ u w,Ext X w0 w→V u w→(execOp (a.put (some s) u).eval o).run P w=.ok (.value v) w) (h:bK X P ops (aF L) w0 Q rest (a.put o.dst v)):bK X P ops (aF L) w0 Q (o :: rest) a:=by
 refine ⟨v,fun b w hx hb hh=>⟨fun _=>?_,fun h2=>?_⟩,h⟩
 ·obtain ⟨u,hu,hVu⟩:=gD hB hV hh
  rw [hd,iu hB hb hu,hrun u w hx hVu]
  exact ⟨rfl,rfl⟩
 ·rw [fN hB hb,hw] at h2;cases h2
omit [cV X] in
theorem eZ (s:Tmp) (V:Value→World→Prop) (v:Value) (f:Nat) (args:Value→Array Value) (hB:fC s (L.map (·.1)) ops o=true) (hV:aF L s=some V) (hw:xaw o (yielded ops a.tmps)=true) (hd:o.dst.bind (aF L)=none)
  (hrun:∀ u w,(execOp (a.put (some s) u).eval o).run P w=.ok (.enter f (args u)) w) (hc:∀ u w,Ext X w0 w→V u w→Calls P f (args u) w fun e w'=>e=.returned v∧Ext X w w')
  (h:bK X P ops (aF L) w0 Q rest (a.put o.dst v)):bK X P ops (aF L) w0 Q (o :: rest) a:=by
 refine ⟨v,fun b w hx hb hh=>⟨fun _=>?_,fun h2=>?_⟩,h⟩
 ·obtain ⟨u,hu,hVu⟩:=gD hB hV hh
  rw [hd,iu hB hb hu,hrun u w]
  exact ⟨rfl,hc u w hx hVu⟩
 ·rw [fN hB hb,hw] at h2;cases h2
omit [cV X] in
theorem po (s:Tmp) (V:Value→World→Prop) (t:Tmp) (V':Value→World→Prop) (hB:fC s (L.map (·.1)) ops o=true) (hV:aF L s=some V) (hw:xaw o (yielded ops a.tmps)=true) (hd:o.dst=some t) (hV':aF L t=some V')
  (hrun:∀ u w,Ext X w0 w→V u w→∃ u' w',(execOp (a.put (some s) u).eval o).run P w=.ok (.value u') w'∧Ext X w w'∧V' u' w')
  (h:bK X P ops (aF L) w0 Q rest (a.put o.dst undef)):bK X P ops (aF L) w0 Q (o :: rest) a:=by
 refine ⟨undef,fun b w hx hb hh=>⟨fun _=>?_,fun h2=>?_⟩,h⟩
 ·obtain ⟨u,hu,hVu⟩:=gD hB hV hh
  obtain ⟨u',w',h1,h2,h3⟩:=hrun u w hx hVu
  rw [hd,xbv,hV',iu hB hb hu,h1]
  exact ⟨rfl,h2,h3,trivial⟩
 ·rw [fN hB hb,hw] at h2;cases h2
def ended:fv→World→Act→(Act→Prop)→Prop
 | [],_,a,K=>K a
 | (t,V) :: L,w,a,K=>∀ u,V u w→ended L w (a.put (some t) u) K
theorem jW (K:Act→Prop) (w:World):∀ (L:fv) (a b:Act),fA (aF L) b a→(L.map (·.1)).Nodup→(∀ t V,(t,V)∈L→∃ u,b.tmps[t]?=some u∧V u w)→ended L w a K→K b
 | [],a,b,hs,_,_,h=>by
  obtain rfl:=hs.eq (fun _=>rfl)
  exact h
 | (t,V) :: L,a,b,hs,hn,hh,h=>by
  obtain ⟨u,hu,hVu⟩:=hh t V (by simp)
  have h2:=h u hVu
  simp only [List.map_cons,List.nodup_cons] at hn
  refine jW K w L _ b ?_ hn.2 (fun s V' hm=>hh s V' (by simp [hm])) h2
  have h3:=hs.fix hu
  refine ⟨h3.1,h3.2.1,fun s hs'=>h3.2.2 s ?_⟩
  show (if s=t then none else aF ((t,V) :: L) s)=none
  split
  ·rfl
  ·rename_i hne
   rw [l7,if_neg (Ne.symm hne)]
   exact hs'
theorem mi {Q:Exit→Act→World→Prop} {a:Act} {w:World} {l:List Oper} (n:Nat) (L:fv) (hm:P.follows .mixedOrders=true)
  (hB:(xb0 .any l.toArray n&&pn .any l.toArray (L.map (·.1)) n&&iP l.toArray (L.map (·.1)) n)=true) (hL:∀ p∈L,eC X p.2) (hn:(L.map (·.1)).Nodup) (hrange:∀ t∈L.map (·.1),t<a.tmps.size)
  (h:bK X P l.toArray (aF L) w (fun a'=>∀ w',Ext X w w'→ended L w' a' fun b=>wpList P l.toArray Q (l.drop n) b w') (l.take n) a) :
  wpAny P .any l.toArray Q l.toArray.size (xbx l.toArray.size false) a w.drew:=by
 refine lR n (L.map (·.1)) (aF L) hm hB (fun t V hV=>xav.2 ⟨_,iv hV,rfl⟩) (sv hL) hrange ?_
 have e:∀ (rest:List Oper) (a:Act),bK X P l.toArray (aF L) w (fun a'=>∀ w',Ext X w w'→ended L w' a' fun b=>wpList P l.toArray Q (l.drop n) b w') rest a →
   bK X P l.toArray (aF L) w (fun a'=>∀ b w',Ext X w w'→fA (aF L) b a'→(∀ t V,aF L t=some V→∃ u,b.tmps[t]?=some u∧V u w')→wpList P l.toArray Q (l.drop n) b w') rest a:=by
  intro rest
  induction rest with
  | nil =>
   intro a h b w' hx hs hh
   exact jW _ w' L a b hs hn (fun t V hm=>hh t V (je hn hm)) (h w' hx)
  | cons o rest ih =>
   intro a h
   obtain ⟨v,h1,h2⟩:=h
   exact ⟨v,h1,ih _ h2⟩
 exact e _ _ h
theorem cq {id:Nat} {Q:Exit→Act→World→Prop} {a:Act} {w:World} {l:List Oper} (n:Nat) (L:fv) (hm:P.follows .mixedOrders=true)
  (hB:(xb0 .any l.toArray n&&pn .any l.toArray (L.map (·.1)) n&&iP l.toArray (L.map (·.1)) n)=true) (hL:∀ p∈L,eC X p.2) (hn:(L.map (·.1)).Nodup) (hrange:∀ t∈L.map (·.1),t<a.tmps.size)
  (h:bK X P l.toArray (aF L) w (fun a'=>∀ w',Ext X w w'→ended L w' a' fun b=>wpList P l.toArray Q (l.drop n) b w') (l.take n) a) :
  (Code.region id l.toArray true).wp P Q a w:=wp_region_any hm (mi n L hm hB hL hn hrange h)
end
end Go.Proofs.YtomnhnmciopiiaaGreat.Fre
end
section
namespace Go.Proofs.YtomnhnmciopiiaaGreat.Fre
open Go Go.RowKit
section
variable {P:Program} {ops:Array Oper} {md:Region.Mode} {F:Made} {w0:World} {X:World→World→Prop} [cV X]
theorem xB {n j:Nat} {d:Array Bool} (hn:n=ops.size) (hj:j∈xbo md ops d):j<n:=by
 obtain ⟨_,oj,hoj,_⟩:=mem_ready.1 hj
 rw [hn]
 exact (Array.getElem?_eq_some_iff.1 hoj).1
omit [cV X] in
theorem qh {n i:Nat} {oi:Oper} {v:Value} {L:Array Bool→Act→Prop} (hi:ops[i]?=some oi) (hsel:∀ (j:Nat) (o:Oper) cs b,ops[j]?=some o→o.op ≠ .select cs b)
  (hn:n=ops.size) (hin:i<n) (hdone:∀ d a,L d a→∀ j∈xbo md ops d,n≤j) (f:Nat) :
  ∀ (d:Array Bool) (a:Act),HeadInv md ops n d →
   (∀ j oj,ops[j]?=some oj→j ≠ i→d.getD j true=false→(∀ e∈oj.after,xbR md e=true→e.on ≠ i)→oi.apart ops oj=true) →
   i∈xbo md ops d→kp X P ops F w0 oi v a →
   lX X P md ops F w0 n L f (d.setIfInBounds i true) (a.put oi.dst v)→lX X P md ops F w0 n L (f+1) d a:=by
 have own:∀ (K:Act→Prop) (a:Act),kp X P ops F w0 oi v a→K (a.put oi.dst v)→iE X P ops F w0 i K a:=by
  intro K a hy hk
  unfold iE
  simp only [hi]
  exact ⟨v,hy,hk⟩
 induction f with
 | zero =>
  intro d a inv _ hr hy H
  refine ⟨xbI hr,fun j hj=>?_⟩
  have hjn:=xB hn hj
  refine ⟨hjn,?_⟩
  rcases xb3 j i with hji | hji
  ·exact absurd (hdone _ _ H j (ready_mono hj hji)) (by omega)
  ·subst hji
   exact own _ _ hy H
 | succ f ih =>
  intro d a inv hfree hr hy H
  refine ⟨xbI hr,fun j hj=>?_⟩
  have hjn:=xB hn hj
  refine ⟨hjn,?_⟩
  rcases xb3 j i with hji | hji
  ·obtain ⟨hjun,oj,hoj,hall⟩:=mem_ready.1 hj
   have hnot:∀ e∈oj.after,xbR md e=true→e.on ≠ i:=by
    intro e he hb heq
    have h1:=hall e he hb
    rw [heq,getD_both (mem_ready.1 hr).1] at h1
    cases h1
   have hstep:=oM hoj (hfree j oj hoj hji hjun hnot) (fun cs b=>hsel i oi cs b hi) (fun cs b=>hsel j oj cs b hoj) hy (H.2 j (ready_mono hj hji)).2
   refine mK (fun a' h3=>ih (d.setIfInBounds j true) a' (inv.set hj hjn) ?_ (ready_mono hr (Ne.symm hji)) h3.1 ?_) hstep
   ·intro k ok hk hki hunk hno
    refine hfree k ok hk hki ?_ hno
    rcases xb3 j k with hjk | hjk
    ·rwa [getD_set_ne true hjk] at hunk
    ·subst hjk
     exact hjun
   ·rw [xb6 _ _ hji]
    exact h3.2
  ·subst hji
   exact own _ _ hy H
omit [cV X] in
theorem nv {n g:Nat} {Lq:Act→Prop} (hsel:xbD ops=true) (hn:n=ops.size) :
  ∀ (l:List Oper) (k:Nat) (d:Array Bool) (a:Act),(∀ j,j<l.length→l[j]?=ops[k+j]?)→k+l.length=n→HeadInv md ops n d→(∀ i,i<k→d.getD i false=true) →
  xbz md ops g l.length k d=true→bK X P ops F w0 Lq l a →
  lX X P md ops F w0 n (fun d' a'=>(xcv md ops g n d'=true∧∀ i,i<n→d'.getD i false=true)∧Lq a') l.length d a
 | [],k,d,a,_,hk,_,hd,hB,h=>by
  obtain rfl:k=n:=by simpa using hk
  exact ⟨⟨by simpa [xbz] using hB,hd⟩,h⟩
 | o :: l,k,d,a,hl,hk,inv,hd,hB,h=>by
  have h0:ops[k]?=some o:=by simpa using (hl 0 (by simp)).symm
  simp only [xaE,xbz,xaG] at hB
  obtain ⟨⟨hr,hf⟩,hB'⟩:=hB
  have hkn:k<n:=by simp only [xaE] at hk;omega
  have hr':k∈xbo md ops d:=by simpa using hr
  obtain ⟨v,hy,hK⟩:=h
  refine qh h0 (xcl hsel) hn hkn (fun d' a' hL=>seqB_ready hL.1.1) l.length d a inv (Region.free_spec h0 hf) hr' hy ?_
  refine nv hsel hn l (k+1) _ _ (fun j hj=>?_) (by simp only [xaE] at hk;omega) (inv.set hr' hkn) (fun i hi=>?_) hB' hK
  ·have:=hl (j+1) (by simp;omega)
   simpa [Nat.add_assoc,Nat.add_comm 1 j] using this
  ·by_cases e:k=i
   ·subst e
    have:k<d.size:=by rw [inv.size];omega
    simp [this]
   ·rw [getD_set_ne false e]
    exact hd i (by omega)
theorem oK {id:Nat} {Q:Exit→Act→World→Prop} {a:Act} {w:World} {l:List Oper} (keys:List Tmp) (F:Made) (hm:P.follows .mixedOrders=true)
  (hB:(xbD l.toArray&&xbz .any l.toArray 0 l.length 0 (xbx l.toArray.size false)&&pn .any l.toArray keys l.length&&iP l.toArray keys l.length)=true) (hkeys:∀ t V,F t=some V→t∈keys) (hF:stays X F) (hrange:∀ t∈keys,t<a.tmps.size)
  (h:bK X P l.toArray F w (fun a'=>∀ b w',Ext X w w'→fA F b a'→(∀ t V,F t=some V→∃ u,b.tmps[t]?=some u∧V u w')→Q .normal b w') l a) :
  (Code.region id l.toArray true).wp P Q a w:=by
 simp only [xaG] at hB
 obtain ⟨⟨⟨hsel,hlex⟩,hmade⟩,hallm⟩:=hB
 have inv0:HeadInv .any l.toArray l.length (xbx l.toArray.size false) :=
  ⟨by simp,fun j oj _ hl=>(by rw [getD_replicate_false] at hl;cases hl),fun t ht ht'=>absurd ht' (by simp;omega)⟩
 have H:=nv (md:=.any) (g:=0) (n:=l.length) hsel (by simp) l 0 _ a (fun j hj=>by simp) (by simp) inv0 (fun i hi=>absurd hi (Nat.not_lt_zero _)) hlex h
 refine wp_region_any hm ?_
 have hfin:=hT (Q':=Q) (g:=0) (size:=a.tmps.size) hF hkeys hmade (fun _ _ _ _ _=>trivial) (fun t V h=>hrange t (hkeys t V h)) (fun d a' b w' _ hsim hL=>by
  have mk:∀ t V,F t=some V→∃ i oi,l.toArray[i]?=some oi∧d.getD i false=true∧oi.dst=some t:=by
   intro t V hFt
   have h5:=xbg.1 hallm t (hkeys t V hFt)
   obtain ⟨i,hi,hi2⟩:=xb9.1 h5
   simp only [beq_iff_eq] at hi2
   cases hoi:l.toArray[i]? with
   | none=>simp [hoi] at hi2
   | some oi=>exact ⟨i,oi,hoi,hL.1.2 i (xbb.1 hi),by simpa [hoi] using hi2⟩
  have h2:=hL.2 b w' hsim.1 hsim.2.1 (fun t V hFt=>by
   obtain ⟨i,oi,hoi,hdn,hdst⟩:=mk t V hFt
   exact hsim.2.2 i oi t V hoi hdn hdst hFt)
  exact ⟨by simpa [xcv] using hL.1.1,h2⟩) _ _ a a w.drew rfl inv0 ⟨Ext.drew w,⟨rfl,rfl,fun _ _=>rfl⟩,fun i o t V _ hd=>by rw [getD_replicate_false] at hd;cases hd⟩ H
 rw [show l.length+0=l.toArray.size by simp] at hfin
 exact hfin
end
section
variable {P:Program} {ops:Array Oper} {L:fv} {w0:World} {X:World→World→Prop} [cV X]
theorem aV {id:Nat} {Q:Exit→Act→World→Prop} {a:Act} {w:World} {l:List Oper} (L:fv) (hm:P.follows .mixedOrders=true)
  (hB:(xbD l.toArray&&xbz .any l.toArray 0 l.length 0 (xbx l.toArray.size false)&&pn .any l.toArray (L.map (·.1)) l.length&&iP l.toArray (L.map (·.1)) l.length)=true) (hL:∀ p∈L,eC X p.2) (hn:(L.map (·.1)).Nodup) (hrange:∀ t∈L.map (·.1),t<a.tmps.size)
  (h:bK X P l.toArray (aF L) w (fun a'=>∀ w',Ext X w w'→ended L w' a' fun b=>Q .normal b w') l a) :
  (Code.region id l.toArray true).wp P Q a w:=by
 refine oK (L.map (·.1)) (aF L) hm hB (fun t V hV=>xav.2 ⟨_,iv hV,rfl⟩) (sv hL) hrange ?_
 have e:∀ (rest:List Oper) (a:Act),bK X P l.toArray (aF L) w (fun a'=>∀ w',Ext X w w'→ended L w' a' fun b=>Q .normal b w') rest a →
   bK X P l.toArray (aF L) w (fun a'=>∀ b w',Ext X w w'→fA (aF L) b a'→(∀ t V,aF L t=some V→∃ u,b.tmps[t]?=some u∧V u w')→Q .normal b w') rest a:=by
  intro rest
  induction rest with
  | nil =>
   intro a h b w' hx hs hh
   exact jW _ w' L a b hs hn (fun t V hm=>hh t V (je hn hm)) (h w' hx)
  | cons o rest ih =>
   intro a h
   obtain ⟨v,h1,h2⟩:=h
   exact ⟨v,h1,ih _ h2⟩
 exact e _ _ h
end
end Go.Proofs.YtomnhnmciopiiaaGreat.Fre
end
section
namespace Go.Proofs.YtomnhnmciopiiaaGreat
open Go Go.RowKit
def Bel (w w':World):Prop:=Below w.heap.size w w'
instance:Fre.cV Bel where
 refl:=fun w=>xaq _ w
 trans:=fun _ _ _ h k=>Below.trans h (xam k h.size)
 drew:=fun w=>(xaq _ w).drew
end Go.Proofs.YtomnhnmciopiiaaGreat
end
section
namespace Go.Proofs.YtomnhnmciopiiaaGreat
open Go Go.RowKit
theorem aZ {P:Program} {ρ:Operand→Value} {o:Oper} (t:TypeId) (x y:Operand) (r:TypeId) (ho:o.op=.binOp .add t x y r) (a b:ByteArray) (hx:ρ x=.string a) (hy:ρ y=.string b) (hs:a.size+b.size≤9223372036854775807) (W:World):(execOp ρ o).run P W=.ok (.value (.string (a++b))) W:=by
 unfold execOp
 simp [ho,hx,hy,go_sem,eqGuard,binOp,hs]
end Go.Proofs.YtomnhnmciopiiaaGreat
end
section
namespace Go.Proofs.YtomnhnmciopiiaaGreat
open Go Go.RowKit Go.Maps
theorem wN {p:Pth} {w:World} {g:Nat} (_:okP p) (hb:Blk w g 83 (pC p).toArray):w.rangeAt g 0 (bv p.1):=by
 have h1:=dP hb
 exact cz (c2:=[.string p.2]) (by simpa [pC] using h1)
theorem pG {p:Pth} {w:World} {g:Nat} (h:okP p) (hb:Blk w g 83 (pC p).toArray):w.cell? ⟨g,20,none⟩=some (.string p.2):=by
 rw [hb.cell,xbn]
 have hl:(bv p.1).length=20:=by rw [bvL];exact h.1
 rw [show pC p=bv p.1++[.string p.2] from rfl,List.getElem?_append_right (by omega),hl]
 rfl
def fS (p:Pth):ByteArray:=⟨(aQ p.1).toArray⟩++⟨#[45]⟩++p.2
theorem du {s:ByteArray} (h:bT s=true):s.size≤24:=by
 unfold bT fk at h
 simp only [xaG] at h
 have:=of_decide_eq_true h.2.2.1
 omega
theorem tH {h:Hsh} {s:ByteArray} (hh:okH h) (hs:s.size≤24):(⟨(aQ h).toArray⟩:ByteArray).size+(⟨#[45]⟩:ByteArray).size≤9223372036854775807∧(⟨(aQ h).toArray⟩++⟨#[45]⟩:ByteArray).size+s.size≤9223372036854775807:=by
 have hll:=dq h
 have hpl:h.length=20:=hh
 have hs1:(⟨(aQ h).toArray⟩:ByteArray).size=(aQ h).length:=rfl
 have hs2:(⟨#[45]⟩:ByteArray).size=1:=rfl
 rw [xaC,hs1,hs2]
 omega
theorem y4 (w:World) (p:Pth) (hp:okP p) :
  Calls Tryz.prog 182 #[.agg (pC p).toArray] w fun e w'=>e=.returned (if bT p.2=true then .tuple #[.string (fS p),.int .i64 0] else .tuple #[.string ⟨#[]⟩,.int .i64 2])∧Below w.heap.size w w':=by
 obtain ⟨w1,hw1⟩:∃ w1,w1=w.alloc (.cells (pC p).toArray 83):=⟨_,rfl⟩
 have hb1:Below w.heap.size w w1:=by rw [hw1];exact (xaq _ w).alloc (xai _) _
 have hk1:Blk w1 w.heap.size 83 (pC p).toArray:=by rw [hw1];exact Blk.new _ _ _
 have c20:=pG hp hk1
 have H1:=ah (xae hk1 hb1)
 have HW1:=ah hw1
 clear hk1 hb1 hw1
 go_enter Tryz.func182,Tryz.ntmps182
 go_wp2_with ((with_reducible refine ag 1 ?_);refine aa rfl (.pointer (some ⟨w.heap.size,0,none⟩)) w1 (by rw [HW1.out];kernel_rfl) ?_)
 refine (kO p.2 hp.2 w1).mono ?_
 rintro e w2 ⟨rfl,hb⟩
 dsimp only
 have HK:=ah (xae (H1.out.1.below hb H1.out.1.lt) (H1.out.2.trans (xam hb H1.out.2.size)))
 clear hb
 by_cases hn:bT p.2=true
 ·have HL:=ah (tH hp.1 (du hn))
  rw [hn]
  go_wp2_with fail
  refine Fre.cq (X:=Bel) 7 [] (by kernel_rfl) (by kernel_rfl) (by simp) (by simp) (by simp) ?_
  simp only [xaI,xaR,xaH,xaQ]
  refine Fre.ae (.pointer (some ⟨w.heap.size,0,none⟩)) (by kernel_rfl) (by kernel_rfl) (by kernel_rfl) (fun _ _=>by kernel_rfl) ?_
  simp only [xad,xaa,xac,xab]
  refine Fre.ae (.agg (bv p.1).toArray) (by kernel_rfl) (by kernel_rfl) (by kernel_rfl) (fun W9 hW9=>aj 34 (.tmp 8) rfl w.heap.size (0) rfl (bv p.1) _ W9 (wN hp (HK.out.1.below hW9 HK.out.1.lt)) Tryz.underlying34 rfl (by have:=eX hp.1;simpa using this)) ?_
  simp only [xad,xaa,xac,xab]
  refine Fre.dB (.string ⟨(aQ p.1).toArray⟩) 181 #[.agg (bv p.1).toArray] (by kernel_rfl) (by kernel_rfl) (by kernel_rfl) (fun W9=>by kernel_rfl) (fun W9 hW9=>(l6 W9 p.1 hp.1)) ?_
  simp only [xad,xaa,xac,xab]
  refine Fre.ae (.string (⟨(aQ p.1).toArray⟩++⟨#[45]⟩)) (by kernel_rfl) (by kernel_rfl) (by kernel_rfl) (fun W9 hW9=>aZ 9 (.tmp 10) (.const (.string ⟨#[45]⟩)) 9 rfl (⟨(aQ p.1).toArray⟩) (⟨#[45]⟩) rfl rfl (by have:=HL.out;exact this.1) W9) ?_
  simp only [xad,xaa,xac,xab]
  refine Fre.ae (.pointer (some ⟨w.heap.size,20,none⟩)) (by kernel_rfl) (by kernel_rfl) (by kernel_rfl) (fun _ _=>by kernel_rfl) ?_
  simp only [xad,xaa,xac,xab]
  refine Fre.ae (.string p.2) (by kernel_rfl) (by kernel_rfl) (by kernel_rfl) (fun W9 hW9=>exec_load_cell 9 (.tmp 12) rfl ⟨w.heap.size,20,none⟩ rfl _ _ W9 Tryz.underlying9 rfl (pG hp (HK.out.1.below hW9 HK.out.1.lt))) ?_
  simp only [xad,xaa,xac,xab]
  refine Fre.ae (.string ((⟨(aQ p.1).toArray⟩++⟨#[45]⟩)++p.2)) (by kernel_rfl) (by kernel_rfl) (by kernel_rfl) (fun W9 hW9=>aZ 9 (.tmp 11) (.tmp 13) 9 rfl ((⟨(aQ p.1).toArray⟩++⟨#[45]⟩)) (p.2) rfl rfl (by have:=HL.out;exact this.2) W9) ?_
  simp only [xad,xaa,xac,xab]
  intro w4 hx4
  have H4:=ah (HK.out.2.trans (xam hx4 HK.out.2.size))
  clear hx4
  dsimp only [Fre.ended,xas]
  go_wp2_with fail
  refine bodyPost_ret (v:=.tuple #[.string (fS p),.int .i64 0]) (by simp [results,Tryz.results182,fS,go_sem]) rfl ?_
  exact ⟨rfl,H4.out⟩
 ·have hn':bT p.2=false:=by simpa using hn
  rw [hn']
  go_wp2_with fail
  refine bodyPost_ret (v:=.tuple #[.string ⟨#[]⟩,.int .i64 2]) (by simp [results,Tryz.results182,go_sem]) rfl ?_
  exact ⟨rfl,HK.out.2⟩
def fj (x:Nam):ByteArray:=if x.2.2.2=true then ⟨#[99,108,97,115,115,32]⟩++x.1++⟨#[32]⟩++⟨(aQ x.2.2.1).toArray⟩ else ⟨#[115,114,99,32]⟩++x.1++⟨#[32]⟩++fS x.2.1
theorem ka (p:Pth):(fS p).size=(aQ p.1).length+1+p.2.size:=by
 rw [fS,xaC,xaC]
 rfl
theorem rL {x:Nam} (h:okN x) (hs:x.1.size≤24):(⟨#[99,108,97,115,115,32]⟩:ByteArray).size+x.1.size≤9223372036854775807∧(⟨#[99,108,97,115,115,32]⟩++x.1:ByteArray).size+(⟨#[32]⟩:ByteArray).size≤9223372036854775807∧(⟨#[99,108,97,115,115,32]⟩++x.1++⟨#[32]⟩:ByteArray).size+(⟨(aQ x.2.2.1).toArray⟩:ByteArray).size≤9223372036854775807:=by
 have hll:=dq x.2.2.1
 have hpl:x.2.2.1.length=20:=h.2.2
 have hs1:(⟨(aQ x.2.2.1).toArray⟩:ByteArray).size=(aQ x.2.2.1).length:=rfl
 have hs2:(⟨#[32]⟩:ByteArray).size=1:=rfl
 have hs3:(⟨#[99,108,97,115,115,32]⟩:ByteArray).size=6:=rfl
 simp only [xaC,hs1,hs2,hs3]
 omega
theorem rM {x:Nam} (h:okN x) (hs:x.1.size≤24) (hp:x.2.1.2.size≤24):(⟨#[115,114,99,32]⟩:ByteArray).size+x.1.size≤9223372036854775807∧(⟨#[115,114,99,32]⟩++x.1:ByteArray).size+(⟨#[32]⟩:ByteArray).size≤9223372036854775807∧(⟨#[115,114,99,32]⟩++x.1++⟨#[32]⟩:ByteArray).size+(fS x.2.1).size≤9223372036854775807:=by
 have hll:=dq x.2.1.1
 have hpl:x.2.1.1.length=20:=h.2.1.1
 have hs2:(⟨#[32]⟩:ByteArray).size=1:=rfl
 have hs3:(⟨#[115,114,99,32]⟩:ByteArray).size=4:=rfl
 simp only [xaC,ka,hs2,hs3]
 omega
theorem yz (w:World) (x:Nam) (hx:okN x) (hnm:x.1.size≤24) (hsrc:x.2.2.2=false→bT x.2.1.2=true) :
  Calls Tryz.prog 160 #[.agg (nC x).toArray] w fun e w'=>e=.returned (.string (fj x))∧Below w.heap.size w w':=by
 obtain ⟨w1,hw1⟩:∃ w1,w1=w.alloc (.cells (nC x).toArray 87):=⟨_,rfl⟩
 have hb1:Below w.heap.size w w1:=by rw [hw1];exact (xaq _ w).alloc (xai _) _
 have hk1:Blk w1 w.heap.size 87 (nC x).toArray:=by rw [hw1];exact Blk.new _ _ _
 have H1:=ah (xae hk1 hb1)
 have HW1:=ah hw1
 clear hk1 hb1 hw1
 by_cases his:x.2.2.2=true
 ·have HIS:=ah his
  have c42:=fR hx H1.out.1
  rw [his] at c42
  have HL:=ah (rL (x:=x) hx hnm)
  clear his
  go_enter Tryz.func160,Tryz.ntmps160
  go_wp2_with ((with_reducible refine ag 1 ?_);refine aa rfl (.pointer (some ⟨w.heap.size,0,none⟩)) w1 (by rw [HW1.out];kernel_rfl) ?_)
  refine Fre.cq (X:=Bel) 9 [] (by kernel_rfl) (by kernel_rfl) (by simp) (by simp) (by simp) ?_
  simp only [xaI,xaR,xaH,xaQ]
  refine Fre.ae (.pointer (some ⟨w.heap.size,0,none⟩)) (by kernel_rfl) (by kernel_rfl) (by kernel_rfl) (fun _ _=>by kernel_rfl) ?_
  simp only [xad,xaa,xac,xab]
  refine Fre.ae (.string x.1) (by kernel_rfl) (by kernel_rfl) (by kernel_rfl) (fun W9 hW9=>exec_load_cell 9 (.tmp 8) rfl ⟨w.heap.size,0,none⟩ rfl _ _ W9 Tryz.underlying9 rfl (fa (H1.out.1.below hW9 H1.out.1.lt))) ?_
  simp only [xad,xaa,xac,xab]
  refine Fre.ae (.string (⟨#[99,108,97,115,115,32]⟩++x.1)) (by kernel_rfl) (by kernel_rfl) (by kernel_rfl) (fun W9 hW9=>aZ 9 (.const (.string ⟨#[99,108,97,115,115,32]⟩)) (.tmp 9) 9 rfl (⟨#[99,108,97,115,115,32]⟩) (x.1) rfl rfl HL.out.1 W9) ?_
  simp only [xad,xaa,xac,xab]
  refine Fre.ae (.string ((⟨#[99,108,97,115,115,32]⟩++x.1)++⟨#[32]⟩)) (by kernel_rfl) (by kernel_rfl) (by kernel_rfl) (fun W9 hW9=>aZ 9 (.tmp 10) (.const (.string ⟨#[32]⟩)) 9 rfl ((⟨#[99,108,97,115,115,32]⟩++x.1)) (⟨#[32]⟩) rfl rfl HL.out.2.1 W9) ?_
  simp only [xad,xaa,xac,xab]
  refine Fre.ae (.pointer (some ⟨w.heap.size,1,none⟩)) (by kernel_rfl) (by kernel_rfl) (by kernel_rfl) (fun _ _=>by kernel_rfl) ?_
  simp only [xad,xaa,xac,xab]
  refine Fre.ae (.pointer (some ⟨w.heap.size,22,none⟩)) (by kernel_rfl) (by kernel_rfl) (by kernel_rfl) (fun _ _=>by kernel_rfl) ?_
  simp only [xad,xaa,xac,xab]
  refine Fre.ae (.agg (bv x.2.2.1).toArray) (by kernel_rfl) (by kernel_rfl) (by kernel_rfl) (fun W9 hW9=>aj 34 (.tmp 13) rfl w.heap.size (22) rfl (bv x.2.2.1) _ W9 (gS hx (H1.out.1.below hW9 H1.out.1.lt)) Tryz.underlying34 rfl (by have:=eX hx.2.2;simpa using this)) ?_
  simp only [xad,xaa,xac,xab]
  refine Fre.dB (.string ⟨(aQ x.2.2.1).toArray⟩) 181 #[.agg (bv x.2.2.1).toArray] (by kernel_rfl) (by kernel_rfl) (by kernel_rfl) (fun W9=>by kernel_rfl) (fun W9 hW9=>(l6 W9 x.2.2.1 hx.2.2)) ?_
  simp only [xad,xaa,xac,xab]
  refine Fre.ae (.string ((⟨#[99,108,97,115,115,32]⟩++x.1++⟨#[32]⟩)++⟨(aQ x.2.2.1).toArray⟩)) (by kernel_rfl) (by kernel_rfl) (by kernel_rfl) (fun W9 hW9=>aZ 9 (.tmp 11) (.tmp 15) 9 rfl ((⟨#[99,108,97,115,115,32]⟩++x.1++⟨#[32]⟩)) (⟨(aQ x.2.2.1).toArray⟩) rfl rfl HL.out.2.2 W9) ?_
  simp only [xad,xaa,xac,xab]
  intro w4 hx4
  have H4:=ah (H1.out.2.trans (xam hx4 H1.out.2.size))
  clear hx4
  dsimp only [Fre.ended,xas]
  go_wp2_with fail
  go_ret
  exact ⟨by rw [fj,if_pos HIS.out];rfl,H4.out⟩
 ·have his':x.2.2.2=false:=by simpa using his
  have HIS:=ah his
  have c42:=fR hx H1.out.1
  rw [his'] at c42
  have hszp:(Tryz.prog.info? 83).map (·.size)=some (pC x.2.1).length:=by have:=psz hx.2.1;simpa using this
  have hpn:=hsrc his'
  have c0:=fa H1.out.1
  have HL:=ah (rM (x:=x) hx hnm (du hpn))
  have HPN:=ah hpn
  clear his his' hsrc hpn
  go_enter Tryz.func160,Tryz.ntmps160
  go_wp2_with (first | ((with_reducible refine ag 1 ?_);(refine aa rfl (.pointer (some ⟨w.heap.size,0,none⟩)) w1 (by rw [HW1.out];kernel_rfl) ?_)) | ((with_reducible refine ag 20 ?_);(refine aa rfl (.agg (pC x.2.1).toArray) w1 (aj 83 (.tmp 19) rfl w.heap.size (1) rfl (pC x.2.1) _ w1 (lG H1.out.1) Tryz.underlying83 rfl hszp) ?_)))
  refine (y4 w1 x.2.1 hx.2.1).mono ?_
  rintro e w2 ⟨rfl,hb⟩
  rw [if_pos HPN.out]
  dsimp only
  have c0':=fa (H1.out.1.below hb H1.out.1.lt)
  have H2:=ah (H1.out.2.trans (xam hb H1.out.2.size))
  have hs1:=HL.out.1
  have hs2:=HL.out.2.1
  have hs3:=HL.out.2.2
  clear hb c0 c42
  go_wp2_with (first | ((with_reducible refine ag 26 ?_);(refine aa rfl (.string (⟨#[115,114,99,32]⟩++x.1)) w2 (aZ _ _ _ _ rfl ⟨#[115,114,99,32]⟩ x.1 rfl rfl hs1 w2) ?_)) | ((with_reducible refine ag 27 ?_);(refine aa rfl (.string (⟨#[115,114,99,32]⟩++x.1++⟨#[32]⟩)) w2 (aZ _ _ _ _ rfl (⟨#[115,114,99,32]⟩++x.1) ⟨#[32]⟩ rfl rfl hs2 w2) ?_)) | ((with_reducible refine ag 29 ?_);(refine aa rfl (.string (⟨#[115,114,99,32]⟩++x.1++⟨#[32]⟩++fS x.2.1)) w2 (aZ _ _ _ _ rfl (⟨#[115,114,99,32]⟩++x.1++⟨#[32]⟩) (fS x.2.1) rfl rfl hs3 w2) ?_)))
  go_ret
  exact ⟨by rw [fj,if_neg HIS.out];rfl,H2.out⟩
end Go.Proofs.YtomnhnmciopiiaaGreat
end
section
namespace Go.Proofs.YtomnhnmciopiiaaGreat
open Go Go.RowKit Go.Maps
def zQ:List UInt8:=[48,49,50,51,52,53,54,55,56,57,97,98,99,100,101,102]
def a6 (k:Int):UInt8:=zQ.getD k.toNat 0
def eE:ByteArray:=⟨#[48,49,50,51,52,53,54,55,56,57,97,98,99,100,101,102]⟩
theorem oV (k:Int) (h0:0≤k) (h1:k<16) (t:TypeId) (ht:Tryz.prog.underlying t=some .string) (w:World):(Instr.index t (.string eE) (.int .u8 k)).run Tryz.prog w=.ok (.int .u8 ((a6 k).toNat:Int)) w:=by
 obtain ⟨n,rfl⟩:=Int.eq_ofNat_of_zero_le h0
 have h:=run_index_string (P:=Tryz.prog) w t eE .u8 (n:Int) ht
 have h3:∀ k:Fin 16,(eE[k.val]'(k.isLt)).toNat=(a6 (k.val:Int)).toNat:=by decide
 have h2:0≤(n:Int)∧(n:Int)<(eE.size:Int):=⟨by omega,by rw [show eE.size=16 from rfl];omega⟩
 rw [h,dif_pos h2]
 have h4:=h3 ⟨n,by omega⟩
 dsimp only at h4
 have h5:(eE[(n:Int).toNat]'(by rw [Int.toNat_natCast];exact (show n<16 by omega))).toNat=(a6 (n:Int)).toNat:=h4
 rw [h5]
theorem kA {P:Program} {ρ:Operand→Value} {o:Oper} (t:TypeId) (x y:Operand) (ho:o.op=.index t x y) (s:ByteArray) (k:IntKind) (i:Int) (hx:ρ x=.string s) (hy:ρ y=.int k i) (v:Value) (hv:∀ W,(Instr.index t (.string s) (.int k i)).run P W=.ok v W) (W:World):(execOp ρ o).run P W=.ok (.value v) W:=by
 unfold execOp
 simp only [ho,hx,hy,xaK,hv W,xaA,xaN]
theorem BW (c:Int) (h0:0≤c) (h1:c≤255):bits .and .u8 c 15=c % 16:=bits_mask .u8 8 (by decide) wraps_u8 4 (by decide) c h0 (by omega)
theorem bl {w:World} {g n m:Nat} {t:TypeId} {cs:List Value} (hb:Blk w g t cs.toArray) (hl:cs.length=m*n) (h1:∀ u∈cs,u.oneCell'=true):fY w n (some ⟨g,0,none⟩) m m cs :=
 ⟨hl,(fun h=>by cases h),h1,fun ad had j u hu=>by
  injection had with had
  subst had
  rw [Addr.add_mid,Nat.zero_add,hb.cell]
  simpa using hu⟩
def Bd (xs:List Value) (u:Value) (w:World):Prop:=∃ r,u=.slice (some ⟨r,0,none⟩) 2 2∧fY w 1 (some ⟨r,0,none⟩) 2 2 xs
theorem zi (W:World) (a b:Int):Bd [.int .u8 a,.int .u8 b] (.slice (some ⟨W.heap.size,0,none⟩) 2 2) (W.alloc (.cells #[.int .u8 a,.int .u8 b] 5)) :=
 ⟨_,rfl,bl (n:=1) (m:=2) (Blk.new _ _ _) rfl (fun v hv=>by simp only [xax,xaP,or_false] at hv;rcases hv with rfl | rfl<;>rfl)⟩
theorem AN (xs:List Value):Fre.eC Bel (Bd xs):=⟨fun u w w' ⟨r,h1,h2⟩ hx=>⟨r,h1,h2.below hx⟩⟩
def ck (b:List Int):List UInt8:=b.flatMap fun c=>[a6 (c / 16),a6 (c % 16)]
def cH (b:List Int):List UInt8:=if b=[] then [45] else ck b
theorem iz (b:List Int):(ck b).length=2*b.length:=by
 induction b with
 | nil=>rfl
 | cons c b ih=>rw [ck,List.flatMap_cons,xap,show (b.flatMap fun c=>[a6 (c / 16),a6 (c % 16)])=ck b from rfl,ih];simp;omega
theorem ua (b:List Int) (j:Nat) (c:Int) (h:b[j]?=some c):bv (ck (b.take (j+1)))=bv (ck (b.take j))++[.int .u8 ((a6 (c / 16)).toNat:Int),.int .u8 ((a6 (c % 16)).toNat:Int)]:=by
 rw [xaz,h,ck,List.flatMap_append]
 simp [bv,ck]
theorem pF {w:World} {base g n cap s:Nat} {e:TypeId} {xs:List Value} (h:w.ownsRow base e s (.slice (some ⟨g,0,none⟩) n cap) n xs) (j:Nat) (v:Value) (hv:xs[j]?=some v):w.cell? ⟨g,j,none⟩=some v:=by
 obtain ⟨_,h | ⟨g',cap',cur,e1,_,hb,_,_,_,ht⟩⟩:=h
 ·cases h.1
 ·injection e1 with e1 _ _
  injection e1 with e1
  injection e1 with e1
  subst e1
  have hb':Blk w g e cur:=hb
  rw [hb'.cell]
  rw [← ht,List.getElem?_take] at hv
  split at hv
  ·simpa using hv
  ·cases hv
theorem ky {P:Program} {ρ:Operand→Value} {o:Oper} (src dst:TypeId) (x:Operand) (ho:o.op=.convert src dst x) (v:Value) (hx:ρ x=v) (u:Value) {W:World} (hr:(convert src dst v).run P W=.ok u W):(execOp ρ o).run P W=.ok (.value u) W:=by
 unfold execOp
 simp only [ho,hx,xaK,hr,xaA,xaN]
theorem xg (w:World) (b:List Int) (v:Value) (h:b5.At w w.heap.size [v] b) (hl:b.length≤1000000) :
  Calls Tryz.prog 162 #[v] w fun e w'=>e=.returned (.string ⟨(cH b).toArray⟩)∧Below w.heap.size w w':=by
 obtain ⟨iu8,hih,hq0,hq1,hq2⟩:=info_parts pc
 have HK:=ah (xae hih (xae hq0 (xae hq1 hq2)))
 clear hih hq0 hq1 hq2
 obtain ⟨A,cap,rfl,hcl,hcm,_,hA⟩:=ak h
 have HA:=ah hA
 clear hA h hcm hcl
 by_cases hb0:b=[]
 ·subst hb0
  go_enter Tryz.func162,Tryz.ntmps162
  go_wp2_with fail
  go_ret
  exact ⟨rfl,xaq _ _⟩
 ·have hpos:0<b.length:=List.length_pos_iff.2 hb0
  have e1:((b.length:Int) == 0)=false:=by simpa using hb0
  go_enter Tryz.func162,Tryz.ntmps162
  go_wp2_with (at_make;refine wpList_make_own _ rfl _ _ 24 rfl w.heap.size 5 iu8 _ 1 Tryz.underlying24 HK.out.1 HK.out.2.1 HK.out.2.2.1 _ _ _ (2*b.length) rfl rfl ?hC ?hB ?hM ?hZ ?_)
  case hC=>omega
  case hB=>have:=HK.out.2.2.2;rw [this];omega
  case hM=>simp only [maxLen];omega
  case hZ=>exact xai _
  intro w2 iL gr2
  have H2:=ah (xae iL ((xaq _ w).grown gr2 (xai _) (fun k hk=>by cases hk)))
  clear iL gr2
  go_wp2_with fail
  go_loopw [3,15] (fun x3 x15 wr=>∃ (j:Nat) (u:Value),j≤b.length∧u=x3∧x15=.int .i64 (j:Int)∧wr.ownsRow w.heap.size 5 1 u (2*j) (bv (ck (b.take j)))∧Below w.heap.size w wr) (fun _ x15 _=>b.length-(intOf x15).toNat)
  case atStart=>exact ⟨0,_,by omega,rfl,rfl,H2.out.1,H2.out.2⟩
  case round =>
   obtain ⟨wo,rfl⟩:∃ wo,wo=wr:=⟨_,rfl⟩
   obtain ⟨j,x3,hj,rfl,rfl,hown,hbw⟩:=hrel
   have HI:=ah (xae hown hbw)
   clear hown hbw
   have j0:(0:Int)≤(j:Int):=by omega
   by_cases hj2:j<b.length
   ·have j1:(j:Int)<(b.length:Int):=by omega
    obtain ⟨c,hx⟩:∃ c,b[j]?=some c:=⟨_,xaj hj2⟩
    obtain ⟨bb,off,rfl,hlb,hE⟩:=HA.out (by omega)
    obtain ⟨cs,hr,hcs,hcw⟩:=hE j c hx
    subst hcs
    have hcb:=bounds_u8 hcw
    have c0:0≤c:=hcb.1
    have c1:c≤255:=by omega
    have hc9:wo.cell? ⟨bb,off+j,none⟩=some (.int .u8 c):=by have h9:=a7 hr (HI.out.2.block bb (by omega)) 0 _ rfl;rwa [show off+j*(Lay.int 5 IntKind.u8).n+0=off+j by show off+j*1+0=off+j;omega] at h9
    have HXX:=ah hx
    have HC9:=ah hc9
    clear hx hE hr hcw hc9
    go_wp2_with (first | ((with_reducible refine ag 17 ?_);refine aa rfl (.pointer (some ⟨bb,off+(j:Int).toNat*1,none⟩)) wo (aH 24 5 (.tmp 13) (.tmp 15) rfl bb off b.length cap (j:Int) .i64 rfl rfl ⟨j0,j1⟩ 1 Tryz.underlying24 (by kernel_rfl) wo) ?_;rw [show off+(j:Int).toNat*1=off+j by omega]) | ((with_reducible refine ag 18 ?_);refine aa rfl (.int .u8 c) wo (exec_load_cell 5 (.tmp 17) rfl ⟨bb,off+j,none⟩ rfl _ _ wo Tryz.underlying5 rfl HC9.out) ?_))
    refine Fre.cq (X:=Bel) 8 [(26,Bd [.int .u8 ((a6 (c / 16)).toNat:Int),.int .u8 ((a6 (c % 16)).toNat:Int)])] (by kernel_rfl) (by kernel_rfl) (by intro p hp;rw [xan.1 hp];exact AN _) (by simp) (by simp) ?_
    simp only [xaI,xaR,xaH,xaQ]
    refine Fre.ae (x3) (by kernel_rfl) (by kernel_rfl) (by kernel_rfl) (fun _ _=>by kernel_rfl) ?_
    simp only [xad,xaa,xac,xab]
    refine Fre.ae (.int .u8 c) (by kernel_rfl) (by kernel_rfl) (by kernel_rfl) (fun _ _=>by kernel_rfl) ?_
    simp only [xad,xaa,xac,xab]
    refine Fre.ae (.int .u8 (c / 16)) (by kernel_rfl) (by kernel_rfl) (by kernel_rfl) (fun W9 hW9=>?hs1) ?_
    case hs1 =>
     go_simp
     done
    simp only [xad,xaa,xac,xab]
    refine Fre.ae (.int .u8 ((a6 (c / 16)).toNat:Int)) (by kernel_rfl) (by kernel_rfl) (by kernel_rfl) (fun W9 hW9=>kA 9 (.const (.string ⟨#[48,49,50,51,52,53,54,55,56,57,97,98,99,100,101,102]⟩)) (.tmp 21) rfl eE .u8 (c / 16) rfl rfl _ (fun W=>oV (c / 16) (by omega) (by omega) 9 Tryz.underlying9 W) W9) ?_
    simp only [xad,xaa,xac,xab]
    refine Fre.ae (.int .u8 c) (by kernel_rfl) (by kernel_rfl) (by kernel_rfl) (fun _ _=>by kernel_rfl) ?_
    simp only [xad,xaa,xac,xab]
    refine Fre.ae (.int .u8 (c % 16)) (by kernel_rfl) (by kernel_rfl) (by kernel_rfl) (fun W9 hW9=>?hs2) ?_
    case hs2 =>
     go_simp
     exact BW c c0 c1
    simp only [xad,xaa,xac,xab]
    refine Fre.ae (.int .u8 ((a6 (c % 16)).toNat:Int)) (by kernel_rfl) (by kernel_rfl) (by kernel_rfl) (fun W9 hW9=>kA 9 (.const (.string ⟨#[48,49,50,51,52,53,54,55,56,57,97,98,99,100,101,102]⟩)) (.tmp 24) rfl eE .u8 (c % 16) rfl rfl _ (fun W=>oV (c % 16) (by omega) (by omega) 9 Tryz.underlying9 W) W9) ?_
    simp only [xad,xaa,xac,xab]
    refine Fre.fP 26 _ (by kernel_rfl) (by kernel_rfl) rfl rfl (fun W hW=>⟨.slice (some ⟨W.heap.size,0,none⟩) 2 2,W.alloc (.cells #[.int .u8 ((a6 (c / 16)).toNat:Int),.int .u8 ((a6 (c % 16)).toNat:Int)] 5),by kernel_rfl,(xaq _ W).alloc (xai _) _,zi W _ _⟩) ?_
    simp only [xad,xaa,xac,xab]
    intro w4 hx4
    dsimp only [Fre.ended,xas]
    rintro u26 ⟨r,rfl,hsr⟩
    have HO4:=ah (xae (an HI.out.1 fun g _ hl=>hx4.block g hl) (xae hsr (HI.out.2.trans (xam hx4 HI.out.2.size))))
    clear hsr hx4
    go_wp2_with (at_builtin;((with_reducible refine ag 27 ?_);refine aD rfl _ _ 24 rfl w.heap.size 5 iu8 _ 1 1 Tryz.underlying24 HK.out.1 HK.out.2.1 HK.out.2.2.1 HK.out.2.2.2 rfl (by decide) _ (2*j) (bv (ck (b.take j))) HO4.out.1 (some ⟨r,0,none⟩) 2 2 [.int .u8 ((a6 (c / 16)).toNat:Int),.int .u8 ((a6 (c % 16)).toNat:Int)] HO4.out.2.1 ?hm1 ?hb1 ?hz1 rfl rfl ?_))
    case hm1=>simp only [maxLen];omega
    case hb1=>omega
    case hz1=>exact HO4.out.2.2.size
    intro u5 w5 own5 gr5 _
    have hsn:bv (ck (b.take (j+1)))=bv (ck (b.take j))++[.int .u8 ((a6 (c / 16)).toNat:Int),.int .u8 ((a6 (c % 16)).toNat:Int)]:=ua b j c HXX.out
    rw [← hsn] at own5
    have HO5:=ah (xae own5 (HO4.out.2.2.grown gr5 HO4.out.2.2.size (fun k hk=>(aB HO4.out.1 hk).1)))
    clear own5 gr5 hsn
    go_wp2_with fail
    go_roundw
    case rel=>exact ⟨j+1,u5,by omega,rfl,by go_num,HO5.out.1,HO5.out.2⟩
    case measure=>simp [intOf];omega
   ·obtain rfl:j=b.length:=by omega
    have hown:=HI.out.1
    rw [xaB] at hown
    obtain ⟨g,cap3,rfl⟩:=cN hown (by omega)
    have hlen:=iz b
    have hcv:=run_convert_bytes_back (P:=Tryz.prog) wo 24 9 5 ⟨g,0,none⟩ cap3 (ck b) Tryz.underlying24 Tryz.underlying5 Tryz.underlying9 (by
     intro k hk
     have h9:wo.cell? ⟨g,k,none⟩=some (.int .u8 ((ck b)[k].toNat:Int)):=pF hown k (.int .u8 ((ck b)[k].toNat:Int)) (by rw [bv,xaD,xaj hk];rfl)
     rw [Addr.add_mid,Nat.zero_add]
     exact h9)
    rw [hlen] at hcv
    have HE:=ah (xae HI.out.2 hcv)
    clear hown hlen hcv
    go_wp2_with ((with_reducible refine ag 30 ?_);refine aa rfl (.string ⟨(ck b).toArray⟩) wo (ky 24 9 (.tmp 29) rfl _ rfl _ HE.out.2) ?_)
    go_ret
    exact ⟨by rw [cH,if_neg hb0];rfl,HE.out.1⟩
end Go.Proofs.YtomnhnmciopiiaaGreat
end
section
namespace Go.Proofs.YtomnhnmciopiiaaGreat
open Go Go.RowKit
section
variable {P:Program} {ops:Array Oper} {rest:List Oper} {o:Oper} {a:Act} {w:World} {Q:Exit→Act→World→Prop}
structure hI (w w':World) (t:TypeId) (cells:Array Value):Prop where
 blk:Blk w' w.heap.size t cells
 below:Below w.heap.size w w'
 size:w'.heap.size=w.heap.size+1
theorem cF (w:World) (t:TypeId) (cells:Array Value):hI w (w.alloc (.cells cells t)) t cells :=
 ⟨Blk.new _ _ _,(xaq _ w).alloc (xai _) _,by rw [size_alloc]⟩
theorem aW (hg:o.guard=none) (ty:TypeId) (x:Operand) (ho:o.op=.box ty x) (cells:Array Value) (hx:a.eval x=.agg cells)
  (h:∀ w',hI w w' ty cells→wpList P ops Q rest (a.put o.dst (.pointer (some ⟨w.heap.size,0,none⟩))) w'):wpList P ops Q (o :: rest) a w:=by
 refine aa hg (.pointer (some ⟨w.heap.size,0,none⟩)) (w.alloc (.cells cells ty)) ?_ (h _ (cF w ty cells))
 unfold execOp
 simp only [ho,hx]
 rfl
theorem bq (hg:o.guard=none) (ty:TypeId) (zc:Array Value) (hr:(execOp a.eval o).run P w=.ok (.value (.pointer (some ⟨w.heap.size,0,none⟩))) (w.alloc (.cells zc ty)))
  (h:∀ w',hI w w' ty zc→wpList P ops Q rest (a.put o.dst (.pointer (some ⟨w.heap.size,0,none⟩))) w'):wpList P ops Q (o :: rest) a w :=
 aa hg _ _ hr (h _ (cF w ty zc))
theorem aG (hg:o.guard=none) (t:TypeId) (x:Operand) (ho:o.op=.buildSlice t 1 #[(0,x)]) (e n:Nat) (z v:Value) (hx:a.eval x=v) (ht:P.underlying t=some (.slice e)) (hs:(P.info? e).map (·.size)=some n) (hn:0<n) (h24:n≤16777216) (hz:∀ w,(zeroValue e).run P w=.ok z w) (hv:v.cells.size=n)
  (h:∀ w',hI w w' e v.cells→wpList P ops Q rest (a.put o.dst (.slice (some ⟨w.heap.size,0,none⟩) 1 1)) w'):wpList P ops Q (o :: rest) a w :=
 aa hg _ _ (bO t x ho hx ht hs hn h24 hz hv w) (h _ (cF w e v.cells))
theorem bM (hg:o.guard=none) (ty:TypeId) (x y:Operand) (ho:o.op=.store ty x y) (g i:Nat) (t:TypeId) (cs:Array Value) (hb:Blk w g t cs) (hi:i<cs.size) (hs:(P.info? ty).map (·.size)=some 1) (v:Value) (h1:v.oneCell'=true)
  (hx:a.eval x=.pointer (some ⟨g,i,none⟩)) (hy:a.eval y=v)
  (h:∀ w',Blk w' g t (cs.setIfInBounds i v)→w.grownBy w' (some g)→w'.heap.size=w.heap.size→wpList P ops Q rest (a.put o.dst undef) w'):wpList P ops Q (o :: rest) a w:=by
 have hr:(storeVar ty ⟨g,i,none⟩ v).run P w=.ok () (w.setCell ⟨g,i,none⟩ v):=by
  have:=run_storeCells_cells (P:=P) g i [v] 0 w (fun j hj=>by
   have hj0:j=0:=by simpa using hj
   subst hj0
   rw [Nat.add_zero,hb.cell,xa5 hi]
   rfl) (fun j _=>hb.frozen _) (fun u hu=>by rw [xan.1 hu];exact h1)
  have hc:v.cells=#[v]:=by cases v<;>first | rfl | cases h1
  cases hq:P.info? ty with
  | none=>simp [hq] at hs
  | some j =>
   have hs:j.size=1:=by simpa [hq] using hs
   simp only [Nat.add_zero] at this
   simp [storeVar,sizeOf,typeInfo,hq,hc,hs,this]
   rfl
 refine wpList_plain hg fun K hK=>?_
 unfold Oper.wp execOp
 simp only [ho,hx,hy,Instr.storeAt,xbT,xaK,xaN,xaA,hr]
 exact hK _ _ (h _ (hb.tZ i v) ⟨rfl,rfl,rfl,by simp [World.setCell],fun k _ hne=>Below.heap_setCell w ⟨g,i,none⟩ v k (fun e=>hne (by rw [e]))⟩ (by simp [World.setCell]))
theorem hI.src {w w':World} {t:TypeId} {cs:List Value} {n:Nat} (h:hI w w' t cs.toArray) (hl:cs.length=n) (h1:∀ u∈cs,u.oneCell'=true):fY w' n (some ⟨w.heap.size,0,none⟩) 1 1 cs:=by
 subst hl
 exact p6 h.blk h1
end
end Go.Proofs.YtomnhnmciopiiaaGreat
end
section
namespace Go.Proofs.YtomnhnmciopiiaaGreat
open Go Go.RowKit Go.Maps
def pN (w:World) (g:Nat) (s:ByteArray):Prop:=(∃ cs fz,w.heap[g]?=some (.cells cs 5 fz))∧∀ j,j<s.size→w.cell? ⟨g,j,none⟩=some (.int .u8 ((s.data.toList.getD j 0).toNat:Int))
theorem js {P:Program} {ops:Array Oper} {rest:List Oper} {o:Oper} {a:Act} {w:World} {Q:Exit→Act→World→Prop} (hg:o.guard=none) (src dst e:TypeId) (x:Operand) (ho:o.op=.convert src dst x)
  (hs:P.underlying src=some .string) (hd:P.underlying dst=some (.slice e)) (he:P.underlying e=some (.int .u8)) (s:ByteArray) (hx:a.eval x=.string s)
  (h:∀ g cap w',((∃ cs fz,w'.heap[g]?=some (.cells cs e fz))∧∀ j,j<s.size→w'.cell? ⟨g,j,none⟩=some (.int .u8 ((s.data.toList.getD j 0).toNat:Int)))→s.size≤cap→w.heap.size≤g→g<w'.heap.size→Below w.heap.size w w' →
   wpList P ops Q rest (a.put o.dst (.slice (some ⟨g,0,none⟩) s.size cap)) w'):wpList P ops Q (o :: rest) a w :=
 wpList_plain hg fun K hK=>by
  unfold Oper.wp execOp
  simp only [ho,hx,xaK,run_bytes_of_string w src dst e s hs hd he,xaA,xaN]
  refine hK _ _ (h w.heap.size (grownCap w s.size 0 e) _ ⟨?_,?_⟩ (grownCap_ge w s.size 0 e) (xai _) ?_ ?_)
  ·exact ⟨_,_,heap_alloc_new w.drew _⟩
  ·intro j hj
   refine (World.cell?_alloc_mark w.drew _ e _ j).trans ?_
   rw [bytesRow_at s _ j hj]
   have hj':j<s.data.size:=hj
   simp [List.getD,xa5 hj']
  ·show _<(w.heap.push _).size
   simp
  ·exact ((xaq _ _).drew).alloc (xai _) _
def fq (d:Drv) (j:Nat):List ByteArray:=(⟨#[100,114,118,32]⟩++d.1) :: (d.2.1.take j).map fj
def cu (d:Drv):List ByteArray:=(⟨#[100,114,118,32]⟩++d.1) :: (d.2.1.map fj++[⟨#[114,117,110,32]⟩++⟨(cH d.2.2).toArray⟩])
def eM (d:Drv):ByteArray:=⟨(xby ((cu d).map (·.data.toList)) [10]).toArray⟩++⟨#[10]⟩
def fF (d:Drv):Int:=if iM d=true then (if 2000<(eM d).size then 3 else 0) else 2
theorem tq (d:Drv) (j:Nat) (x:Nam) (h:d.2.1[j]?=some x):(fq d j).map xaY++[.string (fj x)]=(fq d (j+1)).map xaY:=by
 unfold fq
 rw [xaz,h]
 simp
theorem vZ (d:Drv):(fq d d.2.1.length).map xaY++[.string (⟨#[114,117,110,32]⟩++⟨(cH d.2.2).toArray⟩)]=(cu d).map xaY:=by
 unfold fq cu
 rw [xaB]
 simp
theorem nG (d:Drv):(cu d).length=d.2.1.length+1+1:=by simp [cu]
theorem lj {d:Drv} (h:iM d=true):bT d.1=true∧(d.2.1.length:Int)≤8∧(d.2.2.length:Int)≤1000:=by
 unfold iM at h
 simp only [xaG] at h
 exact ⟨h.2.1,of_decide_eq_true h.2.2.1,of_decide_eq_true h.2.2.2⟩
theorem lU:∀ (l:List Nam) (b:ByteArray),eD l b=true→∀ x∈l,x.1.size≤24∧(x.2.2.2=false→bT x.2.1.2=true)
 | [],_,_,x,hx=>by cases hx
 | y :: l,b,h,x,hx=>by
  rw [eD,xaG] at h
  rcases xax.1 hx with rfl | hx
  ·have h1:=h.1
   unfold hX at h1
   simp only [xaG] at h1
   refine ⟨du h1.1.1,fun hf=>?_⟩
   have h2:=h1.2
   rw [hf] at h2
   simp only [xa9,if_false,xaG] at h2
   exact h2.1
  ·exact lU l y.1 h.2 x hx
theorem mS {d:Drv} (h:iM d=true):∀ x∈d.2.1,x.1.size≤24∧(x.2.2.2=false→bT x.2.1.2=true):=by
 unfold iM at h
 simp only [xaG] at h
 exact lU _ _ h.1
theorem kh (b:List Int):(cH b).length≤2*b.length+1:=by
 unfold cH
 split
 ·simp
 ·rw [iz];omega
theorem xa (b:List Int) (h:b.length≤1000):(⟨#[114,117,110,32]⟩:ByteArray).size+(⟨(cH b).toArray⟩:ByteArray).size≤9223372036854775807:=by
 have h1:(⟨#[114,117,110,32]⟩:ByteArray).size=4:=rfl
 have h2:(⟨(cH b).toArray⟩:ByteArray).size=(cH b).length:=rfl
 have:=kh b
 omega
theorem yX {w:World} {base g n cap s:Nat} {e:TypeId} {xs:List Value} (h:w.ownsRow base e s (.slice (some ⟨g,0,none⟩) n cap) n xs):n≤cap:=by
 obtain ⟨_,h | ⟨g',cap',cur,e1,_,_,h2,_⟩⟩:=h
 ·cases h.1
 ·injection e1 with _ _ e3
  rw [e3]
  exact h2
theorem vY {x:Nam} (hs:x.1.size≤24) (hp:x.2.2.2=false→bT x.2.1.2=true) (h1:(aQ x.2.2.1).length≤40) (h2:(aQ x.2.1.1).length≤40):(fj x).size≤100:=by
 unfold fj
 split
 ·have hs1:(⟨(aQ x.2.2.1).toArray⟩:ByteArray).size=(aQ x.2.2.1).length:=rfl
  have hs2:(⟨#[32]⟩:ByteArray).size=1:=rfl
  have hs3:(⟨#[99,108,97,115,115,32]⟩:ByteArray).size=6:=rfl
  simp only [xaC,hs1,hs2,hs3]
  omega
 ·rename_i hf
  have hp2:=du (hp (by simpa using hf))
  have hs2:(⟨#[32]⟩:ByteArray).size=1:=rfl
  have hs3:(⟨#[115,114,99,32]⟩:ByteArray).size=4:=rfl
  simp only [xaC,ka,hs2,hs3]
  omega
theorem Ao (l:List ByteArray) (k:Nat) (h:∀ s∈l,s.size≤k):xcj (l.map (·.data.toList))≤k*l.length:=by
 induction l with
 | nil=>exact Nat.zero_le _
 | cons s l ih =>
  have h1:=ih fun x hx=>h x (List.mem_cons_of_mem _ hx)
  have h2:=h s (List.mem_cons_self ..)
  have h3:s.data.toList.length=s.size:=rfl
  have e:xcj ((s :: l).map (·.data.toList))=s.data.toList.length+xcj (l.map (·.data.toList)):=by simp [xcj]
  rw [e,xaE,h3,Nat.mul_add,Nat.mul_one]
  omega
theorem tk {d:Drv} (hok:∀ x∈d.2.1,okN x) (h:iM d=true):(xby ((cu d).map (·.data.toList)) [10]).length≤30000:=by
 have hs:=lj h
 have hn:=du hs.1
 have hl:xcj ((cu d).map (·.data.toList))≤2100*(cu d).length:=Ao _ _ fun s hm=>by
  unfold cu at hm
  rcases xax.1 hm with rfl | hm
  ·have:(⟨#[100,114,118,32]⟩:ByteArray).size=4:=rfl
   rw [xaC]
   omega
  ·rcases xau.1 hm with hm | hm
   ·obtain ⟨x,hx,rfl⟩:=xav.1 hm
    have h1:=mS h x hx
    have h2:=dq x.2.2.1
    have h3:=dq x.2.1.1
    have h4:x.2.2.1.length=20:=(hok x hx).2.2
    have h5:x.2.1.1.length=20:=(hok x hx).2.1.1
    have:=vY h1.1 h1.2 (by omega) (by omega)
    omega
   ·rw [xan.1 hm,xaC]
    have h1:(⟨#[114,117,110,32]⟩:ByteArray).size=4:=rfl
    have h2:(⟨(cH d.2.2).toArray⟩:ByteArray).size=(cH d.2.2).length:=rfl
    have:=kh d.2.2
    omega
 have hlp:=nG d
 have e:(cu d).map (·.data.toList)=(⟨#[100,114,118,32]⟩++d.1:ByteArray).data.toList :: (d.2.1.map fj++[⟨#[114,117,110,32]⟩++⟨(cH d.2.2).toArray⟩]:List ByteArray).map (·.data.toList):=rfl
 rw [e,Lib.join_length,← e,xat,xap,xat]
 simp only [xaE,List.length_nil]
 omega
theorem yq {d:Drv} (h:(xby ((cu d).map (·.data.toList)) [10]).length≤30000):(⟨(xby ((cu d).map (·.data.toList)) [10]).toArray⟩:ByteArray).size+(⟨#[10]⟩:ByteArray).size≤9223372036854775807:=by
 have h1:(⟨(xby ((cu d).map (·.data.toList)) [10]).toArray⟩:ByteArray).size=(xby ((cu d).map (·.data.toList)) [10]).length:=rfl
 have h2:(⟨#[10]⟩:ByteArray).size=1:=rfl
 omega
theorem aK.gA {w w':World} {d:Drv} {v1 v2:Value} (h:aK w w.heap.size d v1 v2) (hb:Below w.heap.size w w'):aK w' w'.heap.size d v1 v2 :=
 ⟨h.name,dv.dV (dv.alike h.ins fun b hb9=>hb.block b hb9) hb.size,b5.dV (b5.alike h.rcp fun b hb9=>hb.block b hb9) hb.size⟩
theorem aK.Cp {w w':World} {d:Drv} {v1 v2:Value} (h:aK w w.heap.size d v1 v2) (hb:Below w.heap.size w w'):b5.At w' w'.heap.size [v2] d.2.2:=(h.gA hb).rcp
theorem aK.okn {w:World} {B:Nat} {d:Drv} {v1 v2:Value} (h:aK w B d v1 v2):∀ x∈d.2.1,okN x:=fun x hx=>by
 obtain ⟨cs,h9⟩:=fc h.ins hx
 exact (bw.1 h9).2
theorem yZ {w w':World} {t:TypeId} {cells:Array Value} {xs:List Value} {n:Nat} (h:hI w w' t cells) (hx:cells.toList=xs) (hn:cells.size=n):w'.ownsRow w.heap.size t n (.slice (some ⟨w.heap.size,0,none⟩) 1 1) (0+1) xs:=by
 subst hx hn
 exact ⟨by simp,.inr ⟨w.heap.size,1,cells,rfl,xai _,h.blk,xai _,by decide,by omega,List.take_of_length_le (by simp)⟩⟩
theorem uj:(Tryz.prog.info? 9).map (·.size)=some 1:=by kernel_rfl
theorem vO:(Tryz.prog.info? 9).map (fun i=>(i.zero,i.size,i.bytes))=some (some (.string ⟨#[]⟩),1,16):=by kernel_rfl
theorem AJ (w:World) (d:Drv) (v1 v2:Value) (h:aK w w.heap.size d v1 v2) :
  Calls Tryz.prog 120 #[.agg (dC d v1 v2).toArray] w fun e w'=>∃ v,e=.returned (.tuple #[v,.int .i64 (fF d)])∧(fF d=0→∃ g cap,v=.slice (some ⟨g,0,none⟩) (eM d).size cap∧pN w' g (eM d)∧(eM d).size≤cap∧w.heap.size≤g∧g<w'.heap.size)∧Below w.heap.size w w':=by
 have hok:=h.okn
 obtain ⟨istr,hih,hq0,hq1,hq2⟩:=info_parts vO
 have HK:=ah (xae hih (xae hq0 (xae hq1 hq2)))
 clear hih hq0 hq1 hq2
 have h0:=h
 obtain ⟨A,cap,rfl,hcl,hcm,_,hA⟩:=ak h0.ins
 obtain ⟨A2,cap2,rfl,hcl2,hcm2,_,_⟩:=ak h0.rcp
 have l9:(d.2.1.length:Int)≤9223372036854775807:=by simp only [maxLen] at hcm;omega
 have k9:(d.2.2.length:Int)≤9223372036854775807:=by simp only [maxLen] at hcm2;omega
 obtain ⟨w1,hw1⟩:∃ w1,w1=w.alloc (.cells (dC d (.slice A d.2.1.length cap) (.slice A2 d.2.2.length cap2)).toArray 26):=⟨_,rfl⟩
 have hb1:Below w.heap.size w w1:=by rw [hw1];exact (xaq _ w).alloc (xai _) _
 have hk1:Blk w1 w.heap.size 26 (dC d (.slice A d.2.1.length cap) (.slice A2 d.2.2.length cap2)).toArray:=by rw [hw1];exact Blk.new _ _ _
 have H1:=ah (xae hk1 hb1)
 have HD:=ah h
 have HOK:=ah hok
 have HW1:=ah hw1
 have HA:=ah hA
 clear hk1 hb1 hw1 hA h0 h hcl hcm hcl2 hcm2 hok
 go_enter Tryz.func120,Tryz.ntmps120
 go_wp2_with (first | ((with_reducible refine ag 1 ?_);(refine aa rfl (.pointer (some ⟨w.heap.size,0,none⟩)) w1 (by rw [HW1.out];kernel_rfl) ?_)) | ((with_reducible refine ag 8 ?_);(refine aa rfl (.agg (dC d (.slice A d.2.1.length cap) (.slice A2 d.2.2.length cap2)).toArray) w1 (av 26 (.tmp 1) rfl w.heap.size rfl 26 _ _ w1 H1.out.1 Tryz.underlying26 rfl (by kernel_rfl)) ?_)))
 refine (zC w1 d _ _ (HD.out.gA H1.out.2)).mono ?_
 rintro e w2 ⟨rfl,hb⟩
 dsimp only
 have H2:=ah (xae (H1.out.1.below hb H1.out.1.lt) (H1.out.2.trans (xam hb H1.out.2.size)))
 clear hb
 by_cases hc:iM d=true
 ·have hcs:=lj hc
  have HC:=ah hc
  have l8:(d.2.1.length:Int)≤8:=hcs.2.1
  have r9:(d.2.2.length:Int)≤1000:=hcs.2.2
  have hn24:=du hcs.1
  have hcat1:(⟨#[100,114,118,32]⟩:ByteArray).size+d.1.size≤9223372036854775807:=by have:(⟨#[100,114,118,32]⟩:ByteArray).size=4:=rfl;omega
  have HCAT:=ah hcat1
  have hcl:=mS hc
  have HCL:=ah hcl
  clear hcs hcat1 hcl
  rw [hc]
  clear hc
  go_wp2_with (first | ((with_reducible refine ag 12 ?_);(refine aa rfl (.string d.1) w2 (exec_load_cell 9 (.tmp 11) rfl ⟨w.heap.size,0,none⟩ rfl _ _ w2 Tryz.underlying9 rfl (show w2.cell? ⟨w.heap.size,0,none⟩=some (.string d.1) from H2.out.1.cell 0)) ?_)) | ((with_reducible refine ag 13 ?_);(refine aa rfl (.string (⟨#[100,114,118,32]⟩++d.1)) w2 (aZ 9 (.const (.string ⟨#[100,114,118,32]⟩)) (.tmp 12) 9 rfl (⟨#[100,114,118,32]⟩) (d.1) rfl rfl HCAT.out w2) ?_)) | ((with_reducible refine ag 14 ?_);(refine aG rfl 60 (.tmp 13) rfl 9 1 (.string ⟨#[]⟩) _ rfl Tryz.underlying60 uj (by decide) (by decide) (fun w=>by kernel_rfl) rfl ?_);intro w3 hn;have own3:w3.ownsRow w2.heap.size 9 1 (.slice (some ⟨w2.heap.size,0,none⟩) 1 1) (0+1) ((fq d 0).map xaY):=yZ hn rfl rfl;have H3:=ah (xae (H2.out.1.below hn.below H2.out.1.lt) (xae (H2.out.2.trans (xam hn.below H2.out.2.size)) own3));have HZ3:=ah hn.below.size;clear own3 hn;simp only [xad,xaa,xac,xab]) | ((with_reducible refine ag 16 ?_);(refine aa rfl (.slice A d.2.1.length cap) w3 (exec_load_cell 23 (.tmp 15) rfl ⟨w.heap.size,1,none⟩ rfl _ _ w3 Tryz.underlying23 rfl (show w3.cell? ⟨w.heap.size,1,none⟩=some (.slice A d.2.1.length cap) from H3.out.1.cell 1)) ?_)))
  go_loopw [4,18] (fun x4 x18 wr=>∃ (j:Nat) (u:Value),j≤d.2.1.length∧u=x4∧x18=.int .i64 (j:Int)∧Blk wr w.heap.size 26 (dC d (.slice A d.2.1.length cap) (.slice A2 d.2.2.length cap2)).toArray∧wr.ownsRow w2.heap.size 9 1 u (j+1) ((fq d j).map xaY)∧Below w.heap.size w wr∧w2.heap.size≤wr.heap.size) (fun _ x18 _=>d.2.1.length-(intOf x18).toNat)
  case atStart=>exact ⟨0,_,by omega,rfl,rfl,H3.out.1,H3.out.2.2,H3.out.2.1,HZ3.out⟩
  case round =>
   obtain ⟨wo,rfl⟩:∃ wo,wo=wr:=⟨_,rfl⟩
   obtain ⟨j,x4,hj,rfl,rfl,hk,hown,hbw,hzw⟩:=hrel
   have HI:=ah (xae hk (xae hown (xae hbw hzw)))
   clear hk hown hbw hzw
   have j0:(0:Int)≤(j:Int):=by omega
   by_cases hj2:j<d.2.1.length
   ·have j1:(j:Int)<(d.2.1.length:Int):=by omega
    obtain ⟨x,hx⟩:∃ x,d.2.1[j]?=some x:=⟨_,xaj hj2⟩
    obtain ⟨b,off,rfl,hlb,hE⟩:=HA.out (by omega)
    obtain ⟨cs,hr,hatx⟩:=hE j x hx
    obtain ⟨rfl,hxo⟩:=bw.1 hatx
    have HX:=ah (xae (a7 hr (HI.out.2.2.1.block b (by omega))) hxo)
    have hszn2:=BL hxo
    have hszn:(Tryz.prog.info? 87).map (·.size)=some (nC x).length:=by simpa using hszn2
    have hszzn:zcN.size=(nC x).toArray.size:=by rw [show (nC x).toArray.size=43 by rw [xal];exact da hxo];kernel_rfl
    have honen:(nC x).toArray.all (·.oneCell')=true:=all_oneCell_toArray (fQ x)
    have hll:=HCL.out x (xak hx)
    have HXX:=ah hx
    clear hx hE hr hatx hxo
    go_wp2_with (first | ((with_reducible refine ag 20 ?_);(refine aa rfl (.pointer (some ⟨b,off+(j:Int).toNat*43,none⟩)) wo (aH 23 87 (.tmp 16) (.tmp 18) rfl b off d.2.1.length cap (j:Int) .i64 rfl rfl ⟨j0,j1⟩ 43 Tryz.underlying23 aY wo) ?_;rw [show off+(j:Int).toNat*43=off+j*43 by omega])) | ((with_reducible refine ag 21 ?_);(refine aa rfl (.agg (nC x).toArray) wo (aj 87 (.tmp 20) rfl b (off+j*43) rfl (nC x) _ wo HX.out.1 Tryz.underlying87 rfl hszn) ?_)) | ((with_reducible refine ag 6 ?_);((with_reducible refine bD (o1:=⟨some 6,_,_,_,_,_⟩) (o2:=⟨none,_,_,_,_,_⟩) rfl rfl 87 (.tmp 6) (.tmp 21) ?_ zcN (nC x).toArray ?_ hszn2 ?_ honen ?_ ?_ ?_);rfl;kernel_rfl;exact hszzn;rfl;rfl;intro w3 hmm hbb;have H3:=ah (xae hmm hbb);clear hmm hbb;simp only [xad,xaa,xac,xab])) | ((with_reducible refine ag 23 ?_);(refine aa rfl (.agg (nC x).toArray) w3 (av 87 (.tmp 6) rfl wo.heap.size rfl 87 _ _ w3 H3.out.1 Tryz.underlying87 rfl hszn2) ?_)))
    refine (yz w3 x HX.out.2 hll.1 hll.2).mono ?_
    rintro e w4 ⟨rfl,hb⟩
    dsimp only
    have h34:=H3.out.2.trans (xam hb H3.out.2.size)
    have H34:=ah h34
    clear hb h34
    go_wp2_with (first | ((with_reducible refine ag 25 ?_);(refine aG rfl 60 (.tmp 24) rfl 9 1 (.string ⟨#[]⟩) _ rfl Tryz.underlying60 uj (by decide) (by decide) (fun w=>by kernel_rfl) rfl ?_);intro w5 hn;have h45:=H34.out.trans (xam hn.below H34.out.size);have H5:=ah (xae (HI.out.1.below h45 HI.out.1.lt) (xae (an HI.out.2.1 fun g _ hl=>h45.block g hl) (xae (HI.out.2.2.1.trans (xam h45 HI.out.2.2.1.size)) (xae (show fY w5 1 (some ⟨w4.heap.size,0,none⟩) 1 1 [.string (fj x)] from hn.src rfl (fun v hv=>(by rw [xan.1 hv];rfl))) (xay HI.out.2.2.2 h45.size)))));clear h45 hn;simp only [xad,xaa,xac,xab]) | (at_builtin;((with_reducible refine ag 26 ?_);refine aD rfl _ _ 60 rfl w2.heap.size 9 istr _ 1 16 Tryz.underlying60 HK.out.1 HK.out.2.1 HK.out.2.2.1 HK.out.2.2.2 rfl (by decide) _ (j+1) ((fq d j).map xaY) H5.out.2.1 (some ⟨w4.heap.size,0,none⟩) 1 1 [.string (fj x)] H5.out.2.2.2.1 ?hm1 ?hb1 ?hz1 rfl rfl ?_)))
    case hm1=>simp only [maxLen];omega
    case hb1=>omega
    case hz1=>exact H5.out.2.2.2.2
    intro u6 w6 own6 gr6 _
    have hln:(fq d j).map xaY++[.string (fj x)]=(fq d (j+1)).map xaY:=tq d j x HXX.out
    rw [hln] at own6
    have H6:=ah (xae ((gr6.block _ H5.out.1.lt (fun e=>ew H5.out.2.1 H5.out.1 (by decide) e.symm)).trans H5.out.1) (xae own6 (xae (H5.out.2.2.1.grown gr6 H5.out.2.2.1.size (fun k hk=>xay H2.out.2.size (aB H5.out.2.1 hk).1)) (xay H5.out.2.2.2.2 gr6.size))))
    clear own6 gr6 hln
    go_wp2_with fail
    go_roundw
    case rel=>exact ⟨j+1,u6,by omega,rfl,by go_num,H6.out.1,H6.out.2.1,H6.out.2.2.1,H6.out.2.2.2⟩
    case measure=>simp [intOf];omega
   ·obtain rfl:j=d.2.1.length:=by omega
    have HZ2:=ah (xay HI.out.2.2.1.size (xai _))
    go_wp2_with (first | ((with_reducible refine ag 30 ?_);(refine aa rfl (.slice A2 d.2.2.length cap2) wo (exec_load_cell 24 (.tmp 29) rfl ⟨w.heap.size,2,none⟩ rfl _ _ wo Tryz.underlying24 rfl (show wo.cell? ⟨w.heap.size,2,none⟩=some (.slice A2 d.2.2.length cap2) from HI.out.1.cell 2)) ?_)))
    refine (xg wo d.2.2 _ (HD.out.Cp HI.out.2.2.1) (by omega)).mono ?_
    rintro e w4 ⟨rfl,hb⟩
    dsimp only
    have hrs:=xa d.2.2 (by omega)
    have HRS:=ah hrs
    have H34:=ah hb
    clear hb hrs
    go_wp2_with (first | ((with_reducible refine ag 32 ?_);(refine aa rfl (.string (⟨#[114,117,110,32]⟩++⟨(cH d.2.2).toArray⟩)) w4 (aZ 9 (.const (.string ⟨#[114,117,110,32]⟩)) (.tmp 31) 9 rfl (⟨#[114,117,110,32]⟩) (⟨(cH d.2.2).toArray⟩) rfl rfl HRS.out w4) ?_)) | ((with_reducible refine ag 33 ?_);(refine aG rfl 60 (.tmp 32) rfl 9 1 (.string ⟨#[]⟩) _ rfl Tryz.underlying60 uj (by decide) (by decide) (fun w=>by kernel_rfl) rfl ?_);intro w5 hn;have h45:=H34.out.trans (xam hn.below H34.out.size);have H5:=ah (xae (HI.out.1.below h45 HI.out.1.lt) (xae (an HI.out.2.1 fun g _ hl=>h45.block g hl) (xae (HI.out.2.2.1.trans (xam h45 HI.out.2.2.1.size)) (xae (show fY w5 1 (some ⟨w4.heap.size,0,none⟩) 1 1 [.string (⟨#[114,117,110,32]⟩++⟨(cH d.2.2).toArray⟩)] from hn.src rfl (fun v hv=>(by rw [xan.1 hv];rfl))) (xay HI.out.2.2.2 h45.size)))));clear h45 hn;simp only [xad,xaa,xac,xab]) | (at_builtin;((with_reducible refine ag 34 ?_);refine aD rfl _ _ 60 rfl w2.heap.size 9 istr _ 1 16 Tryz.underlying60 HK.out.1 HK.out.2.1 HK.out.2.2.1 HK.out.2.2.2 rfl (by decide) _ (d.2.1.length+1) ((fq d d.2.1.length).map xaY) H5.out.2.1 (some ⟨w4.heap.size,0,none⟩) 1 1 [.string (⟨#[114,117,110,32]⟩++⟨(cH d.2.2).toArray⟩)] H5.out.2.2.2.1 ?hm2 ?hb2 ?hz2 rfl rfl ?_)))
    case hm2=>simp only [maxLen];omega
    case hb2=>omega
    case hz2=>exact H5.out.2.2.2.2
    intro u6 w6 own6 gr6 _
    have hln:(fq d d.2.1.length).map xaY++[.string (⟨#[114,117,110,32]⟩++⟨(cH d.2.2).toArray⟩)]=(cu d).map xaY:=vZ d
    rw [hln] at own6
    obtain ⟨g,cap6,rfl⟩:=cN own6 (by omega)
    have hlp:(cu d).length=d.2.1.length+1+1:=nG d
    have hb6:Below w.heap.size w w6:=H5.out.2.2.1.grown gr6 H5.out.2.2.1.size (fun k hk=>xay H2.out.2.size (aB H5.out.2.1 hk).1)
    have hcells:∀ (j:Nat) x,(cu d)[j]?=some x→w6.cell? ⟨g,0+j,none⟩=some (.string x):=by
     intro k x hk
     rw [Nat.zero_add]
     exact pF own6 k _ (by rw [xaD,hk];rfl)
    have hgl:=(aB own6 rfl).2
    have hjn:=tk HOK.out HC.out
    have hcp:(cu d).length≤cap6:=by
     have:=yX own6
     omega
    rw [show d.2.1.length+1+1=(cu d).length from hlp.symm]
    have H6:=ah hb6
    have HJN:=ah (yq hjn)
    have HJ:=ah (xae hcells (xae hgl (xae (show (cu d).length≤140737488355328 by omega) (xae hcp (show (xby ((cu d).map (·.data.toList)) [10]).length≤140737488355328 by omega)))))
    clear own6 gr6 hln hb6 hcells hgl hjn hcp hlp
    go_wp2_with fail
    refine (Tryz.strings_Join g 0 cap6 (cu d) ⟨#[10]⟩ w6 HJ.out.1 HJ.out.2.1 HJ.out.2.2.1 HJ.out.2.2.2.1 HJ.out.2.2.2.2).mono ?_
    rintro e w7 ⟨rfl,hb⟩
    dsimp only
    have H7:=ah (H6.out.trans (xam hb H6.out.size))
    clear hb
    by_cases hl:(2000:Int)<((eM d).size:Int)
    ·have HE:Hid (fF d=3):=ah (by unfold fF;rw [HC.out,if_pos rfl,if_pos (by omega)])
     go_wp2_with (first | ((with_reducible refine ag 36 ?_);(refine aa rfl (.string (eM d)) w7 (aZ 9 (.tmp 35) (.const (.string ⟨#[10]⟩)) 9 rfl (⟨(xby ((cu d).map (·.data.toList)) [10]).toArray⟩) (⟨#[10]⟩) rfl rfl HJN.out w7) ?_)))
     refine bodyPost_ret (v:=.tuple #[.slice none 0 0,.int .i64 3]) (by simp [results,Tryz.results120,go_sem]) rfl ?_
     exact ⟨_,by rw [HE.out],(fun h=>absurd (HE.out.symm.trans h) (by decide)),H7.out⟩
    ·have HE:Hid (fF d=0):=ah (by unfold fF;rw [HC.out,if_pos rfl,if_neg (by omega)])
     go_wp2_with (first | ((with_reducible refine ag 36 ?_);(refine aa rfl (.string (eM d)) w7 (aZ 9 (.tmp 35) (.const (.string ⟨#[10]⟩)) 9 rfl (⟨(xby ((cu d).map (·.data.toList)) [10]).toArray⟩) (⟨#[10]⟩) rfl rfl HJN.out w7) ?_)) | ((with_reducible refine ag 41 ?_);(with_reducible refine js rfl 9 24 5 (.tmp 40) rfl Tryz.underlying9 Tryz.underlying24 Tryz.underlying5 (eM d) rfl ?_);intro g8 k8 w8 ht8 hc8 hg8 hl8 hb8;have H8:=ah (xae ht8 (xae hc8 (xae hg8 (xae hl8 (H7.out.trans (xam hb8 H7.out.size))))));clear ht8 hc8 hg8 hl8 hb8;simp only [xad,xaa,xac,xab]))
     refine bodyPost_ret (v:=.tuple #[.slice (some ⟨g8,0,none⟩) (eM d).size k8,.int .i64 0]) (by simp [results,Tryz.results120,go_sem]) rfl ?_
     exact ⟨_,by rw [HE.out],(fun _=>⟨g8,k8,rfl,H8.out.1,H8.out.2.1,xay H7.out.size H8.out.2.2.1,H8.out.2.2.2.1⟩),H8.out.2.2.2.2⟩
 ·have hc':iM d=false:=by simpa using hc
  have HE:Hid (fF d=2):=ah (by unfold fF;rw [hc'];rfl)
  rw [hc']
  go_wp2_with fail
  refine bodyPost_ret (v:=.tuple #[.slice none 0 0,.int .i64 2]) (by simp [results,Tryz.results120,go_sem]) rfl ?_
  exact ⟨_,by rw [HE.out],(fun h=>absurd (HE.out.symm.trans h) (by decide)),H2.out.2⟩
end Go.Proofs.YtomnhnmciopiiaaGreat
end
