/- Part 3 of the texts of one proof. -/
import Derived.Test.YtomnhnmciopiiaaGreatMMW2
section
namespace Go.Proofs.YtomnhnmciopiiaaGreat.Fre
open Go Go.RowKit
abbrev fY:=List (Tmp×(Value→World→Prop))
def aI (L:fY):Made:=fun t=>(L.find? (fun p=>p.1 == t)).map (·.2)
structure eN (X:World→World→Prop) (V:Value→World→Prop):Prop where
 stays:∀ u w w',V u w→Ext X w w'→V u w'
theorem hT {L:fY} {t:Tmp} {V:Value→World→Prop} (h:aI L t=some V):(t,V)∈L:=by
 unfold aI at h
 cases hf:L.find? (fun p=>p.1 == t) with
 | none=>rw [hf] at h;cases h
 | some p =>
  rw [hf] at h
  obtain rfl:=Option.some.inj h
  have h1:=List.mem_of_find?_eq_some hf
  have h2:=List.find?_some hf
  simp only [beq_iff_eq] at h2
  obtain ⟨a,b⟩:=p
  subst h2
  exact h1
theorem ma (t:Tmp) (V:Value→World→Prop) (L:fY) (s:Tmp):aI ((t,V) :: L) s=if t=s then some V else aI L s:=by
 unfold aI
 by_cases h:t=s
 ·simp [h]
 ·simp [h]
theorem iR:∀ {L:fY} {t:Tmp} {V:Value→World→Prop},(L.map (·.1)).Nodup→(t,V)∈L→aI L t=some V
 | [],_,_,_,hm=>by cases hm
 | (t',V') :: L,t,V,hn,hm=>by
  simp only [List.map_cons,List.nodup_cons] at hn
  rw [ma]
  rcases List.mem_cons.1 hm with hm | hm
  ·injection hm with e1 e2
   subst e1 e2
   rw [if_pos rfl]
  ·rw [if_neg (fun e=>hn.1 (List.mem_map.2 ⟨_,hm,e.symm⟩))]
   exact iR hn.2 hm
theorem gA {L:fY} {t:Tmp} (h:(L.map (·.1)).contains t=false):aI L t=none:=by
 cases hm:aI L t with
 | none=>rfl
 | some V =>
  have h1:=hT hm
  have h2:(L.map (·.1)).contains t=true:=by
   rw [List.contains_iff_mem]
   exact List.mem_map.2 ⟨_,h1,rfl⟩
  rw [h2] at h;cases h
section
variable {P:Program} {ops:Array Oper} {L:fY} {w0:World} {rest:List Oper} {o:Oper} {a:Act} {Q:Act→Prop} {X:World→World→Prop} [cV X]
omit [cV X] in
theorem rT (hL:∀ p∈L,eN X p.2):stays X (aI L):=fun _ _ hV u w w' hu hw=>(hL _ (hT hV)).stays u w w' hu hw
def cZ (keys:List Tmp) (ops:Array Oper) (o:Oper):Bool:=(match o.op with | .select _ _=>false | _=>true)&&(o.looksAt ops).all fun s=>!keys.contains s
theorem sW {keys:List Tmp} (h:cZ keys ops o=true):∀ cs b,o.op ≠ .select cs b:=by
 intro cs b e
 unfold cZ at h
 rw [e] at h
 cases h
theorem tp {keys:List Tmp} (h:cZ keys ops o=true) {x:Operand} (hx:x∈o.op.operands) {t:Tmp} (e:x=.tmp t):keys.contains t=false:=by
 simp only [cZ,Bool.and_eq_true] at h
 have h2:=List.all_eq_true.1 h.2 t (by
  unfold Oper.looksAt
  exact List.mem_append_left _ (List.mem_filterMap.2 ⟨x,by simpa using hx,by rw [e]⟩))
 simpa using h2
theorem qs {keys:List Tmp} (h:cZ keys ops o=true) {g:Nat} {y:Bool} (hg:o.guard=some (g,y)) {t:Tmp} (ht:(ops[g]?).bind (·.dst)=some t):keys.contains t=false:=by
 simp only [cZ,Bool.and_eq_true] at h
 have h2:=List.all_eq_true.1 h.2 t (by
  unfold Oper.looksAt
  refine List.mem_append_right _ ?_
  rw [hg]
  simp [ht])
 simpa using h2
theorem mg {F:Made} {b:Act} (hb:fF F b a) (hg:∀ g x,o.guard=some (g,x)→∀ t,(ops[g]?).bind (·.dst)=some t→F t=none):Region.wanted o (yielded ops b.tmps)=Region.wanted o (yielded ops a.tmps):=by
 unfold Region.wanted
 cases hgd:o.guard with
 | none=>rfl
 | some p =>
  obtain ⟨g,x⟩:=p
  simp only
  unfold yielded
  cases ht:(ops[g]?).bind (·.dst) with
  | none=>rfl
  | some t=>simp only [Option.bind_some,hb.2.2 t (hg g x hgd t ht)]
theorem dY {b:Act} (hB:cZ (L.map (·.1)) ops o=true) (hb:fF (aI L) b a):Region.wanted o (yielded ops b.tmps)=Region.wanted o (yielded ops a.tmps) :=
 mg hb fun _ _ hg _ ht=>gA (qs hB hg ht)
theorem gx {b:Act} (hB:cZ (L.map (·.1)) ops o=true) (hb:fF (aI L) b a):execOp b.eval o=execOp a.eval o :=
 execOp_congr o (sW hB) fun _ hx=>hb.eval fun _ e=>gA (tp hB hx e)
omit [cV X] in
theorem ae (v:Value) (hB:cZ (L.map (·.1)) ops o=true) (hw:Region.wanted o (yielded ops a.tmps)=true) (hd:o.dst.bind (aI L)=none)
  (hrun:∀ w,Ext X w0 w→(execOp a.eval o).run P w=.ok (.value v) w) (h:bN X P ops (aI L) w0 Q rest (a.put o.dst v)):bN X P ops (aI L) w0 Q (o :: rest) a:=by
 refine ⟨v,fun b w hx hb _=>⟨fun _=>?_,fun h2=>?_⟩,h⟩
 ·rw [hd,gx hB hb,hrun w hx]
  exact ⟨rfl,rfl⟩
 ·rw [dY hB hb,hw] at h2;cases h2
omit [cV X] in
theorem bB (hB:cZ (L.map (·.1)) ops o=true) (hw:Region.wanted o (yielded ops a.tmps)=false) (hd:o.dst.bind (aI L)=none)
  (h:bN X P ops (aI L) w0 Q rest (a.put o.dst undef)):bN X P ops (aI L) w0 Q (o :: rest) a:=by
 refine ⟨undef,fun b w hx hb _=>⟨fun h2=>?_,fun _=>⟨rfl,hd⟩⟩,h⟩
 rw [dY hB hb,hw] at h2;cases h2
omit [cV X] in
theorem aA (v:Value) (f:Nat) (args:Array Value) (hB:cZ (L.map (·.1)) ops o=true) (hw:Region.wanted o (yielded ops a.tmps)=true) (hd:o.dst.bind (aI L)=none)
  (hrun:∀ w,(execOp a.eval o).run P w=.ok (.enter f args) w) (hc:∀ w,Ext X w0 w→Calls P f args w fun e w'=>e=.returned v∧Ext X w w')
  (h:bN X P ops (aI L) w0 Q rest (a.put o.dst v)):bN X P ops (aI L) w0 Q (o :: rest) a:=by
 refine ⟨v,fun b w hx hb _=>⟨fun _=>?_,fun h2=>?_⟩,h⟩
 ·rw [hd,gx hB hb,hrun w]
  exact ⟨rfl,hc w hx⟩
 ·rw [dY hB hb,hw] at h2;cases h2
omit [cV X] in
theorem fX (t:Tmp) (V:Value→World→Prop) (hB:cZ (L.map (·.1)) ops o=true) (hw:Region.wanted o (yielded ops a.tmps)=true) (hd:o.dst=some t) (hV:aI L t=some V)
  (hrun:∀ w,Ext X w0 w→∃ u w',(execOp a.eval o).run P w=.ok (.value u) w'∧Ext X w w'∧V u w')
  (h:bN X P ops (aI L) w0 Q rest (a.put o.dst undef)):bN X P ops (aI L) w0 Q (o :: rest) a:=by
 refine ⟨undef,fun b w hx hb _=>⟨fun _=>?_,fun h2=>?_⟩,h⟩
 ·obtain ⟨u,w',h1,h2,h3⟩:=hrun w hx
  rw [hd,Option.bind_some,hV,gx hB hb,h1]
  exact ⟨rfl,h2,h3,trivial⟩
 ·rw [dY hB hb,hw] at h2;cases h2
omit [cV X] in
theorem fH (t:Tmp) (V:Value→World→Prop) (f:Nat) (args:Array Value) (hB:cZ (L.map (·.1)) ops o=true) (hw:Region.wanted o (yielded ops a.tmps)=true) (hd:o.dst=some t) (hV:aI L t=some V)
  (hrun:∀ w,(execOp a.eval o).run P w=.ok (.enter f args) w) (hc:∀ w,Ext X w0 w→Calls P f args w fun e w'=>∃ u,e=.returned u∧Ext X w w'∧V u w')
  (h:bN X P ops (aI L) w0 Q rest (a.put o.dst undef)):bN X P ops (aI L) w0 Q (o :: rest) a:=by
 refine ⟨undef,fun b w hx hb _=>⟨fun _=>?_,fun h2=>?_⟩,h⟩
 ·rw [hd,Option.bind_some,hV,gx hB hb,hrun w]
  refine ⟨rfl,rfl,(hc w hx).mono ?_⟩
  rintro e w' ⟨u,h1,h2,h3⟩
  exact ⟨u,h1,h2,h3,trivial⟩
 ·rw [dY hB hb,hw] at h2;cases h2
def fI (s:Tmp) (keys:List Tmp) (ops:Array Oper) (o:Oper):Bool:=(match o.op with | .select _ _=>false | _=>true)&&(o.op.operands.toList.all fun x=>match x with | .tmp t=>t == s||!keys.contains t | _=>true) &&
 (match o.guard with | some (g,_)=>((ops[g]?).bind (·.dst)).toList.all fun t=>!keys.contains t | none=>true)&&(o.looksAt ops).contains s
theorem fZ {s:Tmp} {b:Act} (hB:fI s (L.map (·.1)) ops o=true) (hb:fF (aI L) b a):Region.wanted o (yielded ops b.tmps)=Region.wanted o (yielded ops a.tmps):=by
 refine mg hb fun g _ hg t ht=>gA ?_
 simp only [fI,Bool.and_eq_true] at hB
 have h:=hB.1.2
 rw [hg] at h
 simpa [ht] using h
theorem iE {s:Tmp} {u:Value} {b:Act} (hB:fI s (L.map (·.1)) ops o=true) (hb:fF (aI L) b a) (hu:b.tmps[s]?=some u):execOp b.eval o=execOp (a.put (some s) u).eval o:=by
 simp only [fI,Bool.and_eq_true] at hB
 refine execOp_congr o ?_ fun x hx=>?_
 ·intro cs d e
  have h:=hB.1.1.1
  rw [e] at h
  cases h
 ·refine (hb.fix hu).eval fun t e=>?_
  have h:=List.all_eq_true.1 hB.1.1.2 x (by simpa using hx)
  rw [e] at h
  simp only [Bool.or_eq_true,beq_iff_eq,Bool.not_eq_true'] at h
  rcases h with h | h
  ·rw [if_pos h]
  ·split
   ·rfl
   ·exact gA h
theorem gG {s:Tmp} {V:Value→World→Prop} {b:Act} {w:World} (hB:fI s (L.map (·.1)) ops o=true) (hV:aI L s=some V) (hh:Holds (aI L) (o.looksAt ops) b w):∃ u,b.tmps[s]?=some u∧V u w:=by
 simp only [fI,Bool.and_eq_true] at hB
 exact hh s (by simpa using hB.2) V hV
omit [cV X] in
theorem wS (s:Tmp) (V:Value→World→Prop) (v:Value) (hB:fI s (L.map (·.1)) ops o=true) (hV:aI L s=some V) (hw:Region.wanted o (yielded ops a.tmps)=true) (hd:o.dst.bind (aI L)=none)
  (hrun:∀ u w,Ext X w0 w→V u w→(execOp (a.put (some s) u).eval o).run P w=.ok (.value v) w) (h:bN X P ops (aI L) w0 Q rest (a.put o.dst v)):bN X P ops (aI L) w0 Q (o :: rest) a:=by
 refine ⟨v,fun b w hx hb hh=>⟨fun _=>?_,fun h2=>?_⟩,h⟩
 ·obtain ⟨u,hu,hVu⟩:=gG hB hV hh
  rw [hd,iE hB hb hu,hrun u w hx hVu]
  exact ⟨rfl,rfl⟩
 ·rw [fZ hB hb,hw] at h2;cases h2
omit [cV X] in
theorem e5 (s:Tmp) (V:Value→World→Prop) (v:Value) (f:Nat) (args:Value→Array Value) (hB:fI s (L.map (·.1)) ops o=true) (hV:aI L s=some V) (hw:Region.wanted o (yielded ops a.tmps)=true) (hd:o.dst.bind (aI L)=none)
  (hrun:∀ u w,(execOp (a.put (some s) u).eval o).run P w=.ok (.enter f (args u)) w) (hc:∀ u w,Ext X w0 w→V u w→Calls P f (args u) w fun e w'=>e=.returned v∧Ext X w w')
  (h:bN X P ops (aI L) w0 Q rest (a.put o.dst v)):bN X P ops (aI L) w0 Q (o :: rest) a:=by
 refine ⟨v,fun b w hx hb hh=>⟨fun _=>?_,fun h2=>?_⟩,h⟩
 ·obtain ⟨u,hu,hVu⟩:=gG hB hV hh
  rw [hd,iE hB hb hu,hrun u w]
  exact ⟨rfl,hc u w hx hVu⟩
 ·rw [fZ hB hb,hw] at h2;cases h2
omit [cV X] in
theorem o7 (s:Tmp) (V:Value→World→Prop) (t:Tmp) (V':Value→World→Prop) (hB:fI s (L.map (·.1)) ops o=true) (hV:aI L s=some V) (hw:Region.wanted o (yielded ops a.tmps)=true) (hd:o.dst=some t) (hV':aI L t=some V')
  (hrun:∀ u w,Ext X w0 w→V u w→∃ u' w',(execOp (a.put (some s) u).eval o).run P w=.ok (.value u') w'∧Ext X w w'∧V' u' w')
  (h:bN X P ops (aI L) w0 Q rest (a.put o.dst undef)):bN X P ops (aI L) w0 Q (o :: rest) a:=by
 refine ⟨undef,fun b w hx hb hh=>⟨fun _=>?_,fun h2=>?_⟩,h⟩
 ·obtain ⟨u,hu,hVu⟩:=gG hB hV hh
  obtain ⟨u',w',h1,h2,h3⟩:=hrun u w hx hVu
  rw [hd,Option.bind_some,hV',iE hB hb hu,h1]
  exact ⟨rfl,h2,h3,trivial⟩
 ·rw [fZ hB hb,hw] at h2;cases h2
def ended:fY→World→Act→(Act→Prop)→Prop
 | [],_,a,K=>K a
 | (t,V) :: L,w,a,K=>∀ u,V u w→ended L w (a.put (some t) u) K
theorem kj (K:Act→Prop) (w:World):∀ (L:fY) (a b:Act),fF (aI L) b a→(L.map (·.1)).Nodup→(∀ t V,(t,V)∈L→∃ u,b.tmps[t]?=some u∧V u w)→ended L w a K→K b
 | [],a,b,hs,_,_,h=>by
  obtain rfl:=hs.eq (fun _=>rfl)
  exact h
 | (t,V) :: L,a,b,hs,hn,hh,h=>by
  obtain ⟨u,hu,hVu⟩:=hh t V (by simp)
  have h2:=h u hVu
  simp only [List.map_cons,List.nodup_cons] at hn
  refine kj K w L _ b ?_ hn.2 (fun s V' hm=>hh s V' (by simp [hm])) h2
  have h3:=hs.fix hu
  refine ⟨h3.1,h3.2.1,fun s hs'=>h3.2.2 s ?_⟩
  show (if s=t then none else aI ((t,V) :: L) s)=none
  split
  ·rfl
  ·rename_i hne
   rw [ma,if_neg (Ne.symm hne)]
   exact hs'
theorem l5 {Q:Exit→Act→World→Prop} {a:Act} {w:World} {l:List Oper} (n:Nat) (L:fY) (hm:P.follows .mixedOrders=true)
  (hB:(Region.lexTailB .any l.toArray n&&pa .any l.toArray (L.map (·.1)) n&&iO l.toArray (L.map (·.1)) n)=true) (hL:∀ p∈L,eN X p.2) (hn:(L.map (·.1)).Nodup) (hrange:∀ t∈L.map (·.1),t<a.tmps.size)
  (h:bN X P l.toArray (aI L) w (fun a'=>∀ w',Ext X w w'→ended L w' a' fun b=>wpList P l.toArray Q (l.drop n) b w') (l.take n) a) :
  wpAny P .any l.toArray Q l.toArray.size (Array.replicate l.toArray.size false) a w.drew:=by
 refine lD n (L.map (·.1)) (aI L) hm hB (fun t V hV=>List.mem_map.2 ⟨_,hT hV,rfl⟩) (rT hL) hrange ?_
 have e:∀ (rest:List Oper) (a:Act),bN X P l.toArray (aI L) w (fun a'=>∀ w',Ext X w w'→ended L w' a' fun b=>wpList P l.toArray Q (l.drop n) b w') rest a →
   bN X P l.toArray (aI L) w (fun a'=>∀ b w',Ext X w w'→fF (aI L) b a'→(∀ t V,aI L t=some V→∃ u,b.tmps[t]?=some u∧V u w')→wpList P l.toArray Q (l.drop n) b w') rest a:=by
  intro rest
  induction rest with
  | nil =>
   intro a h b w' hx hs hh
   exact kj _ w' L a b hs hn (fun t V hm=>hh t V (iR hn hm)) (h w' hx)
  | cons o rest ih =>
   intro a h
   obtain ⟨v,h1,h2⟩:=h
   exact ⟨v,h1,ih _ h2⟩
 exact e _ _ h
theorem cq {id:Nat} {Q:Exit→Act→World→Prop} {a:Act} {w:World} {l:List Oper} (n:Nat) (L:fY) (hm:P.follows .mixedOrders=true)
  (hB:(Region.lexTailB .any l.toArray n&&pa .any l.toArray (L.map (·.1)) n&&iO l.toArray (L.map (·.1)) n)=true) (hL:∀ p∈L,eN X p.2) (hn:(L.map (·.1)).Nodup) (hrange:∀ t∈L.map (·.1),t<a.tmps.size)
  (h:bN X P l.toArray (aI L) w (fun a'=>∀ w',Ext X w w'→ended L w' a' fun b=>wpList P l.toArray Q (l.drop n) b w') (l.take n) a) :
  (Code.region id l.toArray true).wp P Q a w:=wp_region_any hm (l5 n L hm hB hL hn hrange h)
end
end Go.Proofs.YtomnhnmciopiiaaGreat.Fre
end
section
namespace Go.Proofs.YtomnhnmciopiiaaGreat.Fre
open Go Go.RowKit
section
variable {P:Program} {ops:Array Oper} {md:Region.Mode} {F:Made} {w0:World} {X:World→World→Prop} [cV X]
theorem yb {n j:Nat} {d:Array Bool} (hn:n=ops.size) (hj:j∈Region.ready md ops d):j<n:=by
 obtain ⟨_,oj,hoj,_⟩:=mem_ready.1 hj
 rw [hn]
 exact (Array.getElem?_eq_some_iff.1 hoj).1
omit [cV X] in
theorem qm {n i:Nat} {oi:Oper} {v:Value} {L:Array Bool→Act→Prop} (hi:ops[i]?=some oi) (hsel:∀ (j:Nat) (o:Oper) cs b,ops[j]?=some o→o.op ≠ .select cs b)
  (hn:n=ops.size) (hin:i<n) (hdone:∀ d a,L d a→∀ j∈Region.ready md ops d,n≤j) (f:Nat) :
  ∀ (d:Array Bool) (a:Act),HeadInv md ops n d →
   (∀ j oj,ops[j]?=some oj→j ≠ i→d.getD j true=false→(∀ e∈oj.after,Region.binds md e=true→e.on ≠ i)→oi.apart ops oj=true) →
   i∈Region.ready md ops d→kQ X P ops F w0 oi v a →
   l4 X P md ops F w0 n L f (d.setIfInBounds i true) (a.put oi.dst v)→l4 X P md ops F w0 n L (f+1) d a:=by
 have own:∀ (K:Act→Prop) (a:Act),kQ X P ops F w0 oi v a→K (a.put oi.dst v)→iH X P ops F w0 i K a:=by
  intro K a hy hk
  unfold iH
  simp only [hi]
  exact ⟨v,hy,hk⟩
 induction f with
 | zero =>
  intro d a inv _ hr hy H
  refine ⟨List.ne_nil_of_mem hr,fun j hj=>?_⟩
  have hjn:=yb hn hj
  refine ⟨hjn,?_⟩
  rcases Nat.decEq j i with hji | hji
  ·exact absurd (hdone _ _ H j (ready_mono hj hji)) (by omega)
  ·subst hji
   exact own _ _ hy H
 | succ f ih =>
  intro d a inv hfree hr hy H
  refine ⟨List.ne_nil_of_mem hr,fun j hj=>?_⟩
  have hjn:=yb hn hj
  refine ⟨hjn,?_⟩
  rcases Nat.decEq j i with hji | hji
  ·obtain ⟨hjun,oj,hoj,hall⟩:=mem_ready.1 hj
   have hnot:∀ e∈oj.after,Region.binds md e=true→e.on ≠ i:=by
    intro e he hb heq
    have h1:=hall e he hb
    rw [heq,getD_both (mem_ready.1 hr).1] at h1
    cases h1
   have hstep:=pz hoj (hfree j oj hoj hji hjun hnot) (fun cs b=>hsel i oi cs b hi) (fun cs b=>hsel j oj cs b hoj) hy (H.2 j (ready_mono hj hji)).2
   refine na (fun a' h3=>ih (d.setIfInBounds j true) a' (inv.set hj hjn) ?_ (ready_mono hr (Ne.symm hji)) h3.1 ?_) hstep
   ·intro k ok hk hki hunk hno
    refine hfree k ok hk hki ?_ hno
    rcases Nat.decEq j k with hjk | hjk
    ·rwa [getD_set_ne true hjk] at hunk
    ·subst hjk
     exact hjun
   ·rw [Array.setIfInBounds_comm _ _ hji]
    exact h3.2
  ·subst hji
   exact own _ _ hy H
omit [cV X] in
theorem ob {n g:Nat} {Lq:Act→Prop} (hsel:Region.noSelect ops=true) (hn:n=ops.size) :
  ∀ (l:List Oper) (k:Nat) (d:Array Bool) (a:Act),(∀ j,j<l.length→l[j]?=ops[k+j]?)→k+l.length=n→HeadInv md ops n d→(∀ i,i<k→d.getD i false=true) →
  Region.lexHead md ops g l.length k d=true→bN X P ops F w0 Lq l a →
  l4 X P md ops F w0 n (fun d' a'=>(Region.seqB md ops g n d'=true∧∀ i,i<n→d'.getD i false=true)∧Lq a') l.length d a
 | [],k,d,a,_,hk,_,hd,hB,h=>by
  obtain rfl:k=n:=by simpa using hk
  exact ⟨⟨by simpa [Region.lexHead] using hB,hd⟩,h⟩
 | o :: l,k,d,a,hl,hk,inv,hd,hB,h=>by
  have h0:ops[k]?=some o:=by simpa using (hl 0 (by simp)).symm
  simp only [List.length_cons,Region.lexHead,Bool.and_eq_true] at hB
  obtain ⟨⟨hr,hf⟩,hB'⟩:=hB
  have hkn:k<n:=by simp only [List.length_cons] at hk;omega
  have hr':k∈Region.ready md ops d:=by simpa using hr
  obtain ⟨v,hy,hK⟩:=h
  refine qm h0 (Region.noSelect_spec hsel) hn hkn (fun d' a' hL=>seqB_ready hL.1.1) l.length d a inv (Region.free_spec h0 hf) hr' hy ?_
  refine ob hsel hn l (k+1) _ _ (fun j hj=>?_) (by simp only [List.length_cons] at hk;omega) (inv.set hr' hkn) (fun i hi=>?_) hB' hK
  ·have:=hl (j+1) (by simp;omega)
   simpa [Nat.add_assoc,Nat.add_comm 1 j] using this
  ·by_cases e:k=i
   ·subst e
    have:k<d.size:=by rw [inv.size];omega
    simp [this]
   ·rw [getD_set_ne false e]
    exact hd i (by omega)
theorem ou {id:Nat} {Q:Exit→Act→World→Prop} {a:Act} {w:World} {l:List Oper} (keys:List Tmp) (F:Made) (hm:P.follows .mixedOrders=true)
  (hB:(Region.noSelect l.toArray&&Region.lexHead .any l.toArray 0 l.length 0 (Array.replicate l.toArray.size false)&&pa .any l.toArray keys l.length&&iO l.toArray keys l.length)=true) (hkeys:∀ t V,F t=some V→t∈keys) (hF:stays X F) (hrange:∀ t∈keys,t<a.tmps.size)
  (h:bN X P l.toArray F w (fun a'=>∀ b w',Ext X w w'→fF F b a'→(∀ t V,F t=some V→∃ u,b.tmps[t]?=some u∧V u w')→Q .normal b w') l a) :
  (Code.region id l.toArray true).wp P Q a w:=by
 simp only [Bool.and_eq_true] at hB
 obtain ⟨⟨⟨hsel,hlex⟩,hmade⟩,hallm⟩:=hB
 have inv0:HeadInv .any l.toArray l.length (Array.replicate l.toArray.size false) :=
  ⟨by simp,fun j oj _ hl=>(by rw [getD_replicate_false] at hl;cases hl),fun t ht ht'=>absurd ht' (by simp;omega)⟩
 have H:=ob (md:=.any) (g:=0) (n:=l.length) hsel (by simp) l 0 _ a (fun j hj=>by simp) (by simp) inv0 (fun i hi=>absurd hi (Nat.not_lt_zero _)) hlex h
 refine wp_region_any hm ?_
 have hfin:=ir (Q':=Q) (g:=0) (size:=a.tmps.size) hF hkeys hmade (fun _ _ _ _ _=>trivial) (fun t V h=>hrange t (hkeys t V h)) (fun d a' b w' _ hsim hL=>by
  have mk:∀ t V,F t=some V→∃ i oi,l.toArray[i]?=some oi∧d.getD i false=true∧oi.dst=some t:=by
   intro t V hFt
   have h5:=List.all_eq_true.1 hallm t (hkeys t V hFt)
   obtain ⟨i,hi,hi2⟩:=List.any_eq_true.1 h5
   simp only [beq_iff_eq] at hi2
   cases hoi:l.toArray[i]? with
   | none=>simp [hoi] at hi2
   | some oi=>exact ⟨i,oi,hoi,hL.1.2 i (List.mem_range.1 hi),by simpa [hoi] using hi2⟩
  have h2:=hL.2 b w' hsim.1 hsim.2.1 (fun t V hFt=>by
   obtain ⟨i,oi,hoi,hdn,hdst⟩:=mk t V hFt
   exact hsim.2.2 i oi t V hoi hdn hdst hFt)
  exact ⟨by simpa [Region.seqB] using hL.1.1,h2⟩) _ _ a a w.drew rfl inv0 ⟨Ext.drew w,⟨rfl,rfl,fun _ _=>rfl⟩,fun i o t V _ hd=>by rw [getD_replicate_false] at hd;cases hd⟩ H
 rw [show l.length+0=l.toArray.size by simp] at hfin
 exact hfin
end
section
variable {P:Program} {ops:Array Oper} {L:fY} {w0:World} {X:World→World→Prop} [cV X]
theorem aW {id:Nat} {Q:Exit→Act→World→Prop} {a:Act} {w:World} {l:List Oper} (L:fY) (hm:P.follows .mixedOrders=true)
  (hB:(Region.noSelect l.toArray&&Region.lexHead .any l.toArray 0 l.length 0 (Array.replicate l.toArray.size false)&&pa .any l.toArray (L.map (·.1)) l.length&&iO l.toArray (L.map (·.1)) l.length)=true) (hL:∀ p∈L,eN X p.2) (hn:(L.map (·.1)).Nodup) (hrange:∀ t∈L.map (·.1),t<a.tmps.size)
  (h:bN X P l.toArray (aI L) w (fun a'=>∀ w',Ext X w w'→ended L w' a' fun b=>Q .normal b w') l a) :
  (Code.region id l.toArray true).wp P Q a w:=by
 refine ou (L.map (·.1)) (aI L) hm hB (fun t V hV=>List.mem_map.2 ⟨_,hT hV,rfl⟩) (rT hL) hrange ?_
 have e:∀ (rest:List Oper) (a:Act),bN X P l.toArray (aI L) w (fun a'=>∀ w',Ext X w w'→ended L w' a' fun b=>Q .normal b w') rest a →
   bN X P l.toArray (aI L) w (fun a'=>∀ b w',Ext X w w'→fF (aI L) b a'→(∀ t V,aI L t=some V→∃ u,b.tmps[t]?=some u∧V u w')→Q .normal b w') rest a:=by
  intro rest
  induction rest with
  | nil =>
   intro a h b w' hx hs hh
   exact kj _ w' L a b hs hn (fun t V hm=>hh t V (iR hn hm)) (h w' hx)
  | cons o rest ih =>
   intro a h
   obtain ⟨v,h1,h2⟩:=h
   exact ⟨v,h1,ih _ h2⟩
 exact e _ _ h
end
end Go.Proofs.YtomnhnmciopiiaaGreat.Fre
end
section
namespace Go.Proofs.YtomnhnmciopiiaaGreat
open Go Go.RowKit
def Bel (w w':World):Prop:=Below w.heap.size w w'
instance:Fre.cV Bel where
 refl:=fun w=>Below.refl _ w
 trans:=fun _ _ _ h k=>Below.trans h (Below.mono k h.size)
 drew:=fun w=>(Below.refl _ w).drew
end Go.Proofs.YtomnhnmciopiiaaGreat
end
section
namespace Go.Proofs.YtomnhnmciopiiaaGreat
open Go Go.RowKit
theorem a6 {P:Program} {ρ:Operand→Value} {o:Oper} (t:TypeId) (x y:Operand) (r:TypeId) (ho:o.op=.binOp .add t x y r) (a b:ByteArray) (hx:ρ x=.string a) (hy:ρ y=.string b) (hs:a.size+b.size≤9223372036854775807) (W:World):(execOp ρ o).run P W=.ok (.value (.string (a++b))) W:=by
 unfold execOp
 simp [ho,hx,hy,go_sem,eqGuard,binOp,hs]
end Go.Proofs.YtomnhnmciopiiaaGreat
end
section
namespace Go.Proofs.YtomnhnmciopiiaaGreat
open Go Go.RowKit Go.Maps
set_option maxRecDepth 100000
theorem wO {p:Pth} {w:World} {g:Nat} (_:okP p) (hb:Blk w g 83 (pC p).toArray):w.rangeAt g 0 (bv p.1):=by
 have h1:=dK hb
 exact cz (c2:=[.string p.2]) (by simpa [pC] using h1)
theorem oQ {p:Pth} {w:World} {g:Nat} (h:okP p) (hb:Blk w g 83 (pC p).toArray):w.cell? ⟨g,20,none⟩=some (.string p.2):=by
 rw [hb.cell,List.getElem?_toArray]
 have hl:(bv p.1).length=20:=by rw [bvL];exact h.1
 rw [show pC p=bv p.1++[.string p.2] from rfl,List.getElem?_append_right (by omega),hl]
 rfl
def fW (p:Pth):ByteArray:=⟨(aQ p.1).toArray⟩++⟨#[45]⟩++p.2
theorem dv {s:ByteArray} (h:bR s=true):s.size≤24:=by
 unfold bR ft at h
 simp only [Bool.and_eq_true] at h
 have:=of_decide_eq_true h.2.2.1
 omega
theorem tr {h:Hsh} {s:ByteArray} (hh:okH h) (hs:s.size≤24):(⟨(aQ h).toArray⟩:ByteArray).size+(⟨#[45]⟩:ByteArray).size≤9223372036854775807∧(⟨(aQ h).toArray⟩++⟨#[45]⟩:ByteArray).size+s.size≤9223372036854775807:=by
 have hll:=dr h
 have hpl:h.length=20:=hh
 have hs1:(⟨(aQ h).toArray⟩:ByteArray).size=(aQ h).length:=rfl
 have hs2:(⟨#[45]⟩:ByteArray).size=1:=rfl
 rw [ByteArray.size_append,hs1,hs2]
 omega
set_option maxHeartbeats 4000000 in
theorem zb (w:World) (p:Pth) (hp:okP p) :
  Calls Tryz.prog 182 #[.agg (pC p).toArray] w fun e w'=>e=.returned (if bR p.2=true then .tuple #[.string (fW p),.int .i64 0] else .tuple #[.string ⟨#[]⟩,.int .i64 2])∧Below w.heap.size w w':=by
 obtain ⟨w1,hw1⟩:∃ w1,w1=w.alloc (.cells (pC p).toArray 83):=⟨_,rfl⟩
 have hb1:Below w.heap.size w w1:=by rw [hw1];exact (Below.refl _ w).alloc (Nat.le_refl _) _
 have hk1:Blk w1 w.heap.size 83 (pC p).toArray:=by rw [hw1];exact Blk.new _ _ _
 have c20:=oQ hp hk1
 have H1:=ah (And.intro hk1 hb1)
 have HW1:=ah hw1
 clear hk1 hb1 hw1
 go_enter Tryz.func182,Tryz.ntmps182
 go_wp2_with ((with_reducible refine ag 1 ?_);refine aa (o:=⟨some 1,_,_,_,_,_⟩) rfl (.pointer (some ⟨w.heap.size,0,none⟩)) w1 (by rw [HW1.out];kernel_rfl) ?_)
 refine (kx p.2 hp.2 w1).mono ?_
 rintro e w2 ⟨rfl,hb⟩
 dsimp only
 have HK:=ah (And.intro (H1.out.1.below hb H1.out.1.lt) (H1.out.2.trans (Below.mono hb H1.out.2.size)))
 clear hb
 by_cases hn:bR p.2=true
 ·have HL:=ah (tr hp.1 (dv hn))
  rw [hn]
  go_wp2_with fail
  refine Fre.cq (X:=Bel) 7 [] (by kernel_rfl) (by kernel_rfl) (by simp) (by simp) (by simp) ?_
  simp only [List.take_succ_cons,List.take_zero,List.drop_succ_cons,List.drop_zero]
  refine Fre.ae (.pointer (some ⟨w.heap.size,0,none⟩)) (by kernel_rfl) (by kernel_rfl) (by kernel_rfl) (fun _ _=>by kernel_rfl) ?_
  simp only [Act.put,List.setIfInBounds_toArray,List.set_cons_zero,List.set_cons_succ]
  refine Fre.ae (.agg (bv p.1).toArray) (by kernel_rfl) (by kernel_rfl) (by kernel_rfl) (fun W9 hW9=>ai (o:=⟨some 9,_,_,_,_,_⟩) 34 (.tmp 8) rfl w.heap.size (0) rfl (bv p.1) _ W9 (wO hp (HK.out.1.below hW9 HK.out.1.lt)) Tryz.underlying34 rfl (by have:=eR hp.1;simpa using this)) ?_
  simp only [Act.put,List.setIfInBounds_toArray,List.set_cons_zero,List.set_cons_succ]
  refine Fre.aA (.string ⟨(aQ p.1).toArray⟩) 181 #[.agg (bv p.1).toArray] (by kernel_rfl) (by kernel_rfl) (by kernel_rfl) (fun W9=>by kernel_rfl) (fun W9 hW9=>(l7 W9 p.1 hp.1)) ?_
  simp only [Act.put,List.setIfInBounds_toArray,List.set_cons_zero,List.set_cons_succ]
  refine Fre.ae (.string (⟨(aQ p.1).toArray⟩++⟨#[45]⟩)) (by kernel_rfl) (by kernel_rfl) (by kernel_rfl) (fun W9 hW9=>a6 (o:=⟨some 11,_,_,_,_,_⟩) 9 (.tmp 10) (.const (.string ⟨#[45]⟩)) 9 rfl (⟨(aQ p.1).toArray⟩) (⟨#[45]⟩) rfl rfl (by have:=HL.out;exact this.1) W9) ?_
  simp only [Act.put,List.setIfInBounds_toArray,List.set_cons_zero,List.set_cons_succ]
  refine Fre.ae (.pointer (some ⟨w.heap.size,20,none⟩)) (by kernel_rfl) (by kernel_rfl) (by kernel_rfl) (fun _ _=>by kernel_rfl) ?_
  simp only [Act.put,List.setIfInBounds_toArray,List.set_cons_zero,List.set_cons_succ]
  refine Fre.ae (.string p.2) (by kernel_rfl) (by kernel_rfl) (by kernel_rfl) (fun W9 hW9=>exec_load_cell (o:=⟨some 13,_,_,_,_,_⟩) 9 (.tmp 12) rfl ⟨w.heap.size,20,none⟩ rfl _ _ W9 Tryz.underlying9 rfl (oQ hp (HK.out.1.below hW9 HK.out.1.lt))) ?_
  simp only [Act.put,List.setIfInBounds_toArray,List.set_cons_zero,List.set_cons_succ]
  refine Fre.ae (.string ((⟨(aQ p.1).toArray⟩++⟨#[45]⟩)++p.2)) (by kernel_rfl) (by kernel_rfl) (by kernel_rfl) (fun W9 hW9=>a6 (o:=⟨some 14,_,_,_,_,_⟩) 9 (.tmp 11) (.tmp 13) 9 rfl ((⟨(aQ p.1).toArray⟩++⟨#[45]⟩)) (p.2) rfl rfl (by have:=HL.out;exact this.2) W9) ?_
  simp only [Act.put,List.setIfInBounds_toArray,List.set_cons_zero,List.set_cons_succ]
  intro w4 hx4
  have H4:=ah (HK.out.2.trans (Below.mono hx4 HK.out.2.size))
  clear hx4
  dsimp only [Fre.ended,List.drop]
  go_wp2_with fail
  refine bodyPost_ret (v:=.tuple #[.string (fW p),.int .i64 0]) (by simp [results,Tryz.results182,fW,go_sem]) rfl ?_
  exact ⟨rfl,H4.out⟩
 ·have hn':bR p.2=false:=by simpa using hn
  rw [hn']
  go_wp2_with fail
  refine bodyPost_ret (v:=.tuple #[.string ⟨#[]⟩,.int .i64 2]) (by simp [results,Tryz.results182,go_sem]) rfl ?_
  exact ⟨rfl,HK.out.2⟩
def fu (x:Nam):ByteArray:=if x.2.2.2=true then ⟨#[99,108,97,115,115,32]⟩++x.1++⟨#[32]⟩++⟨(aQ x.2.2.1).toArray⟩ else ⟨#[115,114,99,32]⟩++x.1++⟨#[32]⟩++fW x.2.1
theorem km (p:Pth):(fW p).size=(aQ p.1).length+1+p.2.size:=by
 rw [fW,ByteArray.size_append,ByteArray.size_append]
 rfl
theorem rZ {x:Nam} (h:okN x) (hs:x.1.size≤24):(⟨#[99,108,97,115,115,32]⟩:ByteArray).size+x.1.size≤9223372036854775807∧(⟨#[99,108,97,115,115,32]⟩++x.1:ByteArray).size+(⟨#[32]⟩:ByteArray).size≤9223372036854775807∧(⟨#[99,108,97,115,115,32]⟩++x.1++⟨#[32]⟩:ByteArray).size+(⟨(aQ x.2.2.1).toArray⟩:ByteArray).size≤9223372036854775807:=by
 have hll:=dr x.2.2.1
 have hpl:x.2.2.1.length=20:=h.2.2
 have hs1:(⟨(aQ x.2.2.1).toArray⟩:ByteArray).size=(aQ x.2.2.1).length:=rfl
 have hs2:(⟨#[32]⟩:ByteArray).size=1:=rfl
 have hs3:(⟨#[99,108,97,115,115,32]⟩:ByteArray).size=6:=rfl
 simp only [ByteArray.size_append,hs1,hs2,hs3]
 omega
theorem sG {x:Nam} (h:okN x) (hs:x.1.size≤24) (hp:x.2.1.2.size≤24):(⟨#[115,114,99,32]⟩:ByteArray).size+x.1.size≤9223372036854775807∧(⟨#[115,114,99,32]⟩++x.1:ByteArray).size+(⟨#[32]⟩:ByteArray).size≤9223372036854775807∧(⟨#[115,114,99,32]⟩++x.1++⟨#[32]⟩:ByteArray).size+(fW x.2.1).size≤9223372036854775807:=by
 have hll:=dr x.2.1.1
 have hpl:x.2.1.1.length=20:=h.2.1.1
 have hs2:(⟨#[32]⟩:ByteArray).size=1:=rfl
 have hs3:(⟨#[115,114,99,32]⟩:ByteArray).size=4:=rfl
 simp only [ByteArray.size_append,km,hs2,hs3]
 omega
set_option maxHeartbeats 4000000 in
theorem zk (w:World) (x:Nam) (hx:okN x) (hnm:x.1.size≤24) (hsrc:x.2.2.2=false→bR x.2.1.2=true) :
  Calls Tryz.prog 160 #[.agg (nC x).toArray] w fun e w'=>e=.returned (.string (fu x))∧Below w.heap.size w w':=by
 obtain ⟨w1,hw1⟩:∃ w1,w1=w.alloc (.cells (nC x).toArray 87):=⟨_,rfl⟩
 have hb1:Below w.heap.size w w1:=by rw [hw1];exact (Below.refl _ w).alloc (Nat.le_refl _) _
 have hk1:Blk w1 w.heap.size 87 (nC x).toArray:=by rw [hw1];exact Blk.new _ _ _
 have H1:=ah (And.intro hk1 hb1)
 have HW1:=ah hw1
 clear hk1 hb1 hw1
 by_cases his:x.2.2.2=true
 ·have HIS:=ah his
  have c42:=fS hx H1.out.1
  rw [his] at c42
  have HL:=ah (rZ (x:=x) hx hnm)
  clear his
  go_enter Tryz.func160,Tryz.ntmps160
  go_wp2_with ((with_reducible refine ag 1 ?_);refine aa (o:=⟨some 1,_,_,_,_,_⟩) rfl (.pointer (some ⟨w.heap.size,0,none⟩)) w1 (by rw [HW1.out];kernel_rfl) ?_)
  refine Fre.cq (X:=Bel) 9 [] (by kernel_rfl) (by kernel_rfl) (by simp) (by simp) (by simp) ?_
  simp only [List.take_succ_cons,List.take_zero,List.drop_succ_cons,List.drop_zero]
  refine Fre.ae (.pointer (some ⟨w.heap.size,0,none⟩)) (by kernel_rfl) (by kernel_rfl) (by kernel_rfl) (fun _ _=>by kernel_rfl) ?_
  simp only [Act.put,List.setIfInBounds_toArray,List.set_cons_zero,List.set_cons_succ]
  refine Fre.ae (.string x.1) (by kernel_rfl) (by kernel_rfl) (by kernel_rfl) (fun W9 hW9=>exec_load_cell (o:=⟨some 9,_,_,_,_,_⟩) 9 (.tmp 8) rfl ⟨w.heap.size,0,none⟩ rfl _ _ W9 Tryz.underlying9 rfl (e6 (H1.out.1.below hW9 H1.out.1.lt))) ?_
  simp only [Act.put,List.setIfInBounds_toArray,List.set_cons_zero,List.set_cons_succ]
  refine Fre.ae (.string (⟨#[99,108,97,115,115,32]⟩++x.1)) (by kernel_rfl) (by kernel_rfl) (by kernel_rfl) (fun W9 hW9=>a6 (o:=⟨some 10,_,_,_,_,_⟩) 9 (.const (.string ⟨#[99,108,97,115,115,32]⟩)) (.tmp 9) 9 rfl (⟨#[99,108,97,115,115,32]⟩) (x.1) rfl rfl HL.out.1 W9) ?_
  simp only [Act.put,List.setIfInBounds_toArray,List.set_cons_zero,List.set_cons_succ]
  refine Fre.ae (.string ((⟨#[99,108,97,115,115,32]⟩++x.1)++⟨#[32]⟩)) (by kernel_rfl) (by kernel_rfl) (by kernel_rfl) (fun W9 hW9=>a6 (o:=⟨some 11,_,_,_,_,_⟩) 9 (.tmp 10) (.const (.string ⟨#[32]⟩)) 9 rfl ((⟨#[99,108,97,115,115,32]⟩++x.1)) (⟨#[32]⟩) rfl rfl HL.out.2.1 W9) ?_
  simp only [Act.put,List.setIfInBounds_toArray,List.set_cons_zero,List.set_cons_succ]
  refine Fre.ae (.pointer (some ⟨w.heap.size,1,none⟩)) (by kernel_rfl) (by kernel_rfl) (by kernel_rfl) (fun _ _=>by kernel_rfl) ?_
  simp only [Act.put,List.setIfInBounds_toArray,List.set_cons_zero,List.set_cons_succ]
  refine Fre.ae (.pointer (some ⟨w.heap.size,22,none⟩)) (by kernel_rfl) (by kernel_rfl) (by kernel_rfl) (fun _ _=>by kernel_rfl) ?_
  simp only [Act.put,List.setIfInBounds_toArray,List.set_cons_zero,List.set_cons_succ]
  refine Fre.ae (.agg (bv x.2.2.1).toArray) (by kernel_rfl) (by kernel_rfl) (by kernel_rfl) (fun W9 hW9=>ai (o:=⟨some 14,_,_,_,_,_⟩) 34 (.tmp 13) rfl w.heap.size (22) rfl (bv x.2.2.1) _ W9 (gS hx (H1.out.1.below hW9 H1.out.1.lt)) Tryz.underlying34 rfl (by have:=eR hx.2.2;simpa using this)) ?_
  simp only [Act.put,List.setIfInBounds_toArray,List.set_cons_zero,List.set_cons_succ]
  refine Fre.aA (.string ⟨(aQ x.2.2.1).toArray⟩) 181 #[.agg (bv x.2.2.1).toArray] (by kernel_rfl) (by kernel_rfl) (by kernel_rfl) (fun W9=>by kernel_rfl) (fun W9 hW9=>(l7 W9 x.2.2.1 hx.2.2)) ?_
  simp only [Act.put,List.setIfInBounds_toArray,List.set_cons_zero,List.set_cons_succ]
  refine Fre.ae (.string ((⟨#[99,108,97,115,115,32]⟩++x.1++⟨#[32]⟩)++⟨(aQ x.2.2.1).toArray⟩)) (by kernel_rfl) (by kernel_rfl) (by kernel_rfl) (fun W9 hW9=>a6 (o:=⟨some 16,_,_,_,_,_⟩) 9 (.tmp 11) (.tmp 15) 9 rfl ((⟨#[99,108,97,115,115,32]⟩++x.1++⟨#[32]⟩)) (⟨(aQ x.2.2.1).toArray⟩) rfl rfl HL.out.2.2 W9) ?_
  simp only [Act.put,List.setIfInBounds_toArray,List.set_cons_zero,List.set_cons_succ]
  intro w4 hx4
  have H4:=ah (H1.out.2.trans (Below.mono hx4 H1.out.2.size))
  clear hx4
  dsimp only [Fre.ended,List.drop]
  go_wp2_with fail
  go_ret
  exact ⟨by rw [fu,if_pos HIS.out];rfl,H4.out⟩
 ·have his':x.2.2.2=false:=by simpa using his
  have HIS:=ah his
  have c42:=fS hx H1.out.1
  rw [his'] at c42
  have hszp:(Tryz.prog.info? 83).map (·.size)=some (pC x.2.1).length:=by have:=psz hx.2.1;simpa using this
  have hpn:=hsrc his'
  have c0:=e6 H1.out.1
  have HL:=ah (sG (x:=x) hx hnm (dv hpn))
  have HPN:=ah hpn
  clear his his' hsrc hpn
  go_enter Tryz.func160,Tryz.ntmps160
  go_wp2_with (first | ((with_reducible refine ag 1 ?_);(refine aa (o:=⟨some 1,_,_,_,_,_⟩) rfl (.pointer (some ⟨w.heap.size,0,none⟩)) w1 (by rw [HW1.out];kernel_rfl) ?_)) | ((with_reducible refine ag 20 ?_);(refine aa (o:=⟨some 20,_,_,_,_,_⟩) rfl (.agg (pC x.2.1).toArray) w1 (ai (o:=⟨some 20,_,_,_,_,_⟩) 83 (.tmp 19) rfl w.heap.size (1) rfl (pC x.2.1) _ w1 (lR H1.out.1) Tryz.underlying83 rfl hszp) ?_)))
  refine (zb w1 x.2.1 hx.2.1).mono ?_
  rintro e w2 ⟨rfl,hb⟩
  rw [if_pos HPN.out]
  dsimp only
  have c0':=e6 (H1.out.1.below hb H1.out.1.lt)
  have H2:=ah (H1.out.2.trans (Below.mono hb H1.out.2.size))
  have hs1:=HL.out.1
  have hs2:=HL.out.2.1
  have hs3:=HL.out.2.2
  clear hb c0 c42
  go_wp2_with (first | ((with_reducible refine ag 26 ?_);(refine aa (o:=⟨some 26,_,_,_,_,_⟩) rfl (.string (⟨#[115,114,99,32]⟩++x.1)) w2 (a6 (o:=⟨some 26,_,_,_,_,_⟩) _ _ _ _ rfl ⟨#[115,114,99,32]⟩ x.1 rfl rfl hs1 w2) ?_)) | ((with_reducible refine ag 27 ?_);(refine aa (o:=⟨some 27,_,_,_,_,_⟩) rfl (.string (⟨#[115,114,99,32]⟩++x.1++⟨#[32]⟩)) w2 (a6 (o:=⟨some 27,_,_,_,_,_⟩) _ _ _ _ rfl (⟨#[115,114,99,32]⟩++x.1) ⟨#[32]⟩ rfl rfl hs2 w2) ?_)) | ((with_reducible refine ag 29 ?_);(refine aa (o:=⟨some 29,_,_,_,_,_⟩) rfl (.string (⟨#[115,114,99,32]⟩++x.1++⟨#[32]⟩++fW x.2.1)) w2 (a6 (o:=⟨some 29,_,_,_,_,_⟩) _ _ _ _ rfl (⟨#[115,114,99,32]⟩++x.1++⟨#[32]⟩) (fW x.2.1) rfl rfl hs3 w2) ?_)))
  go_ret
  exact ⟨by rw [fu,if_neg HIS.out];rfl,H2.out⟩
end Go.Proofs.YtomnhnmciopiiaaGreat
end
section
namespace Go.Proofs.YtomnhnmciopiiaaGreat
open Go Go.RowKit Go.Maps
set_option maxRecDepth 100000
def Aj:List UInt8:=[48,49,50,51,52,53,54,55,56,57,97,98,99,100,101,102]
def a7 (k:Int):UInt8:=Aj.getD k.toNat 0
def eI:ByteArray:=⟨#[48,49,50,51,52,53,54,55,56,57,97,98,99,100,101,102]⟩
theorem pJ (k:Int) (h0:0≤k) (h1:k<16) (t:TypeId) (ht:Tryz.prog.underlying t=some .string) (w:World):(Instr.index t (.string eI) (.int .u8 k)).run Tryz.prog w=.ok (.int .u8 ((a7 k).toNat:Int)) w:=by
 obtain ⟨n,rfl⟩:=Int.eq_ofNat_of_zero_le h0
 have h:=run_index_string (P:=Tryz.prog) w t eI .u8 (n:Int) ht
 have h3:∀ k:Fin 16,(eI[k.val]'(k.isLt)).toNat=(a7 (k.val:Int)).toNat:=by decide
 have h2:0≤(n:Int)∧(n:Int)<(eI.size:Int):=⟨by omega,by rw [show eI.size=16 from rfl];omega⟩
 rw [h,dif_pos h2]
 have h4:=h3 ⟨n,by omega⟩
 dsimp only at h4
 have h5:(eI[(n:Int).toNat]'(by rw [Int.toNat_natCast];exact (show n<16 by omega))).toNat=(a7 (n:Int)).toNat:=h4
 rw [h5]
theorem kK {P:Program} {ρ:Operand→Value} {o:Oper} (t:TypeId) (x y:Operand) (ho:o.op=.index t x y) (s:ByteArray) (k:IntKind) (i:Int) (hx:ρ x=.string s) (hy:ρ y=.int k i) (v:Value) (hv:∀ W,(Instr.index t (.string s) (.int k i)).run P W=.ok v W) (W:World):(execOp ρ o).run P W=.ok (.value v) W:=by
 unfold execOp
 simp only [ho,hx,hy,Sem.run_bind,hv W,Result.andThen_ok,Sem.run_pure]
theorem BQ (c:Int) (h0:0≤c) (h1:c≤255):bits .and .u8 c 15=c % 16:=bits_mask .u8 8 (by decide) wraps_u8 4 (by decide) c h0 (by omega)
theorem bH {w:World} {g n m:Nat} {t:TypeId} {cs:List Value} (hb:Blk w g t cs.toArray) (hl:cs.length=m*n) (h1:∀ u∈cs,u.oneCell'=true):gd w n (some ⟨g,0,none⟩) m m cs :=
 ⟨hl,(fun h=>by cases h),h1,fun ad had j u hu=>by
  injection had with had
  subst had
  rw [Addr.add_mid,Nat.zero_add,hb.cell]
  simpa using hu⟩
def Bq (xs:List Value) (u:Value) (w:World):Prop:=∃ r,u=.slice (some ⟨r,0,none⟩) 2 2∧gd w 1 (some ⟨r,0,none⟩) 2 2 xs
theorem yK (W:World) (a b:Int):Bq [.int .u8 a,.int .u8 b] (.slice (some ⟨W.heap.size,0,none⟩) 2 2) (W.alloc (.cells #[.int .u8 a,.int .u8 b] 5)) :=
 ⟨_,rfl,bH (n:=1) (m:=2) (Blk.new _ _ _) rfl (fun v hv=>by simp only [List.mem_cons,List.not_mem_nil,or_false] at hv;rcases hv with rfl | rfl<;>rfl)⟩
theorem zK (xs:List Value):Fre.eN Bel (Bq xs):=⟨fun _ _ _ ⟨r,h1,h2⟩ hx=>⟨r,h1,h2.below hx⟩⟩
def cj (b:List Int):List UInt8:=b.flatMap fun c=>[a7 (c / 16),a7 (c % 16)]
def cH (b:List Int):List UInt8:=if b=[] then [45] else cj b
theorem iq (b:List Int):(cj b).length=2*b.length:=by
 induction b with
 | nil=>rfl
 | cons c b ih=>rw [cj,List.flatMap_cons,List.length_append,show (b.flatMap fun c=>[a7 (c / 16),a7 (c % 16)])=cj b from rfl,ih];simp;omega
theorem tD (b:List Int) (j:Nat) (c:Int) (h:b[j]?=some c):bv (cj (b.take (j+1)))=bv (cj (b.take j))++[.int .u8 ((a7 (c / 16)).toNat:Int),.int .u8 ((a7 (c % 16)).toNat:Int)]:=by
 rw [List.take_add_one,h,cj,List.flatMap_append]
 simp [bv,cj]
theorem pM {w:World} {base g n cap s:Nat} {e:TypeId} {xs:List Value} (h:w.ownsRow base e s (.slice (some ⟨g,0,none⟩) n cap) n xs) (j:Nat) (v:Value) (hv:xs[j]?=some v):w.cell? ⟨g,j,none⟩=some v:=by
 obtain ⟨_,h | ⟨g',cap',cur,e1,_,hb,_,_,_,ht⟩⟩:=h
 ·cases h.1
 ·injection e1 with e1 _ _
  injection e1 with e1
  injection e1 with e1
  subst e1
  have hb':Blk w g e cur:=hb
  rw [hb'.cell]
  rw [← ht,List.getElem?_take] at hv
  split at hv
  ·simpa using hv
  ·cases hv
theorem lj {P:Program} {ρ:Operand→Value} {o:Oper} (src dst:TypeId) (x:Operand) (ho:o.op=.convert src dst x) (v:Value) (hx:ρ x=v) (u:Value) {W:World} (hr:(convert src dst v).run P W=.ok u W):(execOp ρ o).run P W=.ok (.value u) W:=by
 unfold execOp
 simp only [ho,hx,Sem.run_bind,hr,Result.andThen_ok,Sem.run_pure]
set_option maxHeartbeats 4000000 in
theorem xc (w:World) (b:List Int) (v:Value) (h:bZ.At w w.heap.size [v] b) (hl:b.length≤1000000) :
  Calls Tryz.prog 162 #[v] w fun e w'=>e=.returned (.string ⟨(cH b).toArray⟩)∧Below w.heap.size w w':=by
 obtain ⟨iu8,hih,hq0,hq1,hq2⟩:=info_parts oU
 have HK:=ah (And.intro hih (And.intro hq0 (And.intro hq1 hq2)))
 clear hih hq0 hq1 hq2
 obtain ⟨A,cap,rfl,hcl,hcm,_,hA⟩:=ak h
 have HA:=ah hA
 clear hA h hcm hcl
 by_cases hb0:b=[]
 ·subst hb0
  go_enter Tryz.func162,Tryz.ntmps162
  go_wp2_with fail
  go_ret
  exact ⟨rfl,Below.refl _ _⟩
 ·have hpos:0<b.length:=List.length_pos_iff.2 hb0
  have e1:((b.length:Int) == 0)=false:=by simpa using hb0
  go_enter Tryz.func162,Tryz.ntmps162
  go_wp2_with (at_make;refine wpList_make_own _ rfl _ _ 24 rfl w.heap.size 5 iu8 _ 1 Tryz.underlying24 HK.out.1 HK.out.2.1 HK.out.2.2.1 _ _ _ (2*b.length) rfl rfl ?hC ?hB ?hM ?hZ ?_)
  case hC=>omega
  case hB=>have:=HK.out.2.2.2;rw [this];omega
  case hM=>simp only [maxLen];omega
  case hZ=>exact Nat.le_refl _
  intro w2 kL gr2
  have H2:=ah (And.intro kL ((Below.refl _ w).grown gr2 (Nat.le_refl _) (fun k hk=>by cases hk)))
  clear kL gr2
  go_wp2_with fail
  go_loopw [3,15] (fun x3 x15 wr=>∃ (j:Nat) (u:Value),j≤b.length∧u=x3∧x15=.int .i64 (j:Int)∧wr.ownsRow w.heap.size 5 1 u (2*j) (bv (cj (b.take j)))∧Below w.heap.size w wr) (fun _ x15 _=>b.length-(intOf x15).toNat)
  case atStart=>exact ⟨0,_,by omega,rfl,rfl,H2.out.1,H2.out.2⟩
  case round =>
   obtain ⟨wo,rfl⟩:∃ wo,wo=wr:=⟨_,rfl⟩
   obtain ⟨j,x3,hj,rfl,rfl,hown,hbw⟩:=hrel
   have HI:=ah (And.intro hown hbw)
   clear hown hbw
   have j0:(0:Int)≤(j:Int):=by omega
   by_cases hj2:j<b.length
   ·have j1:(j:Int)<(b.length:Int):=by omega
    obtain ⟨c,hx⟩:∃ c,b[j]?=some c:=⟨_,List.getElem?_eq_getElem hj2⟩
    obtain ⟨bb,off,rfl,hlb,hE⟩:=HA.out (by omega)
    obtain ⟨cs,hr,hcs,hcw⟩:=hE j c hx
    subst hcs
    have hcb:=bounds_u8 hcw
    have c0:0≤c:=hcb.1
    have c1:c≤255:=by omega
    have hc9:wo.cell? ⟨bb,off+j,none⟩=some (.int .u8 c):=by have h9:=a8 hr (HI.out.2.block bb (by omega)) 0 _ rfl;rwa [show off+j*(Lay.int 5 IntKind.u8).n+0=off+j by show off+j*1+0=off+j;omega] at h9
    have HXX:=ah hx
    have HC9:=ah hc9
    clear hx hE hr hcw hc9
    go_wp2_with (first | ((with_reducible refine ag 17 ?_);refine aa (o:=⟨some 17,_,_,_,_,_⟩) rfl (.pointer (some ⟨bb,off+(j:Int).toNat*1,none⟩)) wo (aJ (o:=⟨some 17,_,_,_,_,_⟩) 24 5 (.tmp 13) (.tmp 15) rfl bb off b.length cap (j:Int) .i64 rfl rfl ⟨j0,j1⟩ 1 Tryz.underlying24 (by kernel_rfl) wo) ?_;rw [show off+(j:Int).toNat*1=off+j by omega]) | ((with_reducible refine ag 18 ?_);refine aa (o:=⟨some 18,_,_,_,_,_⟩) rfl (.int .u8 c) wo (exec_load_cell (o:=⟨some 18,_,_,_,_,_⟩) 5 (.tmp 17) rfl ⟨bb,off+j,none⟩ rfl _ _ wo Tryz.underlying5 rfl HC9.out) ?_))
    refine Fre.cq (X:=Bel) 8 [(26,Bq [.int .u8 ((a7 (c / 16)).toNat:Int),.int .u8 ((a7 (c % 16)).toNat:Int)])] (by kernel_rfl) (by kernel_rfl) (by intro p hp;rw [List.mem_singleton.1 hp];exact zK _) (by simp) (by simp) ?_
    simp only [List.take_succ_cons,List.take_zero,List.drop_succ_cons,List.drop_zero]
    refine Fre.ae (x3) (by kernel_rfl) (by kernel_rfl) (by kernel_rfl) (fun _ _=>by kernel_rfl) ?_
    simp only [Act.put,List.setIfInBounds_toArray,List.set_cons_zero,List.set_cons_succ]
    refine Fre.ae (.int .u8 c) (by kernel_rfl) (by kernel_rfl) (by kernel_rfl) (fun _ _=>by kernel_rfl) ?_
    simp only [Act.put,List.setIfInBounds_toArray,List.set_cons_zero,List.set_cons_succ]
    refine Fre.ae (.int .u8 (c / 16)) (by kernel_rfl) (by kernel_rfl) (by kernel_rfl) (fun W9 hW9=>?hs1) ?_
    case hs1 =>
     go_simp
     done
    simp only [Act.put,List.setIfInBounds_toArray,List.set_cons_zero,List.set_cons_succ]
    refine Fre.ae (.int .u8 ((a7 (c / 16)).toNat:Int)) (by kernel_rfl) (by kernel_rfl) (by kernel_rfl) (fun W9 hW9=>kK (o:=⟨some 22,_,_,_,_,_⟩) 9 (.const (.string ⟨#[48,49,50,51,52,53,54,55,56,57,97,98,99,100,101,102]⟩)) (.tmp 21) rfl eI .u8 (c / 16) rfl rfl _ (fun W=>pJ (c / 16) (by omega) (by omega) 9 Tryz.underlying9 W) W9) ?_
    simp only [Act.put,List.setIfInBounds_toArray,List.set_cons_zero,List.set_cons_succ]
    refine Fre.ae (.int .u8 c) (by kernel_rfl) (by kernel_rfl) (by kernel_rfl) (fun _ _=>by kernel_rfl) ?_
    simp only [Act.put,List.setIfInBounds_toArray,List.set_cons_zero,List.set_cons_succ]
    refine Fre.ae (.int .u8 (c % 16)) (by kernel_rfl) (by kernel_rfl) (by kernel_rfl) (fun W9 hW9=>?hs2) ?_
    case hs2 =>
     go_simp
     exact BQ c c0 c1
    simp only [Act.put,List.setIfInBounds_toArray,List.set_cons_zero,List.set_cons_succ]
    refine Fre.ae (.int .u8 ((a7 (c % 16)).toNat:Int)) (by kernel_rfl) (by kernel_rfl) (by kernel_rfl) (fun W9 hW9=>kK (o:=⟨some 25,_,_,_,_,_⟩) 9 (.const (.string ⟨#[48,49,50,51,52,53,54,55,56,57,97,98,99,100,101,102]⟩)) (.tmp 24) rfl eI .u8 (c % 16) rfl rfl _ (fun W=>pJ (c % 16) (by omega) (by omega) 9 Tryz.underlying9 W) W9) ?_
    simp only [Act.put,List.setIfInBounds_toArray,List.set_cons_zero,List.set_cons_succ]
    refine Fre.fX 26 _ (by kernel_rfl) (by kernel_rfl) rfl rfl (fun W hW=>⟨.slice (some ⟨W.heap.size,0,none⟩) 2 2,W.alloc (.cells #[.int .u8 ((a7 (c / 16)).toNat:Int),.int .u8 ((a7 (c % 16)).toNat:Int)] 5),by kernel_rfl,(Below.refl _ W).alloc (Nat.le_refl _) _,yK W _ _⟩) ?_
    simp only [Act.put,List.setIfInBounds_toArray,List.set_cons_zero,List.set_cons_succ]
    intro w4 hx4
    dsimp only [Fre.ended,List.drop]
    rintro u26 ⟨r,rfl,hsr⟩
    have HO4:=ah (And.intro (ao HI.out.1 fun g _ hl=>hx4.block g hl) (And.intro hsr (HI.out.2.trans (Below.mono hx4 HI.out.2.size))))
    clear hsr hx4
    go_wp2_with (at_builtin;((with_reducible refine ag 27 ?_);refine aH (o:=⟨some 27,_,_,_,_,_⟩) rfl _ _ 24 rfl w.heap.size 5 iu8 _ 1 1 Tryz.underlying24 HK.out.1 HK.out.2.1 HK.out.2.2.1 HK.out.2.2.2 rfl (by decide) _ (2*j) (bv (cj (b.take j))) HO4.out.1 (some ⟨r,0,none⟩) 2 2 [.int .u8 ((a7 (c / 16)).toNat:Int),.int .u8 ((a7 (c % 16)).toNat:Int)] HO4.out.2.1 ?hm1 ?hb1 ?hz1 rfl rfl ?_))
    case hm1=>simp only [maxLen];omega
    case hb1=>omega
    case hz1=>exact HO4.out.2.2.size
    intro u5 w5 own5 gr5 _
    have hsn:bv (cj (b.take (j+1)))=bv (cj (b.take j))++[.int .u8 ((a7 (c / 16)).toNat:Int),.int .u8 ((a7 (c % 16)).toNat:Int)]:=tD b j c HXX.out
    rw [← hsn] at own5
    have HO5:=ah (And.intro own5 (HO4.out.2.2.grown gr5 HO4.out.2.2.size (fun k hk=>(aD HO4.out.1 hk).1)))
    clear own5 gr5 hsn
    go_wp2_with fail
    go_roundw
    case rel=>exact ⟨j+1,u5,by omega,rfl,by go_num,HO5.out.1,HO5.out.2⟩
    case measure=>simp [intOf];omega
   ·obtain rfl:j=b.length:=by omega
    have hown:=HI.out.1
    rw [List.take_length] at hown
    obtain ⟨g,cap3,rfl⟩:=du hown (by omega)
    have hlen:=iq b
    have hcv:=run_convert_bytes_back (P:=Tryz.prog) wo 24 9 5 ⟨g,0,none⟩ cap3 (cj b) Tryz.underlying24 Tryz.underlying5 Tryz.underlying9 (by
     intro k hk
     have h9:wo.cell? ⟨g,k,none⟩=some (.int .u8 ((cj b)[k].toNat:Int)):=pM hown k (.int .u8 ((cj b)[k].toNat:Int)) (by rw [bv,List.getElem?_map,List.getElem?_eq_getElem hk];rfl)
     rw [Addr.add_mid,Nat.zero_add]
     exact h9)
    rw [hlen] at hcv
    have HE:=ah (And.intro HI.out.2 hcv)
    clear hown hlen hcv
    go_wp2_with ((with_reducible refine ag 30 ?_);refine aa (o:=⟨some 30,_,_,_,_,_⟩) rfl (.string ⟨(cj b).toArray⟩) wo (lj (o:=⟨some 30,_,_,_,_,_⟩) 24 9 (.tmp 29) rfl _ rfl _ HE.out.2) ?_)
    go_ret
    exact ⟨by rw [cH,if_neg hb0];rfl,HE.out.1⟩
end Go.Proofs.YtomnhnmciopiiaaGreat
end
section
namespace Go.Proofs.YtomnhnmciopiiaaGreat
open Go Go.RowKit
section
variable {P:Program} {ops:Array Oper} {rest:List Oper} {o:Oper} {a:Act} {w:World} {Q:Exit→Act→World→Prop}
structure iS (w w':World) (t:TypeId) (cells:Array Value):Prop where
 blk:Blk w' w.heap.size t cells
 below:Below w.heap.size w w'
 size:w'.heap.size=w.heap.size+1
theorem cD (w:World) (t:TypeId) (cells:Array Value):iS w (w.alloc (.cells cells t)) t cells :=
 ⟨Blk.new _ _ _,(Below.refl _ w).alloc (Nat.le_refl _) _,by rw [size_alloc]⟩
theorem ay (hg:o.guard=none) (ty:TypeId) (x:Operand) (ho:o.op=.box ty x) (cells:Array Value) (hx:a.eval x=.agg cells)
  (h:∀ w',iS w w' ty cells→wpList P ops Q rest (a.put o.dst (.pointer (some ⟨w.heap.size,0,none⟩))) w'):wpList P ops Q (o :: rest) a w:=by
 refine aa hg (.pointer (some ⟨w.heap.size,0,none⟩)) (w.alloc (.cells cells ty)) ?_ (h _ (cD w ty cells))
 unfold execOp
 simp only [ho,hx]
 rfl
theorem aC (hg:o.guard=none) (ty:TypeId) (zc:Array Value) (hr:(execOp a.eval o).run P w=.ok (.value (.pointer (some ⟨w.heap.size,0,none⟩))) (w.alloc (.cells zc ty)))
  (h:∀ w',iS w w' ty zc→wpList P ops Q rest (a.put o.dst (.pointer (some ⟨w.heap.size,0,none⟩))) w'):wpList P ops Q (o :: rest) a w :=
 aa hg _ _ hr (h _ (cD w ty zc))
theorem aL (hg:o.guard=none) (t:TypeId) (x:Operand) (ho:o.op=.buildSlice t 1 #[(0,x)]) (e n:Nat) (z v:Value) (hx:a.eval x=v) (ht:P.underlying t=some (.slice e)) (hs:(P.info? e).map (·.size)=some n) (hn:0<n) (h24:n≤16777216) (hz:∀ w,(zeroValue e).run P w=.ok z w) (hv:v.cells.size=n)
  (h:∀ w',iS w w' e v.cells→wpList P ops Q rest (a.put o.dst (.slice (some ⟨w.heap.size,0,none⟩) 1 1)) w'):wpList P ops Q (o :: rest) a w :=
 aa hg _ _ (bM t x ho hx ht hs hn h24 hz hv w) (h _ (cD w e v.cells))
theorem bW (hg:o.guard=none) (ty:TypeId) (x y:Operand) (ho:o.op=.store ty x y) (g i:Nat) (t:TypeId) (cs:Array Value) (hb:Blk w g t cs) (hi:i<cs.size) (hs:(P.info? ty).map (·.size)=some 1) (v:Value) (h1:v.oneCell'=true)
  (hx:a.eval x=.pointer (some ⟨g,i,none⟩)) (hy:a.eval y=v)
  (h:∀ w',Blk w' g t (cs.setIfInBounds i v)→w.grownBy w' (some g)→w'.heap.size=w.heap.size→wpList P ops Q rest (a.put o.dst undef) w'):wpList P ops Q (o :: rest) a w:=by
 have hr:(storeVar ty ⟨g,i,none⟩ v).run P w=.ok () (w.setCell ⟨g,i,none⟩ v):=by
  have:=run_storeCells_cells (P:=P) g i [v] 0 w (fun j hj=>by
   have hj0:j=0:=by simpa using hj
   subst hj0
   rw [Nat.add_zero,hb.cell,Array.getElem?_eq_getElem hi]
   rfl) (fun j _=>hb.frozen _) (fun u hu=>by rw [List.mem_singleton.1 hu];exact h1)
  have hc:v.cells=#[v]:=by cases v<;>first | rfl | cases h1
  cases hq:P.info? ty with
  | none=>simp [hq] at hs
  | some j =>
   have hs:j.size=1:=by simpa [hq] using hs
   simp only [Nat.add_zero] at this
   simp [storeVar,sizeOf,typeInfo,hq,hc,hs,this]
   rfl
 refine wpList_plain hg fun K hK=>?_
 unfold Oper.wp execOp
 simp only [ho,hx,hy,Instr.storeAt,Instr.sureAddr,Sem.run_bind,Sem.run_pure,Result.andThen_ok,hr]
 exact hK _ _ (h _ (hb.vZ i v) ⟨rfl,rfl,rfl,by simp [World.setCell],fun k _ hne=>Below.heap_setCell w ⟨g,i,none⟩ v k (fun e=>hne (by rw [e]))⟩ (by simp [World.setCell]))
theorem iS.src {w w':World} {t:TypeId} {cs:List Value} {n:Nat} (h:iS w w' t cs.toArray) (hl:cs.length=n) (h1:∀ u∈cs,u.oneCell'=true):gd w' n (some ⟨w.heap.size,0,none⟩) 1 1 cs:=by
 subst hl
 exact qb h.blk h1
end
end Go.Proofs.YtomnhnmciopiiaaGreat
end
section
namespace Go.Proofs.YtomnhnmciopiiaaGreat
open Go Go.RowKit Go.Maps
set_option maxRecDepth 100000
def qU (w:World) (g:Nat) (s:ByteArray):Prop:=(∃ cs fz,w.heap[g]?=some (.cells cs 5 fz))∧∀ j,j<s.size→w.cell? ⟨g,j,none⟩=some (.int .u8 ((s.data.toList.getD j 0).toNat:Int))
theorem jr {P:Program} {ops:Array Oper} {rest:List Oper} {o:Oper} {a:Act} {w:World} {Q:Exit→Act→World→Prop} (hg:o.guard=none) (src dst e:TypeId) (x:Operand) (ho:o.op=.convert src dst x)
  (hs:P.underlying src=some .string) (hd:P.underlying dst=some (.slice e)) (he:P.underlying e=some (.int .u8)) (s:ByteArray) (hx:a.eval x=.string s)
  (h:∀ g cap w',((∃ cs fz,w'.heap[g]?=some (.cells cs e fz))∧∀ j,j<s.size→w'.cell? ⟨g,j,none⟩=some (.int .u8 ((s.data.toList.getD j 0).toNat:Int)))→s.size≤cap→w.heap.size≤g→g<w'.heap.size→Below w.heap.size w w' →
   wpList P ops Q rest (a.put o.dst (.slice (some ⟨g,0,none⟩) s.size cap)) w'):wpList P ops Q (o :: rest) a w :=
 wpList_plain hg fun K hK=>by
  unfold Oper.wp execOp
  simp only [ho,hx,Sem.run_bind,run_bytes_of_string w src dst e s hs hd he,Result.andThen_ok,Sem.run_pure]
  refine hK _ _ (h w.heap.size (grownCap w s.size 0 e) _ ⟨?_,?_⟩ (grownCap_ge w s.size 0 e) (Nat.le_refl _) ?_ ?_)
  ·exact ⟨_,_,heap_alloc_new w.drew _⟩
  ·intro j hj
   refine (World.cell?_alloc_mark w.drew _ e _ j).trans ?_
   rw [bytesRow_at s _ j hj]
   have hj':j<s.data.size:=hj
   simp [List.getD,Array.getElem?_eq_getElem hj']
  ·show _<(w.heap.push _).size
   simp
  ·exact ((Below.refl _ _).drew).alloc (Nat.le_refl _) _
def fw (d:Drv) (j:Nat):List ByteArray:=(⟨#[100,114,118,32]⟩++d.1) :: (d.2.1.take j).map fu
def cw (d:Drv):List ByteArray:=(⟨#[100,114,118,32]⟩++d.1) :: (d.2.1.map fu++[⟨#[114,117,110,32]⟩++⟨(cH d.2.2).toArray⟩])
def eF (d:Drv):ByteArray:=⟨(Lib.join ((cw d).map (·.data.toList)) [10]).toArray⟩++⟨#[10]⟩
def fK (d:Drv):Int:=if jf d=true then (if 2000<(eF d).size then 3 else 0) else 2
theorem tZ (d:Drv) (j:Nat) (x:Nam) (h:d.2.1[j]?=some x):(fw d j).map Value.string++[.string (fu x)]=(fw d (j+1)).map Value.string:=by
 unfold fw
 rw [List.take_add_one,h]
 simp
theorem wW (d:Drv):(fw d d.2.1.length).map Value.string++[.string (⟨#[114,117,110,32]⟩++⟨(cH d.2.2).toArray⟩)]=(cw d).map Value.string:=by
 unfold fw cw
 rw [List.take_length]
 simp
theorem nT (d:Drv):(cw d).length=d.2.1.length+1+1:=by simp [cw]
theorem lx {d:Drv} (h:jf d=true):bR d.1=true∧(d.2.1.length:Int)≤8∧(d.2.2.length:Int)≤1000:=by
 unfold jf at h
 simp only [Bool.and_eq_true] at h
 exact ⟨h.2.1,of_decide_eq_true h.2.2.1,of_decide_eq_true h.2.2.2⟩
theorem lU:∀ (l:List Nam) (b:ByteArray),eJ l b=true→∀ x∈l,x.1.size≤24∧(x.2.2.2=false→bR x.2.1.2=true)
 | [],_,_,x,hx=>by cases hx
 | y :: l,b,h,x,hx=>by
  rw [eJ,Bool.and_eq_true] at h
  rcases List.mem_cons.1 hx with rfl | hx
  ·have h1:=h.1
   unfold iD at h1
   simp only [Bool.and_eq_true] at h1
   refine ⟨dv h1.1.1,fun hf=>?_⟩
   have h2:=h1.2
   rw [hf] at h2
   simp only [Bool.false_eq_true,if_false,Bool.and_eq_true] at h2
   exact h2.1
  ·exact lU l y.1 h.2 x hx
theorem nu {d:Drv} (h:jf d=true):∀ x∈d.2.1,x.1.size≤24∧(x.2.2.2=false→bR x.2.1.2=true):=by
 unfold jf at h
 simp only [Bool.and_eq_true] at h
 exact lU _ _ h.1
theorem j5 (b:List Int):(cH b).length≤2*b.length+1:=by
 unfold cH
 split
 ·simp
 ·rw [iq];omega
theorem xv (b:List Int) (h:b.length≤1000):(⟨#[114,117,110,32]⟩:ByteArray).size+(⟨(cH b).toArray⟩:ByteArray).size≤9223372036854775807:=by
 have h1:(⟨#[114,117,110,32]⟩:ByteArray).size=4:=rfl
 have h2:(⟨(cH b).toArray⟩:ByteArray).size=(cH b).length:=rfl
 have:=j5 b
 omega
theorem yD {w:World} {base g n cap s:Nat} {e:TypeId} {xs:List Value} (h:w.ownsRow base e s (.slice (some ⟨g,0,none⟩) n cap) n xs):n≤cap:=by
 obtain ⟨_,h | ⟨g',cap',cur,e1,_,_,h2,_⟩⟩:=h
 ·cases h.1
 ·injection e1 with _ _ e3
  rw [e3]
  exact h2
theorem wC {x:Nam} (hs:x.1.size≤24) (hp:x.2.2.2=false→bR x.2.1.2=true) (h1:(aQ x.2.2.1).length≤40) (h2:(aQ x.2.1.1).length≤40):(fu x).size≤100:=by
 unfold fu
 split
 ·have hs1:(⟨(aQ x.2.2.1).toArray⟩:ByteArray).size=(aQ x.2.2.1).length:=rfl
  have hs2:(⟨#[32]⟩:ByteArray).size=1:=rfl
  have hs3:(⟨#[99,108,97,115,115,32]⟩:ByteArray).size=6:=rfl
  simp only [ByteArray.size_append,hs1,hs2,hs3]
  omega
 ·rename_i hf
  have hp2:=dv (hp (by simpa using hf))
  have hs2:(⟨#[32]⟩:ByteArray).size=1:=rfl
  have hs3:(⟨#[115,114,99,32]⟩:ByteArray).size=4:=rfl
  simp only [ByteArray.size_append,km,hs2,hs3]
  omega
theorem zW (l:List ByteArray) (k:Nat) (h:∀ s∈l,s.size≤k):Lib.lens (l.map (·.data.toList))≤k*l.length:=by
 induction l with
 | nil=>exact Nat.zero_le _
 | cons s l ih =>
  have h1:=ih fun x hx=>h x (List.mem_cons_of_mem _ hx)
  have h2:=h s (List.mem_cons_self ..)
  have h3:s.data.toList.length=s.size:=rfl
  have e:Lib.lens ((s :: l).map (·.data.toList))=s.data.toList.length+Lib.lens (l.map (·.data.toList)):=by simp [Lib.lens]
  rw [e,List.length_cons,h3,Nat.mul_add,Nat.mul_one]
  omega
theorem uo {d:Drv} (hok:∀ x∈d.2.1,okN x) (h:jf d=true):(Lib.join ((cw d).map (·.data.toList)) [10]).length≤30000:=by
 have hs:=lx h
 have hn:=dv hs.1
 have hl:Lib.lens ((cw d).map (·.data.toList))≤2100*(cw d).length:=zW _ _ fun s hm=>by
  unfold cw at hm
  rcases List.mem_cons.1 hm with rfl | hm
  ·have:(⟨#[100,114,118,32]⟩:ByteArray).size=4:=rfl
   rw [ByteArray.size_append]
   omega
  ·rcases List.mem_append.1 hm with hm | hm
   ·obtain ⟨x,hx,rfl⟩:=List.mem_map.1 hm
    have h1:=nu h x hx
    have h2:=dr x.2.2.1
    have h3:=dr x.2.1.1
    have h4:x.2.2.1.length=20:=(hok x hx).2.2
    have h5:x.2.1.1.length=20:=(hok x hx).2.1.1
    have:=wC h1.1 h1.2 (by omega) (by omega)
    omega
   ·rw [List.mem_singleton.1 hm,ByteArray.size_append]
    have h1:(⟨#[114,117,110,32]⟩:ByteArray).size=4:=rfl
    have h2:(⟨(cH d.2.2).toArray⟩:ByteArray).size=(cH d.2.2).length:=rfl
    have:=j5 d.2.2
    omega
 have hlp:=nT d
 have e:(cw d).map (·.data.toList)=(⟨#[100,114,118,32]⟩++d.1:ByteArray).data.toList :: (d.2.1.map fu++[⟨#[114,117,110,32]⟩++⟨(cH d.2.2).toArray⟩]:List ByteArray).map (·.data.toList):=rfl
 rw [e,Lib.join_length,← e,List.length_map,List.length_append,List.length_map]
 simp only [List.length_cons,List.length_nil]
 omega
theorem zl {d:Drv} (h:(Lib.join ((cw d).map (·.data.toList)) [10]).length≤30000):(⟨(Lib.join ((cw d).map (·.data.toList)) [10]).toArray⟩:ByteArray).size+(⟨#[10]⟩:ByteArray).size≤9223372036854775807:=by
 have h1:(⟨(Lib.join ((cw d).map (·.data.toList)) [10]).toArray⟩:ByteArray).size=(Lib.join ((cw d).map (·.data.toList)) [10]).length:=rfl
 have h2:(⟨#[10]⟩:ByteArray).size=1:=rfl
 omega
theorem aO.gF {w w':World} {d:Drv} {v1 v2:Value} (h:aO w w.heap.size d v1 v2) (hb:Below w.heap.size w w'):aO w' w'.heap.size d v1 v2 :=
 ⟨h.name,de.dU (de.alike h.ins fun b hb9=>hb.block b hb9) hb.size,bZ.dU (bZ.alike h.rcp fun b hb9=>hb.block b hb9) hb.size⟩
theorem aO.Co {w w':World} {d:Drv} {v1 v2:Value} (h:aO w w.heap.size d v1 v2) (hb:Below w.heap.size w w'):bZ.At w' w'.heap.size [v2] d.2.2:=(h.gF hb).rcp
theorem aO.okn {w:World} {B:Nat} {d:Drv} {v1 v2:Value} (h:aO w B d v1 v2):∀ x∈d.2.1,okN x:=fun x hx=>by
 obtain ⟨cs,h9⟩:=fc h.ins hx
 exact (bl.1 h9).2
theorem zo {w w':World} {t:TypeId} {cells:Array Value} {xs:List Value} {n:Nat} (h:iS w w' t cells) (hx:cells.toList=xs) (hn:cells.size=n):w'.ownsRow w.heap.size t n (.slice (some ⟨w.heap.size,0,none⟩) 1 1) (0+1) xs:=by
 subst hx hn
 exact ⟨by simp,.inr ⟨w.heap.size,1,cells,rfl,Nat.le_refl _,h.blk,Nat.le_refl _,by decide,by omega,List.take_of_length_le (by simp)⟩⟩
theorem ue:(Tryz.prog.info? 9).map (·.size)=some 1:=by kernel_rfl
theorem wU:(Tryz.prog.info? 9).map (fun i=>(i.zero,i.size,i.bytes))=some (some (.string ⟨#[]⟩),1,16):=by kernel_rfl
set_option maxHeartbeats 4000000 in
theorem zP (w:World) (d:Drv) (v1 v2:Value) (h:aO w w.heap.size d v1 v2) :
  Calls Tryz.prog 120 #[.agg (dC d v1 v2).toArray] w fun e w'=>∃ v,e=.returned (.tuple #[v,.int .i64 (fK d)])∧(fK d=0→∃ g cap,v=.slice (some ⟨g,0,none⟩) (eF d).size cap∧qU w' g (eF d)∧(eF d).size≤cap∧w.heap.size≤g∧g<w'.heap.size)∧Below w.heap.size w w':=by
 have hok:=h.okn
 obtain ⟨istr,hih,hq0,hq1,hq2⟩:=info_parts wU
 have HK:=ah (And.intro hih (And.intro hq0 (And.intro hq1 hq2)))
 clear hih hq0 hq1 hq2
 have h0:=h
 obtain ⟨A,cap,rfl,hcl,hcm,_,hA⟩:=ak h0.ins
 obtain ⟨A2,cap2,rfl,hcl2,hcm2,_,_⟩:=ak h0.rcp
 have l9:(d.2.1.length:Int)≤9223372036854775807:=by simp only [maxLen] at hcm;omega
 have k9:(d.2.2.length:Int)≤9223372036854775807:=by simp only [maxLen] at hcm2;omega
 obtain ⟨w1,hw1⟩:∃ w1,w1=w.alloc (.cells (dC d (.slice A d.2.1.length cap) (.slice A2 d.2.2.length cap2)).toArray 26):=⟨_,rfl⟩
 have hb1:Below w.heap.size w w1:=by rw [hw1];exact (Below.refl _ w).alloc (Nat.le_refl _) _
 have hk1:Blk w1 w.heap.size 26 (dC d (.slice A d.2.1.length cap) (.slice A2 d.2.2.length cap2)).toArray:=by rw [hw1];exact Blk.new _ _ _
 have H1:=ah (And.intro hk1 hb1)
 have HD:=ah h
 have HOK:=ah hok
 have HW1:=ah hw1
 have HA:=ah hA
 clear hk1 hb1 hw1 hA h0 h hcl hcm hcl2 hcm2 hok
 go_enter Tryz.func120,Tryz.ntmps120
 go_wp2_with (first | ((with_reducible refine ag 1 ?_);(refine aa (o:=⟨some 1,_,_,_,_,_⟩) rfl (.pointer (some ⟨w.heap.size,0,none⟩)) w1 (by rw [HW1.out];kernel_rfl) ?_)) | ((with_reducible refine ag 8 ?_);(refine aa (o:=⟨some 8,_,_,_,_,_⟩) rfl (.agg (dC d (.slice A d.2.1.length cap) (.slice A2 d.2.2.length cap2)).toArray) w1 (au (o:=⟨some 8,_,_,_,_,_⟩) 26 (.tmp 1) rfl w.heap.size rfl 26 _ _ w1 H1.out.1 Tryz.underlying26 rfl (by kernel_rfl)) ?_)))
 refine (AX w1 d _ _ (HD.out.gF H1.out.2)).mono ?_
 rintro e w2 ⟨rfl,hb⟩
 dsimp only
 have H2:=ah (And.intro (H1.out.1.below hb H1.out.1.lt) (H1.out.2.trans (Below.mono hb H1.out.2.size)))
 clear hb
 by_cases hc:jf d=true
 ·have hcs:=lx hc
  have HC:=ah hc
  have l8:(d.2.1.length:Int)≤8:=hcs.2.1
  have r9:(d.2.2.length:Int)≤1000:=hcs.2.2
  have hn24:=dv hcs.1
  have hcat1:(⟨#[100,114,118,32]⟩:ByteArray).size+d.1.size≤9223372036854775807:=by have:(⟨#[100,114,118,32]⟩:ByteArray).size=4:=rfl;omega
  have HCAT:=ah hcat1
  have hcl:=nu hc
  have HCL:=ah hcl
  clear hcs hcat1 hcl
  rw [hc]
  clear hc
  go_wp2_with (first | ((with_reducible refine ag 12 ?_);(refine aa (o:=⟨some 12,_,_,_,_,_⟩) rfl (.string d.1) w2 (exec_load_cell (o:=⟨some 12,_,_,_,_,_⟩) 9 (.tmp 11) rfl ⟨w.heap.size,0,none⟩ rfl _ _ w2 Tryz.underlying9 rfl (show w2.cell? ⟨w.heap.size,0,none⟩=some (.string d.1) from H2.out.1.cell 0)) ?_)) | ((with_reducible refine ag 13 ?_);(refine aa (o:=⟨some 13,_,_,_,_,_⟩) rfl (.string (⟨#[100,114,118,32]⟩++d.1)) w2 (a6 (o:=⟨some 13,_,_,_,_,_⟩) 9 (.const (.string ⟨#[100,114,118,32]⟩)) (.tmp 12) 9 rfl (⟨#[100,114,118,32]⟩) (d.1) rfl rfl HCAT.out w2) ?_)) | ((with_reducible refine ag 14 ?_);(refine aL (o:=⟨some 14,_,_,_,_,_⟩) rfl 60 (.tmp 13) rfl 9 1 (.string ⟨#[]⟩) _ rfl Tryz.underlying60 ue (by decide) (by decide) (fun w=>by kernel_rfl) rfl ?_);intro w3 hn;have own3:w3.ownsRow w2.heap.size 9 1 (.slice (some ⟨w2.heap.size,0,none⟩) 1 1) (0+1) ((fw d 0).map Value.string):=zo hn rfl rfl;have H3:=ah (And.intro (H2.out.1.below hn.below H2.out.1.lt) (And.intro (H2.out.2.trans (Below.mono hn.below H2.out.2.size)) own3));have HZ3:=ah hn.below.size;clear own3 hn;simp only [Act.put,List.setIfInBounds_toArray,List.set_cons_zero,List.set_cons_succ]) | ((with_reducible refine ag 16 ?_);(refine aa (o:=⟨some 16,_,_,_,_,_⟩) rfl (.slice A d.2.1.length cap) w3 (exec_load_cell (o:=⟨some 16,_,_,_,_,_⟩) 23 (.tmp 15) rfl ⟨w.heap.size,1,none⟩ rfl _ _ w3 Tryz.underlying23 rfl (show w3.cell? ⟨w.heap.size,1,none⟩=some (.slice A d.2.1.length cap) from H3.out.1.cell 1)) ?_)))
  go_loopw [4,18] (fun x4 x18 wr=>∃ (j:Nat) (u:Value),j≤d.2.1.length∧u=x4∧x18=.int .i64 (j:Int)∧Blk wr w.heap.size 26 (dC d (.slice A d.2.1.length cap) (.slice A2 d.2.2.length cap2)).toArray∧wr.ownsRow w2.heap.size 9 1 u (j+1) ((fw d j).map Value.string)∧Below w.heap.size w wr∧w2.heap.size≤wr.heap.size) (fun _ x18 _=>d.2.1.length-(intOf x18).toNat)
  case atStart=>exact ⟨0,_,by omega,rfl,rfl,H3.out.1,H3.out.2.2,H3.out.2.1,HZ3.out⟩
  case round =>
   obtain ⟨wo,rfl⟩:∃ wo,wo=wr:=⟨_,rfl⟩
   obtain ⟨j,x4,hj,rfl,rfl,hk,hown,hbw,hzw⟩:=hrel
   have HI:=ah (And.intro hk (And.intro hown (And.intro hbw hzw)))
   clear hk hown hbw hzw
   have j0:(0:Int)≤(j:Int):=by omega
   by_cases hj2:j<d.2.1.length
   ·have j1:(j:Int)<(d.2.1.length:Int):=by omega
    obtain ⟨x,hx⟩:∃ x,d.2.1[j]?=some x:=⟨_,List.getElem?_eq_getElem hj2⟩
    obtain ⟨b,off,rfl,hlb,hE⟩:=HA.out (by omega)
    obtain ⟨cs,hr,hatx⟩:=hE j x hx
    obtain ⟨rfl,hxo⟩:=bl.1 hatx
    have HX:=ah (And.intro (a8 hr (HI.out.2.2.1.block b (by omega))) hxo)
    have hszn2:=BK hxo
    have hszn:(Tryz.prog.info? 87).map (·.size)=some (nC x).length:=by simpa using hszn2
    have hszzn:zcN.size=(nC x).toArray.size:=by rw [show (nC x).toArray.size=43 by rw [List.size_toArray];exact da hxo];kernel_rfl
    have honen:(nC x).toArray.all (·.oneCell')=true:=all_oneCell_toArray (fQ x)
    have hll:=HCL.out x (List.mem_of_getElem? hx)
    have HXX:=ah hx
    clear hx hE hr hatx hxo
    go_wp2_with (first | ((with_reducible refine ag 20 ?_);(refine aa (o:=⟨some 20,_,_,_,_,_⟩) rfl (.pointer (some ⟨b,off+(j:Int).toNat*43,none⟩)) wo (aJ (o:=⟨some 20,_,_,_,_,_⟩) 23 87 (.tmp 16) (.tmp 18) rfl b off d.2.1.length cap (j:Int) .i64 rfl rfl ⟨j0,j1⟩ 43 Tryz.underlying23 aY wo) ?_;rw [show off+(j:Int).toNat*43=off+j*43 by omega])) | ((with_reducible refine ag 21 ?_);(refine aa (o:=⟨some 21,_,_,_,_,_⟩) rfl (.agg (nC x).toArray) wo (ai (o:=⟨some 21,_,_,_,_,_⟩) 87 (.tmp 20) rfl b (off+j*43) rfl (nC x) _ wo HX.out.1 Tryz.underlying87 rfl hszn) ?_)) | ((with_reducible refine ag 6 ?_);((with_reducible refine bn (o1:=⟨some 6,_,_,_,_,_⟩) (o2:=⟨none,_,_,_,_,_⟩) rfl rfl 87 (.tmp 6) (.tmp 21) ?_ zcN (nC x).toArray ?_ hszn2 ?_ honen ?_ ?_ ?_);rfl;kernel_rfl;exact hszzn;rfl;rfl;intro w3 hmm hbb;have H3:=ah (And.intro hmm hbb);clear hmm hbb;simp only [Act.put,List.setIfInBounds_toArray,List.set_cons_zero,List.set_cons_succ])) | ((with_reducible refine ag 23 ?_);(refine aa (o:=⟨some 23,_,_,_,_,_⟩) rfl (.agg (nC x).toArray) w3 (au (o:=⟨some 23,_,_,_,_,_⟩) 87 (.tmp 6) rfl wo.heap.size rfl 87 _ _ w3 H3.out.1 Tryz.underlying87 rfl hszn2) ?_)))
    refine (zk w3 x HX.out.2 hll.1 hll.2).mono ?_
    rintro e w4 ⟨rfl,hb⟩
    dsimp only
    have h34:=H3.out.2.trans (Below.mono hb H3.out.2.size)
    have H34:=ah h34
    clear hb h34
    go_wp2_with (first | ((with_reducible refine ag 25 ?_);(refine aL (o:=⟨some 25,_,_,_,_,_⟩) rfl 60 (.tmp 24) rfl 9 1 (.string ⟨#[]⟩) _ rfl Tryz.underlying60 ue (by decide) (by decide) (fun w=>by kernel_rfl) rfl ?_);intro w5 hn;have h45:=H34.out.trans (Below.mono hn.below H34.out.size);have H5:=ah (And.intro (HI.out.1.below h45 HI.out.1.lt) (And.intro (ao HI.out.2.1 fun g _ hl=>h45.block g hl) (And.intro (HI.out.2.2.1.trans (Below.mono h45 HI.out.2.2.1.size)) (And.intro (show gd w5 1 (some ⟨w4.heap.size,0,none⟩) 1 1 [.string (fu x)] from hn.src rfl (fun v hv=>(by rw [List.mem_singleton.1 hv];rfl))) (Nat.le_trans HI.out.2.2.2 h45.size)))));clear h45 hn;simp only [Act.put,List.setIfInBounds_toArray,List.set_cons_zero,List.set_cons_succ]) | (at_builtin;((with_reducible refine ag 26 ?_);refine aH (o:=⟨some 26,_,_,_,_,_⟩) rfl _ _ 60 rfl w2.heap.size 9 istr _ 1 16 Tryz.underlying60 HK.out.1 HK.out.2.1 HK.out.2.2.1 HK.out.2.2.2 rfl (by decide) _ (j+1) ((fw d j).map Value.string) H5.out.2.1 (some ⟨w4.heap.size,0,none⟩) 1 1 [.string (fu x)] H5.out.2.2.2.1 ?hm1 ?hb1 ?hz1 rfl rfl ?_)))
    case hm1=>simp only [maxLen];omega
    case hb1=>omega
    case hz1=>exact H5.out.2.2.2.2
    intro u6 w6 own6 gr6 _
    have hln:(fw d j).map Value.string++[.string (fu x)]=(fw d (j+1)).map Value.string:=tZ d j x HXX.out
    rw [hln] at own6
    have H6:=ah (And.intro ((gr6.block _ H5.out.1.lt (fun e=>ew H5.out.2.1 H5.out.1 (by decide) e.symm)).trans H5.out.1) (And.intro own6 (And.intro (H5.out.2.2.1.grown gr6 H5.out.2.2.1.size (fun k hk=>Nat.le_trans H2.out.2.size (aD H5.out.2.1 hk).1)) (Nat.le_trans H5.out.2.2.2.2 gr6.size))))
    clear own6 gr6 hln
    go_wp2_with fail
    go_roundw
    case rel=>exact ⟨j+1,u6,by omega,rfl,by go_num,H6.out.1,H6.out.2.1,H6.out.2.2.1,H6.out.2.2.2⟩
    case measure=>simp [intOf];omega
   ·obtain rfl:j=d.2.1.length:=by omega
    have HZ2:=ah (Nat.le_trans HI.out.2.2.1.size (Nat.le_refl _))
    go_wp2_with (first | ((with_reducible refine ag 30 ?_);(refine aa (o:=⟨some 30,_,_,_,_,_⟩) rfl (.slice A2 d.2.2.length cap2) wo (exec_load_cell (o:=⟨some 30,_,_,_,_,_⟩) 24 (.tmp 29) rfl ⟨w.heap.size,2,none⟩ rfl _ _ wo Tryz.underlying24 rfl (show wo.cell? ⟨w.heap.size,2,none⟩=some (.slice A2 d.2.2.length cap2) from HI.out.1.cell 2)) ?_)))
    refine (xc wo d.2.2 _ (HD.out.Co HI.out.2.2.1) (by omega)).mono ?_
    rintro e w4 ⟨rfl,hb⟩
    dsimp only
    have hrs:=xv d.2.2 (by omega)
    have HRS:=ah hrs
    have H34:=ah hb
    clear hb hrs
    go_wp2_with (first | ((with_reducible refine ag 32 ?_);(refine aa (o:=⟨some 32,_,_,_,_,_⟩) rfl (.string (⟨#[114,117,110,32]⟩++⟨(cH d.2.2).toArray⟩)) w4 (a6 (o:=⟨some 32,_,_,_,_,_⟩) 9 (.const (.string ⟨#[114,117,110,32]⟩)) (.tmp 31) 9 rfl (⟨#[114,117,110,32]⟩) (⟨(cH d.2.2).toArray⟩) rfl rfl HRS.out w4) ?_)) | ((with_reducible refine ag 33 ?_);(refine aL (o:=⟨some 33,_,_,_,_,_⟩) rfl 60 (.tmp 32) rfl 9 1 (.string ⟨#[]⟩) _ rfl Tryz.underlying60 ue (by decide) (by decide) (fun w=>by kernel_rfl) rfl ?_);intro w5 hn;have h45:=H34.out.trans (Below.mono hn.below H34.out.size);have H5:=ah (And.intro (HI.out.1.below h45 HI.out.1.lt) (And.intro (ao HI.out.2.1 fun g _ hl=>h45.block g hl) (And.intro (HI.out.2.2.1.trans (Below.mono h45 HI.out.2.2.1.size)) (And.intro (show gd w5 1 (some ⟨w4.heap.size,0,none⟩) 1 1 [.string (⟨#[114,117,110,32]⟩++⟨(cH d.2.2).toArray⟩)] from hn.src rfl (fun v hv=>(by rw [List.mem_singleton.1 hv];rfl))) (Nat.le_trans HI.out.2.2.2 h45.size)))));clear h45 hn;simp only [Act.put,List.setIfInBounds_toArray,List.set_cons_zero,List.set_cons_succ]) | (at_builtin;((with_reducible refine ag 34 ?_);refine aH (o:=⟨some 34,_,_,_,_,_⟩) rfl _ _ 60 rfl w2.heap.size 9 istr _ 1 16 Tryz.underlying60 HK.out.1 HK.out.2.1 HK.out.2.2.1 HK.out.2.2.2 rfl (by decide) _ (d.2.1.length+1) ((fw d d.2.1.length).map Value.string) H5.out.2.1 (some ⟨w4.heap.size,0,none⟩) 1 1 [.string (⟨#[114,117,110,32]⟩++⟨(cH d.2.2).toArray⟩)] H5.out.2.2.2.1 ?hm2 ?hb2 ?hz2 rfl rfl ?_)))
    case hm2=>simp only [maxLen];omega
    case hb2=>omega
    case hz2=>exact H5.out.2.2.2.2
    intro u6 w6 own6 gr6 _
    have hln:(fw d d.2.1.length).map Value.string++[.string (⟨#[114,117,110,32]⟩++⟨(cH d.2.2).toArray⟩)]=(cw d).map Value.string:=wW d
    rw [hln] at own6
    obtain ⟨g,cap6,rfl⟩:=du own6 (by omega)
    have hlp:(cw d).length=d.2.1.length+1+1:=nT d
    have hb6:Below w.heap.size w w6:=H5.out.2.2.1.grown gr6 H5.out.2.2.1.size (fun k hk=>Nat.le_trans H2.out.2.size (aD H5.out.2.1 hk).1)
    have hcells:∀ (j:Nat) x,(cw d)[j]?=some x→w6.cell? ⟨g,0+j,none⟩=some (.string x):=by
     intro k x hk
     rw [Nat.zero_add]
     exact pM own6 k _ (by rw [List.getElem?_map,hk];rfl)
    have hgl:=(aD own6 rfl).2
    have hjn:=uo HOK.out HC.out
    have hcp:(cw d).length≤cap6:=by
     have:=yD own6
     omega
    rw [show d.2.1.length+1+1=(cw d).length from hlp.symm]
    have H6:=ah hb6
    have HJN:=ah (zl hjn)
    have HJ:=ah (And.intro hcells (And.intro hgl (And.intro (show (cw d).length≤140737488355328 by omega) (And.intro hcp (show (Lib.join ((cw d).map (·.data.toList)) [10]).length≤140737488355328 by omega)))))
    clear own6 gr6 hln hb6 hcells hgl hjn hcp hlp
    go_wp2_with fail
    refine (Tryz.strings_Join g 0 cap6 (cw d) ⟨#[10]⟩ w6 HJ.out.1 HJ.out.2.1 HJ.out.2.2.1 HJ.out.2.2.2.1 HJ.out.2.2.2.2).mono ?_
    rintro e w7 ⟨rfl,hb⟩
    dsimp only
    have H7:=ah (H6.out.trans (Below.mono hb H6.out.size))
    clear hb
    by_cases hl:(2000:Int)<((eF d).size:Int)
    ·have HE:Hid (fK d=3):=ah (by unfold fK;rw [HC.out,if_pos rfl,if_pos (by omega)])
     go_wp2_with (first | ((with_reducible refine ag 36 ?_);(refine aa (o:=⟨some 36,_,_,_,_,_⟩) rfl (.string (eF d)) w7 (a6 (o:=⟨some 36,_,_,_,_,_⟩) 9 (.tmp 35) (.const (.string ⟨#[10]⟩)) 9 rfl (⟨(Lib.join ((cw d).map (·.data.toList)) [10]).toArray⟩) (⟨#[10]⟩) rfl rfl HJN.out w7) ?_)))
     refine bodyPost_ret (v:=.tuple #[.slice none 0 0,.int .i64 3]) (by simp [results,Tryz.results120,go_sem]) rfl ?_
     exact ⟨_,by rw [HE.out],(fun h=>absurd (HE.out.symm.trans h) (by decide)),H7.out⟩
    ·have HE:Hid (fK d=0):=ah (by unfold fK;rw [HC.out,if_pos rfl,if_neg (by omega)])
     go_wp2_with (first | ((with_reducible refine ag 36 ?_);(refine aa (o:=⟨some 36,_,_,_,_,_⟩) rfl (.string (eF d)) w7 (a6 (o:=⟨some 36,_,_,_,_,_⟩) 9 (.tmp 35) (.const (.string ⟨#[10]⟩)) 9 rfl (⟨(Lib.join ((cw d).map (·.data.toList)) [10]).toArray⟩) (⟨#[10]⟩) rfl rfl HJN.out w7) ?_)) | ((with_reducible refine ag 41 ?_);(with_reducible refine jr (o:=⟨some 41,_,_,_,_,_⟩) rfl 9 24 5 (.tmp 40) rfl Tryz.underlying9 Tryz.underlying24 Tryz.underlying5 (eF d) rfl ?_);intro g8 k8 w8 ht8 hc8 hg8 hl8 hb8;have H8:=ah (And.intro ht8 (And.intro hc8 (And.intro hg8 (And.intro hl8 (H7.out.trans (Below.mono hb8 H7.out.size))))));clear ht8 hc8 hg8 hl8 hb8;simp only [Act.put,List.setIfInBounds_toArray,List.set_cons_zero,List.set_cons_succ]))
     refine bodyPost_ret (v:=.tuple #[.slice (some ⟨g8,0,none⟩) (eF d).size k8,.int .i64 0]) (by simp [results,Tryz.results120,go_sem]) rfl ?_
     exact ⟨_,by rw [HE.out],(fun _=>⟨g8,k8,rfl,H8.out.1,H8.out.2.1,Nat.le_trans H7.out.size H8.out.2.2.1,H8.out.2.2.2.1⟩),H8.out.2.2.2.2⟩
 ·have hc':jf d=false:=by simpa using hc
  have HE:Hid (fK d=2):=ah (by unfold fK;rw [hc'];rfl)
  rw [hc']
  go_wp2_with fail
  refine bodyPost_ret (v:=.tuple #[.slice none 0 0,.int .i64 2]) (by simp [results,Tryz.results120,go_sem]) rfl ?_
  exact ⟨_,by rw [HE.out],(fun h=>absurd (HE.out.symm.trans h) (by decide)),H2.out.2⟩
end Go.Proofs.YtomnhnmciopiiaaGreat
end
section
namespace Go.Proofs.YtomnhnmciopiiaaGreat
open Go Go.RowKit Go.Maps
set_option maxRecDepth 100000
def itP (x:Itm):Dr.It Hsh:=⟨x.1,az x.2.2.1,decide (fK x.2=0)⟩
def dh (l:List Itm):List (Hsh×Nat):=l.zipIdx.map fun p=>(p.1.1,p.2)
theorem jE (l:List Itm):(dh l).map (·.1)=Dr.css (l.map itP):=by
 unfold dh Dr.css
 apply List.ext_getElem?
 intro i
 simp
 cases l[i]?<;>rfl
theorem vi {l:List Itm} {j:Nat} {x:Itm} (h:l[j]?=some x):dh (l.take (j+1))=dh (l.take j)++[(x.1,j)]:=by
 have hj:=(List.getElem?_eq_some_iff.1 h).1
 rw [List.take_add_one,h]
 unfold dh
 rw [List.zipIdx_append,List.map_append,List.length_take,Nat.min_eq_left (by omega)]
 simp
theorem pN (l:List Itm) (c:Hsh):(aX (dh l) c).isSome=@List.contains Hsh instBEqOfDecidableEq (Dr.css (l.map itP)) c:=by
 rw [Bool.eq_iff_iff,← mem_keys,jE]
 simp
theorem kh {H:Type} [DecidableEq H] (a b:List (Dr.It H)):∀ known:List H,Dr.cv known (a++b)=(Dr.cv known a&&Dr.cv (known++Dr.css a) b):=by
 induction a with
 | nil=>intro known;simp [Dr.cv,Dr.css]
 | cons x a ih =>
  intro known
  rw [List.cons_append,Dr.cv,Dr.cv,ih]
  simp [Dr.css,Bool.and_assoc]
theorem vX (l:List Itm) (ks:List Hsh):(ks.all fun c=>(aX (dh l) c).isSome)=ks.all fun c=>@List.contains Hsh instBEqOfDecidableEq (Dr.css (l.map itP)) c:=by
 congr 1
 funext c
 exact pN l c
theorem rm {l:List Itm} {j:Nat} {x:Itm} (h:l[j]?=some x):Dr.bL (l.map itP)=(Dr.bL ((l.take j).map itP)&&(decide (fK x.2=0)&&!(aX (dh (l.take j)) x.1).isSome&&((az x.2.2.1).all fun c=>(aX (dh (l.take j)) c).isSome)&&Dr.cv (Dr.css ((l.take j).map itP)++[x.1]) ((l.drop (j+1)).map itP))):=by
 have e:l=l.take j++x :: l.drop (j+1):=by
  have hj:=List.getElem?_eq_some_iff.1 h
  rw [← hj.2,List.getElem_cons_drop,List.take_append_drop]
 unfold Dr.bL
 conv=>lhs;rw [e,List.map_append,kh,List.nil_append,List.map_cons,Dr.cv]
 rw [vX,pN]
 rfl
theorem mX {l:List Itm} {j:Nat} {x:Itm} (h:l[j]?=some x) (hw:¬ fK x.2=0∨(aX (dh (l.take j)) x.1).isSome=true∨((az x.2.2.1).all fun c=>(aX (dh (l.take j)) c).isSome)=false):Dr.bL (l.map itP)=false:=by
 rw [rm h]
 rcases hw with hw | hw | hw
 ·simp [hw]
 ·simp [hw]
 ·rw [hw];simp
theorem wV {l:List Itm} {j:Nat} {x:Itm} (h:l[j]?=some x) (hr:Dr.bL ((l.take j).map itP)=true) (h1:fK x.2=0) (h2:(aX (dh (l.take j)) x.1).isSome=false) (h3:((az x.2.2.1).all fun c=>(aX (dh (l.take j)) c).isSome)=true):Dr.bL ((l.take (j+1)).map itP)=true:=by
 have hj:=(List.getElem?_eq_some_iff.1 h).1
 have h9:(l.take (j+1))[j]?=some x:=by rw [List.getElem?_take_of_lt (by omega)];exact h
 rw [rm h9,List.take_take,Nat.min_eq_left (by omega),hr,h1,h2,h3]
 rw [List.drop_of_length_le (by rw [List.length_take];omega)]
 rfl
structure ql (wr w:World) (mb:Nat) (A:Option Addr) (cap:Nat) (l:List Itm) (j:Nat):Prop where
 tbl:Blk wr w.heap.size 129 #[.map (some mb),.slice A l.length cap]
 iw:bG hV okH evN wr mb (dh (l.take j))
 ne:w.heap.size<mb
 right:Dr.bL ((l.take j).map itP)=true
 below:Below w.heap.size w wr
theorem ql.grow {wr w w':World} {mb:Nat} {A:Option Addr} {cap:Nat} {l:List Itm} {j:Nat} (h:ql wr w mb A cap l j) (hb:Below wr.heap.size wr w'):ql w' w mb A cap l j :=
 ⟨h.tbl.below hb h.tbl.lt,h.iw.below hb h.iw.lt,h.ne,h.right,h.below.trans (Below.mono hb h.below.size)⟩
theorem ql.put {wr w w':World} {mb:Nat} {A:Option Addr} {cap:Nat} {l:List Itm} {j:Nat} {x:Itm} (h:ql wr w mb A cap l j) (hx:l[j]?=some x) (hkn:(aX (dh (l.take j)) x.1).isSome=false)
  (hm:bG hV okH evN w' mb (jI (dh (l.take j)) x.1 j)) (ht:n4 wr w' mb) (hr:Dr.bL ((l.take (j+1)).map itP)=true):ql w' w mb A cap l (j+1):=by
 refine ⟨(ht.2.1 _ (by have:=h.ne;omega)).trans h.tbl,?_,h.ne,hr,h.below.grown ht.grown h.below.size fun k hk=>?_⟩
 ·rw [vi hx,← kS (by cases e:aX (dh (l.take j)) x.1 with | none=>rfl | some v=>rw [e] at hkn;cases hkn)]
  exact hm
 ·have hk:=Option.some.inj hk
  have:=h.ne
  omega
theorem yq {w w1 w3:World} {A:Option Addr} {cap:Nat} {l:List Itm} (hn:iS w w1 129 #[.map none,.slice none 0 0]) (hk:Blk w3 w.heap.size 129 #[.map (some w1.heap.size),.slice A l.length cap]) (hg:(w1.alloc (.map #[] 0)).grownBy w3 (some w.heap.size)):ql w3 w w1.heap.size A cap l 0:=by
 have h2:Below w.heap.size w (w1.alloc (.map #[] 0)):=hn.below.alloc hn.below.size _
 have hm:bG hV okH evN (w1.alloc (.map #[] 0)) w1.heap.size (dh (l.take 0)):=jG w1
 exact ⟨hk,hm.of_eq (hg.block _ hm.lt (fun e=>by have e:=Option.some.inj e;have:=hn.size;omega)),by have:=hn.size;omega,rfl,h2.grown hg h2.size fun k hk=>by have:=Option.some.inj hk;omega⟩
def qQ (h:Hsh) (u:Value) (w:World):Prop:=∃ r,u=.slice (some ⟨r,0,none⟩) 1 1∧Blk w r 34 (bv h).toArray
def sH (l:List Hsh) (u:Value) (w:World):Prop:=∃ B,w.ownsRow B 34 20 u l.length (l.flatMap bv)
theorem p8 (h:Hsh):Fre.eN Bel (qQ h):=⟨fun _ _ _ ⟨r,h1,h2⟩ hx=>⟨r,h1,h2.below hx h2.lt⟩⟩
theorem rb (l:List Hsh):Fre.eN Bel (sH l):=⟨fun _ _ _ ⟨B,h⟩ hx=>⟨B,ao h fun g _ hl=>Below.block hx g hl⟩⟩
theorem qQ.at_ {h:Hsh} {u:Value} {w:World} (hu:qQ h u w) (hh:okH h):fe.At w w.heap.size [u] [h]:=by
 obtain ⟨r,rfl,hb⟩:=hu
 exact ⟨_,1,rfl,Nat.le_refl _,by decide,(fun e=>by cases e),fun _=>⟨r,0,rfl,hb.lt,fun j x hx=>by
  match j,hx with
  | 0,hx =>
   injection hx with hx
   subst hx
   exact ⟨bv h,by have h1:=dK hb;simpa using h1,dt.2 ⟨rfl,hh⟩⟩
  | j+1,hx=>simp at hx⟩⟩
theorem sH.at_ {l:List Hsh} {u:Value} {w:World} (hu:sH l u w) (hh:∀ h∈l,okH h):fe.At w w.heap.size [u] l:=by
 obtain ⟨B,h⟩:=hu
 exact di (L:=fE) (f:=bv) (by decide) h _ (Nat.le_refl _) fun x hx=>dt.2 ⟨rfl,hh x hx⟩
theorem pX {ρ:Operand→Value} {o:Oper} (x:Operand) (ho:o.op=.buildSlice 27 1 #[(0,x)]) {h:Hsh} (hh:okH h) (hx:ρ x=.agg (bv h).toArray) (W:World) :
  ∃ u w',(execOp ρ o).run Tryz.prog W=.ok (.value u) w'∧Fre.Ext Bel W w'∧qQ h u w' :=
 ⟨_,_,bM (v:=.agg (bv h).toArray) 27 x ho hx Tryz.underlying27 ej (by omega) (by omega) (z:=.agg zcH) (fun w=>by kernel_rfl) (by rw [Value.cells,List.size_toArray,bvL];exact hh) W,(Below.refl _ W).alloc (Nat.le_refl _) _,_,rfl,Blk.new _ _ _⟩
theorem lg (m:List (Hsh×Nat)) (h:Hsh):([h].all fun c=>(aX m c).isSome)=(aX m h).isSome:=by simp
theorem va:∀ (l:List Nam) (out:List Hsh) (c:Hsh),c∈l.foldl (fun out x=>if x.2.2.2=true∧x.2.2.1 ∉ out then out++[x.2.2.1] else out) out→c∈out∨∃ x∈l,x.2.2.1=c
 | [],out,c,h=>.inl h
 | x :: l,out,c,h=>by
  rcases va l _ c h with h | ⟨y,hy,e⟩
  ·dsimp only at h
   split at h
   ·rcases List.mem_append.1 h with h | h
    ·exact .inl h
    ·exact .inr ⟨x,List.mem_cons_self ..,(List.mem_singleton.1 h).symm⟩
   ·exact .inl h
  ·exact .inr ⟨y,List.mem_cons_of_mem _ hy,e⟩
theorem lN {l:List Nam} (h:∀ x∈l,okN x):∀ c∈az l,okH c:=fun c hc=>by
 rcases va l [] c hc with h1 | ⟨x,hx,rfl⟩
 ·cases h1
 ·exact (h x hx).2.2
def BI (w:World) (A:Option Addr) (cap:Nat) (l:List Itm) (w':World) (e:Ending):Prop :=
 ∃ mb,e=.returned (.tuple #[.agg #[.map (some mb),.slice A l.length cap],.bool (Dr.bL (l.map itP))])∧(Dr.bL (l.map itP)=true→w.heap.size<mb∧bG hV okH evN w' mb (dh l))∧Below w.heap.size w w'
set_option maxHeartbeats 8000000 in
theorem lT (w:World) (l:List Itm) (A:Option Addr) (cap:Nat) (h:bz.At w w.heap.size [.slice A l.length cap] l) (hl:∀ x∈l,x.2.2.1.length≤1000000) :
  Calls Tryz.prog 73 #[.slice A l.length cap] w fun e w'=>BI w A cap l w' e:=by
 obtain ⟨A',cap',e,hcl,hcm,_,hA⟩:=ak h
 injection e with e1 e2 e3
 subst e1 e3
 have k9:(l.length:Int)≤9223372036854775807:=by simp only [maxLen] at hcm;omega
 have HA:=ah hA
 clear hA h hcl hcm e2
 have hmm:=@run_makeMap Tryz.prog
 go_enter Tryz.func73,Tryz.ntmps73
 go_wp2_with (first | ((with_reducible refine ag 2 ?_);(refine aC (o:=⟨some 2,_,_,_,_,_⟩) rfl 129 #[.map none,.slice none 0 0] (by kernel_rfl) ?_);intro w1 hn;have HN1:=ah hn;clear hn;simp only [Act.put,List.setIfInBounds_toArray,List.set_cons_zero,List.set_cons_succ]) | ((with_reducible refine ag 10 ?_);(refine aa (o:=⟨some 10,_,_,_,_,_⟩) rfl (.agg #[.map (some w1.heap.size),.slice A l.length cap]) (w1.alloc (.map #[] 0)) (by kernel_rfl) ?_)) | ((with_reducible refine bI 2 10 ?_);(with_reducible refine al (o:=⟨none,_,_,_,_,_⟩) rfl 129 (.tmp 2) (.tmp 10) rfl w.heap.size #[.map none,.slice none 0 0] #[.map (some w1.heap.size),.slice A l.length cap] 129 (HN1.out.blk.alloc _) ?_ ?_ ?_ ?_ ?_ ?_);kernel_rfl;rfl;kernel_rfl;rfl;rfl;intro w3 hk3 hg3;have hst0:ql w3 w w1.heap.size A cap l 0:=yq HN1.out hk3 hg3;have HS:=ah hst0;clear hk3 hg3 hst0;simp only [Act.put,List.setIfInBounds_toArray,List.set_cons_zero,List.set_cons_succ]))
 obtain ⟨mb,hmb⟩:∃ mb,mb=w1.heap.size:=⟨_,rfl⟩
 rw [← hmb] at HS ⊢
 clear hmb hmm
 go_loopw [13] (fun y wr=>∃ j:Nat,j≤l.length∧y=.int .i64 (j:Int)∧ql wr w mb A cap l j) (fun y _=>l.length-(intOf y).toNat)
 case atStart=>exact ⟨0,by omega,rfl,HS.out⟩
 case round =>
  obtain ⟨wo,rfl⟩:∃ wo,wo=wr:=⟨_,rfl⟩
  obtain ⟨j,hj,rfl,hst⟩:=hrel
  have HI:=ah hst
  clear hst
  have j0:(0:Int)≤(j:Int):=by omega
  by_cases hj2:j<l.length
  ·have j1:(j:Int)<(l.length:Int):=by omega
   obtain ⟨x,hx⟩:∃ x,l[j]?=some x:=⟨_,List.getElem?_eq_getElem hj2⟩
   obtain ⟨b,off,rfl,hlb,hE⟩:=HA.out (by omega)
   obtain ⟨cs,hr,hatx⟩:=hE j x hx
   obtain ⟨q1,q2,rfl,hxo,hxd⟩:=bT.1 hatx
   obtain ⟨B1,k1,rfl,_⟩:=ak hxd.ins
   obtain ⟨B2,k2,rfl,_⟩:=ak hxd.rcp
   obtain ⟨q1,hq1⟩:∃ q1,q1=Value.slice B1 x.2.2.1.length k1:=⟨_,rfl⟩
   obtain ⟨q2,hq2⟩:∃ q2,q2=Value.slice B2 x.2.2.2.length k2:=⟨_,rfl⟩
   have hone1:q1.oneCell'=true∧q2.oneCell'=true:=by rw [hq1,hq2];exact ⟨rfl,rfl⟩
   rw [← hq1,← hq2] at hr hatx
   rw [← hq1,← hq2] at hxd
   have hbnd:=hl x (List.mem_of_getElem? hx)
   have HX:=ah (And.intro (a8 hr (HI.out.below.block b (by omega))) (And.intro hxo hxd))
   have HXX:=ah hx
   have hszt2:(Tryz.prog.info? 59).map (·.size)=some (tC x q1 q2).toArray.size:=by rw [show (tC x q1 q2).toArray.size=23 by rw [List.size_toArray];exact dA hxo];kernel_rfl
   have hszt:(Tryz.prog.info? 59).map (·.size)=some (tC x q1 q2).length:=by simpa using hszt2
   have hszzt:zcT.size=(tC x q1 q2).toArray.size:=by rw [show (tC x q1 q2).toArray.size=23 by rw [List.size_toArray];exact dA hxo];kernel_rfl
   have honet:(tC x q1 q2).toArray.all (·.oneCell')=true:=all_oneCell_toArray (jh x hone1.1 hone1.2)
   have hszx:(Tryz.prog.info? 34).map (·.size)=some (bv x.1).length:=by have:=eR hxo;simpa using this
   clear hx hE hr hatx hxo hxd hq1 hq2
   go_wp2_with (first | ((with_reducible refine ag 16 ?_);(refine aa (o:=⟨some 16,_,_,_,_,_⟩) rfl (.pointer (some ⟨b,off+(j:Int).toNat*23,none⟩)) wo (aJ (o:=⟨some 16,_,_,_,_,_⟩) 22 59 (.tmp 11) (.tmp 13) rfl b off l.length cap (j:Int) .i64 rfl rfl ⟨j0,j1⟩ 23 Tryz.underlying22 cP wo) ?_;rw [show off+(j:Int).toNat*23=off+j*23 by omega])) | ((with_reducible refine ag 17 ?_);(refine aa (o:=⟨some 17,_,_,_,_,_⟩) rfl (.agg (tC x q1 q2).toArray) wo (ai (o:=⟨some 17,_,_,_,_,_⟩) 59 (.tmp 16) rfl b (off+j*23) rfl (tC x q1 q2) _ wo HX.out.1 Tryz.underlying59 rfl hszt) ?_)) | ((with_reducible refine ag 5 ?_);(refine aC (o:=⟨some 5,_,_,_,_,_⟩) rfl 59 zcT (by kernel_rfl) ?_);intro w3 hn;have H3:=ah hn;clear hn;simp only [Act.put,List.setIfInBounds_toArray,List.set_cons_zero,List.set_cons_succ]) | ((with_reducible refine bI 5 17 ?_);(with_reducible refine al (o:=⟨none,_,_,_,_,_⟩) rfl 59 (.tmp 5) (.tmp 17) rfl wo.heap.size zcT (tC x q1 q2).toArray 59 H3.out.blk ?_ ?_ ?_ ?_ ?_ ?_);exact hszt2;exact hszzt;exact honet;rfl;rfl;intro w4 hk4 hg4;have h34:Below wo.heap.size wo w4:=(H3.out.below.grown hg4 (by have:=H3.out.size;omega) (fun b hb=>(by injection hb with hb;omega)));have H4:=ah (And.intro hk4 h34);clear hk4 hg4 h34;simp only [Act.put]) | ((with_reducible refine ag 20 ?_);(refine aa (o:=⟨some 20,_,_,_,_,_⟩) rfl (.agg (dC x.2 q1 q2).toArray) w4 (ai (o:=⟨some 20,_,_,_,_,_⟩) 26 (.tmp 19) rfl wo.heap.size (20) rfl (dC x.2 q1 q2) _ w4 (fN HX.out.2.1 H4.out.1) Tryz.underlying26 rfl (by kernel_rfl)) ?_)))
   have hat4:aO w4 w4.heap.size x.2 q1 q2:=(HX.out.2.2.alike fun b hb=>(H4.out.2.block b (by have:=HI.out.below.size;omega)).trans (HI.out.below.block b hb)).dU (by have:=HI.out.below.size;have:=H4.out.2.size;omega)
   refine (zP w4 x.2 q1 q2 hat4).mono ?_
   rintro e w5 ⟨pv,rfl,_,hb⟩
   dsimp only
   have h45:=H4.out.2.trans (Below.mono hb H4.out.2.size)
   have H5:=ah (And.intro (H4.out.1.below hb H4.out.1.lt) (And.intro (HI.out.grow h45) (And.intro h45 (hat4.gF hb))))
   clear hb h45 hat4
   obtain ⟨pe,hpe⟩:∃ pe,pe=fK x.2:=⟨_,rfl⟩
   rw [← hpe]
   have HPE:=ah hpe
   clear hpe
   by_cases he:pe=0
   ·subst he
    cases hkn:(aX (dh (l.take j)) x.1).isSome
    ·have HKN:=ah hkn
     clear hkn
     cases hal:(az x.2.2.1).all fun c=>(aX (dh (l.take j)) c).isSome
     ·have HAL:=ah hal
      clear hal
      have HX9:Hid (∀ W,Fre.Ext Bel w5 W→aO W W.heap.size x.2 q1 q2):=ah fun W hW=>H5.out.2.2.2.gF hW
      have HNR:Hid (Dr.bL (l.map itP)=false):=ah (mX HXX.out (by exact .inr (.inr HAL.out)))
      go_wp2_with fail
      refine Fre.cq (X:=Bel) 18 [(31,qQ x.1),(39,sH (az x.2.2.1))] (by kernel_rfl) (by kernel_rfl) (by intro p hp;simp only [List.mem_cons,List.not_mem_nil,or_false] at hp;rcases hp with rfl | rfl;exact p8 _;exact rb _) (by simp) (by simp) ?_
      simp only [List.take_succ_cons,List.take_zero,List.drop_succ_cons,List.drop_zero]
      refine Fre.ae (.int .i64 0) (by kernel_rfl) (by kernel_rfl) (by kernel_rfl) (fun _ _=>by kernel_rfl) ?_
      simp only [Act.put,List.setIfInBounds_toArray,List.set_cons_zero,List.set_cons_succ]
      refine Fre.ae (.bool false) (by kernel_rfl) (by kernel_rfl) (by kernel_rfl) (fun _ _=>by kernel_rfl) ?_
      simp only [Act.put,List.setIfInBounds_toArray,List.set_cons_zero,List.set_cons_succ]
      refine Fre.ae (.bool false) (by kernel_rfl) (by kernel_rfl) (by kernel_rfl) (fun _ _=>by kernel_rfl) ?_
      simp only [Act.put,List.setIfInBounds_toArray,List.set_cons_zero,List.set_cons_succ]
      refine Fre.ae (.pointer (some ⟨w.heap.size,0,none⟩)) (by kernel_rfl) (by kernel_rfl) (by kernel_rfl) (fun _ _=>by kernel_rfl) ?_
      simp only [Act.put,List.setIfInBounds_toArray,List.set_cons_zero,List.set_cons_succ]
      refine Fre.ae (.map (some mb)) (by kernel_rfl) (by kernel_rfl) (by kernel_rfl) (fun W9 hW9=>exec_load_cell (o:=⟨some 28,_,_,_,_,_⟩) 127 (.tmp 27) rfl ⟨w.heap.size,0,none⟩ rfl _ _ W9 Tryz.underlying127 rfl ((H5.out.2.1.grow hW9).tbl.cell 0)) ?_
      simp only [Act.put,List.setIfInBounds_toArray,List.set_cons_zero,List.set_cons_succ]
      refine Fre.ae (.pointer (some ⟨wo.heap.size,0,none⟩)) (by kernel_rfl) (by kernel_rfl) (by kernel_rfl) (fun _ _=>by kernel_rfl) ?_
      simp only [Act.put,List.setIfInBounds_toArray,List.set_cons_zero,List.set_cons_succ]
      refine Fre.ae (.agg (bv x.1).toArray) (by kernel_rfl) (by kernel_rfl) (by kernel_rfl) (fun W9 hW9=>ai (o:=⟨some 30,_,_,_,_,_⟩) 34 (.tmp 29) rfl wo.heap.size (0) rfl (bv x.1) _ W9 (fl HX.out.2.1 (H5.out.1.below hW9 H5.out.1.lt)) Tryz.underlying34 rfl hszx) ?_
      simp only [Act.put,List.setIfInBounds_toArray,List.set_cons_zero,List.set_cons_succ]
      refine Fre.fX 31 _ (by kernel_rfl) (by kernel_rfl) rfl rfl (fun W hW=>pX (o:=⟨some 31,_,_,_,_,_⟩) (.tmp 30) rfl HX.out.2.1 rfl W) ?_
      simp only [Act.put,List.setIfInBounds_toArray,List.set_cons_zero,List.set_cons_succ]
      refine Fre.e5 31 _ (.bool false) 74 (fun u=>#[.map (some mb),u]) (by kernel_rfl) rfl (by kernel_rfl) (by kernel_rfl) (fun u W=>by kernel_rfl) (fun u W hW hu=>?hc32) ?_
      case hc32 =>
       have h:=ik W mb _ (H5.out.2.1.grow hW).iw [x.1] u (hu.at_ HX.out.2.1)
       rw [lg] at h
       rw [HKN.out] at h
       exact h
      simp only [Act.put,List.setIfInBounds_toArray,List.set_cons_zero,List.set_cons_succ]
      refine Fre.ae (.bool false) (by kernel_rfl) (by kernel_rfl) (by kernel_rfl) (fun _ _=>by kernel_rfl) ?_
      simp only [Act.put,List.setIfInBounds_toArray,List.set_cons_zero,List.set_cons_succ]
      refine Fre.ae (.bool false) (by kernel_rfl) (by kernel_rfl) (by kernel_rfl) (fun _ _=>by kernel_rfl) ?_
      simp only [Act.put,List.setIfInBounds_toArray,List.set_cons_zero,List.set_cons_succ]
      refine Fre.ae (.pointer (some ⟨w.heap.size,0,none⟩)) (by kernel_rfl) (by kernel_rfl) (by kernel_rfl) (fun _ _=>by kernel_rfl) ?_
      simp only [Act.put,List.setIfInBounds_toArray,List.set_cons_zero,List.set_cons_succ]
      refine Fre.ae (.map (some mb)) (by kernel_rfl) (by kernel_rfl) (by kernel_rfl) (fun W9 hW9=>exec_load_cell (o:=⟨some 36,_,_,_,_,_⟩) 127 (.tmp 35) rfl ⟨w.heap.size,0,none⟩ rfl _ _ W9 Tryz.underlying127 rfl ((H5.out.2.1.grow hW9).tbl.cell 0)) ?_
      simp only [Act.put,List.setIfInBounds_toArray,List.set_cons_zero,List.set_cons_succ]
      refine Fre.ae (.pointer (some ⟨wo.heap.size,20,none⟩)) (by kernel_rfl) (by kernel_rfl) (by kernel_rfl) (fun _ _=>by kernel_rfl) ?_
      simp only [Act.put,List.setIfInBounds_toArray,List.set_cons_zero,List.set_cons_succ]
      refine Fre.ae (.agg (dC x.2 q1 q2).toArray) (by kernel_rfl) (by kernel_rfl) (by kernel_rfl) (fun W9 hW9=>ai (o:=⟨some 38,_,_,_,_,_⟩) 26 (.tmp 37) rfl wo.heap.size (20) rfl (dC x.2 q1 q2) _ W9 (fN HX.out.2.1 (H5.out.1.below hW9 H5.out.1.lt)) Tryz.underlying26 rfl (by kernel_rfl)) ?_
      simp only [Act.put,List.setIfInBounds_toArray,List.set_cons_zero,List.set_cons_succ]
      refine Fre.fH 39 _ 46 #[.agg (dC x.2 q1 q2).toArray] (by kernel_rfl) (by kernel_rfl) rfl rfl (fun W=>by kernel_rfl) (fun W hW=>(ey W x.2 q1 q2 (HX9.out W hW) hbnd).mono (fun e w' ⟨u,h1,h2,h3⟩=>⟨u,h1,h3,_,h2⟩)) ?_
      simp only [Act.put,List.setIfInBounds_toArray,List.set_cons_zero,List.set_cons_succ]
      refine Fre.e5 39 _ (.bool false) 74 (fun u=>#[.map (some mb),u]) (by kernel_rfl) rfl (by kernel_rfl) (by kernel_rfl) (fun u W=>by kernel_rfl) (fun u W hW hu=>?hc40) ?_
      case hc40 =>
       have h:=ik W mb _ (H5.out.2.1.grow hW).iw (az x.2.2.1) u (hu.at_ (lN HX.out.2.2.okn))
       rw [HAL.out] at h
       exact h
      simp only [Act.put,List.setIfInBounds_toArray,List.set_cons_zero,List.set_cons_succ]
      refine Fre.ae (.bool true) (by kernel_rfl) (by kernel_rfl) (by kernel_rfl) (fun _ _=>by kernel_rfl) ?_
      simp only [Act.put,List.setIfInBounds_toArray,List.set_cons_zero,List.set_cons_succ]
      intro w6 hx6
      have H6:=ah (And.intro (H5.out.1.below hx6 H5.out.1.lt) (And.intro (H5.out.2.1.grow hx6) (H5.out.2.2.1.trans (Below.mono hx6 H5.out.2.2.1.size))))
      clear hx6
      dsimp only [Fre.ended,List.drop]
      rintro u31 _ u39 _
      go_wp2_with (first | ((with_reducible refine ag 43 ?_);(refine aa (o:=⟨some 43,_,_,_,_,_⟩) rfl (.agg #[.map (some mb),.slice (some ⟨b,off,none⟩) l.length cap]) w6 (au (o:=⟨some 43,_,_,_,_,_⟩) 129 (.tmp 2) rfl w.heap.size rfl 129 _ _ w6 H6.out.2.1.tbl Tryz.underlying129 rfl (by kernel_rfl)) ?_)) | ((with_reducible refine bI 2 43 ?_);(with_reducible refine al (o:=⟨none,_,_,_,_,_⟩) rfl 129 (.tmp 2) (.tmp 43) rfl w.heap.size #[.map (some mb),.slice (some ⟨b,off,none⟩) l.length cap] #[.map (some mb),.slice (some ⟨b,off,none⟩) l.length cap] 129 H6.out.2.1.tbl ?_ ?_ ?_ ?_ ?_ ?_);kernel_rfl;rfl;kernel_rfl;rfl;rfl;intro w7 hk7 hg7;have hb7:Below w.heap.size w w7:=(H6.out.2.1.below.grown hg7 H6.out.2.1.below.size (fun b hb=>(by injection hb with hb;omega)));have H7:=ah (And.intro hk7 hb7);clear hk7 hg7 hb7;simp only [Act.put,List.setIfInBounds_toArray,List.set_cons_zero,List.set_cons_succ]))
      refine bodyPost_ret (results_cell_tmp rfl _ _ w.heap.size 129 #[.map (some mb),.slice (some ⟨b,off,none⟩) l.length cap] (0,0) _ rfl H7.out.1 Tryz.underlying129 rfl (by kernel_rfl)) rfl ?_
      exact ⟨mb,by rw [HNR.out];rfl,(fun h=>absurd (HNR.out.symm.trans h) (by decide)),H7.out.2⟩
     ·have HAL:=ah hal
      clear hal
      have HX9:Hid (∀ W,Fre.Ext Bel w5 W→aO W W.heap.size x.2 q1 q2):=ah fun W hW=>H5.out.2.2.2.gF hW
      have HR9:=ah (wV HXX.out HI.out.right HPE.out.symm HKN.out HAL.out)
      go_wp2_with fail
      refine Fre.cq (X:=Bel) 18 [(31,qQ x.1),(39,sH (az x.2.2.1))] (by kernel_rfl) (by kernel_rfl) (by intro p hp;simp only [List.mem_cons,List.not_mem_nil,or_false] at hp;rcases hp with rfl | rfl;exact p8 _;exact rb _) (by simp) (by simp) ?_
      simp only [List.take_succ_cons,List.take_zero,List.drop_succ_cons,List.drop_zero]
      refine Fre.ae (.int .i64 0) (by kernel_rfl) (by kernel_rfl) (by kernel_rfl) (fun _ _=>by kernel_rfl) ?_
      simp only [Act.put,List.setIfInBounds_toArray,List.set_cons_zero,List.set_cons_succ]
      refine Fre.ae (.bool false) (by kernel_rfl) (by kernel_rfl) (by kernel_rfl) (fun _ _=>by kernel_rfl) ?_
      simp only [Act.put,List.setIfInBounds_toArray,List.set_cons_zero,List.set_cons_succ]
      refine Fre.ae (.bool false) (by kernel_rfl) (by kernel_rfl) (by kernel_rfl) (fun _ _=>by kernel_rfl) ?_
      simp only [Act.put,List.setIfInBounds_toArray,List.set_cons_zero,List.set_cons_succ]
      refine Fre.ae (.pointer (some ⟨w.heap.size,0,none⟩)) (by kernel_rfl) (by kernel_rfl) (by kernel_rfl) (fun _ _=>by kernel_rfl) ?_
      simp only [Act.put,List.setIfInBounds_toArray,List.set_cons_zero,List.set_cons_succ]
      refine Fre.ae (.map (some mb)) (by kernel_rfl) (by kernel_rfl) (by kernel_rfl) (fun W9 hW9=>exec_load_cell (o:=⟨some 28,_,_,_,_,_⟩) 127 (.tmp 27) rfl ⟨w.heap.size,0,none⟩ rfl _ _ W9 Tryz.underlying127 rfl ((H5.out.2.1.grow hW9).tbl.cell 0)) ?_
      simp only [Act.put,List.setIfInBounds_toArray,List.set_cons_zero,List.set_cons_succ]
      refine Fre.ae (.pointer (some ⟨wo.heap.size,0,none⟩)) (by kernel_rfl) (by kernel_rfl) (by kernel_rfl) (fun _ _=>by kernel_rfl) ?_
      simp only [Act.put,List.setIfInBounds_toArray,List.set_cons_zero,List.set_cons_succ]
      refine Fre.ae (.agg (bv x.1).toArray) (by kernel_rfl) (by kernel_rfl) (by kernel_rfl) (fun W9 hW9=>ai (o:=⟨some 30,_,_,_,_,_⟩) 34 (.tmp 29) rfl wo.heap.size (0) rfl (bv x.1) _ W9 (fl HX.out.2.1 (H5.out.1.below hW9 H5.out.1.lt)) Tryz.underlying34 rfl hszx) ?_
      simp only [Act.put,List.setIfInBounds_toArray,List.set_cons_zero,List.set_cons_succ]
      refine Fre.fX 31 _ (by kernel_rfl) (by kernel_rfl) rfl rfl (fun W hW=>pX (o:=⟨some 31,_,_,_,_,_⟩) (.tmp 30) rfl HX.out.2.1 rfl W) ?_
      simp only [Act.put,List.setIfInBounds_toArray,List.set_cons_zero,List.set_cons_succ]
      refine Fre.e5 31 _ (.bool false) 74 (fun u=>#[.map (some mb),u]) (by kernel_rfl) rfl (by kernel_rfl) (by kernel_rfl) (fun u W=>by kernel_rfl) (fun u W hW hu=>?hc32) ?_
      case hc32 =>
       have h:=ik W mb _ (H5.out.2.1.grow hW).iw [x.1] u (hu.at_ HX.out.2.1)
       rw [lg] at h
       rw [HKN.out] at h
       exact h
      simp only [Act.put,List.setIfInBounds_toArray,List.set_cons_zero,List.set_cons_succ]
      refine Fre.ae (.bool false) (by kernel_rfl) (by kernel_rfl) (by kernel_rfl) (fun _ _=>by kernel_rfl) ?_
      simp only [Act.put,List.setIfInBounds_toArray,List.set_cons_zero,List.set_cons_succ]
      refine Fre.ae (.bool false) (by kernel_rfl) (by kernel_rfl) (by kernel_rfl) (fun _ _=>by kernel_rfl) ?_
      simp only [Act.put,List.setIfInBounds_toArray,List.set_cons_zero,List.set_cons_succ]
      refine Fre.ae (.pointer (some ⟨w.heap.size,0,none⟩)) (by kernel_rfl) (by kernel_rfl) (by kernel_rfl) (fun _ _=>by kernel_rfl) ?_
      simp only [Act.put,List.setIfInBounds_toArray,List.set_cons_zero,List.set_cons_succ]
      refine Fre.ae (.map (some mb)) (by kernel_rfl) (by kernel_rfl) (by kernel_rfl) (fun W9 hW9=>exec_load_cell (o:=⟨some 36,_,_,_,_,_⟩) 127 (.tmp 35) rfl ⟨w.heap.size,0,none⟩ rfl _ _ W9 Tryz.underlying127 rfl ((H5.out.2.1.grow hW9).tbl.cell 0)) ?_
      simp only [Act.put,List.setIfInBounds_toArray,List.set_cons_zero,List.set_cons_succ]
      refine Fre.ae (.pointer (some ⟨wo.heap.size,20,none⟩)) (by kernel_rfl) (by kernel_rfl) (by kernel_rfl) (fun _ _=>by kernel_rfl) ?_
      simp only [Act.put,List.setIfInBounds_toArray,List.set_cons_zero,List.set_cons_succ]
      refine Fre.ae (.agg (dC x.2 q1 q2).toArray) (by kernel_rfl) (by kernel_rfl) (by kernel_rfl) (fun W9 hW9=>ai (o:=⟨some 38,_,_,_,_,_⟩) 26 (.tmp 37) rfl wo.heap.size (20) rfl (dC x.2 q1 q2) _ W9 (fN HX.out.2.1 (H5.out.1.below hW9 H5.out.1.lt)) Tryz.underlying26 rfl (by kernel_rfl)) ?_
      simp only [Act.put,List.setIfInBounds_toArray,List.set_cons_zero,List.set_cons_succ]
      refine Fre.fH 39 _ 46 #[.agg (dC x.2 q1 q2).toArray] (by kernel_rfl) (by kernel_rfl) rfl rfl (fun W=>by kernel_rfl) (fun W hW=>(ey W x.2 q1 q2 (HX9.out W hW) hbnd).mono (fun e w' ⟨u,h1,h2,h3⟩=>⟨u,h1,h3,_,h2⟩)) ?_
      simp only [Act.put,List.setIfInBounds_toArray,List.set_cons_zero,List.set_cons_succ]
      refine Fre.e5 39 _ (.bool true) 74 (fun u=>#[.map (some mb),u]) (by kernel_rfl) rfl (by kernel_rfl) (by kernel_rfl) (fun u W=>by kernel_rfl) (fun u W hW hu=>?hc40) ?_
      case hc40 =>
       have h:=ik W mb _ (H5.out.2.1.grow hW).iw (az x.2.2.1) u (hu.at_ (lN HX.out.2.2.okn))
       rw [HAL.out] at h
       exact h
      simp only [Act.put,List.setIfInBounds_toArray,List.set_cons_zero,List.set_cons_succ]
      refine Fre.ae (.bool false) (by kernel_rfl) (by kernel_rfl) (by kernel_rfl) (fun _ _=>by kernel_rfl) ?_
      simp only [Act.put,List.setIfInBounds_toArray,List.set_cons_zero,List.set_cons_succ]
      intro w6 hx6
      have H6:=ah (And.intro (H5.out.1.below hx6 H5.out.1.lt) (And.intro (H5.out.2.1.grow hx6) (H5.out.2.2.1.trans (Below.mono hx6 H5.out.2.2.1.size))))
      clear hx6
      dsimp only [Fre.ended,List.drop]
      rintro u31 _ u39 _
      obtain ⟨w7,r1,r2,r3⟩:=bG.update H6.out.2.1.iw dy HX.out.2.1 Tryz.underlying127 j
      have HU:=ah (And.intro r1 (And.intro r2 r3))
      clear r1 r2 r3
      go_wp2_with (first | ((with_reducible refine ag 45 ?_);(refine aa (o:=⟨some 45,_,_,_,_,_⟩) rfl (.map (some mb)) w6 (exec_load_cell (o:=⟨some 45,_,_,_,_,_⟩) 127 (.tmp 44) rfl ⟨w.heap.size,0,none⟩ rfl _ _ w6 Tryz.underlying127 rfl (show w6.cell? ⟨w.heap.size,0,none⟩=some (.map (some mb)) from H6.out.2.1.tbl.cell 0)) ?_)) | ((with_reducible refine ag 47 ?_);(refine aa (o:=⟨some 47,_,_,_,_,_⟩) rfl (.agg (bv x.1).toArray) w6 (ai (o:=⟨some 47,_,_,_,_,_⟩) 34 (.tmp 46) rfl wo.heap.size (0) rfl (bv x.1) _ w6 (fl HX.out.2.1 H6.out.1) Tryz.underlying34 rfl hszx) ?_)) | (refine eX (o:=⟨none,_,_,_,_,_⟩) rfl 127 (.tmp 45) (.tmp 47) (.tmp 48) rfl _ _ _ rfl rfl rfl HU.out.1 ?_))
      go_roundw
      case rel=>exact ⟨j+1,by omega,by go_num,(H6.out.2.1.put HXX.out HKN.out HU.out.2.1 HU.out.2.2 HR9.out)⟩
      case measure=>simp [intOf];omega
    ·have HKN:=ah hkn
     clear hkn
     have HNR:Hid (Dr.bL (l.map itP)=false):=ah (mX HXX.out (by exact .inr (.inl HKN.out)))
     go_wp2_with fail
     refine Fre.cq (X:=Bel) 18 [(31,qQ x.1)] (by kernel_rfl) (by kernel_rfl) (by intro p hp;rw [List.mem_singleton.1 hp];exact p8 _) (by simp) (by simp) ?_
     simp only [List.take_succ_cons,List.take_zero,List.drop_succ_cons,List.drop_zero]
     refine Fre.ae (.int .i64 0) (by kernel_rfl) (by kernel_rfl) (by kernel_rfl) (fun _ _=>by kernel_rfl) ?_
     simp only [Act.put,List.setIfInBounds_toArray,List.set_cons_zero,List.set_cons_succ]
     refine Fre.ae (.bool false) (by kernel_rfl) (by kernel_rfl) (by kernel_rfl) (fun _ _=>by kernel_rfl) ?_
     simp only [Act.put,List.setIfInBounds_toArray,List.set_cons_zero,List.set_cons_succ]
     refine Fre.ae (.bool false) (by kernel_rfl) (by kernel_rfl) (by kernel_rfl) (fun _ _=>by kernel_rfl) ?_
     simp only [Act.put,List.setIfInBounds_toArray,List.set_cons_zero,List.set_cons_succ]
     refine Fre.ae (.pointer (some ⟨w.heap.size,0,none⟩)) (by kernel_rfl) (by kernel_rfl) (by kernel_rfl) (fun _ _=>by kernel_rfl) ?_
     simp only [Act.put,List.setIfInBounds_toArray,List.set_cons_zero,List.set_cons_succ]
     refine Fre.ae (.map (some mb)) (by kernel_rfl) (by kernel_rfl) (by kernel_rfl) (fun W9 hW9=>exec_load_cell (o:=⟨some 28,_,_,_,_,_⟩) 127 (.tmp 27) rfl ⟨w.heap.size,0,none⟩ rfl _ _ W9 Tryz.underlying127 rfl ((H5.out.2.1.grow hW9).tbl.cell 0)) ?_
     simp only [Act.put,List.setIfInBounds_toArray,List.set_cons_zero,List.set_cons_succ]
     refine Fre.ae (.pointer (some ⟨wo.heap.size,0,none⟩)) (by kernel_rfl) (by kernel_rfl) (by kernel_rfl) (fun _ _=>by kernel_rfl) ?_
     simp only [Act.put,List.setIfInBounds_toArray,List.set_cons_zero,List.set_cons_succ]
     refine Fre.ae (.agg (bv x.1).toArray) (by kernel_rfl) (by kernel_rfl) (by kernel_rfl) (fun W9 hW9=>ai (o:=⟨some 30,_,_,_,_,_⟩) 34 (.tmp 29) rfl wo.heap.size (0) rfl (bv x.1) _ W9 (fl HX.out.2.1 (H5.out.1.below hW9 H5.out.1.lt)) Tryz.underlying34 rfl hszx) ?_
     simp only [Act.put,List.setIfInBounds_toArray,List.set_cons_zero,List.set_cons_succ]
     refine Fre.fX 31 _ (by kernel_rfl) (by kernel_rfl) rfl rfl (fun W hW=>pX (o:=⟨some 31,_,_,_,_,_⟩) (.tmp 30) rfl HX.out.2.1 rfl W) ?_
     simp only [Act.put,List.setIfInBounds_toArray,List.set_cons_zero,List.set_cons_succ]
     refine Fre.e5 31 _ (.bool true) 74 (fun u=>#[.map (some mb),u]) (by kernel_rfl) rfl (by kernel_rfl) (by kernel_rfl) (fun u W=>by kernel_rfl) (fun u W hW hu=>?hc32) ?_
     case hc32 =>
      have h:=ik W mb _ (H5.out.2.1.grow hW).iw [x.1] u (hu.at_ HX.out.2.1)
      rw [lg] at h
      rw [HKN.out] at h
      exact h
     simp only [Act.put,List.setIfInBounds_toArray,List.set_cons_zero,List.set_cons_succ]
     refine Fre.ae (.bool true) (by kernel_rfl) (by kernel_rfl) (by kernel_rfl) (fun _ _=>by kernel_rfl) ?_
     simp only [Act.put,List.setIfInBounds_toArray,List.set_cons_zero,List.set_cons_succ]
     refine Fre.ae (.bool true) (by kernel_rfl) (by kernel_rfl) (by kernel_rfl) (fun _ _=>by kernel_rfl) ?_
     simp only [Act.put,List.setIfInBounds_toArray,List.set_cons_zero,List.set_cons_succ]
     refine Fre.bB (by kernel_rfl) (by kernel_rfl) (by kernel_rfl) ?_
     refine Fre.bB (by kernel_rfl) (by kernel_rfl) (by kernel_rfl) ?_
     refine Fre.bB (by kernel_rfl) (by kernel_rfl) (by kernel_rfl) ?_
     refine Fre.bB (by kernel_rfl) (by kernel_rfl) (by kernel_rfl) ?_
     refine Fre.bB (by kernel_rfl) (by kernel_rfl) (by kernel_rfl) ?_
     refine Fre.bB (by kernel_rfl) (by kernel_rfl) (by kernel_rfl) ?_
     refine Fre.bB (by kernel_rfl) (by kernel_rfl) (by kernel_rfl) ?_
     intro w6 hx6
     have H6:=ah (And.intro (H5.out.1.below hx6 H5.out.1.lt) (And.intro (H5.out.2.1.grow hx6) (H5.out.2.2.1.trans (Below.mono hx6 H5.out.2.2.1.size))))
     clear hx6
     dsimp only [Fre.ended,List.drop]
     rintro u31 _
     go_wp2_with (first | ((with_reducible refine ag 43 ?_);(refine aa (o:=⟨some 43,_,_,_,_,_⟩) rfl (.agg #[.map (some mb),.slice (some ⟨b,off,none⟩) l.length cap]) w6 (au (o:=⟨some 43,_,_,_,_,_⟩) 129 (.tmp 2) rfl w.heap.size rfl 129 _ _ w6 H6.out.2.1.tbl Tryz.underlying129 rfl (by kernel_rfl)) ?_)) | ((with_reducible refine bI 2 43 ?_);(with_reducible refine al (o:=⟨none,_,_,_,_,_⟩) rfl 129 (.tmp 2) (.tmp 43) rfl w.heap.size #[.map (some mb),.slice (some ⟨b,off,none⟩) l.length cap] #[.map (some mb),.slice (some ⟨b,off,none⟩) l.length cap] 129 H6.out.2.1.tbl ?_ ?_ ?_ ?_ ?_ ?_);kernel_rfl;rfl;kernel_rfl;rfl;rfl;intro w7 hk7 hg7;have hb7:Below w.heap.size w w7:=(H6.out.2.1.below.grown hg7 H6.out.2.1.below.size (fun b hb=>(by injection hb with hb;omega)));have H7:=ah (And.intro hk7 hb7);clear hk7 hg7 hb7;simp only [Act.put,List.setIfInBounds_toArray,List.set_cons_zero,List.set_cons_succ]))
     refine bodyPost_ret (results_cell_tmp rfl _ _ w.heap.size 129 #[.map (some mb),.slice (some ⟨b,off,none⟩) l.length cap] (0,0) _ rfl H7.out.1 Tryz.underlying129 rfl (by kernel_rfl)) rfl ?_
     exact ⟨mb,by rw [HNR.out];rfl,(fun h=>absurd (HNR.out.symm.trans h) (by decide)),H7.out.2⟩
   ·have hne:(pe != 0)=true:=by simpa using he
    have HHE:=ah he
    clear he
    have HNR:Hid (Dr.bL (l.map itP)=false):=ah (mX HXX.out (by rw [← HPE.out];exact .inl HHE.out))
    go_wp2_with fail
    refine Fre.cq (X:=Bel) 18 [] (by kernel_rfl) (by kernel_rfl) (by simp) (by simp) (by simp) ?_
    simp only [List.take_succ_cons,List.take_zero,List.drop_succ_cons,List.drop_zero]
    refine Fre.ae (.int .i64 pe) (by kernel_rfl) (by kernel_rfl) (by kernel_rfl) (fun _ _=>by kernel_rfl) ?_
    simp only [Act.put,List.setIfInBounds_toArray,List.set_cons_zero,List.set_cons_succ]
    refine Fre.ae (.bool true) (by kernel_rfl) (by kernel_rfl) (by kernel_rfl) (fun W9 hW9=>?hs1) ?_
    case hs1 =>
     go_simp
     done
    simp only [Act.put,List.setIfInBounds_toArray,List.set_cons_zero,List.set_cons_succ]
    refine Fre.ae (.bool true) (by kernel_rfl) (by kernel_rfl) (by kernel_rfl) (fun _ _=>by kernel_rfl) ?_
    simp only [Act.put,List.setIfInBounds_toArray,List.set_cons_zero,List.set_cons_succ]
    refine Fre.bB (by kernel_rfl) (by kernel_rfl) (by kernel_rfl) ?_
    refine Fre.bB (by kernel_rfl) (by kernel_rfl) (by kernel_rfl) ?_
    refine Fre.bB (by kernel_rfl) (by kernel_rfl) (by kernel_rfl) ?_
    refine Fre.bB (by kernel_rfl) (by kernel_rfl) (by kernel_rfl) ?_
    refine Fre.bB (by kernel_rfl) (by kernel_rfl) (by kernel_rfl) ?_
    refine Fre.bB (by kernel_rfl) (by kernel_rfl) (by kernel_rfl) ?_
    refine Fre.ae (.bool true) (by kernel_rfl) (by kernel_rfl) (by kernel_rfl) (fun _ _=>by kernel_rfl) ?_
    simp only [Act.put,List.setIfInBounds_toArray,List.set_cons_zero,List.set_cons_succ]
    refine Fre.ae (.bool true) (by kernel_rfl) (by kernel_rfl) (by kernel_rfl) (fun _ _=>by kernel_rfl) ?_
    simp only [Act.put,List.setIfInBounds_toArray,List.set_cons_zero,List.set_cons_succ]
    refine Fre.bB (by kernel_rfl) (by kernel_rfl) (by kernel_rfl) ?_
    refine Fre.bB (by kernel_rfl) (by kernel_rfl) (by kernel_rfl) ?_
    refine Fre.bB (by kernel_rfl) (by kernel_rfl) (by kernel_rfl) ?_
    refine Fre.bB (by kernel_rfl) (by kernel_rfl) (by kernel_rfl) ?_
    refine Fre.bB (by kernel_rfl) (by kernel_rfl) (by kernel_rfl) ?_
    refine Fre.bB (by kernel_rfl) (by kernel_rfl) (by kernel_rfl) ?_
    refine Fre.bB (by kernel_rfl) (by kernel_rfl) (by kernel_rfl) ?_
    intro w6 hx6
    have H6:=ah (And.intro (H5.out.1.below hx6 H5.out.1.lt) (And.intro (H5.out.2.1.grow hx6) (H5.out.2.2.1.trans (Below.mono hx6 H5.out.2.2.1.size))))
    clear hx6
    dsimp only [Fre.ended,List.drop]
    go_wp2_with (first | ((with_reducible refine ag 43 ?_);(refine aa (o:=⟨some 43,_,_,_,_,_⟩) rfl (.agg #[.map (some mb),.slice (some ⟨b,off,none⟩) l.length cap]) w6 (au (o:=⟨some 43,_,_,_,_,_⟩) 129 (.tmp 2) rfl w.heap.size rfl 129 _ _ w6 H6.out.2.1.tbl Tryz.underlying129 rfl (by kernel_rfl)) ?_)) | ((with_reducible refine bI 2 43 ?_);(with_reducible refine al (o:=⟨none,_,_,_,_,_⟩) rfl 129 (.tmp 2) (.tmp 43) rfl w.heap.size #[.map (some mb),.slice (some ⟨b,off,none⟩) l.length cap] #[.map (some mb),.slice (some ⟨b,off,none⟩) l.length cap] 129 H6.out.2.1.tbl ?_ ?_ ?_ ?_ ?_ ?_);kernel_rfl;rfl;kernel_rfl;rfl;rfl;intro w7 hk7 hg7;have hb7:Below w.heap.size w w7:=(H6.out.2.1.below.grown hg7 H6.out.2.1.below.size (fun b hb=>(by injection hb with hb;omega)));have H7:=ah (And.intro hk7 hb7);clear hk7 hg7 hb7;simp only [Act.put,List.setIfInBounds_toArray,List.set_cons_zero,List.set_cons_succ]))
    refine bodyPost_ret (results_cell_tmp rfl _ _ w.heap.size 129 #[.map (some mb),.slice (some ⟨b,off,none⟩) l.length cap] (0,0) _ rfl H7.out.1 Tryz.underlying129 rfl (by kernel_rfl)) rfl ?_
    exact ⟨mb,by rw [HNR.out];rfl,(fun h=>absurd (HNR.out.symm.trans h) (by decide)),H7.out.2⟩
  ·obtain rfl:j=l.length:=by omega
   have HRR:=HI.out.right
   rw [List.take_length] at HRR
   have HM:=HI.out.iw
   rw [List.take_length] at HM
   have HQ:=ah (And.intro HRR HM)
   clear HRR HM
   go_wp2_with (first | ((with_reducible refine ag 50 ?_);(refine aa (o:=⟨some 50,_,_,_,_,_⟩) rfl (.agg #[.map (some mb),.slice A l.length cap]) wo (au (o:=⟨some 50,_,_,_,_,_⟩) 129 (.tmp 2) rfl w.heap.size rfl 129 _ _ wo HI.out.tbl Tryz.underlying129 rfl (by kernel_rfl)) ?_)) | ((with_reducible refine bI 2 50 ?_);(with_reducible refine al (o:=⟨none,_,_,_,_,_⟩) rfl 129 (.tmp 2) (.tmp 50) rfl w.heap.size #[.map (some mb),.slice A l.length cap] #[.map (some mb),.slice A l.length cap] 129 HI.out.tbl ?_ ?_ ?_ ?_ ?_ ?_);kernel_rfl;rfl;kernel_rfl;rfl;rfl;intro w7 hk7 hg7;have hb7:Below w.heap.size w w7:=(HI.out.below.grown hg7 HI.out.below.size (fun b hb=>(by injection hb with hb;omega)));have H7:=ah (And.intro hk7 (And.intro hb7 (HQ.out.2.of_eq (hg7.block mb HI.out.iw.lt (fun e=>(by injection e with e;have:=HI.out.ne;omega))))));clear hk7 hg7 hb7;simp only [Act.put,List.setIfInBounds_toArray,List.set_cons_zero,List.set_cons_succ]))
   refine bodyPost_ret (results_cell_tmp rfl _ _ w.heap.size 129 #[.map (some mb),.slice A l.length cap] (0,0) _ rfl H7.out.1 Tryz.underlying129 rfl (by kernel_rfl)) rfl ?_
   exact ⟨mb,by rw [HQ.out.1];rfl,(fun _=>⟨HI.out.ne,H7.out.2.2⟩),H7.out.2.1⟩
end Go.Proofs.YtomnhnmciopiiaaGreat
end
section
namespace Go.Proofs.YtomnhnmciopiiaaGreat
open Go Go.RowKit Go.Shelf
def gj (o:Oper):Bool:=match o.op with | .defer _=>false | _=>true
theorem nA {o:Oper} (h:gj o=true):∀ c,o.op ≠ .defer c:=fun c e=>by
 unfold gj at h
 rw [e] at h
 cases h
section
variable {P:Program} {ops:Array Oper} {Q:Exit→Act→World→Prop} {r n:Nat}
theorem zR {row:String} {args:Array Value} {w:World} {R:Value→World→Prop} {m:Nat} (h:Rows P row args w R):RowsIn (Fence.wide.inRound r) m P row args w R :=
 fun c cs _=>let ⟨v,w',h1,h2⟩:=h c cs;⟨v,w',h1,stepsIn_wide.2 h2⟩
theorem Ai {o:Oper} {a:Act} {next next':Act→World→Prop} (hn:∀ a w,next a w→next' a w):∀ (res:Result Next),o.upon P a next Q res→o.uponIn (Fence.wide.inRound r) n P a next' Q res:=by
 intro res h
 match res,h with
 | .ok (.value v) w',h=>exact hn _ _ h
 | .ok .skip w',h=>exact hn _ _ h
 | .ok (.defer d) w',h=>exact hn _ _ h
 | .ok (.enter f args) w',h =>
  refine ⟨fun e=>(by cases e),CallsIn.inRound r (callsIn_wide.2 (Calls.mono h ?_))⟩
  intro e w'' he
  cases e with
  | returned v=>exact hn _ _ he
  | panicked c=>exact he
  | outgrown=>exact he
 | .ok (.row row args) w',h =>
  refine ⟨fun e=>(by cases e),zR (Rows.mono h ?_)⟩
  intro v w'' he
  exact hn _ _ he
 | .halt (.panic v) w',h=>exact h
theorem uT {o:Oper} {a:Act} {w:World} {next next':Act→World→Prop} (hd:gj o=true) (hn:∀ a w,next a w→next' a w) (h:o.wp P a w next Q):o.wpIn (Fence.wide.inRound r) n P a w next' Q:=by
 unfold Oper.wp at h
 refine ⟨fun _ _=>trivial,?_⟩
 rw [Oper.semAt_eq _ _ _ (nA hd)]
 exact Ai hn _ h
theorem jz (hno:¬ LetsOut Q):∀ (l:List Oper),l.all gj=true→∀ (a:Act) (w:World),wpList P ops Q l a w→wpListIn (Fence.wide.inRound r) n P ops Q l a w
 | [],_,_,_,h=>h
 | o :: rest,hd,a,w,h=>by
  rw [List.all_cons,Bool.and_eq_true] at hd
  unfold wpList at h
  unfold wpListIn
  split at h
  ·rename_i hw
   rw [if_pos hw]
   rcases h with h | h
   ·exact uT hd.1 (fun a w hk=>jz hno rest hd.2 a w hk) h
   ·exact absurd h.2 hno
  ·rename_i hw
   rw [if_neg hw]
   exact ⟨fun _ _=>trivial,jz hno rest hd.2 _ _ h⟩
theorem qc (hno:¬ LetsOut Q) (hd:ops.all gj=true) {md:Region.Mode}:∀ (fuel:Nat) (listed:Array Bool) (a:Act) (w:World),wpAny P md ops Q fuel listed a w→wpAnyIn (Fence.wide.inRound r) n P md ops Q fuel listed a w
 | 0,_,_,_,h=>h
 | fuel+1,listed,a,w,h=>by
  refine ⟨h.1,fun i hi=>?_⟩
  have h2:=h.2 i hi
  unfold wpOp at h2
  unfold wpOpIn
  cases ho:ops[i]? with
  | none =>
   rw [ho] at h2
   exact qc hno hd fuel _ a w h2
  | some o =>
   rw [ho] at h2
   dsimp only at h2 ⊢
   have hdo:gj o=true:=by
    rw [Array.all_eq_true'] at hd
    exact hd o (Array.mem_of_getElem? ho)
   split at h2
   ·rename_i hw
    rw [if_pos hw]
    rcases h2 with h2 | h2
    ·exact uT hdo (fun a w hk=>qc hno hd fuel _ a w hk) h2
    ·exact absurd h2.2 hno
   ·rename_i hw
    rw [if_neg hw]
    exact ⟨fun _ _=>trivial,qc hno hd fuel _ _ _ h2⟩
theorem xU {id:Nat} {l:List Oper} {a:Act} {w:World} (hm:P.follows .mixedOrders=true) (hno:¬ LetsOut Q) (hd:l.all gj=true) (h:wpAny P .any l.toArray Q l.toArray.size (Array.replicate l.toArray.size false) a w.drew):(Code.region id l.toArray true).wpIn (Fence.wide.inRound r) n P Q a w :=
 wpIn_region_any hm (qc hno (by simpa using hd) _ _ a _ h)
end
end Go.Proofs.YtomnhnmciopiiaaGreat
end
section
namespace Go.Proofs.YtomnhnmciopiiaaGreat
open Go Go.RowKit Go.Shelf
structure cO (S:Nat→Prop) (n₀:Nat) (W W':World):Prop where
 size:W.heap.size≤W'.heap.size
 old:∀ k o,k<n₀→¬ S k→W.heap[k]?=some o→o.isCells=true→W'.heap[k]?=some o
section
variable {S:Nat→Prop} {n₀:Nat}
theorem cO.refl (W:World):cO S n₀ W W:=⟨Nat.le_refl _,fun _ _ _ _ h _=>h⟩
theorem cO.trans {A B C:World} (h:cO S n₀ A B) (k:cO S n₀ B C):cO S n₀ A C :=
 ⟨Nat.le_trans h.size k.size,fun i o h1 h2 h3 h4=>k.old i o h1 h2 (h.old i o h1 h2 h3 h4) h4⟩
theorem cO.below {W W':World} (h:Below W.heap.size W W'):cO S n₀ W W' :=
 ⟨h.size,fun k _ _ _ hk _=>(h.block k (Array.getElem?_eq_some_iff.1 hk).1).trans hk⟩
theorem cO.putObj {w:World} (hn:n₀≤w.heap.size) (W:World) (l:Nat) (o o':Obj) (hl:w.heap.size≤l) (_:W.heap[l]?=some o) (_:o.isCells=false) (_:o.isWalk=false):cO S n₀ W (W.putObj l o') :=
 ⟨by simp,fun k _ h1 _ hk _=>(World.putObj_heap_other (by omega)).trans hk⟩
theorem cO.cell {W W':World} (h:cO S n₀ W W') {b i:Nat} {v:Value} (hb:b<n₀) (hs:¬ S b) (hc:W.cell? ⟨b,i,none⟩=some v):W'.cell? ⟨b,i,none⟩=some v:=by
 have hlt:=World.block_lt_of_cell? W _ hc
 have ho:W.heap[b]?=some W.heap[b]:=Array.getElem?_eq_getElem hlt
 have h2:W'.heap[b]?=W.heap[b]?:=by
  rw [ho]
  refine h.old b _ hb hs ho ?_
  cases hob:W.heap[b] with
  | cells=>rfl
  | _=>(rw [World.cell?] at hc;simp only [ho,hob] at hc;cases hc)
 exact (World.cell?_of_block h2).trans hc
theorem cO.range {W W':World} (h:cO S n₀ W W') {b o:Nat} {cs:List Value} (hb:b<n₀) (hs:¬ S b) (hc:W.rangeAt b o cs):W'.rangeAt b o cs:=fun j v hv=>h.cell hb hs (hc j v hv)
end
theorem _root_.Go.KeepsFrom.vw {B:Nat} {W W':World} (h:Below W.heap.size W W'):KeepsFrom B W W':=⟨h.size,fun k _ _ hk _=>(h.block k (Array.getElem?_eq_some_iff.1 hk).1).trans hk⟩
theorem ju {W W':World} {row:Option Nat} {g:Nat} {t:TypeId} {cs:Array Value} (h:Blk W g t cs) (hg:W.grownBy W' row) (hrow:∀ r,row=some r→∃ o:Obj,W.heap[r]?=some o∧o.isCells=false):Blk W' g t cs :=
 (hg.block g h.lt fun e=>by
  obtain ⟨o,ho,hc⟩:=hrow g e.symm
  rw [show W.heap[g]?=_ from h] at ho
  injection ho with ho
  subst ho
  cases hc).trans h
theorem xB {K V:Type} {ek:K→Value} {ok:K→Prop} {ev:V→Value} {W W':World} {row:Option Nat} {B b:Nat} {m:List (K×V)} (h:bG ek ok ev W b m) (hb:b<B) (hg:W.grownBy W' row) (hrow:∀ r,row=some r→B≤r∧∃ o:Obj,W.heap[r]?=some o∧o.isCells=false):bG ek ok ev W' b m :=
 h.of_eq (hg.block b h.lt fun e=>by have:=(hrow b e.symm).1;omega)
theorem eY {P:Program} {ρ:Operand→Value} {o:Oper} (ty e:TypeId) (x i:Operand) (ho:o.op=.indexAddr ty x i) (b n cap k:Nat) (hx:ρ x=.slice (some ⟨b,0,none⟩) n cap) (hi:ρ i=.int .i64 (k:Int)) (hk:k<n) (hu:P.underlying ty=some (.slice e)) (hs:(P.info? e).map (·.size)=some 1) (w:World) :
  (execOp ρ o).run P w=.ok (.value (.pointer (some ⟨b,k,none⟩))) w:=by
 have h:=aJ (P:=P) (ρ:=ρ) (o:=o) ty e x i ho b 0 n cap (k:Int) .i64 hx hi ⟨by omega,by omega⟩ 1 hu hs w
 rwa [Int.toNat_natCast,Nat.mul_one,Nat.zero_add] at h
section
variable {P:Program} {ops:Array Oper} {Q:Exit→Act→World→Prop} {n:Nat} {rest:List Oper} {o:Oper} {a:Act} {w:World}
theorem pf (s:Nat) {F:Fence} {op:Op} {t} {p} {af} {g}
  (h:wpListIn F n P ops Q (⟨some s,op,t,p,af,g⟩ :: rest) a w):wpListIn F n P ops Q (⟨some s,op,t,p,af,g⟩ :: rest) a w:=h
theorem iT (hg:o.guard=none) (hd:gj o=true) (v:Value) (w':World) (hr:(execOp a.eval o).run P w=.ok (.value v) w') (h:wpListIn Fence.wide n P ops Q rest (a.put o.dst v) w'):wpListIn Fence.wide n P ops Q (o :: rest) a w :=
 wpListIn_plain hg fun K hK=>by
  refine ⟨fun _ _=>trivial,?_⟩
  rw [Oper.semAt_eq _ _ _ (nA hd),hr]
  exact hK _ _ h
end
end Go.Proofs.YtomnhnmciopiiaaGreat
end
