/- Part 3 of the texts of one proof. -/
import Derived.Test.YtomnhnmciopiiaaGreatMMT2
set_option maxRecDepth 100000
set_option linter.unusedVariables false
set_option linter.unusedSimpArgs false
set_option maxHeartbeats 40000000
open Go.Act renaming put → xae
open And renaming intro → xad
open Array renaming getElem?_eq_some_iff → xa2, toList_modify → xcH
open Go.RowKit.Below renaming mono → xar, refl → xao
open Bool renaming and_eq_true → xaw, false_and → xbc, true_and → xa8
open Go.Instr renaming lookup → xcd, mapUpdate → xco
open Go.Lib renaming indexByte → xcG
open List renaming all_eq_true → xaO, append_assoc → xaR, drop_zero → xaK, eq_nil_of_length_eq_zero → xaT, find?_cons → xck, getElem?_cons_succ → xbs, getElem?_eq_getElem → xai, getElem?_eq_some_iff → xah, getElem?_map → xaL, getElem?_modify → xcE, getElem?_of_mem → xaP, getElem?_toArray → xa0, idxOf_lt_length_iff → xbp, length_append → xak, length_cons → xaF, length_map → xap, length_set → xbh, length_singleton → xbq, length_take → xaN, map_cons → xa9, mem_append → xax, mem_cons → xaD, mem_map → xaA, mem_of_getElem? → xaj, mem_range → xba, mem_singleton → xan, nodup_append → xb5, pairwise_iff_getElem → xa6, range → xaf, replicate → xaz, setIfInBounds_toArray → xaa, set_cons_succ → xac, set_cons_zero → xab, size_toArray → xal, take_add_one → xaB, take_length → xaG
open Go.MapKept renaming run_getObj_map → xbN, run_setObj_map → xcw
open Nat renaming le_refl → xag, le_trans → xaH
open Go.Op renaming bytesLess → xb1
open Option.some renaming inj → xam
open Go.Program renaming keyLits → xb2
open Go.Result renaming andThen → xbB, andThen_ok → xat
open Go.Sem renaming run_bind → xaI, run_pure → xaQ
open Go.Utf8 renaming decode → xbL
open Go.Value renaming cells → xaU, string → xbd
open Go.World renaming cell?_of_block → xaV, ownsRow_nil → xbg
section
namespace Go.Proofs.YtomnhnmciopiiaaGreat
open Go Go.RowKit Go.Maps Go.MapKept Go.ChangeMaps
section
variable {K V:Type} [DecidableEq K]
def cg (m:List (K×V)) (x:K):Option V:=(m.find? fun p=>p.1=x).map (·.2)
def kT (m:List (K×V)) (x:K) (v:V):List (K×V):=if (cg m x).isSome then m.map (fun p=>if p.1=x then (x,v) else p) else m++[(x,v)]
theorem kJ {m:List (K×V)} {x:K}:cg m x=none↔∀ p∈m,p.1 ≠ x:=by
 unfold cg
 simp [List.find?_eq_none]
theorem oE {m:List (K×V)} (hn:(m.map (·.1)).Nodup) {j:Nat} {x:K} {v:V} (h:m[j]?=some (x,v)):cg m x=some v:=by
 induction m generalizing j with
 | nil=>simp at h
 | cons p m ih =>
  unfold cg
  rw [xck]
  by_cases hp:p.1=x
  ·simp only [hp,decide_true,Option.map_some]
   cases j with
   | zero=>simp at h;rw [h]
   | succ j =>
    simp only [xbs] at h
    have hm:x∈m.map (·.1):=xaA.2 ⟨_,xaj h,rfl⟩
    simp only [xa9,List.nodup_cons,hp] at hn
    exact absurd hm hn.1
  ·simp only [hp,decide_false]
   cases j with
   | zero=>simp at h;rw [h] at hp;exact absurd rfl hp
   | succ j=>exact ih (by simp only [xa9,List.nodup_cons] at hn;exact hn.2) (by simpa using h)
theorem uV {m:List (K×V)} {x:K} {v:V} (h:cg m x=some v):(x,v)∈m:=by
 unfold cg at h
 obtain ⟨p,hp,rfl⟩:=Option.map_eq_some_iff.1 h
 have h1:=List.mem_of_find?_eq_some hp
 have h2:=List.find?_some hp
 simp only [decide_eq_true_eq] at h2
 rw [← h2]
 exact h1
omit [DecidableEq K] in
theorem Ef {m:List (K×V)} (hn:(m.map (·.1)).Nodup) {i j:Nat} {p q:K×V} (hi:m[i]?=some p) (hj:m[j]?=some q) (e:p.1=q.1):i=j:=by
 obtain ⟨i1,i2⟩:=xah.1 hi
 obtain ⟨j1,j2⟩:=xah.1 hj
 rcases Nat.lt_trichotomy i j with h | h | h
 ·exact absurd (show ((m.map (·.1))[i]'(by simpa using i1))=((m.map (·.1))[j]'(by simpa using j1)) by simp [i2,j2,e]) (xa6.1 hn i j (by simpa using i1) (by simpa using j1) h)
 ·exact h
 ·exact absurd (show ((m.map (·.1))[j]'(by simpa using j1))=((m.map (·.1))[i]'(by simpa using i1)) by simp [i2,j2,e]) (xa6.1 hn j i (by simpa using j1) (by simpa using i1) h)
theorem CB {m:List (K×V)} (hn:(m.map (·.1)).Nodup) {j:Nat} {x:K} {u v:V} (h:m[j]?=some (x,u)):kT m x v=m.set j (x,v):=by
 unfold kT
 rw [if_pos (by rw [oE hn h];rfl)]
 apply List.ext_getElem?
 intro i
 rw [xaL,List.getElem?_set]
 by_cases hi:j=i
 ·subst hi
  have hlt:=(xah.1 h).1
  obtain ⟨_,h2⟩:=xah.1 h
  simp [hlt,h2]
 ·rw [if_neg hi]
  cases hp:m[i]? with
  | none=>rfl
  | some p =>
   have hne:p.1 ≠ x:=by
    intro e
    exact hi (Ef hn h hp e.symm)
   simp [hne]
theorem p5 {m:List (K×V)} {x:K} {v:V} (h:cg m x=none):kT m x v=m++[(x,v)]:=by
 unfold kT
 rw [h]
 rfl
theorem zQ (m:List (K×V)) (x:K) (v:V):(kT m x v).map (·.1)=if (cg m x).isSome then m.map (·.1) else m.map (·.1)++[x]:=by
 unfold kT
 split
 ·rw [List.map_map]
  apply List.map_congr_left
  intro p _
  simp only [Function.comp]
  split
  ·rename_i h;exact h.symm
  ·rfl
 ·simp
theorem mem_keys {m:List (K×V)} {x:K}:x∈m.map (·.1)↔(cg m x).isSome=true:=by
 constructor
 ·intro h
  obtain ⟨p,hp,rfl⟩:=xaA.1 h
  cases hg:cg m p.1 with
  | none=>exact absurd rfl (kJ.1 hg p hp)
  | some v=>rfl
 ·intro h
  obtain ⟨v,hv⟩:=Option.isSome_iff_exists.1 h
  exact xaA.2 ⟨_,uV hv,rfl⟩
theorem p6 {m:List (K×V)} (hn:(m.map (·.1)).Nodup) (x:K) (v:V):((kT m x v).map (·.1)).Nodup:=by
 rw [zQ]
 split
 ·exact hn
 ·rename_i h
  rw [xb5]
  refine ⟨hn,by simp,fun a ha b hb e=>?_⟩
  simp only [xan] at hb
  subst hb e
  exact h (mem_keys.1 ha)
theorem zP (m:List (K×V)) (x y:K) (v:V):cg (kT m x v) y=if y=x then some v else cg m y:=by
 unfold kT
 split
 ·rename_i h
  have hg:∀ l:List (K×V),cg (l.map (fun p=>if p.1=x then (x,v) else p)) y=if y=x then (if (cg l x).isSome then some v else none) else cg l y:=by
   intro l
   induction l with
   | nil=>by_cases e:y=x<;>simp [cg,e]
   | cons p l ih =>
    unfold cg at ih ⊢
    rw [xa9,xck,xck,xck]
    by_cases hp:p.1=x
    ·by_cases hy:y=x
     ·simp [hp,hy]
     ·have:¬ x=y:=fun e=>hy e.symm
      simp [hp,hy,this] at ih ⊢
      exact ih
    ·rw [if_neg hp]
     by_cases hq:p.1=y
     ·have hy:¬ y=x:=fun e=>hp (hq.trans e)
      simp [hy,hq]
     ·simp only [hq,decide_false,hp]
      exact ih
  rw [hg,h]
  rfl
 ·rename_i h
  have hx:cg m x=none:=by simpa using h
  unfold cg at hx ⊢
  rw [List.find?_append]
  by_cases hy:y=x
  ·subst hy
   have:m.find? (fun p=>decide (p.1=y))=none:=by simpa using hx
   simp [this]
  ·have hxy:¬ x=y:=fun e=>hy e.symm
   simp [hy,hxy]
end
structure lf (P:Program) (k:TypeId) {K:Type} (ek:K→Value) (ok:K→Prop):Prop where
 law:Keyed P k
 key:∀ x,ok x→∃ l,keyOf P k (ek x)=some l
 inj:∀ x y,ok x→ok y→ek x=ek y→x=y
def Stamped (es:Array MapEntry) (clock:Nat):Prop:=(es.toList.map (·.born)).Nodup∧∀ e∈es.toList,e.born<clock
theorem rk {es:Array MapEntry} {c:Nat} (h:Stamped es c) (k v:Value):Stamped (es.push ⟨k,v,c⟩) (c+1):=by
 refine ⟨?_,fun e he=>?_⟩
 ·rw [Array.toList_push,List.map_append,xb5]
  refine ⟨h.1,by simp,fun a ha b hb e=>?_⟩
  obtain ⟨x,hx,rfl⟩:=xaA.1 ha
  have:=h.2 x hx
  simp only [xa9,List.map_nil,xan] at hb
  omega
 ·rw [Array.toList_push] at he
  rcases xax.1 he with he | he
  ·have:=h.2 e he;omega
  ·rw [xan.1 he];exact Nat.lt_succ_self c
theorem oo {es:Array MapEntry} {c:Nat} (h:Stamped es c) (j:Nat) (f:MapEntry→MapEntry) (hf:∀ e,(f e).born=e.born):Stamped (es.modify j f) c:=by
 have e1:(es.modify j f).toList.map (·.born)=es.toList.map (·.born):=by
  apply List.ext_getElem?
  intro i
  simp only [xcH,xaL,xcE]
  by_cases hi:j=i
  ·subst hi
   cases es.toList[j]?<;>simp [hf]
  ·simp [hi]
 refine ⟨by rw [e1];exact h.1,fun e he=>?_⟩
 have:e.born∈es.toList.map (·.born):=by rw [← e1];exact xaA.2 ⟨e,he,rfl⟩
 obtain ⟨x,hx,hxe⟩:=xaA.1 this
 rw [← hxe]
 exact h.2 x hx
structure b5 {K V:Type} (ek:K→Value) (ok:K→Prop) (ev:V→Value) (w:World) (b:Nat) (m:List (K×V)):Prop where
 at_:∃ es clock,w.heap[b]?=some (.map es clock)∧es.toList.map (fun e=>(e.key,e.val))=m.map (fun p=>(ek p.1,ev p.2))∧Stamped es clock
 nodup:(m.map (·.1)).Nodup
 ok:∀ p∈m,ok p.1
section
variable {P:Program} {k t e:TypeId} {K V:Type} {ek:K→Value} {ok:K→Prop} {ev:V→Value} {w w':World} {b:Nat} {m:List (K×V)}
theorem b5.lt (h:b5 ek ok ev w b m):b<w.heap.size:=by
 obtain ⟨es,c,h1,_⟩:=h.at_
 exact (xa2.1 h1).1
theorem b5.of_eq (h:b5 ek ok ev w b m) (he:w'.heap[b]?=w.heap[b]?):b5 ek ok ev w' b m:=⟨by rw [he];exact h.at_,h.nodup,h.ok⟩
theorem b5.below {B:Nat} (h:b5 ek ok ev w b m) (hb:Below B w w') (hB:b<B):b5 ek ok ev w' b m:=h.of_eq (hb.block b hB)
theorem m4 (w:World):b5 ek ok ev (w.alloc (.map #[] 0)) w.heap.size ([]:List (K×V)):=⟨⟨#[],0,heap_alloc_new w _,rfl,⟨List.nodup_nil,fun e he=>by cases he⟩⟩,List.nodup_nil,fun p hp=>by cases hp⟩
variable [DecidableEq K]
theorem b5.find (h:b5 ek ok ev w b m) (L:lf P k ek ok) {x:K} (hx:ok x) {es:Array MapEntry} (he:es.toList.map (fun e=>(e.key,e.val))=m.map (fun p=>(ek p.1,ev p.2))) (W:World) :
  ((Instr.findKey k (ek x) es.toList).run P W=.ok none W∧cg m x=none)∨∃ j v e,(Instr.findKey k (ek x) es.toList).run P W=.ok (some (j,ev v)) W∧m[j]?=some (x,v)∧es.toList[j]?=some e∧e.key=ek x:=by
 obtain ⟨l,hl⟩:=L.key x hx
 have hkeys:∀ e∈es.toList,∃ y,ok y∧e.key=ek y:=by
  intro e he2
  have:(e.key,e.val)∈m.map (fun p=>(ek p.1,ev p.2)):=by rw [← he];exact xaA.2 ⟨e,he2,rfl⟩
  obtain ⟨p,hp,e2⟩:=xaA.1 this
  injection e2 with e2 _
  exact ⟨p.1,h.ok p hp,e2.symm⟩
 rcases L.law.find W hl es.toList (fun e he2=>by obtain ⟨y,hy,e2⟩:=hkeys e he2;rw [e2];exact L.key y hy) with ⟨h1,h2⟩ | ⟨j,e,h1,h2,h3⟩
 ·refine .inl ⟨h1,kJ.2 fun p hp e2=>?_⟩
  have:(ek p.1,ev p.2)∈es.toList.map (fun e=>(e.key,e.val)):=by rw [he];exact xaA.2 ⟨p,hp,rfl⟩
  obtain ⟨e3,he3,e4⟩:=xaA.1 this
  injection e4 with e4 _
  exact h2 e3 he3 (by rw [e4,e2])
 ·have h4:(es.toList.map (fun e=>(e.key,e.val)))[j]?=some (e.key,e.val):=by rw [xaL,h2];rfl
  rw [he,xaL] at h4
  obtain ⟨p,hp,e2⟩:=Option.map_eq_some_iff.1 h4
  injection e2 with e2 e3
  have hpx:p.1=x:=L.inj _ _ (h.ok p (xaj hp)) hx (by rw [e2,h3])
  refine .inr ⟨j,p.2,e,by rw [e3];exact h1,?_,h2,h3⟩
  rw [hp,← hpx]
theorem b5.look (h:b5 ek ok ev w b m) (L:lf P k ek ok) {x:K} (hx:ok x) (ht:P.underlying t=some (.map k e)) {z:Value} (hz:(zeroValue e).run P w=.ok z w) :
  (xcd t (.map (some b)) (ek x) false).run P w=.ok (((cg m x).map ev).getD z) w:=by
 obtain ⟨es,c,h1,h2,h7⟩:=h.at_
 obtain ⟨l,hl⟩:=L.key x hx
 rcases h.find (P:=P) L hx h2 w with ⟨h3,h4⟩ | ⟨j,v,e0,h3,h4,_⟩
 ·rw [h4]
  simp [xcd,run_underlying ht,xbN h1,L.law.check w _ hl,h3,hz,xbB]
 ·rw [oE h.nodup h4]
  simp [xcd,run_underlying ht,xbN h1,L.law.check w _ hl,h3,xbB]
theorem b5.look_ok (h:b5 ek ok ev w b m) (L:lf P k ek ok) {x:K} (hx:ok x) (ht:P.underlying t=some (.map k e)) {z:Value} (hz:(zeroValue e).run P w=.ok z w) :
  (xcd t (.map (some b)) (ek x) true).run P w=.ok (.tuple #[((cg m x).map ev).getD z,.bool (cg m x).isSome]) w:=by
 obtain ⟨es,c,h1,h2,h7⟩:=h.at_
 obtain ⟨l,hl⟩:=L.key x hx
 rcases h.find (P:=P) L hx h2 w with ⟨h3,h4⟩ | ⟨j,v,e0,h3,h4,_⟩
 ·rw [h4]
  simp [xcd,run_underlying ht,xbN h1,L.law.check w _ hl,h3,hz,xbB]
 ·rw [oE h.nodup h4]
  simp [xcd,run_underlying ht,xbN h1,L.law.check w _ hl,h3,xbB]
def oS (w w':World) (b:Nat):Prop:=w'.heap.size=w.heap.size∧(∀ k,k ≠ b→w'.heap[k]?=w.heap[k]?)∧w'.os=w.os∧w'.tape=w.tape∧w'.output=w.output
theorem oS.grown (h:oS w w' b):w.grownBy w' (some b):=⟨h.2.2.1,h.2.2.2.1,h.2.2.2.2,by rw [h.1];exact xag _,fun k _ hne=>h.2.1 k (fun e=>hne (by rw [e]))⟩
theorem km (w:World) (b:Nat) (o:Obj):oS w (setBlock w b o) b:=by
 refine ⟨by simp [setBlock],fun k hk=>?_,rfl,rfl,rfl⟩
 simp [setBlock,Ne.symm hk]
theorem kZ (w:World) (b:Nat) (o:Obj) (h:b<w.heap.size):(setBlock w b o).heap[b]?=some o:=by
 simp [setBlock,h]
theorem b5.update (h:b5 ek ok ev w b m) (L:lf P k ek ok) {x:K} (hx:ok x) (ht:P.underlying t=some (.map k e)) (v:V) :
  ∃ w',(xco t (.map (some b)) (ek x) (ev v)).run P w=.ok () w'∧b5 ek ok ev w' b (kT m x v)∧oS w w' b:=by
 obtain ⟨es,c,h1,h2,h7⟩:=h.at_
 obtain ⟨l,hl⟩:=L.key x hx
 have hlt:=h.lt
 have hok:∀ p∈kT m x v,ok p.1:=by
  intro p hp
  unfold kT at hp
  split at hp
  ·obtain ⟨q,hq,rfl⟩:=xaA.1 hp
   split
   ·exact hx
   ·exact h.ok q hq
  ·rcases xax.1 hp with hp | hp
   ·exact h.ok p hp
   ·simp only [xan] at hp
    subst hp
    exact hx
 rcases h.find (P:=P) L hx h2 w with ⟨h3,h4⟩ | ⟨j,u,e0,h3,h4,h5,h6⟩
 ·refine ⟨setBlock w b (.map (es.push ⟨ek x,ev v,c⟩) (c+1)),?_,⟨⟨_,_,kZ w b _ hlt,?_,rk h7 _ _⟩,p6 h.nodup x v,hok⟩,km w b _⟩
  ·simp [xco,run_underlying ht,xbN h1,L.law.check w _ hl,h3,xcw _ h1,xbB,setBlock]
  ·rw [p5 h4]
   simp [h2]
 ·have hj:es[j]?=some e0:=by simpa using h5
  refine ⟨setBlock w b (.map (es.modify j fun e=>{ e with key:=ek x,val:=ev v }) c),?_,⟨⟨_,_,kZ w b _ hlt,?_,oo h7 _ _ (fun _=>rfl)⟩,p6 h.nodup x v,hok⟩,km w b _⟩
  ·simp [xco,run_underlying ht,xbN h1,L.law.check w _ hl,h3,hj,h6,L.law.stays w hl,xcw _ h1,xbB,setBlock]
  ·rw [CB h.nodup h4,List.map_set,← h2,xcH]
   apply List.ext_getElem?
   intro i
   simp only [xaL,xcE,List.getElem?_set,xap]
   have hjl:=(xah.1 h5).1
   by_cases hi:j=i
   ·subst hi
    simp only [Array.length_toList] at hjl
    simp [hjl]
   ·simp only [if_neg hi]
    simp
end
section
variable {P:Program} {ρ:Operand→Value} {o:Oper} {w w':World}
theorem eJ (t:TypeId) (m x:Operand) (c:Bool) (ho:o.op=.lookup t m x c) (mv kv v:Value) (hm:ρ m=mv) (hx:ρ x=kv) (hr:(xcd t mv kv c).run P w=.ok v w):(execOp ρ o).run P w=.ok (.value v) w:=by
 unfold execOp
 simp only [ho,hm,hx,xaI,hr,xat,xaQ]
end
section
variable {P:Program} {ops:Array Oper} {rest:List Oper} {o:Oper} {a:Act} {w w':World} {Q:Exit→Act→World→Prop}
theorem jy (hg:o.guard=none) (t:TypeId) (m x v:Operand) (ho:o.op=.mapUpdate t m x v) (mv kv vv:Value) (hm:a.eval m=mv) (hx:a.eval x=kv) (hv:a.eval v=vv) (hr:(xco t mv kv vv).run P w=.ok () w')
  (h:wpList P ops Q rest (a.put o.dst undef) w'):wpList P ops Q (o :: rest) a w:=by
 refine wpList_plain hg fun K hK=>?_
 unfold Oper.wp
 simp [execOp,ho,hm,hx,hv,hr,xbB]
 exact hK _ _ h
end
end Go.Proofs.YtomnhnmciopiiaaGreat
end
section
namespace Go.Proofs.YtomnhnmciopiiaaGreat
open Go Go.RowKit Go.Maps
abbrev Hsh:=List UInt8
abbrev Pth:=List UInt8×ByteArray
def okH (h:Hsh):Prop:=h.length=20
def okP (p:Pth):Prop:=p.1.length=20∧p.2.size≤maxLen
def pC (p:Pth):List Value:=bv p.1++[.string p.2]
def hV (h:Hsh):Value:=.agg (bv h).toArray
def pV (p:Pth):Value:=.agg (pC p).toArray
theorem wh {a b:List UInt8} (h:bv a=bv b):a=b:=by
 induction a generalizing b with
 | nil =>
  cases b with
  | nil=>rfl
  | cons x b=>simp [bv] at h
 | cons x a ih =>
  cases b with
  | nil=>simp [bv] at h
  | cons y b =>
   simp only [bv,xa9,List.cons.injEq,Value.int.injEq,true_and] at h
   have h1:x=y:=UInt8.toNat_inj.1 (by omega)
   rw [h1,ih h.2]
theorem B6 {a b:Hsh} (h:hV a=hV b):a=b:=by
 unfold hV at h
 injection h with h
 exact wh (by simpa using congrArg Array.toList h)
theorem fK {p:Pth} (h:okP p):(pC p).length=21:=by simp [pC,bvL,h.1]
theorem CS {a b:Pth} (h:pC a=pC b):a=b:=by
 unfold pC at h
 have h2:=List.append_inj' h rfl
 have h3:a.2=b.2:=by simpa using h2.2
 exact Prod.ext (wh h2.1) h3
theorem CT {a b:Pth} (h:pV a=pV b):a=b:=by
 unfold pV at h
 injection h with h
 exact CS (by simpa using congrArg Array.toList h)
theorem Gf (p:Pth):∀ v∈pC p,v.oneCell'=true:=by
 intro v hv
 rcases xax.1 hv with hv | hv
 ·exact bv1 _ v hv
 ·rw [xan.1 hv];rfl
theorem xq {α:Type} (n:Nat) (f:Nat→Option α) (g:Nat→α) (h:∀ i,i<n→f i=some (g i)):(xaf n).mapM f=some ((xaf n).map g):=by
 have:∀ l:List Nat,(∀ i∈l,i<n)→l.mapM f=some (l.map g):=by
  intro l
  induction l with
  | nil=>intro _;rfl
  | cons x l ih =>
   intro hl
   rw [List.mapM_cons,h x (hl x (by simp)),ih (fun i hi=>hl i (by simp [hi]))]
   rfl
 exact this _ fun i hi=>xba.1 hi
theorem kd {P:Program} {t e:TypeId} {n:Nat} (d:Nat) (ht:P.underlying t=some (.array n e)) (he:P.underlying e=some (.int .u8)) (hc:P.cellsOf t=n) (h1:P.cellsOf e=1) {h:List UInt8} (hl:h.length=n) :
  ∃ L,P.keyLits (d+2) t (bv h)=some L:=by
 have hm:((xaf n).mapM fun i=>P.keyLits (d+1) e (((bv h).drop (i*P.cellsOf e)).take (P.cellsOf e)))=some ((xaf n).map fun i=>[Lit.int .u8 ((h.getD i 0).toNat:Int)]):=by
  refine xq n _ _ fun i hi=>?_
  rw [h1,Nat.mul_one]
  have e1:((bv h).drop i).take 1=[.int .u8 ((h.getD i 0).toNat:Int)]:=by
   rw [List.take_one]
   simp [bv,List.getD,hl,hi]
  rw [e1]
  generalize h.getD i 0=x
  have hw:(Lit.int .u8 (x.toNat:Int)).wf=true:=by
   have:=UInt8.toNat_lt x
   simp [Lit.wf,IntKind.min,IntKind.max,IntKind.signed,IntKind.bits]
   omega
  unfold xb2
  simp [he,hw]
 unfold xb2
 rw [ht]
 have hlen:(bv h).length=P.cellsOf t:=by rw [hc,bvL];exact hl
 generalize bv h=cs at hm hlen
 cases cs with
 | nil =>
  simp only []
  rw [if_pos hlen,hm]
  exact ⟨_,rfl⟩
 | cons x h =>
  simp only []
  rw [if_pos hlen,hm]
  exact ⟨_,rfl⟩
theorem fS:Tryz.prog.cellsOf 34=20:=by kernel_rfl
theorem il:Tryz.prog.cellsOf 5=1:=by kernel_rfl
theorem lk:Tryz.prog.cellsOf 83=21:=by kernel_rfl
theorem fp:Tryz.prog.cellsOf 9=1:=by kernel_rfl
theorem ed:lf Tryz.prog 34 hV okH where
 law:=Keyed.of_law (deep_law_laid laidOut (m:=2) (by omega) (of_decide_eq_true (by kernel_rfl)) (by kernel_rfl) (by kernel_rfl))
 key:=fun h hh=>by
  obtain ⟨L,hL⟩:=kd (P:=Tryz.prog) (Tryz.prog.types.size-1) Tryz.underlying34 Tryz.underlying5 fS il hh
  have hs:Tryz.prog.types.size-1+2=Tryz.prog.types.size+1:=by
   have:0<Tryz.prog.types.size:=of_decide_eq_true (by kernel_rfl)
   omega
  rw [hs] at hL
  have hk:Tryz.prog.keyType 34=true:=by kernel_rfl
  have hf:(hV h).formed Tryz.prog 34=true:=by
   simp [hV,Value.formed,Tryz.underlying34,fS,bvL]
   exact hh
  unfold keyOf
  rw [Tryz.underlying34]
  simp only [hk,hf,Bool.and_self,if_true]
  rw [show (hV h).cells.toList=bv h by simp [hV,xaU],hL]
  exact ⟨_,rfl⟩
 inj:=fun _ _ _ _ h=>B6 h
theorem qp:lf Tryz.prog 83 pV okP where
 law:=Keyed.of_law (deep_law_laid laidOut (m:=3) (by omega) (of_decide_eq_true (by kernel_rfl)) (by kernel_rfl) (by kernel_rfl))
 key:=fun p hp=>by
  obtain ⟨L,hL⟩:=kd (P:=Tryz.prog) (Tryz.prog.types.size-2) Tryz.underlying34 Tryz.underlying5 fS il hp.1
  have h0:2<Tryz.prog.types.size:=of_decide_eq_true (by kernel_rfl)
  have hs:Tryz.prog.types.size-2+2=Tryz.prog.types.size:=by omega
  rw [hs] at hL
  have hk:Tryz.prog.keyType 83=true:=by kernel_rfl
  have hf:(pV p).formed Tryz.prog 83=true:=by
   simp [pV,Value.formed,Tryz.underlying83,lk,fK hp]
  have hst:Tryz.prog.keyLits Tryz.prog.types.size 9 [.string p.2]=some [.string p.2.data.toList]:=by
   obtain ⟨d,hd⟩:∃ d,Tryz.prog.types.size=d+1:=⟨Tryz.prog.types.size-1,by omega⟩
   rw [hd]
   unfold xb2
   simp [Tryz.underlying9,hp.2]
  have e1:((pC p).drop 0).take (Tryz.prog.cellsOf 34)=bv p.1:=by
   rw [fS,xaK,pC,List.take_left' (by rw [bvL];exact hp.1)]
  have e2:((pC p).drop 20).take (Tryz.prog.cellsOf 9)=[.string p.2]:=by
   rw [fp,pC,List.drop_left' (by rw [bvL];exact hp.1)]
   rfl
  have hpk:∃ L,Tryz.prog.keyLits (Tryz.prog.types.size+1) 83 (pC p)=some L:=by
   unfold xb2
   rw [Tryz.underlying83]
   simp only [lk,fK hp]
   rw [if_pos ⟨trivial,by kernel_rfl⟩]
   simp only [List.mapM_cons,List.mapM_nil,e1,e2,hL,hst]
   exact ⟨_,rfl⟩
  obtain ⟨L2,hL2⟩:=hpk
  unfold keyOf
  rw [Tryz.underlying83]
  simp only [hk,hf,Bool.and_self,if_true]
  rw [show (pV p).cells.toList=pC p by simp [pV,xaU],hL2]
  exact ⟨_,rfl⟩
 inj:=fun _ _ _ _ h=>CT h
def gW:Lay Hsh:=Lay.u8s 34 20
def tu:Lay Pth:=Lay.struct 83 (.cons gW (.cons (Lay.str 9) .nil)) fun p=>(p.1,p.2,())
theorem cY:gW.eG Tryz.prog:=Af Tryz.underlying34 Tryz.underlying5 fS il
theorem rh:tu.eG Tryz.prog:=fJ (fun b=>(b.1,b.2.1)) (fun b=>rfl) (dh cY (dh (ng Tryz.underlying9 fp) jr)) Tryz.underlying83 (by kernel_rfl) (by kernel_rfl)
theorem ep {w:World} {B:Nat} {cs:List Value} {h:Hsh}:gW.At w B cs h↔cs=bv h∧okH h:=Iff.rfl
theorem qo {w:World} {B:Nat} {cs:List Value} {p:Pth}:tu.At w B cs p↔cs=pC p∧okP p:=by
 constructor
 ·rintro ⟨c1,c2,rfl,⟨rfl,h1⟩,c3,c4,rfl,⟨rfl,h2⟩,h3⟩
  have h3:c4=[]:=h3
  subst h3
  exact ⟨by simp [pC],h1,h2⟩
 ·rintro ⟨rfl,h1,h2⟩
  exact ⟨bv p.1,[.string p.2],rfl,⟨rfl,h1⟩,[.string p.2],[],by simp,⟨rfl,h2⟩,rfl⟩
def cT:Lay (List Hsh):=Lay.slice 27 gW
theorem od:cT.eG Tryz.prog:=ki cY (by decide) Tryz.underlying27 (by kernel_rfl)
theorem dc (a b:Hsh) (ha:okH a) (hb:okH b) (w:World):(Op.equal 34 (hV a) (hV b)).run Tryz.prog w=.ok (decide (a=b)) w:=by
 obtain ⟨la,h1⟩:=ed.key a ha
 obtain ⟨lb,h2⟩:=ed.key b hb
 obtain ⟨r,h3,h4⟩:=run_equal_deep (P:=Tryz.prog) w (m:=2) (by omega) (by kernel_rfl) (by kernel_rfl) h1 h2
 have:r=decide (a=b):=by
  rw [Bool.eq_iff_iff,h4,decide_eq_true_iff]
  constructor
  ·intro e
   subst e
   exact B6 (ed.law.inj h1 h2)
  ·intro e
   subst e
   rw [h1] at h2
   injection h2
 rw [← this]
 exact h3
theorem ma (a b:Pth) (ha:okP a) (hb:okP b) (w:World):(Op.equal 83 (pV a) (pV b)).run Tryz.prog w=.ok (decide (a=b)) w:=by
 obtain ⟨la,h1⟩:=qp.key a ha
 obtain ⟨lb,h2⟩:=qp.key b hb
 obtain ⟨r,h3,h4⟩:=run_equal_deep (P:=Tryz.prog) w (m:=3) (by omega) (by kernel_rfl) (by kernel_rfl) h1 h2
 have:r=decide (a=b):=by
  rw [Bool.eq_iff_iff,h4,decide_eq_true_iff]
  constructor
  ·intro e
   subst e
   exact CT (qp.law.inj h1 h2)
  ·intro e
   subst e
   rw [h1] at h2
   injection h2
 rw [← this]
 exact h3
theorem jW (a b:Hsh) (ha:okH a) (hb:okH b) (w:World):(binOp .eql 34 (hV a) (hV b)).run Tryz.prog w=.ok (.bool (decide (a=b))) w:=by
 have h:=dc a b ha hb w
 unfold hV at h ⊢
 simp only [binOp,xaI,h,xat,xaQ]
theorem ue (a b:Pth) (ha:okP a) (hb:okP b) (w:World):(binOp .eql 83 (pV a) (pV b)).run Tryz.prog w=.ok (.bool (decide (a=b))) w:=by
 have h:=ma a b ha hb w
 unfold pV at h ⊢
 simp only [binOp,xaI,h,xat,xaQ]
end Go.Proofs.YtomnhnmciopiiaaGreat
end
section
namespace Go.Proofs.YtomnhnmciopiiaaGreat.Dr
variable {H:Type} [DecidableEq H]
structure It (H:Type) where
 cls:H
 ins:List H
 ok:Bool
def css (l:List (It H)):List H:=l.map (·.cls)
def cP (known:List H):List (It H)→Bool
 | []=>true
 | x :: l=>x.ok&&!known.contains x.cls&&x.ins.all (fun c=>known.contains c)&&cP (known++[x.cls]) l
def bO (l:List (It H)):Bool:=cP [] l
structure gS (l:List (It H)):Prop where
 ok:∀ (n:Nat) (x:It H),l[n]?=some x→x.ok=true
 nodup:(css l).Nodup
 ins:∀ (n:Nat) (x:It H),l[n]?=some x→∀ c∈x.ins,(css l).idxOf c<n
theorem xM (l:List (It H)):∀ known:List H,known.Nodup→(cP known l=true↔(∀ (n:Nat) (x:It H),l[n]?=some x→x.ok=true)∧(known++css l).Nodup∧∀ (n:Nat) (x:It H),l[n]?=some x→∀ c∈x.ins,(known++css l).idxOf c<known.length+n):=by
 induction l with
 | nil=>intro known hk;simp [cP,css,hk]
 | cons x l ih =>
  intro known hk
  have ea:known++css (x :: l)=(known++[x.cls])++css l:=by simp [css]
  simp only [cP,xaw,Bool.not_eq_true',xaO,List.contains_iff_mem]
  constructor
  ·rintro ⟨⟨⟨h1,h2⟩,h3⟩,h4⟩
   have h2:x.cls ∉ known:=by simpa using h2
   have hn:(known++[x.cls]).Nodup:=by
    rw [xb5]
    refine ⟨hk,by simp,?_⟩
    intro a ha b hb e
    rw [xan.1 hb] at e
    exact h2 (e▸ha)
   obtain ⟨i1,i2,i3⟩:=(ih _ hn).1 h4
   refine ⟨?_,by rw [ea];exact i2,?_⟩
   ·intro n y hy
    cases n with
    | zero=>injection hy with hy;subst hy;exact h1
    | succ n=>exact i1 n y hy
   ·intro n y hy c hc
    rw [ea]
    cases n with
    | zero =>
     injection hy with hy
     subst hy
     have hck:c∈known:=by simpa using h3 c hc
     rw [xaR,List.idxOf_append,if_pos hck]
     exact xbp.2 hck
    | succ n =>
     have:=i3 n y hy c hc
     rw [xak,xbq] at this
     omega
  ·rintro ⟨h1,h2,h3⟩
   rw [ea] at h2
   have hn:(known++[x.cls]).Nodup:=(xb5.1 h2).1
   refine ⟨⟨⟨h1 0 x rfl,?_⟩,?_⟩,(ih _ hn).2 ⟨fun n y hy=>h1 (n+1) y hy,h2,fun n y hy c hc=>?_⟩⟩
   ·have h5:=(xb5.1 hn).2.2
    have:x.cls ∉ known:=fun hm=>h5 _ hm _ (xan.2 rfl) rfl
    simpa using this
   ·intro c hc
    have h5:=h3 0 x rfl c hc
    rw [Nat.add_zero,List.idxOf_append] at h5
    split at h5
    ·rename_i hm;simpa using hm
    ·omega
   ·have h5:=h3 (n+1) y hy c hc
    rw [ea] at h5
    rw [xak,xbq]
    omega
theorem iA (l:List (It H)):bO l=true↔gS l:=by
 have h:=xM l [] List.nodup_nil
 simp only [List.nil_append,List.length_nil,Nat.zero_add] at h
 exact ⟨fun e=>by obtain ⟨a,b,c⟩:=h.1 e;exact ⟨a,b,c⟩,fun ⟨a,b,c⟩=>h.2 ⟨a,b,c⟩⟩
def lz (cs:List H) (ins:List H) (b:List Bool):List Bool:=ins.foldl (fun b c=>b.set (cs.idxOf c) true) b
def jj (l:List (It H)) (n:Nat):List H:=(l[n]?.map (·.ins)).getD []
def gT (l:List (It H)):Nat→List Bool→List Bool
 | 0,b=>b
 | n+1,b=>gT l n (if b[n]?.getD false then lz (css l) (jj l n) b else b)
def cH (l:List (It H)) (m:Nat):List Bool:=gT l (m+1) ((xaz l.length false).set m true)
abbrev Mk (b:List Bool) (k:Nat):Prop:=b[k]?=some true
theorem p8 (cs:List H):∀ (ins:List H) (b:List Bool),(lz cs ins b).length=b.length
 | [],_=>rfl
 | c :: ins,b=>by
  show (lz cs ins (b.set _ true)).length=_
  rw [p8 cs ins,xbh]
theorem r5 (l:List (It H)):∀ (n:Nat) (b:List Bool),(gT l n b).length=b.length
 | 0,_=>rfl
 | n+1,b=>by
  unfold gT
  rw [r5 l n]
  split
  ·exact p8 _ _ _
  ·rfl
theorem dF (l:List (It H)) (m:Nat):(cH l m).length=l.length:=by
 unfold cH
 rw [r5,xbh,List.length_replicate]
theorem kK (cs:List H):∀ (ins:List H) (b:List Bool) (k:Nat),Mk (lz cs ins b) k↔Mk b k∨(k<b.length∧∃ c∈ins,cs.idxOf c=k)
 | [],b,k=>by simp [lz]
 | c :: ins,b,k=>by
  show Mk (lz cs ins (b.set (cs.idxOf c) true)) k↔_
  rw [kK cs ins,xbh]
  unfold Mk
  rw [List.getElem?_set]
  constructor
  ·rintro (h | ⟨h1,c',hc',h2⟩)
   ·split at h
    ·rename_i e
     split at h
     ·exact .inr ⟨by omega,c,by simp,e⟩
     ·cases h
    ·exact .inl h
   ·exact .inr ⟨h1,c',by simp [hc'],h2⟩
  ·rintro (h | ⟨h1,c',hc',h2⟩)
   ·left
    split
    ·rename_i e
     rw [if_pos (by have:=(xah.1 h).1;omega)]
    ·exact h
   ·rcases xaD.1 hc' with rfl | hc'
    ·left
     rw [if_pos h2,if_pos (by omega)]
    ·exact .inr ⟨h1,c',hc',h2⟩
section
variable {l:List (It H)} (hr:gS l)
include hr
theorem j8 {n:Nat} {c:H} (hc:c∈jj l n):(css l).idxOf c<n:=by
 unfold jj at hc
 cases h:l[n]? with
 | none=>rw [h] at hc;cases hc
 | some x=>rw [h] at hc;exact hr.ins n x h c hc
theorem pX:∀ (n:Nat) (b:List Bool) (k:Nat),n≤k+1→(Mk (gT l n b) k↔Mk b k)
 | 0,_,_,_=>Iff.rfl
 | n+1,b,k,hk=>by
  unfold gT
  rw [pX n _ k (by omega)]
  split
  ·rw [kK]
   constructor
   ·rintro (h | ⟨_,c,hc,e⟩)
    ·exact h
    ·have:=j8 hr hc;omega
   ·exact .inl
  ·exact Iff.rfl
omit hr in
theorem ly:∀ (n:Nat) (b:List Bool) (k:Nat),Mk b k→Mk (gT l n b) k
 | 0,_,_,h=>h
 | n+1,b,k,h=>by
  unfold gT
  refine ly n _ k ?_
  split
  ·exact (kK _ _ _ _).2 (.inl h)
  ·exact h
omit hr in
theorem iN (S:Nat→Prop) (hS:∀ n,S n→∀ c∈jj l n,S ((css l).idxOf c)):∀ (n:Nat) (b:List Bool),(∀ k,Mk b k→S k)→∀ k,Mk (gT l n b) k→S k
 | 0,_,h=>h
 | n+1,b,h=>by
  unfold gT
  refine iN S hS n _ fun k hk=>?_
  split at hk
  ·rename_i hb
   rcases (kK _ _ _ _).1 hk with hk | ⟨_,c,hc,rfl⟩
   ·exact h k hk
   ·refine hS n (h n ?_) c hc
    cases e:b[n]? with
    | none=>rw [e] at hb;cases hb
    | some v=>rw [e] at hb;show b[n]?=some true;rw [e];exact congrArg some hb
  ·exact h k hk
theorem mm:∀ (n:Nat) (b:List Bool),b.length=l.length→∀ n',n'<n→Mk (gT l n b) n'→∀ c∈jj l n',Mk (gT l n b) ((css l).idxOf c)
 | 0,_,_,_,h,_,_,_=>absurd h (by omega)
 | n+1,b,hb,n',hn,hm,c,hc=>by
  have hlt:=j8 hr hc
  unfold gT at hm ⊢
  by_cases h:n'<n
  ·refine mm n _ ?_ n' h hm c hc
   split
   ·rw [p8];exact hb
   ·exact hb
  ·obtain rfl:n'=n:=by omega
   rw [pX hr n' _ n' (by omega)] at hm
   refine ly n' _ _ ?_
   have hbn:Mk b n':=by
    split at hm
    ·rcases (kK _ _ _ _).1 hm with h | ⟨_,c',hc',e⟩
     ·exact h
     ·have:=j8 hr hc';omega
    ·exact hm
   have:b[n']?.getD false=true:=by rw [hbn];rfl
   rw [if_pos this]
   exact (kK _ _ _ _).2 (.inr ⟨by have:=(xah.1 hbn).1;omega,c,hc,rfl⟩)
omit hr in
theorem zX {m:Nat} (hm:m<l.length):Mk (cH l m) m:=by
 unfold cH
 refine ly _ _ _ ?_
 show (List.set _ m true)[m]?=some true
 rw [List.getElem?_set_self (by simpa using hm)]
omit hr in
theorem s0 {n m k:Nat} (h:Mk ((xaz n false).set m true) k):k=m:=by
 unfold Mk at h
 rw [List.getElem?_set] at h
 split at h
 ·rename_i e;exact e.symm
 ·rw [List.getElem?_replicate] at h
  split at h<;>cases h
theorem oI {m k:Nat} (h:Mk (cH l m) k):k≤m :=
 iN (l:=l) (fun k=>k≤m) (fun n hn c hc=>by have:=j8 hr hc;omega) (m+1) _ (fun k hk=>Nat.le_of_eq (s0 hk)) k h
theorem nN {m n:Nat} (h:Mk (cH l m) n) {c:H} (hc:c∈jj l n):Mk (cH l m) ((css l).idxOf c) :=
 mm hr (m+1) _ (by simp) n (by have:=oI hr h;omega) h c hc
theorem qc {m n k:Nat} (h:Mk (cH l m) n) (hk:Mk (cH l n) k):Mk (cH l m) k :=
 iN (l:=l) (fun k=>Mk (cH l m) k) (fun _ hn _ hc=>nN hr hn hc) (n+1) _ (fun k hk=>by rw [s0 hk];exact h) k hk
end
def eh:List H→List Bool→List H
 | x :: l,true :: b=>x :: eh l b
 | _ :: l,false :: b=>eh l b
 | [],_=>[]
 | _ :: _,[]=>[]
def cnt (b:List Bool) (k:Nat):Nat:=(b.take k).count true
omit [DecidableEq H] in
theorem mw:∀ (l:List H) (b:List Bool),b.length=l.length→(eh l b).length=b.count true
 | [],b,h=>by rw [xaT h];rfl
 | x :: l,[],h=>by simp at h
 | x :: l,true :: b,h=>by simp [eh,mw l b (by simpa using h)]
 | x :: l,false :: b,h=>by simp [eh,mw l b (by simpa using h)]
omit [DecidableEq H] in
theorem qi:∀ (l:List H) (b:List Bool) (n:Nat),b.length=l.length→Mk b n→(eh l b)[cnt b n]?=l[n]?
 | [],b,n,h,hm=>by rw [xaT h] at hm;simp [Mk] at hm
 | x :: l,[],n,h,hm=>by simp at h
 | x :: l,true :: b,0,h,hm=>rfl
 | x :: l,false :: b,0,h,hm=>by simp [Mk] at hm
 | x :: l,true :: b,n+1,h,hm=>by
  have:=qi l b n (by simpa using h) (by simpa [Mk] using hm)
  simpa [eh,cnt] using this
 | x :: l,false :: b,n+1,h,hm=>by
  have:=qi l b n (by simpa using h) (by simpa [Mk] using hm)
  simpa [eh,cnt] using this
omit [DecidableEq H] in
theorem nh:∀ (l:List H) (b:List Bool) (i:Nat),b.length=l.length→i<(eh l b).length→∃ n,Mk b n∧cnt b n=i
 | [],b,i,h,hi=>by simp [eh] at hi
 | x :: l,[],i,h,hi=>by simp at h
 | x :: l,true :: b,0,h,hi=>⟨0,rfl,rfl⟩
 | x :: l,true :: b,i+1,h,hi=>by
  obtain ⟨n,h1,h2⟩:=nh l b i (by simpa using h) (by simpa [eh] using hi)
  exact ⟨n+1,by simpa [Mk] using h1,by simpa [cnt] using h2⟩
 | x :: l,false :: b,i,h,hi=>by
  obtain ⟨n,h1,h2⟩:=nh l b i (by simpa using h) (by simpa [eh] using hi)
  exact ⟨n+1,by simpa [Mk] using h1,by simpa [cnt] using h2⟩
omit [DecidableEq H] in
theorem js:∀ (l:List H) (b:List Bool),(eh l b).Sublist l
 | [],b=>by cases b<;>exact List.Sublist.slnil
 | x :: l,[]=>List.nil_sublist _
 | x :: l,true :: b=>(js l b).cons_cons x
 | x :: l,false :: b=>(js l b).cons x
theorem pc {b:List Bool} {k:Nat} (h:Mk b k):cnt b (k+1)=cnt b k+1:=by
 unfold cnt
 rw [xaB,h]
 simp
theorem BA {b:List Bool} {k n:Nat} (h:k≤n):cnt b k≤cnt b n:=by
 unfold cnt
 exact List.Sublist.count_le _ (List.take_sublist_take_left h)
theorem FB {b:List Bool} {k n:Nat} (h:Mk b k) (hk:k<n):cnt b k<cnt b n:=by
 have:=pc h
 have:=BA (b:=b) (show k+1≤n by omega)
 omega
theorem rG:∀ (b b':List Bool),b.length=b'.length→(∀ k,Mk b' k→Mk b k)→b'.count true≤b.count true
 | [],b',h,_=>by rw [xaT h.symm];exact xag _
 | x :: b,[],h,_=>by simp at h
 | x :: b,y :: b',h,hs=>by
  have ih:=rG b b' (by simpa using h) fun k hk=>by have:=hs (k+1) (by simpa [Mk] using hk);simpa [Mk] using this
  cases y with
  | false=>cases x<;>simp<;>omega
  | true =>
   have:=hs 0 rfl
   simp [Mk] at this
   subst this
   simpa using ih
def cE (l:List (It H)) (c:H):List H:=eh (css l) (cH l ((css l).idxOf c))
section
variable {l:List (It H)} (hr:gS l)
include hr
theorem pM {n:Nat} {x:It H} (h:l[n]?=some x):(css l).idxOf x.cls=n:=by
 have hn:n<(css l).length:=by
  have:=(xah.1 h).1
  simpa [css] using this
 have e:(css l)[n]=x.cls:=by
  have h2:(css l)[n]?=some x.cls:=by simp [css,h]
  rw [xai hn] at h2
  exact xam h2
 rw [← e]
 exact hr.nodup.idxOf_getElem n hn
theorem Ah (b:List Bool):(eh (css l) b).Nodup:=hr.nodup.sublist (js _ _)
theorem nj {b:List Bool} (hb:b.length=l.length) {n:Nat} {x:It H} (h:l[n]?=some x) (hm:Mk b n):(eh (css l) b)[cnt b n]?=some x.cls∧(eh (css l) b).idxOf x.cls=cnt b n:=by
 have h1:(eh (css l) b)[cnt b n]?=some x.cls:=by
  rw [qi _ _ n (by rw [hb];simp [css]) hm]
  simp [css,h]
 refine ⟨h1,?_⟩
 obtain ⟨h2,h3⟩:=xah.1 h1
 rw [← h3]
 exact (Ah hr b).idxOf_getElem _ h2
end
section
variable {l:List (It H)} (hr:gS l)
include hr
theorem nc {c:H} (i:Nat) (hi:i<(cE l c).length):∃ n x,l[n]?=some x∧Mk (cH l ((css l).idxOf c)) n∧(cE l c)[i]?=some x.cls∧cnt (cH l ((css l).idxOf c)) n=i∧n≤(css l).idxOf c:=by
 obtain ⟨n,h1,h2⟩:=nh _ _ i (by rw [dF];simp [css]) hi
 have hn:n<l.length:=by have:=(xah.1 h1).1;rwa [dF] at this
 obtain ⟨x,hx⟩:∃ x,l[n]?=some x:=⟨_,xai hn⟩
 have h3:=(nj hr (dF l _) hx h1).1
 rw [h2] at h3
 exact ⟨n,x,hx,h1,h3,h2,oI hr h1⟩
omit hr in
theorem wQ {c:H} (hc:c∈css l):(css l).idxOf c<l.length:=by
 have:=xbp.2 hc
 simpa [css] using this
omit hr in
theorem o3 {c:H} (hc:c∈css l):∃ x,l[(css l).idxOf c]?=some x∧x.cls=c:=by
 have h:=wQ hc
 obtain ⟨x,hx⟩:∃ x,l[(css l).idxOf c]?=some x:=⟨_,xai h⟩
 have h2:(css l)[(css l).idxOf c]?=some c:=by
  rw [xai (xbp.2 hc)]
  exact congrArg some (List.getElem_idxOf _)
 obtain ⟨i,hi⟩:∃ i,i=(css l).idxOf c:=⟨_,rfl⟩
 rw [← hi] at h2 hx ⊢
 have h3:(css l)[i]?=some x.cls:=by simp [css,hx]
 rw [h2] at h3
 exact ⟨x,hx,(xam h3).symm⟩
theorem xw {c:H} (hc:c∈css l):0<(cE l c).length∧(cE l c)[(cE l c).length-1]?=some c:=by
 obtain ⟨x,hx,rfl⟩:=o3 hc
 have hm:=zX (l:=l) (wQ hc)
 have h1:=(nj hr (dF l _) hx hm).1
 have hl:(cE l x.cls).length=cnt (cH l ((css l).idxOf x.cls)) ((css l).idxOf x.cls)+1:=by
  show (eh _ _).length=_
  rw [mw _ _ (by rw [dF];simp [css]),← pc hm]
  unfold cnt
  have e:∀ b:List Bool,∀ m,(∀ k,Mk b k→k≤m)→b.count true=(b.take (m+1)).count true:=by
   intro b m hb
   have h2:(b.drop (m+1)).count true=0:=by
    rw [List.count_eq_zero]
    intro hmem
    obtain ⟨j,hj⟩:=xaP hmem
    rw [List.getElem?_drop] at hj
    have:=hb _ hj
    omega
   have h3:=List.count_append (a:=true) (l₁:=b.take (m+1)) (l₂:=b.drop (m+1))
   rw [List.take_append_drop] at h3
   omega
  exact e _ _ fun k hk=>oI hr hk
 rw [hl]
 exact ⟨by omega,h1⟩
theorem va {c:H} {n:Nat} {x:It H} (hx:l[n]?=some x) (hm:Mk (cH l ((css l).idxOf c)) n) {d:H} (hd:d∈x.ins):(cE l c).idxOf d<(cE l c).idxOf x.cls∧d∈cE l c:=by
 have hd2:d∈jj l n:=by unfold jj;rw [hx];exact hd
 have hk:=nN hr hm hd2
 have hlt:=j8 hr hd2
 have hdm:d∈css l:=xbp.1 (by have:=(xah.1 hx).1;simp [css];simp [css] at hlt;omega)
 obtain ⟨y,hy,rfl⟩:=o3 hdm
 have h1:=nj hr (dF l ((css l).idxOf c)) hy hk
 have h2:=nj hr (dF l ((css l).idxOf c)) hx hm
 refine ⟨?_,xaj h1.1⟩
 show (eh _ _).idxOf _<(eh _ _).idxOf _
 rw [h1.2,h2.2]
 exact FB hk hlt
theorem Aa {c:H} {n:Nat} {x:It H} (hx:l[n]?=some x) (hm:Mk (cH l ((css l).idxOf c)) n):(∀ d∈cE l x.cls,d∈cE l c)∧(cE l x.cls).length≤cnt (cH l ((css l).idxOf c)) n+1:=by
 have hi:=pM hr hx
 constructor
 ·intro d hd
  obtain ⟨i,hi2⟩:=xaP hd
  obtain ⟨k,y,hy,hk,h3,_,_⟩:=nc hr (c:=x.cls) i (xah.1 hi2).1
  rw [hi2] at h3
  injection h3 with h3
  subst h3
  rw [hi] at hk
  exact xaj (nj hr (dF l _) hy (qc hr hm hk)).1
 ·show (eh _ _).length≤_
  rw [mw _ _ (by rw [dF];simp [css]),hi,← pc hm]
  unfold cnt
  have hb:(cH l n).count true=((cH l n).take (n+1)).count true:=by
   have h2:((cH l n).drop (n+1)).count true=0:=by
    rw [List.count_eq_zero]
    intro hmem
    obtain ⟨j,hj⟩:=xaP hmem
    rw [List.getElem?_drop] at hj
    have:=oI hr hj
    omega
   have h3:=List.count_append (a:=true) (l₁:=(cH l n).take (n+1)) (l₂:=(cH l n).drop (n+1))
   rw [List.take_append_drop] at h3
   omega
  rw [hb]
  refine rG _ _ (by simp [dF]) fun k hk=>?_
  unfold Mk at hk ⊢
  rw [List.getElem?_take] at hk ⊢
  split at hk
  ·rename_i hlt
   rw [if_pos hlt]
   exact qc hr hm hk
  ·cases hk
end
def maxOf:List Nat→Nat:=fun l=>l.foldl max 0
def sK:List (It H)→(H→Nat)→H→Nat
 | [],f=>f
 | x :: l,f=>sK l fun h=>if h=x.cls then maxOf (x.ins.map f)+1 else f h
def j3 (l:List (It H)) (c:H):Nat:=sK (l.take ((css l).idxOf c+1)) (fun _=>0) c
theorem um (a b:List (It H)) (f:H→Nat):sK (a++b) f=sK b (sK a f):=by
 induction a generalizing f with
 | nil=>rfl
 | cons x a ih=>exact ih _
theorem pf:∀ (l:List (It H)) (f:H→Nat) (h:H),h ∉ css l→sK l f h=f h
 | [],_,_,_=>rfl
 | x :: l,f,h,hn=>by
  unfold sK
  rw [pf l _ h (fun hm=>hn (List.mem_cons_of_mem _ hm)),if_neg (fun e=>hn (by rw [e];exact List.mem_cons_self ..))]
theorem Cq {l:List Nat} {n:Nat} (h:n∈l):n≤maxOf l:=by
 have key:∀ (l:List Nat) (a:Nat),a≤l.foldl max a∧∀ n∈l,n≤l.foldl max a:=by
  intro l
  induction l with
  | nil=>intro a;exact ⟨xag _,fun n h=>by cases h⟩
  | cons x l ih =>
   intro a
   obtain ⟨h1,h2⟩:=ih (max a x)
   refine ⟨xaH (Nat.le_max_left _ _) h1,fun n hn=>?_⟩
   rcases xaD.1 hn with rfl | hn
   ·exact xaH (Nat.le_max_right _ _) h1
   ·exact h2 n hn
 exact (key l 0).2 n h
section
variable {l:List (It H)} (hr:gS l)
include hr
theorem wA {n:Nat} {x:It H} (hx:l[n]?=some x):j3 l x.cls=maxOf (x.ins.map (sK (l.take n) fun _=>0))+1:=by
 unfold j3
 rw [pM hr hx,xaB,hx,um]
 show (if x.cls=x.cls then _ else _)=_
 rw [if_pos rfl]
theorem BD {d:H} {n:Nat} (hd:(css l).idxOf d<n):sK (l.take n) (fun _=>0) d=j3 l d:=by
 unfold j3
 have e:l.take n=l.take ((css l).idxOf d+1)++(l.take n).drop ((css l).idxOf d+1):=by
  have h:=List.take_append_drop ((css l).idxOf d+1) (l.take n)
  rw [List.take_take,Nat.min_eq_left (by omega)] at h
  exact h.symm
 rw [e,um,pf]
 intro hm
 obtain ⟨y,hy,rfl⟩:=xaA.1 hm
 obtain ⟨j,hj⟩:=xaP hy
 rw [List.getElem?_drop,List.getElem?_take] at hj
 split at hj
 ·have:=pM hr hj
  omega
 ·cases hj
theorem BE {n:Nat} {x:It H} (hx:l[n]?=some x) {d:H} (hd:d∈x.ins):j3 l d<j3 l x.cls:=by
 rw [wA hr hx,← BD hr (n:=n) (hr.ins n x hx d hd)]
 exact Nat.lt_succ_of_le (Cq (xaA.2 ⟨d,hd,rfl⟩))
end
end Go.Proofs.YtomnhnmciopiiaaGreat.Dr
end
section
namespace Go.Proofs.YtomnhnmciopiiaaGreat.Dr
variable {H:Type} [DecidableEq H]
section
variable {l:List (It H)} (hr:gS l)
include hr
theorem rM {x y:It H} (hx:x∈l) (hy:y∈l) (h:x.cls=y.cls):x=y:=by
 obtain ⟨i,hi⟩:=xaP hx
 obtain ⟨j,hj⟩:=xaP hy
 have h1:=pM hr hi
 have h2:=pM hr hj
 rw [h,h2] at h1
 subst h1
 rw [hi] at hj
 exact xam hj
end
end Go.Proofs.YtomnhnmciopiiaaGreat.Dr
end
section
namespace Go.Proofs.YtomnhnmciopiiaaGreat
open Go Go.RowKit Go.Maps
abbrev Inp:=Pth×Hsh×Bool
abbrev Nam:=ByteArray×Inp
abbrev Drv:=ByteArray×List Nam×List Int
abbrev Itm:=Hsh×Drv
def okI (x:Inp):Prop:=okP x.1∧okH x.2.1
def okN (x:Nam):Prop:=x.1.size≤maxLen∧okI x.2
def iC (x:Inp):List Value:=pC x.1++(bv x.2.1++[.bool x.2.2])
def nC (x:Nam):List Value:=.string x.1 :: iC x.2
def dC (d:Drv) (v1 v2:Value):List Value:=[.string d.1,v1,v2]
def tC (x:Itm) (v1 v2:Value):List Value:=bv x.1++dC x.2 v1 v2
def xe:Lay Inp:=Lay.struct 85 (.cons tu (.cons gW (.cons (Lay.bool 4) .nil))) fun x=>(x.1,x.2.1,x.2.2,())
def gO:Lay Nam:=Lay.struct 87 (.cons (Lay.str 9) (.cons xe .nil)) fun x=>(x.1,x.2,())
def dW:Lay (List Nam):=Lay.slice 23 gO
def cA:Lay (List Int):=Lay.slice 24 (Lay.int 5 .u8)
def pg:Lay Drv:=Lay.struct 26 (.cons (Lay.str 9) (.cons dW (.cons cA .nil))) fun d=>(d.1,d.2.1,d.2.2,())
def ka:Lay Itm:=Lay.struct 59 (.cons gW (.cons pg .nil)) fun x=>(x.1,x.2,())
def aH:Lay (List Itm):=Lay.slice 22 ka
theorem s8:xe.eG Tryz.prog:=fJ (fun b=>(b.1,b.2.1,b.2.2.1)) (fun _=>rfl) (dh rh (dh cY (dh (lB Tryz.underlying4 (by kernel_rfl)) jr))) Tryz.underlying85 (by kernel_rfl) (by kernel_rfl)
theorem tm:gO.eG Tryz.prog:=fJ (fun b=>(b.1,b.2.1)) (fun _=>rfl) (dh (ng Tryz.underlying9 fp) (dh s8 jr)) Tryz.underlying87 (by kernel_rfl) (by kernel_rfl)
theorem re:dW.eG Tryz.prog:=ki tm (by decide) Tryz.underlying23 (by kernel_rfl)
theorem o8:cA.eG Tryz.prog:=ki (nf Tryz.underlying5 il) (by decide) Tryz.underlying24 (by kernel_rfl)
theorem l5:pg.eG Tryz.prog:=fJ (fun b=>(b.1,b.2.1,b.2.2.1)) (fun _=>rfl) (dh (ng Tryz.underlying9 fp) (dh re (dh o8 jr))) Tryz.underlying26 (by kernel_rfl) (by kernel_rfl)
theorem s9:ka.eG Tryz.prog:=fJ (fun b=>(b.1,b.2.1)) (fun _=>rfl) (dh cY (dh l5 jr)) Tryz.underlying59 (by kernel_rfl) (by kernel_rfl)
theorem rW {w:World} {B:Nat} {cs:List Value} {x:Inp}:xe.At w B cs x↔cs=iC x∧okI x:=by
 constructor
 ·rintro ⟨c1,d1,rfl,h1,c2,d2,rfl,⟨rfl,h2⟩,c3,d3,rfl,h3,h4⟩
  have h3:c3=[.bool x.2.2]:=h3
  have h4:d3=[]:=h4
  subst h3 h4
  obtain ⟨rfl,h5⟩:=qo.1 h1
  exact ⟨rfl,h5,h2⟩
 ·rintro ⟨rfl,h1,h2⟩
  exact ⟨pC x.1,_,rfl,qo.2 ⟨rfl,h1⟩,bv x.2.1,_,rfl,⟨rfl,h2⟩,[.bool x.2.2],[],rfl,rfl,rfl⟩
theorem bZ {w:World} {B:Nat} {cs:List Value} {x:Nam}:gO.At w B cs x↔cs=nC x∧okN x:=by
 constructor
 ·rintro ⟨c1,d1,rfl,⟨rfl,h1⟩,c2,d2,rfl,h2,h3⟩
  have h3:d2=[]:=h3
  subst h3
  obtain ⟨rfl,h5⟩:=rW.1 h2
  exact ⟨by simp [nC],h1,h5⟩
 ·rintro ⟨rfl,h1,h2⟩
  exact ⟨[.string x.1],iC x.2,rfl,⟨rfl,h1⟩,iC x.2,[],by simp,rW.2 ⟨rfl,h2⟩,rfl⟩
theorem yO {α:Type} {t:TypeId} {L:Lay α} {w:World} {B:Nat} {cs:List Value} {l:List α} (h:(Lay.slice t L).At w B cs l):∃ v,cs=[v]:=by
 obtain ⟨A,cap,e,_⟩:=h
 exact ⟨_,e⟩
structure au (w:World) (B:Nat) (d:Drv) (v1 v2:Value):Prop where
 name:d.1.size≤maxLen
 ins:dW.At w B [v1] d.2.1
 rcp:cA.At w B [v2] d.2.2
theorem jb {w:World} {B:Nat} {cs:List Value} {d:Drv}:pg.At w B cs d↔∃ v1 v2,cs=dC d v1 v2∧au w B d v1 v2:=by
 constructor
 ·rintro ⟨c1,d1,rfl,⟨rfl,h1⟩,c2,d2,rfl,h2,c3,d3,rfl,h3,h4⟩
  have h4:d3=[]:=h4
  subst h4
  obtain ⟨v1,rfl⟩:=yO h2
  obtain ⟨v2,rfl⟩:=yO h3
  exact ⟨v1,v2,rfl,h1,h2,h3⟩
 ·rintro ⟨v1,v2,rfl,h1,h2,h3⟩
  exact ⟨[.string d.1],[v1,v2],rfl,⟨rfl,h1⟩,[v1],[v2],rfl,h2,[v2],[],rfl,h3,rfl⟩
theorem cF {w:World} {B:Nat} {cs:List Value} {x:Itm}:ka.At w B cs x↔∃ v1 v2,cs=tC x v1 v2∧okH x.1∧au w B x.2 v1 v2:=by
 constructor
 ·rintro ⟨c1,d1,rfl,⟨rfl,h1⟩,c2,d2,rfl,h2,h3⟩
  have h3:d2=[]:=h3
  subst h3
  obtain ⟨v1,v2,rfl,h5⟩:=jb.1 h2
  exact ⟨v1,v2,by simp [tC],h1,h5⟩
 ·rintro ⟨v1,v2,rfl,h1,h2⟩
  exact ⟨bv x.1,dC x.2 v1 v2,rfl,⟨rfl,h1⟩,dC x.2 v1 v2,[],by simp,jb.2 ⟨v1,v2,rfl,h2⟩,rfl⟩
def aA (l:List Nam):List Hsh:=l.foldl (fun out x=>if x.2.2.2=true∧x.2.2.1 ∉ out then out++[x.2.2.1] else out) []
end Go.Proofs.YtomnhnmciopiiaaGreat
end
section
namespace Go.Proofs.YtomnhnmciopiiaaGreat
open Go Go.RowKit Go.Maps
theorem kP:(Tryz.prog.info? 34).map (·.size)=some 20:=by kernel_rfl
theorem EX:(Tryz.prog.info? 83).map (·.size)=some 21:=by kernel_rfl
def zcH:Array Value:=(bv (xaz 20 0)).toArray
theorem aJ {P:Program} {ρ:Operand→Value} {o:Oper} (ty e:TypeId) (x i:Operand) (ho:o.op=.indexAddr ty x i) (b off n cap:Nat) (k:Int) (kk:IntKind) (hx:ρ x=.slice (some ⟨b,off,none⟩) n cap) (hi:ρ i=.int kk k) (hk:0≤k∧k<(n:Int)) (s:Nat) (hu:P.underlying ty=some (.slice e)) (hs:(P.info? e).map (·.size)=some s) (w:World) :
  (execOp ρ o).run P w=.ok (.value (.pointer (some ⟨b,off+k.toNat*s,none⟩))) w:=by
 have e2:P.elem ty=e:=by simp [Program.elem,hu]
 unfold execOp
 simp only [ho,hx,hi,xaI,xaQ,run_indexAt_slice w ty _ _ _ kk k (by rw [e2];exact hu),e2,if_pos hk]
 cases hq:P.info? e with
 | none=>simp [hq] at hs
 | some j =>
  have h1:j.size=s:=by simpa [hq] using hs
  simp [sizeOf,typeInfo,hq,h1,Addr.add_mid]
theorem aj {α:Type} {t:TypeId} {L:Lay α} {w:World} {B:Nat} {v:Value} {l:List α} (h:(Lay.slice t L).At w B [v] l):∃ A cap,v=.slice A l.length cap∧l.length≤cap∧cap≤maxLen∧(A=none→cap=0)∧(0<l.length→∃ b off,A=some ⟨b,off,none⟩∧b<B∧sw L w B b off l):=by
 obtain ⟨A,cap,e,h1,h2,h3,h4⟩:=h
 injection e with e _
 exact ⟨A,cap,e,h1,h2,h3,h4⟩
theorem cW {P:Program} {ops:Array Oper} {rest:List Oper} {o1 o2:Oper} {a:Act} {w:World} {Q:Exit→Act→World→Prop} (hg1:o1.guard=none) (hg2:o2.guard=none) (ty:TypeId) (x y:Operand) (ho2:o2.op=.store ty x y) (zc cells:Array Value)
  (hr:(execOp a.eval o1).run P w=.ok (.value (.pointer (some ⟨w.heap.size,0,none⟩))) (w.alloc (.cells zc ty)))
  (hi:(P.info? ty).map (·.size)=some cells.size) (hz:zc.size=cells.size) (h1:cells.all (·.oneCell')=true)
  (hx:(a.put o1.dst (.pointer (some ⟨w.heap.size,0,none⟩))).eval x=.pointer (some ⟨w.heap.size,0,none⟩)) (hy:(a.put o1.dst (.pointer (some ⟨w.heap.size,0,none⟩))).eval y=.agg cells)
  (h:∀ w',Blk w' w.heap.size ty cells→Below w.heap.size w w'→wpList P ops Q rest ((a.put o1.dst (.pointer (some ⟨w.heap.size,0,none⟩))).put o2.dst undef) w'):wpList P ops Q (o1 :: o2 :: rest) a w:=by
 refine aa hg1 _ _ hr ?_
 refine ak hg2 ty x y ho2 w.heap.size zc cells ty (Blk.new _ _ _) hi hz h1 hx hy ?_
 intro w' hb hg
 refine h w' hb (((xao _ w).alloc (xag _) _).grown hg (by rw [size_alloc];omega) ?_)
 intro k hk
 injection hk with hk
 omega
theorem bX {w w':World} {b o:Nat} {cs:List Value} (h:w.rangeAt b o cs) (he:w'.heap[b]?=w.heap[b]?):w'.rangeAt b o cs:=by
 intro j v hv
 have:=h j v hv
 unfold World.cell? at this ⊢
 dsimp only at this ⊢
 rw [he]
 exact this
theorem hsz {h:Hsh} (hh:okH h):(Tryz.prog.info? 34).map (·.size)=some (bv h).toArray.size:=by
 rw [kP]
 simp [bvL]
 exact hh.symm
theorem psz {p:Pth} (hp:okP p):(Tryz.prog.info? 83).map (·.size)=some (pC p).toArray.size:=by
 rw [EX]
 simp [fK hp]
end Go.Proofs.YtomnhnmciopiiaaGreat
end
section
namespace Go.Proofs.YtomnhnmciopiiaaGreat
open Go Go.RowKit Go.Maps
def evN (n:Nat):Value:=.int .i64 (n:Int)
theorem qK (w:World):(zeroValue 3).run Tryz.prog w=.ok (.int .i64 0) w:=by kernel_rfl
theorem cr:(Tryz.prog.info? 34).map (·.size)=some 20:=by kernel_rfl
theorem bB {h:Hsh} (hh:okH h):(Tryz.prog.info? 34).map (·.size)=some (bv h).toArray.size:=by
 rw [xal,bvL,show h.length=20 from hh]
 kernel_rfl
theorem kx (w:World) (mb:Nat) (m:List (Hsh×Nat)) (hm:b5 hV okH evN w mb m) (ks:List Hsh) (v:Value) (hv:cT.At w w.heap.size [v] ks) :
  Calls Tryz.prog 74 #[.map (some mb),v] w fun e w'=>e=.returned (.bool (ks.all fun h=>(cg m h).isSome))∧Below w.heap.size w w':=by
 obtain ⟨A,cap,rfl,hcl,hcm,_,hA⟩:=aj hv
 have hk9:(ks.length:Int)≤9223372036854775807:=by
  simp only [maxLen] at hcm
  omega
 clear hcl hcm
 have HA:=ab hA
 have HM:=ab hm
 clear hA hm hv
 go_enter Tryz.func74,Tryz.ntmps74
 go_wp2_with fail
 go_loopw [11] (fun y wr=>∃ j:Nat,j≤ks.length∧y=.int .i64 (j:Int)∧(∀ h∈ks.take j,(cg m h).isSome=true)∧Below w.heap.size w wr) (fun y _=>ks.length-(intOf y).toNat)
 case atStart=>exact ⟨0,by omega,rfl,(fun h hh=>by simp at hh),xao _ _⟩
 case round =>
  obtain ⟨wo,rfl⟩:∃ wo,wo=wr:=⟨_,rfl⟩
  obtain ⟨j,hj,rfl,hall,hb⟩:=hrel
  have HB:=ab hb
  have HALL:=ab hall
  clear hb hall
  have j0:(0:Int)≤(j:Int):=by omega
  by_cases hj2:j<ks.length
  ·have j1:(j:Int)<(ks.length:Int):=by omega
   obtain ⟨x,hx⟩:∃ x,ks[j]?=some x:=⟨_,xai hj2⟩
   obtain ⟨b,off,rfl,hlb,hE⟩:=HA.out (by omega)
   obtain ⟨cs,hr,hatx⟩:=hE j x hx
   obtain ⟨rfl,hxo⟩:=ep.1 hatx
   have HX:=ab (xad (bX hr (HB.out.block b (by omega))) hxo)
   have hszx:(Tryz.prog.info? 34).map (·.size)=some (bv x).length:=by have:=bB hxo;simpa using this
   have hszx2:=bB hxo
   have hszz:zcH.size=(bv x).toArray.size:=by rw [show (bv x).toArray.size=20 by rw [xal,bvL];exact hxo];kernel_rfl
   have hone:(bv x).toArray.all (·.oneCell')=true:=all_oneCell_toArray (bv1 x)
   have HXX:=ab hx
   clear hx hE hr hatx hxo
   by_cases hs:(cg m x).isSome=true
   ·have HS:=ab hs
    go_wp2_with (first | ((with_reducible refine ae 13 ?_);refine aa rfl (.pointer (some ⟨b,off+(j:Int).toNat*20,none⟩)) wo (aJ 27 34 (.tmp 9) (.tmp 11) rfl b off ks.length cap (j:Int) .i64 rfl rfl ⟨j0,j1⟩ 20 Tryz.underlying27 cr wo) ?_;rw [show off+(j:Int).toNat*20=off+j*20 by omega]) | ((with_reducible refine ae 14 ?_);refine aa rfl (.agg (bv x).toArray) wo (ai 34 (.tmp 13) rfl b (off+j*20) rfl (bv x) _ wo HX.out.1 Tryz.underlying34 rfl hszx) ?_) | ((with_reducible refine ae 6 ?_);(with_reducible refine cW (o1:=⟨some 6,_,_,_,_,_⟩) (o2:=⟨none,_,_,_,_,_⟩) rfl rfl 34 (.tmp 6) (.tmp 14) ?_ zcH (bv x).toArray ?_ hszx2 ?_ hone ?_ ?_ ?_);rfl;kernel_rfl;exact hszz;rfl;rfl;intro w3 hmm hbb;have H3:=ab (xad hmm hbb);clear hmm hbb;simp only [xae,xaa,xab,xac]) | ((with_reducible refine ae 17 ?_);refine aa rfl (.agg (bv x).toArray) w3 (av 34 (.tmp 6) rfl wo.heap.size rfl 34 _ _ w3 H3.out.1 Tryz.underlying34 rfl hszx2) ?_) | ((with_reducible refine ae 18 ?_);refine aa rfl (.tuple #[((cg m x).map evN).getD (.int .i64 0),.bool (cg m x).isSome]) w3 (eJ 127 (.tmp 16) (.tmp 17) true rfl (.map (some mb)) (.agg (bv x).toArray) _ rfl rfl ((HM.out.of_eq ((H3.out.2.block mb (by have:=HM.out.lt;have:=HB.out.size;omega)).trans (HB.out.block mb HM.out.lt))).look_ok ed HX.out.2 Tryz.underlying127 (qK w3))) ?_))
    go_roundw
    case rel=>exact ⟨j+1,by omega,by go_num,(fun h hh=>by rw [xaB,HXX.out] at hh;rcases xax.1 hh with hh | hh;exact HALL.out h hh;rw [show h=x from by simpa using hh];exact HS.out),HB.out.trans (xar H3.out.2 HB.out.size)⟩
    case measure=>simp [intOf];omega
   ·have hs':(cg m x).isSome=false:=by simpa using hs
    have HS:=ab hs'
    clear hs
    go_wp2_with (first | ((with_reducible refine ae 13 ?_);refine aa rfl (.pointer (some ⟨b,off+(j:Int).toNat*20,none⟩)) wo (aJ 27 34 (.tmp 9) (.tmp 11) rfl b off ks.length cap (j:Int) .i64 rfl rfl ⟨j0,j1⟩ 20 Tryz.underlying27 cr wo) ?_;rw [show off+(j:Int).toNat*20=off+j*20 by omega]) | ((with_reducible refine ae 14 ?_);refine aa rfl (.agg (bv x).toArray) wo (ai 34 (.tmp 13) rfl b (off+j*20) rfl (bv x) _ wo HX.out.1 Tryz.underlying34 rfl hszx) ?_) | ((with_reducible refine ae 6 ?_);(with_reducible refine cW (o1:=⟨some 6,_,_,_,_,_⟩) (o2:=⟨none,_,_,_,_,_⟩) rfl rfl 34 (.tmp 6) (.tmp 14) ?_ zcH (bv x).toArray ?_ hszx2 ?_ hone ?_ ?_ ?_);rfl;kernel_rfl;exact hszz;rfl;rfl;intro w3 hmm hbb;have H3:=ab (xad hmm hbb);clear hmm hbb;simp only [xae,xaa,xab,xac]) | ((with_reducible refine ae 17 ?_);refine aa rfl (.agg (bv x).toArray) w3 (av 34 (.tmp 6) rfl wo.heap.size rfl 34 _ _ w3 H3.out.1 Tryz.underlying34 rfl hszx2) ?_) | ((with_reducible refine ae 18 ?_);refine aa rfl (.tuple #[((cg m x).map evN).getD (.int .i64 0),.bool (cg m x).isSome]) w3 (eJ 127 (.tmp 16) (.tmp 17) true rfl (.map (some mb)) (.agg (bv x).toArray) _ rfl rfl ((HM.out.of_eq ((H3.out.2.block mb (by have:=HM.out.lt;have:=HB.out.size;omega)).trans (HB.out.block mb HM.out.lt))).look_ok ed HX.out.2 Tryz.underlying127 (qK w3))) ?_))
    go_ret
    have e9:ks.all (fun h=>(cg m h).isSome)=false:=by
     rw [List.all_eq_false]
     exact ⟨x,xaj HXX.out,by rw [HS.out];decide⟩
    exact ⟨by rw [e9];rfl,HB.out.trans (xar H3.out.2 HB.out.size)⟩
  ·obtain rfl:j=ks.length:=by omega
   go_wp2_with fail
   go_ret
   have e9:ks.all (fun h=>(cg m h).isSome)=true:=by
    rw [xaO]
    exact fun h hh=>HALL.out h (by rw [xaG];exact hh)
   exact ⟨by rw [e9];rfl,HB.out⟩
def zcN:Array Value:=(xbd ByteArray.empty :: (bv (xaz 20 0)++[xbd ByteArray.empty])++(bv (xaz 20 0)++[Value.bool false])).toArray
theorem bz:(Tryz.prog.info? 87).map (·.size)=some 43:=by kernel_rfl
theorem cV {x:Nam} (h:okN x):(nC x).length=43:=by
 unfold nC iC
 rw [xaF,xak,xak,fK h.2.1,bvL,show x.2.2.1.length=20 from h.2.2]
 rfl
theorem fj (x:Nam):∀ v∈nC x,v.oneCell'=true:=by
 intro v hv
 rcases xaD.1 hv with rfl | hv
 ·rfl
 ·rcases xax.1 hv with hv | hv
  ·exact Gf _ v hv
  ·rcases xax.1 hv with hv | hv
   ·exact bv1 _ v hv
   ·rw [xan.1 hv];rfl
theorem F7 {x:Nam} (h:okN x):(Tryz.prog.info? 87).map (·.size)=some (nC x).toArray.size:=by
 rw [xal,cV h]
 kernel_rfl
theorem jq {x:Nam} {w:World} {g:Nat} (h:okN x) (hb:Blk w g 87 (nC x).toArray):w.rangeAt g 22 (bv x.2.2.1):=by
 have h1:=en hb
 have e:(nC x).toArray.toList=([.string x.1]++pC x.2.1)++(bv x.2.2.1++[.bool x.2.2.2]):=by simp [nC,iC]
 rw [e] at h1
 have h2:=da (ff h1)
 have hl:([xbd x.1]++pC x.2.1).length=22:=by rw [xak,fK h.2.1];rfl
 rwa [hl,Nat.zero_add] at h2
theorem iw {x:Nam} {w:World} {g:Nat} (h:okN x) (hb:Blk w g 87 (nC x).toArray):w.cell? ⟨g,42,none⟩=some (.bool x.2.2.2):=by
 rw [hb.cell,xa0]
 have e:nC x=([.string x.1]++pC x.2.1++bv x.2.2.1)++[.bool x.2.2.2]:=by simp [nC,iC]
 have hl:([xbd x.1]++pC x.2.1++bv x.2.2.1).length=42:=by rw [xak,xak,fK h.2.1,bvL,show x.2.2.1.length=20 from h.2.2];rfl
 rw [e,List.getElem?_append_right (by omega),hl]
 rfl
def kl (l:List Hsh):List (Hsh×Nat):=l.map fun h=>(h,1)
theorem ER {l:List Hsh} {h:Hsh} (hm:h∈l):((cg (kl l) h).map evN).getD (.int .i64 0)=.int .i64 1:=by
 cases e:cg (kl l) h with
 | none =>
  have:=kJ.1 e (h,1) (xaA.2 ⟨h,hm,rfl⟩)
  exact absurd rfl this
 | some v =>
  obtain ⟨y,_,hy⟩:=xaA.1 (uV e)
  injection hy with _ hy
  subst hy
  rfl
theorem sr {l:List Hsh} {h:Hsh} (hm:h ∉ l):cg (kl l) h=none:=kJ.2 fun p hp e=>by
 obtain ⟨y,hy,rfl⟩:=xaA.1 hp
 exact hm (e▸hy)
theorem Db {l:List Hsh} {h:Hsh} (hm:h ∉ l):((cg (kl l) h).map evN).getD (.int .i64 0)=.int .i64 0:=by rw [sr hm];rfl
theorem rF (l:List Nam) (j:Nat) (x:Nam) (hx:l[j]?=some x):aA (l.take (j+1))=if x.2.2.2=true∧x.2.2.1 ∉ aA (l.take j) then aA (l.take j)++[x.2.2.1] else aA (l.take j):=by
 rw [xaB,hx]
 unfold aA
 rw [List.foldl_append]
 rfl
theorem im (l:List Nam) (j:Nat):(aA (l.take j)).length≤j:=by
 have key:∀ (l:List Nam) (out:List Hsh),(l.foldl (fun out x=>if x.2.2.2=true∧x.2.2.1 ∉ out then out++[x.2.2.1] else out) out).length≤out.length+l.length:=by
  intro l
  induction l with
  | nil=>intro out;exact xag _
  | cons x l ih =>
   intro out
   refine xaH (ih _) ?_
   rw [xaF]
   dsimp only
   split
   ·rw [xak,xbq];omega
   ·omega
 have h:=key (l.take j) []
 rw [xaN,List.length_nil] at h
 unfold aA
 omega
theorem ql {K V:Type} {ek:K→Value} {ok:K→Prop} {ev:V→Value} {w:World} {b base n s:Nat} {m:List (K×V)} {e:TypeId} {u:Value} {xs:List Value} (h:w.ownsRow base e s u n xs) (hm:b5 ek ok ev w b m):∀ g,u.ownBlock=some g→g ≠ b:=by
 rintro g hg rfl
 obtain ⟨es,c,h1,_⟩:=hm.at_
 rcases a7 h with ⟨rfl,_⟩ | ⟨g',cap,cur,rfl,_,_,_,hb,_⟩
 ·cases hg
 ·have hg:some g'=some g:=hg
  injection hg with hg
  subst hg
  rw [show w.heap[g']?=_ from hb] at h1
  cases h1
theorem B7 {h:Hsh} {w:World} {g:Nat} (hh:okH h) (hb:Blk w g 34 (bv h).toArray):eZ w 20 (some ⟨g,0,none⟩) 1 1 (bv h):=by
 have h2:=sH hb (bv1 h)
 rwa [bvL,show h.length=20 from hh] at h2
theorem fU:(Tryz.prog.info? 34).map (fun i=>(i.zero,i.size,i.bytes))=some (some (.agg zcH),20,20):=by kernel_rfl
theorem iI (w:World) (d:Drv) (v1 v2:Value) (h:au w w.heap.size d v1 v2) (hl:d.2.1.length≤1000000) :
  Calls Tryz.prog 46 #[.agg (dC d v1 v2).toArray] w fun e w'=>∃ u,e=.returned u∧w'.ownsRow w.heap.size 34 20 u (aA d.2.1).length ((aA d.2.1).flatMap bv)∧Below w.heap.size w w':=by
 obtain ⟨A,cap,rfl,_,_,_,hA⟩:=aj h.ins
 obtain ⟨ih,hih,hq0,hq1,hq2⟩:=info_parts fU
 have HJ:=ab (xad hih (xad hq0 (xad hq1 hq2)))
 clear hih hq0 hq1 hq2
 have HA:=ab hA
 have l9:(d.2.1.length:Int)≤1000000:=by omega
 clear hA h
 have hmm:=@run_makeMap Tryz.prog
 obtain ⟨w1,hw1⟩:∃ w1,w1=w.alloc (.cells (dC d (.slice A d.2.1.length cap) v2).toArray 26):=⟨_,rfl⟩
 have hk1:Blk w1 w.heap.size 26 (dC d (.slice A d.2.1.length cap) v2).toArray:=by rw [hw1];exact Blk.new _ _ _
 have hb1:Below w.heap.size w w1:=by rw [hw1];exact (xao _ w).alloc (xag _) _
 have hz1:w1.heap.size=w.heap.size+1:=by rw [hw1,size_alloc]
 have hm1:b5 hV okH evN (w1.alloc (.map #[] 0)) (w.heap.size+1) (kl (aA (d.2.1.take 0))):=by rw [← hz1];exact m4 w1
 have HC9:=ab (show (w1.alloc (.map #[] 0)).cell? ⟨w.heap.size,1,none⟩=some (.slice A d.2.1.length cap) from ((hk1.alloc (.map #[] 0)).cell 1))
 have hb2:Below w.heap.size w (w1.alloc (.map #[] 0)):=hb1.alloc hb1.size _
 have H0:=ab (xad hm1 hb2)
 rw [hw1] at HC9 H0
 clear hk1 hb1 hm1 hb2 hz1 hw1
 go_enter Tryz.func46,Tryz.ntmps46
 go_wp2_with ((with_reducible refine ae 9 ?_);refine aa rfl (.slice A d.2.1.length cap) _ (exec_load_cell 23 (.tmp 8) rfl ⟨w.heap.size,1,none⟩ rfl _ _ _ Tryz.underlying23 rfl HC9.out) ?_)
 go_loopw [2,11] (fun x2 x11 wr=>∃ (j:Nat) (u:Value),j≤d.2.1.length∧u=x2∧x11=.int .i64 (j:Int)∧b5 hV okH evN wr (w.heap.size+1) (kl (aA (d.2.1.take j)))∧wr.ownsRow w.heap.size 34 20 u (aA (d.2.1.take j)).length ((aA (d.2.1.take j)).flatMap bv)∧Below w.heap.size w wr) (fun _ x11 _=>d.2.1.length-(intOf x11).toNat)
 case atStart=>exact ⟨0,.slice none 0 0,by omega,rfl,rfl,H0.out.1,xbg _ _ _ _,H0.out.2⟩
 case round =>
  obtain ⟨wo,rfl⟩:∃ wo,wo=wr:=⟨_,rfl⟩
  obtain ⟨j,u,hj,rfl,rfl,hmp,hown,hb⟩:=hrel
  have HI:=ab (xad hmp (xad hown hb))
  clear hmp hown hb
  have j0:(0:Int)≤(j:Int):=by omega
  by_cases hj2:j<d.2.1.length
  ·have j1:(j:Int)<(d.2.1.length:Int):=by omega
   obtain ⟨x,hx⟩:∃ x,d.2.1[j]?=some x:=⟨_,xai hj2⟩
   obtain ⟨b,off,rfl,hlb,hE⟩:=HA.out (by omega)
   obtain ⟨cs,hr,hatx⟩:=hE j x hx
   obtain ⟨rfl,hxo⟩:=bZ.1 hatx
   have HX:=ab (xad (bX hr (HI.out.2.2.block b (by omega))) hxo)
   have hszx:(Tryz.prog.info? 34).map (·.size)=some (bv x.2.2.1).length:=by have:=bB hxo.2.2;simpa using this
   have hszx2:=bB hxo.2.2
   have hszz:zcH.size=(bv x.2.2.1).toArray.size:=by rw [show (bv x.2.2.1).toArray.size=20 by rw [xal,bvL];exact hxo.2.2];kernel_rfl
   have hone:(bv x.2.2.1).toArray.all (·.oneCell')=true:=all_oneCell_toArray (bv1 x.2.2.1)
   have hszn2:=F7 hxo
   have hszn:(Tryz.prog.info? 87).map (·.size)=some (nC x).length:=by simpa using hszn2
   have hszzn:zcN.size=(nC x).toArray.size:=by rw [show (nC x).toArray.size=43 by rw [xal];exact cV hxo];kernel_rfl
   have honen:(nC x).toArray.all (·.oneCell')=true:=all_oneCell_toArray (fj x)
   have hst:=rF d.2.1 j x hx
   clear hx hE hr hatx hxo
   by_cases his:x.2.2.2=true
   ·by_cases hin:x.2.2.1∈aA (d.2.1.take j)
    ·rw [if_neg (by rw [his];simp [hin])] at hst
     have HT:=ab hst
     have hlk:=ER hin
     clear hst
     go_wp2_with (first | ((with_reducible refine ae 13 ?_);refine aa rfl (.pointer (some ⟨b,off+(j:Int).toNat*43,none⟩)) wo (aJ 23 87 (.tmp 9) (.tmp 11) rfl b off d.2.1.length cap (j:Int) .i64 rfl rfl ⟨j0,j1⟩ 43 Tryz.underlying23 bz wo) ?_;rw [show off+(j:Int).toNat*43=off+j*43 by omega]) | ((with_reducible refine ae 14 ?_);refine aa rfl (.agg (nC x).toArray) wo (ai 87 (.tmp 13) rfl b (off+j*43) rfl (nC x) _ wo HX.out.1 Tryz.underlying87 rfl hszn) ?_) | ((with_reducible refine ae 5 ?_);(with_reducible refine cW (o1:=⟨some 5,_,_,_,_,_⟩) (o2:=⟨none,_,_,_,_,_⟩) rfl rfl 87 (.tmp 5) (.tmp 14) ?_ zcN (nC x).toArray ?_ hszn2 ?_ honen ?_ ?_ ?_);rfl;kernel_rfl;exact hszzn;rfl;rfl;intro w3 hmm hbb;have H3:=ab (xad hmm hbb);clear hmm hbb;simp only [xae,xaa,xab,xac]) | ((with_reducible refine ae 17 ?_);refine aa rfl (.agg (bv x.2.2.1).toArray) w3 (ai 34 (.tmp 16) rfl wo.heap.size (22) rfl (bv x.2.2.1) _ w3 (jq HX.out.2 H3.out.1) Tryz.underlying34 rfl hszx) ?_) | ((with_reducible refine ae 6 ?_);(with_reducible refine cW (o1:=⟨some 6,_,_,_,_,_⟩) (o2:=⟨none,_,_,_,_,_⟩) rfl rfl 34 (.tmp 6) (.tmp 17) ?_ zcH (bv x.2.2.1).toArray ?_ hszx2 ?_ hone ?_ ?_ ?_);rfl;kernel_rfl;exact hszz;rfl;rfl;intro w4 hmm hbb;have H4:=ab (xad hmm hbb);clear hmm hbb;simp only [xae,xaa,xab,xac]) | ((with_reducible refine ae 20 ?_);refine aa rfl (.bool true) w4 (exec_load_cell 4 (.tmp 19) rfl ⟨wo.heap.size,42,none⟩ rfl _ _ w4 Tryz.underlying4 rfl (by have h:=iw HX.out.2 (H3.out.1.below H4.out.2 H3.out.1.lt);rwa [his] at h)) ?_) | ((with_reducible refine ae 23 ?_);refine ay (by kernel_rfl) (.agg (bv x.2.2.1).toArray) w4 (av 34 (.tmp 6) rfl w3.heap.size rfl 34 _ _ w4 H4.out.1 Tryz.underlying34 rfl hszx2) ?_) | ((with_reducible refine ae 24 ?_);refine ay (by kernel_rfl) (((cg (kl (aA (d.2.1.take j))) x.2.2.1).map evN).getD (.int .i64 0)) w4 (eJ 99 (.tmp 22) (.tmp 23) false rfl (.map (some (w.heap.size+1))) (.agg (bv x.2.2.1).toArray) _ rfl rfl ((HI.out.1.of_eq ((H4.out.2.block _ (by have:=HI.out.1.lt;have:=H3.out.2.size;omega)).trans (H3.out.2.block _ HI.out.1.lt))).look ed HX.out.2.2.2 Tryz.underlying99 (qK w4))) ?_))
     go_roundw
     case rel=>exact ⟨j+1,u,by omega,rfl,by go_num,by rw [HT.out];exact (HI.out.1.of_eq ((H4.out.2.block _ (by have:=HI.out.1.lt;have:=H3.out.2.size;omega)).trans (H3.out.2.block _ HI.out.1.lt))),by rw [HT.out];exact (ao (ao HI.out.2.1 fun g _ hl=>H3.out.2.block g hl) fun g _ hl=>H4.out.2.block g hl),HI.out.2.2.trans (xar (H3.out.2.trans (xar H4.out.2 H3.out.2.size)) HI.out.2.2.size)⟩
     case measure=>simp [intOf];omega
    ·rw [if_pos ⟨his,hin⟩] at hst
     have HT:=ab hst
     have hlk:=Db hin
     clear hst
     have hcl:=im d.2.1 j
     go_wp2_with (first | ((with_reducible refine ae 13 ?_);refine aa rfl (.pointer (some ⟨b,off+(j:Int).toNat*43,none⟩)) wo (aJ 23 87 (.tmp 9) (.tmp 11) rfl b off d.2.1.length cap (j:Int) .i64 rfl rfl ⟨j0,j1⟩ 43 Tryz.underlying23 bz wo) ?_;rw [show off+(j:Int).toNat*43=off+j*43 by omega]) | ((with_reducible refine ae 14 ?_);refine aa rfl (.agg (nC x).toArray) wo (ai 87 (.tmp 13) rfl b (off+j*43) rfl (nC x) _ wo HX.out.1 Tryz.underlying87 rfl hszn) ?_) | ((with_reducible refine ae 5 ?_);(with_reducible refine cW (o1:=⟨some 5,_,_,_,_,_⟩) (o2:=⟨none,_,_,_,_,_⟩) rfl rfl 87 (.tmp 5) (.tmp 14) ?_ zcN (nC x).toArray ?_ hszn2 ?_ honen ?_ ?_ ?_);rfl;kernel_rfl;exact hszzn;rfl;rfl;intro w3 hmm hbb;have H3:=ab (xad hmm hbb);clear hmm hbb;simp only [xae,xaa,xab,xac]) | ((with_reducible refine ae 17 ?_);refine aa rfl (.agg (bv x.2.2.1).toArray) w3 (ai 34 (.tmp 16) rfl wo.heap.size (22) rfl (bv x.2.2.1) _ w3 (jq HX.out.2 H3.out.1) Tryz.underlying34 rfl hszx) ?_) | ((with_reducible refine ae 6 ?_);(with_reducible refine cW (o1:=⟨some 6,_,_,_,_,_⟩) (o2:=⟨none,_,_,_,_,_⟩) rfl rfl 34 (.tmp 6) (.tmp 17) ?_ zcH (bv x.2.2.1).toArray ?_ hszx2 ?_ hone ?_ ?_ ?_);rfl;kernel_rfl;exact hszz;rfl;rfl;intro w4 hmm hbb;have H4:=ab (xad hmm hbb);clear hmm hbb;simp only [xae,xaa,xab,xac]) | ((with_reducible refine ae 20 ?_);refine aa rfl (.bool true) w4 (exec_load_cell 4 (.tmp 19) rfl ⟨wo.heap.size,42,none⟩ rfl _ _ w4 Tryz.underlying4 rfl (by have h:=iw HX.out.2 (H3.out.1.below H4.out.2 H3.out.1.lt);rwa [his] at h)) ?_) | ((with_reducible refine ae 23 ?_);refine ay (by kernel_rfl) (.agg (bv x.2.2.1).toArray) w4 (av 34 (.tmp 6) rfl w3.heap.size rfl 34 _ _ w4 H4.out.1 Tryz.underlying34 rfl hszx2) ?_) | ((with_reducible refine ae 24 ?_);refine ay (by kernel_rfl) (((cg (kl (aA (d.2.1.take j))) x.2.2.1).map evN).getD (.int .i64 0)) w4 (eJ 99 (.tmp 22) (.tmp 23) false rfl (.map (some (w.heap.size+1))) (.agg (bv x.2.2.1).toArray) _ rfl rfl ((HI.out.1.of_eq ((H4.out.2.block _ (by have:=HI.out.1.lt;have:=H3.out.2.size;omega)).trans (H3.out.2.block _ HI.out.1.lt))).look ed HX.out.2.2.2 Tryz.underlying99 (qK w4))) ?_) | ((with_reducible refine ae 28 ?_);refine aa rfl (.agg (bv x.2.2.1).toArray) w4 (av 34 (.tmp 6) rfl w3.heap.size rfl 34 _ _ w4 H4.out.1 Tryz.underlying34 rfl hszx2) ?_;obtain ⟨w5,r1,r2,r3⟩:=b5.update (HI.out.1.of_eq ((H4.out.2.block _ (by have:=HI.out.1.lt;have:=H3.out.2.size;omega)).trans (H3.out.2.block _ HI.out.1.lt))) ed HX.out.2.2.2 Tryz.underlying99 1;have HU:=ab (xad r1 (xad r2 r3));clear r1 r2 r3) | (refine jy rfl 99 (.tmp 27) (.tmp 28) (.const (.int .i64 1)) rfl _ _ _ rfl rfl rfl HU.out.1 ?_) | ((with_reducible refine ae 30 ?_);refine aa rfl (.agg (bv x.2.2.1).toArray) w5 (av 34 (.tmp 6) rfl w3.heap.size rfl 34 _ _ w5 ((HU.out.2.2.2.1 w3.heap.size (by have:=HI.out.1.lt;have:=H3.out.2.size;omega)).trans H4.out.1) Tryz.underlying34 rfl hszx2) ?_;obtain ⟨w6,hw6⟩:∃ w6,w6=w5.alloc (.cells (Value.agg (bv x.2.2.1).toArray).cells 34):=⟨_,rfl⟩;have hb6:Below w5.heap.size w5 w6:=(by rw [hw6];exact (xao _ w5).alloc (xag _) _);have hk6:Blk w6 w5.heap.size 34 (bv x.2.2.1).toArray:=(by rw [hw6];exact Blk.new _ _ _);have H6:=ab (xad hb6 (xad (B7 HX.out.2.2.2 hk6) (ao (ao (ao (ao HI.out.2.1 fun g _ hl=>H3.out.2.block g hl) fun g _ hl=>H4.out.2.block g hl) fun g hg _=>HU.out.2.2.2.1 g (ql (ao (ao HI.out.2.1 fun g _ hl=>H3.out.2.block g hl) fun g _ hl=>H4.out.2.block g hl) (HI.out.1.of_eq ((H4.out.2.block _ (by have:=HI.out.1.lt;have:=H3.out.2.size;omega)).trans (H3.out.2.block _ HI.out.1.lt))) g hg)) fun g _ hl=>hb6.block g hl)));have HW6:=ab hw6;clear hb6 hk6 hw6) | ((with_reducible refine ae 31 ?_);refine aa rfl (.slice (some ⟨w5.heap.size,0,none⟩) 1 1) w6 (by rw [HW6.out];exact bl (v:=.agg (bv x.2.2.1).toArray) 27 (.tmp 30) rfl rfl Tryz.underlying27 kP (by omega) (by omega) (z:=.agg zcH) (fun w=>by kernel_rfl) (by rw [xaU,xal,bvL];exact HX.out.2.2.2) w5) ?_) | (at_builtin;((with_reducible refine ae 32 ?_);refine aE rfl _ _ 27 rfl w.heap.size 34 ih _ 20 20 Tryz.underlying27 HJ.out.1 HJ.out.2.1 HJ.out.2.2.1 HJ.out.2.2.2 rfl (by decide) _ (aA (d.2.1.take j)).length ((aA (d.2.1.take j)).flatMap bv) H6.out.2.2 (some ⟨w5.heap.size,0,none⟩) 1 1 (bv x.2.2.1) H6.out.2.1 ?hm2 ?hb2 ?hz2 rfl rfl ?_)))
     case hm2=>simp only [maxLen];omega
     case hb2=>omega
     case hz2=>have:=HI.out.2.2.size;have:=H3.out.2.size;have:=H4.out.2.size;have:=HU.out.2.2.1;have:=H6.out.1.size;omega
     intro u2 w7 own7 gr7 _
     have hmp7:b5 hV okH evN w7 (w.heap.size+1) (kl (aA (d.2.1.take j)++[x.2.2.1])):=by
      have h1:=HU.out.2.1
      rw [p5 (sr hin)] at h1
      have h2:b5 hV okH evN w7 (w.heap.size+1) (kl (aA (d.2.1.take j))++[(x.2.2.1,1)]):=h1.of_eq ((gr7.block _ (by have:=h1.lt;have:=H6.out.1.size;omega) (fun e=>ql H6.out.2.2 (h1.below H6.out.1 h1.lt) _ e.symm rfl)).trans (H6.out.1.block _ h1.lt))
      simpa [kl] using h2
     have hb7:Below w.heap.size w w7:=by
      have h4:=HI.out.2.2.trans (xar (H3.out.2.trans (xar H4.out.2 H3.out.2.size)) HI.out.2.2.size)
      have h5:Below w.heap.size w w5:=h4.grown HU.out.2.2.grown h4.size (fun b hb=>by injection hb with hb;omega)
      exact Below.B5 (h5.trans (xar H6.out.1 h5.size)) H6.out.2.2 (xag _) gr7
     have hown7:w7.ownsRow w.heap.size 34 20 u2 (aA (d.2.1.take j)++[x.2.2.1]).length ((aA (d.2.1.take j)++[x.2.2.1]).flatMap bv):=by rw [xak,List.flatMap_append,List.flatMap_singleton];exact own7
     have H7:=ab (xad hmp7 (xad hown7 hb7))
     clear hmp7 hown7 hb7 own7 gr7
     go_wp2_with fail
     go_roundw
     case rel=>exact ⟨j+1,u2,by omega,rfl,by go_num,by rw [HT.out];exact H7.out.1,by rw [HT.out];exact H7.out.2.1,H7.out.2.2⟩
     case measure=>simp [intOf];omega
   ·have his':x.2.2.2=false:=by simpa using his
    rw [if_neg (by rw [his'];simp)] at hst
    have HT:=ab hst
    clear hst his
    go_wp2_with (first | ((with_reducible refine ae 13 ?_);refine aa rfl (.pointer (some ⟨b,off+(j:Int).toNat*43,none⟩)) wo (aJ 23 87 (.tmp 9) (.tmp 11) rfl b off d.2.1.length cap (j:Int) .i64 rfl rfl ⟨j0,j1⟩ 43 Tryz.underlying23 bz wo) ?_;rw [show off+(j:Int).toNat*43=off+j*43 by omega]) | ((with_reducible refine ae 14 ?_);refine aa rfl (.agg (nC x).toArray) wo (ai 87 (.tmp 13) rfl b (off+j*43) rfl (nC x) _ wo HX.out.1 Tryz.underlying87 rfl hszn) ?_) | ((with_reducible refine ae 5 ?_);(with_reducible refine cW (o1:=⟨some 5,_,_,_,_,_⟩) (o2:=⟨none,_,_,_,_,_⟩) rfl rfl 87 (.tmp 5) (.tmp 14) ?_ zcN (nC x).toArray ?_ hszn2 ?_ honen ?_ ?_ ?_);rfl;kernel_rfl;exact hszzn;rfl;rfl;intro w3 hmm hbb;have H3:=ab (xad hmm hbb);clear hmm hbb;simp only [xae,xaa,xab,xac]) | ((with_reducible refine ae 17 ?_);refine aa rfl (.agg (bv x.2.2.1).toArray) w3 (ai 34 (.tmp 16) rfl wo.heap.size (22) rfl (bv x.2.2.1) _ w3 (jq HX.out.2 H3.out.1) Tryz.underlying34 rfl hszx) ?_) | ((with_reducible refine ae 6 ?_);(with_reducible refine cW (o1:=⟨some 6,_,_,_,_,_⟩) (o2:=⟨none,_,_,_,_,_⟩) rfl rfl 34 (.tmp 6) (.tmp 17) ?_ zcH (bv x.2.2.1).toArray ?_ hszx2 ?_ hone ?_ ?_ ?_);rfl;kernel_rfl;exact hszz;rfl;rfl;intro w4 hmm hbb;have H4:=ab (xad hmm hbb);clear hmm hbb;simp only [xae,xaa,xab,xac]) | ((with_reducible refine ae 20 ?_);refine aa rfl (.bool false) w4 (exec_load_cell 4 (.tmp 19) rfl ⟨wo.heap.size,42,none⟩ rfl _ _ w4 Tryz.underlying4 rfl (by have h:=iw HX.out.2 (H3.out.1.below H4.out.2 H3.out.1.lt);rwa [his'] at h)) ?_))
    go_roundw
    case rel=>exact ⟨j+1,u,by omega,rfl,by go_num,by rw [HT.out];exact (HI.out.1.of_eq ((H4.out.2.block _ (by have:=HI.out.1.lt;have:=H3.out.2.size;omega)).trans (H3.out.2.block _ HI.out.1.lt))),by rw [HT.out];exact (ao (ao HI.out.2.1 fun g _ hl=>H3.out.2.block g hl) fun g _ hl=>H4.out.2.block g hl),HI.out.2.2.trans (xar (H3.out.2.trans (xar H4.out.2 H3.out.2.size)) HI.out.2.2.size)⟩
    case measure=>simp [intOf];omega
  ·obtain rfl:j=d.2.1.length:=by omega
   have hown:=HI.out.2.1
   rw [xaG] at hown
   have HO:=ab hown
   clear hown
   go_wp2_with fail
   go_ret
   exact ⟨_,rfl,HO.out,HI.out.2.2⟩
end Go.Proofs.YtomnhnmciopiiaaGreat
end
section
namespace Go.Proofs.YtomnhnmciopiiaaGreat
open Go Go.RowKit Go.Maps
theorem tf (s:ByteArray) (c:Int) (w:World) :
  Calls Tryz.prog 219 #[.string s,.int .u8 c] w fun e w'=>e=.returned (.int .i64 (xcG s.data.toList c.toNat.toUInt8))∧w'=w:=by
 go_enter Tryz.func219,Tryz.ntmps219
 go_wp2
 rw [run_callFunc_extern Tryz.func220 (by kernel_rfl) (by kernel_rfl) (by kernel_rfl) (e:=Extern.BytealgIndexByte.indexByte) (by kernel_rfl),Lib.run_indexByteString]
 simp only [xbB]
 rw [Oper.upon_value]
 go_wp2
 go_ret
 exact ⟨rfl,rfl⟩
theorem zu (s:ByteArray) (c:Int) (w:World) :
  Calls Tryz.prog 214 #[.string s,.int .u8 c] w fun e w'=>e=.returned (.int .i64 (xcG s.data.toList c.toNat.toUInt8))∧w'=w:=by
 go_enter Tryz.func214,Tryz.ntmps214
 go_wp2_with (go_at_call 219;refine (tf _ _ _).mono ?_;rintro e w' ⟨rfl,rfl⟩)
 go_ret
 exact ⟨rfl,rfl⟩
def jx (c:Int):Bool:=decide (c<128)&&(decide (65≤c)&&decide (97≤bits BinOp.or IntKind.i32 c 32)&&decide (bits BinOp.or IntKind.i32 c 32≤122)||decide (48≤c)&&decide (c≤57)||decide (0≤xcG [46,95,43,45] c.toNat.toUInt8))
theorem Dd (c:Int) (hc:0≤c) (w:World):Calls Tryz.prog 202 #[.int .i32 c] w fun e w'=>e=.returned (.bool (jx c))∧w'=w:=by
 by_cases h8:c<128
 ·obtain ⟨q,hq⟩:∃ q,q=jx c:=⟨_,rfl⟩
  rw [← hq]
  unfold jx at hq
  rw [decide_eq_true h8,xa8] at hq
  have HQ:=ab hq
  clear hq
  go_enter Tryz.func202,Tryz.ntmps202
  go_wp2_with (go_at_call 214;refine (zu _ _ _).mono ?_;rintro e w' ⟨rfl,rfl⟩)
  all_goals (go_ret;refine ⟨?_,rfl⟩;rw [HQ.out];simp_all<;>(first | done | omega | (rw [show decide (c≤57)=false from decide_eq_false (by omega)];simp;try (intros;exfalso;omega))))
 ·have e:jx c=false:=by unfold jx;rw [decide_eq_false h8];rfl
  rw [e]
  go_enter Tryz.func202,Tryz.ntmps202
  go_wp2_with fail
  go_ret
  exact ⟨rfl,rfl⟩
def fh (s:ByteArray):Nat→Nat→Bool
 | 0,_=>true
 | f+1,pos=>if pos<s.size then jx ((xbL s pos).1:Int)&&fh s f (pos+(xbL s pos).2) else true
theorem nR (s:ByteArray) (fuel pos:Nat) (h:¬ pos<s.size):fh s fuel pos=true:=by
 cases fuel with
 | zero=>rfl
 | succ f=>simp [fh,h]
theorem AR (s:ByteArray) (pos:Nat) (h:pos<s.size):1≤(xbL s pos).2:=by
 by_cases ha:(s[pos]'h).toNat<128
 ·rw [decode_ascii s pos h ha]
  exact xag _
 ·exact (decode_high s pos h (by omega)).2
def gJ (s:ByteArray):Bool:=!s.toList.isEmpty&&(decide ((s.size:Int)≤24)&&(if h:0<s.size then ((s[0].toNat:Int) != 46) else false))
def cy (s:ByteArray):Bool:=fh s s.size 0&&gJ s
theorem mu (s:ByteArray) (hs:s.size≤maxLen) (w:World):Calls Tryz.prog 180 #[.string s] w fun e w'=>e=.returned (.bool (cy s))∧Below w.heap.size w w':=by
 have hs9:s.size≤9223372036854775807:=by simp only [maxLen] at hs;omega
 go_enter Tryz.func180,Tryz.ntmps180
 go_wp2_with fail
 go_loopw [] (fun wr=>∃ (pos fuel:Nat),wr.heap[w.heap.size]?=some (.stringIter s pos)∧Below w.heap.size w wr∧fh s s.size 0=fh s fuel pos∧s.size≤pos+fuel) (fun wr=>s.size-wr.iterPos w.heap.size)
 case atStart =>
  refine ⟨0,s.size,?_,(xao _ w).alloc (xag _) _,rfl,by omega⟩
  have:=World.iter_heap w s 0
  simpa using this
 case round =>
  obtain ⟨pos,fuel,hit,hbw,hok,hfu⟩:=hrel
  have hsz:w.heap.size<wr.heap.size:=(xa2.1 hit).1
  by_cases hp:pos<s.size
  ·have hnx:∀ ty,(Instr.next (.pointer (some ⟨w.heap.size,0,none⟩)) true ty).run Tryz.prog wr=_:=fun ty=>Lib.run_next_any_at wr w.heap.size s pos ty hit hp
   have hwd:=AR s pos hp
   have hd1:=decode_le s pos
   have hit2:=Lib.iterAt_heap wr w.heap.size s pos (pos+(xbL s pos).2) hit
   have hbw2:=Lib.below_iterAt hbw (k:=w.heap.size) (by omega) s (pos+(xbL s pos).2)
   obtain ⟨f,rfl⟩:∃ f,fuel=f+1:=⟨fuel-1,by omega⟩
   have hst:fh s (f+1) pos=(jx ((xbL s pos).1:Int)&&fh s f (pos+(xbL s pos).2)):=by rw [fh,if_pos hp]
   rw [hst] at hok
   have HOK:=ab hok
   have HB2:=ab hbw2
   clear hok hst hbw2
   obtain ⟨wn,hwn⟩:∃ wn,wn=wr.iterAt w.heap.size s (pos+(xbL s pos).2):=⟨_,rfl⟩
   have HWN:=ab hwn
   go_wp2_with fail
   rw [← HWN.out]
   refine (Dd ((xbL s pos).1:Int) (by omega) wn).mono ?_
   rintro e w' ⟨rfl,rfl⟩
   dsimp only
   rw [hwn]
   by_cases hsg:jx ((xbL s pos).1:Int)=true
   ·have hok2:=HOK.out
    rw [hsg,xa8] at hok2
    have HO2:=ab hok2
    clear hok2 hwn HWN
    go_wp2_with fail
    go_roundw
    case rel=>exact ⟨pos+(xbL s pos).2,f,hit2,HB2.out,HO2.out,by omega⟩
    case measure =>
     simp only [World.iterPos,hit2,hit]
     omega
   ·have hsg':jx ((xbL s pos).1:Int)=false:=by simpa using hsg
    have hnm:cy s=false:=by unfold cy;rw [HOK.out,hsg'];rfl
    have HNM:=ab hnm
    clear hnm hwn HWN
    go_wp2_with fail
    go_ret
    exact ⟨by rw [HNM.out];rfl,HB2.out⟩
  ·have hnx:∀ ty,(Instr.next (.pointer (some ⟨w.heap.size,0,none⟩)) true ty).run Tryz.prog wr=_:=fun ty=>Lib.run_next_end_at wr w.heap.size s pos ty hit hp
   rw [nR s fuel pos hp] at hok
   have hnm:cy s=gJ s:=by unfold cy;rw [hok];rfl
   have HNM:=ab hnm
   have HBW:=ab hbw
   clear hnm hok hbw
   by_cases h0:s=⟨#[]⟩
   ·subst h0
    have e0:gJ ⟨#[]⟩=false:=by kernel_rfl
    rw [e0] at HNM
    go_wp2_with fail
    go_ret
    exact ⟨by rw [HNM.out];rfl,HBW.out⟩
   ·have h1:0<s.size:=by
     rcases Nat.eq_zero_or_pos s.size with h | h
     ·exact absurd (by cases s with | mk a=>simp [ByteArray.size] at h;rw [h]) h0
     ·exact h
    cases hem:s.toList.isEmpty with
    | true =>
     have e:gJ s=false:=by unfold gJ;rw [hem];rfl
     rw [e] at HNM
     go_wp2_with fail
     go_ret
     exact ⟨by rw [HNM.out];rfl,HBW.out⟩
    | false =>
     by_cases h24:(s.size:Int)≤24
     ·have e:gJ s=((s[0].toNat:Int) != 46):=by unfold gJ;rw [hem,decide_eq_true h24,dif_pos h1];rfl
      rw [e] at HNM
      go_wp2_with fail
      go_ret
      exact ⟨by rw [HNM.out];rfl,HBW.out⟩
     ·have e:gJ s=false:=by unfold gJ;rw [hem,decide_eq_false h24];rfl
      rw [e] at HNM
      go_wp2_with fail
      go_ret
      exact ⟨by rw [HNM.out];rfl,HBW.out⟩
end Go.Proofs.YtomnhnmciopiiaaGreat
end
section
namespace Go.Proofs.YtomnhnmciopiiaaGreat
open Go Go.RowKit Go.Maps
theorem gi {x:Nam} {w:World} {g:Nat} (hb:Blk w g 87 (nC x).toArray):w.cell? ⟨g,0,none⟩=some (.string x.1):=by
 rw [hb.cell,xa0]
 rfl
theorem m9 {x:Nam} {w:World} {g:Nat} (hb:Blk w g 87 (nC x).toArray):w.rangeAt g 1 (pC x.2.1):=by
 have h1:=en hb
 have e:(nC x).toArray.toList=[.string x.1]++(pC x.2.1++(bv x.2.2.1++[.bool x.2.2.2])):=by simp [nC,iC]
 rw [e] at h1
 exact da (ff h1)
theorem uZ {x:Nam} {w:World} {g:Nat} (hx:okN x) (hb:Blk w g 87 (nC x).toArray):w.cell? ⟨g,21,none⟩=some (.string x.2.1.2):=by
 have h:=m9 hb
 refine h 20 _ ?_
 unfold pC
 rw [List.getElem?_append_right (by rw [bvL];exact Nat.le_of_eq hx.2.1.1),bvL,show x.2.1.1.length=20 from hx.2.1.1]
 rfl
def aW:Hsh:=xaz 20 0
def ft:Pth:=(aW,⟨#[]⟩)
theorem aX:okH aW:=rfl
theorem iE:okP ft:=⟨rfl,Nat.zero_le _⟩
def jC (x:Nam) (b:ByteArray):Bool:=cy x.1&&(!xb1 x.1.toList b.toList&&!(x.1.toList == b.toList))&&(if x.2.2.2=true then decide (x.2.1=ft) else cy x.2.1.2&&decide (x.2.2.1=aW))
theorem DO (w:World) (x:Nam) (hx:okN x) (b:ByteArray) :
  Calls Tryz.prog 179 #[.agg (nC x).toArray,.string b] w fun e w'=>e=.returned (.bool (jC x b))∧Below w.heap.size w w':=by
 obtain ⟨w1,hw1⟩:∃ w1,w1=w.alloc (.cells (nC x).toArray 87):=⟨_,rfl⟩
 have hk1:Blk w1 w.heap.size 87 (nC x).toArray:=by rw [hw1];exact Blk.new _ _ _
 have hb1:Below w.heap.size w w1:=by rw [hw1];exact (xao _ w).alloc (xag _) _
 have H1:=ab (xad hk1 hb1)
 have HW:=ab hw1
 have c1:=gi hk1
 clear hk1 hb1 hw1
 go_enter Tryz.func179,Tryz.ntmps179
 go_wp2_with ((with_reducible refine ae 2 ?_);refine aa rfl (.pointer (some ⟨w.heap.size,0,none⟩)) w1 (by rw [HW.out];kernel_rfl) ?_)
 refine (mu x.1 hx.1 w1).mono ?_
 rintro e w2 ⟨rfl,hb⟩
 have H2:=ab (H1.out.1.below hb H1.out.1.lt)
 have HB:=ab (H1.out.2.trans (xar hb H1.out.2.size))
 have c2:=gi H2.out
 clear hb c1
 dsimp only
 by_cases hn:cy x.1=true
 ·rw [hn]
  cases h1:xb1 x.1.toList b.toList with
  | true =>
   have hcn:jC x b=false:=by unfold jC;simp [h1]
   have HC:=ab hcn
   clear hcn
   go_wp2_with fail
   go_ret
   exact ⟨by rw [HC.out];rfl,HB.out⟩
  | false =>
   cases h2:(x.1.toList == b.toList) with
   | true =>
    have hcn:jC x b=false:=by unfold jC;simp [h2]
    have HC:=ab hcn
    clear hcn
    go_wp2_with fail
    go_ret
    exact ⟨by rw [HC.out];rfl,HB.out⟩
   | false =>
    by_cases his:x.2.2.2=true
    ·have hcn:jC x b=decide (x.2.1=ft):=by unfold jC;rw [hn,h1,h2,if_pos his];rfl
     have c42:w2.cell? ⟨w.heap.size,42,none⟩=some (.bool true):=by have h:=iw hx H2.out;rwa [his] at h
     have HC:=ab hcn
     clear hcn
     go_wp2_with (first | ((with_reducible refine ae 20 ?_);refine aa rfl (.agg (pC x.2.1).toArray) w2 (ai 83 (.tmp 19) rfl w.heap.size (1) rfl (pC x.2.1) _ w2 (m9 H2.out) Tryz.underlying83 rfl (by have:=psz hx.2.1;simpa using this)) ?_) | ((with_reducible refine ae 21 ?_);refine aa rfl (.agg (pC ft).toArray) w2 (by kernel_rfl) ?_) | ((with_reducible refine ae 22 ?_);refine aa rfl (.bool (decide (x.2.1=ft))) w2 (dz .eql 83 (.tmp 20) (.tmp 21) _ rfl (pC x.2.1).toArray (pC ft).toArray rfl rfl (by kernel_rfl) _ (fun W=>ue x.2.1 ft hx.2.1 iE W) w2) ?_))
     go_ret
     exact ⟨by rw [HC.out];rfl,HB.out⟩
    ·have his':x.2.2.2=false:=by simpa using his
     have hcn:jC x b=(cy x.2.1.2&&decide (x.2.2.1=aW)):=by unfold jC;rw [hn,h1,h2,if_neg his];rfl
     have c42:w2.cell? ⟨w.heap.size,42,none⟩=some (.bool false):=by have h:=iw hx H2.out;rwa [his'] at h
     have c21:w2.cell? ⟨w.heap.size,21,none⟩=some (.string x.2.1.2):=uZ hx H2.out
     go_wp2_with fail
     refine (mu x.2.1.2 hx.2.1.2 w2).mono ?_
     rintro e w3 ⟨rfl,hb⟩
     have H3:=ab (H2.out.below hb H2.out.lt)
     have HB3:=ab (HB.out.trans (xar hb HB.out.size))
     clear hb
     dsimp only
     by_cases hn2:cy x.2.1.2=true
     ·rw [hn2,xa8] at hcn
      rw [hn2]
      have HC:=ab hcn
      clear hcn
      go_wp2_with (first | ((with_reducible refine ae 31 ?_);refine ay (by kernel_rfl) (.agg (bv x.2.2.1).toArray) w3 (ai 34 (.tmp 30) rfl w.heap.size (22) rfl (bv x.2.2.1) _ w3 (jq hx H3.out) Tryz.underlying34 rfl (by have:=bB hx.2.2;simpa using this)) ?_) | ((with_reducible refine ae 32 ?_);refine ay (by kernel_rfl) (.agg (bv aW).toArray) w3 (by kernel_rfl) ?_) | ((with_reducible refine ae 33 ?_);refine ay (by kernel_rfl) (.bool (decide (x.2.2.1=aW))) w3 (dz .eql 34 (.tmp 31) (.tmp 32) _ rfl (bv x.2.2.1).toArray (bv aW).toArray rfl rfl (by kernel_rfl) _ (fun W=>jW x.2.2.1 aW hx.2.2 aX W) w3) ?_))
      go_ret
      exact ⟨by rw [HC.out];rfl,HB3.out⟩
     ·have hn2':cy x.2.1.2=false:=by simpa using hn2
      rw [hn2',xbc] at hcn
      rw [hn2']
      have HC:=ab hcn
      clear hcn
      go_wp2_with fail
      go_ret
      exact ⟨by rw [HC.out];rfl,HB3.out⟩
 ·have hn':cy x.1=false:=by simpa using hn
  rw [hn']
  have hcn:jC x b=false:=by unfold jC;simp [hn']
  have HC:=ab hcn
  clear hcn
  go_wp2_with fail
  go_ret
  exact ⟨by rw [HC.out];rfl,HB.out⟩
end Go.Proofs.YtomnhnmciopiiaaGreat
end
section
namespace Go.Proofs.YtomnhnmciopiiaaGreat
open Go Go.RowKit Go.Maps
def fC:List Nam→ByteArray→Bool
 | [],_=>true
 | x :: l,b=>jC x b&&fC l x.1
theorem ui (l:List Nam) (j:Nat) (x:Nam) (hx:l[j]?=some x) (b:ByteArray):fC (l.drop j) b=(jC x b&&fC (l.drop (j+1)) x.1):=by
 have hj:=(xah.1 hx)
 rw [List.drop_eq_getElem_cons hj.1,hj.2]
 rfl
def jV (d:Drv):Bool:=fC d.2.1 ⟨#[]⟩&&(cy d.1&&(decide ((d.2.1.length:Int)≤8)&&decide ((d.2.2.length:Int)≤1000)))
theorem Dy (w:World) (d:Drv) (v1 v2:Value) (h:au w w.heap.size d v1 v2) :
  Calls Tryz.prog 159 #[.agg (dC d v1 v2).toArray] w fun e w'=>e=.returned (.bool (jV d))∧Below w.heap.size w w':=by
 have hnm:=h.name
 obtain ⟨A,cap,rfl,hcl,hcm,_,hA⟩:=aj h.ins
 obtain ⟨A2,cap2,rfl,hcl2,hcm2,_,_⟩:=aj h.rcp
 have l9:(d.2.1.length:Int)≤9223372036854775807:=by simp only [maxLen] at hcm;omega
 have k9:(d.2.2.length:Int)≤9223372036854775807:=by simp only [maxLen] at hcm2;omega
 obtain ⟨w1,hw1⟩:∃ w1,w1=w.alloc (.cells (dC d (.slice A d.2.1.length cap) (.slice A2 d.2.2.length cap2)).toArray 26):=⟨_,rfl⟩
 have hk1:Blk w1 w.heap.size 26 (dC d (.slice A d.2.1.length cap) (.slice A2 d.2.2.length cap2)).toArray:=by rw [hw1];exact Blk.new _ _ _
 have hb1:Below w.heap.size w w1:=by rw [hw1];exact (xao _ w).alloc (xag _) _
 have hz1:w1.heap.size=w.heap.size+1:=by rw [hw1,size_alloc]
 have c1:w1.cell? ⟨w.heap.size,1,none⟩=some (.slice A d.2.1.length cap):=hk1.cell 1
 have HC:=ab (xad (show w1.cell? ⟨w.heap.size,0,none⟩=some (.string d.1) from hk1.cell 0) (xad c1 (show w1.cell? ⟨w.heap.size,2,none⟩=some (.slice A2 d.2.2.length cap2) from hk1.cell 2)))
 have HB1:=ab hb1
 have HZ:=ab hz1
 have HW:=ab hw1
 have HA:=ab hA
 clear hk1 hb1 hz1 hw1 hA h hcl hcm hcl2 hcm2
 go_enter Tryz.func159,Tryz.ntmps159
 go_wp2_with ((with_reducible refine ae 1 ?_);refine aa rfl (.pointer (some ⟨w.heap.size,0,none⟩)) w1 (by rw [HW.out];kernel_rfl) ?_)
 go_loopw [3,9] (fun x3 x9 wr=>∃ (j:Nat) (bj:ByteArray),j≤d.2.1.length∧x3=.string bj∧x9=.int .i64 (j:Int)∧fC d.2.1 ⟨#[]⟩=fC (d.2.1.drop j) bj∧Below w1.heap.size w1 wr) (fun _ x9 _=>d.2.1.length-(intOf x9).toNat)
 case atStart=>exact ⟨0,⟨#[]⟩,by omega,rfl,rfl,rfl,xao _ _⟩
 case round =>
  obtain ⟨wo,rfl⟩:∃ wo,wo=wr:=⟨_,rfl⟩
  obtain ⟨j,bj,hj,rfl,rfl,hok,hb⟩:=hrel
  have HI:=ab (xad trivial hb)
  clear hb
  have j0:(0:Int)≤(j:Int):=by omega
  by_cases hj2:j<d.2.1.length
  ·have j1:(j:Int)<(d.2.1.length:Int):=by omega
   obtain ⟨x,hx⟩:∃ x,d.2.1[j]?=some x:=⟨_,xai hj2⟩
   obtain ⟨b,off,rfl,hlb,hE⟩:=HA.out (by omega)
   obtain ⟨cs,hr,hatx⟩:=hE j x hx
   obtain ⟨rfl,hxo⟩:=bZ.1 hatx
   have HX:=ab (xad (bX hr ((HI.out.2.block b (by have:=HZ.out;omega)).trans (HB1.out.block b (by omega)))) hxo)
   have hszn2:=F7 hxo
   have hszn:(Tryz.prog.info? 87).map (·.size)=some (nC x).length:=by simpa using hszn2
   have hszzn:zcN.size=(nC x).toArray.size:=by rw [show (nC x).toArray.size=43 by rw [xal];exact cV hxo];kernel_rfl
   have honen:(nC x).toArray.all (·.oneCell')=true:=all_oneCell_toArray (fj x)
   have hst:=ui d.2.1 j x hx bj
   rw [hst] at hok
   have HOK:=ab hok
   clear hx hE hr hatx hxo hst hok
   go_wp2_with (first | ((with_reducible refine ae 11 ?_);refine aa rfl (.pointer (some ⟨b,off+(j:Int).toNat*43,none⟩)) wo (aJ 23 87 (.tmp 7) (.tmp 9) rfl b off d.2.1.length cap (j:Int) .i64 rfl rfl ⟨j0,j1⟩ 43 Tryz.underlying23 bz wo) ?_;rw [show off+(j:Int).toNat*43=off+j*43 by omega]) | ((with_reducible refine ae 12 ?_);refine aa rfl (.agg (nC x).toArray) wo (ai 87 (.tmp 11) rfl b (off+j*43) rfl (nC x) _ wo HX.out.1 Tryz.underlying87 rfl hszn) ?_) | ((with_reducible refine ae 5 ?_);(with_reducible refine cW (o1:=⟨some 5,_,_,_,_,_⟩) (o2:=⟨none,_,_,_,_,_⟩) rfl rfl 87 (.tmp 5) (.tmp 12) ?_ zcN (nC x).toArray ?_ hszn2 ?_ honen ?_ ?_ ?_);rfl;kernel_rfl;exact hszzn;rfl;rfl;intro w3 hmm hbb;have H3:=ab (xad hmm hbb);clear hmm hbb;simp only [xae,xaa,xab,xac]) | ((with_reducible refine ae 13 ?_);refine aa rfl (.agg (nC x).toArray) w3 (av 87 (.tmp 5) rfl wo.heap.size rfl 87 _ _ w3 H3.out.1 Tryz.underlying87 rfl hszn2) ?_))
   refine (DO w3 x HX.out.2 bj).mono ?_
   rintro e w4 ⟨rfl,hb⟩
   have H4:=ab (H3.out.1.below hb H3.out.1.lt)
   have HB4:=ab (HI.out.2.trans (xar (H3.out.2.trans (xar hb H3.out.2.size)) HI.out.2.size))
   clear hb
   dsimp only
   by_cases hc:jC x bj=true
   ·have hok:=HOK.out
    rw [hc,xa8] at hok
    have HO:=ab hok
    rw [hc]
    have c4:=gi H4.out
    clear hok
    go_wp2_with fail
    go_roundw
    case rel=>exact ⟨j+1,x.1,by omega,rfl,by go_num,HO.out,HB4.out⟩
    case measure=>simp [intOf];omega
   ·have hc':jC x bj=false:=by simpa using hc
    have e9:jV d=false:=by unfold jV;rw [HOK.out,hc'];rfl
    have HE:=ab e9
    rw [hc']
    clear e9
    go_wp2_with fail
    go_ret
    exact ⟨by rw [HE.out];rfl,HB1.out.trans (xar HB4.out HB1.out.size)⟩
  ·obtain rfl:j=d.2.1.length:=by omega
   rw [List.drop_length] at hok
   have e9:jV d=(cy d.1&&(decide ((d.2.1.length:Int)≤8)&&decide ((d.2.2.length:Int)≤1000))):=by unfold jV;rw [hok];rfl
   have HE:=ab e9
   clear e9 hok
   have c0:wo.cell? ⟨w.heap.size,0,none⟩=some (.string d.1):=(xaV (HI.out.2.block w.heap.size (by have:=HZ.out;omega))).trans HC.out.1
   go_wp2_with fail
   refine (mu d.1 hnm wo).mono ?_
   rintro e w5 ⟨rfl,hb⟩
   have HB5:=ab (HI.out.2.trans (xar hb HI.out.2.size))
   clear hb c0
   dsimp only
   have c1:w5.cell? ⟨w.heap.size,1,none⟩=some (.slice A d.2.1.length cap):=(xaV (HB5.out.block w.heap.size (by have:=HZ.out;omega))).trans HC.out.2.1
   have c2:w5.cell? ⟨w.heap.size,2,none⟩=some (.slice A2 d.2.2.length cap2):=(xaV (HB5.out.block w.heap.size (by have:=HZ.out;omega))).trans HC.out.2.2
   have HF:=ab (HB1.out.trans (xar HB5.out HB1.out.size))
   by_cases hn:cy d.1=true
   ·rw [hn]
    by_cases h8:(d.2.1.length:Int)≤8
    ·by_cases h10:(d.2.2.length:Int)≤1000
     ·rw [hn,decide_eq_true h8,decide_eq_true h10] at HE
      go_wp2_with fail
      go_ret
      exact ⟨by rw [HE.out];rfl,HF.out⟩
     ·rw [hn,decide_eq_true h8,decide_eq_false h10] at HE
      go_wp2_with fail
      go_ret
      exact ⟨by rw [HE.out];rfl,HF.out⟩
    ·rw [hn,decide_eq_false h8] at HE
     go_wp2_with fail
     go_ret
     exact ⟨by rw [HE.out];rfl,HF.out⟩
   ·have hn':cy d.1=false:=by simpa using hn
    rw [hn'] at HE ⊢
    go_wp2_with fail
    go_ret
    exact ⟨by rw [HE.out];rfl,HF.out⟩
end Go.Proofs.YtomnhnmciopiiaaGreat
end
