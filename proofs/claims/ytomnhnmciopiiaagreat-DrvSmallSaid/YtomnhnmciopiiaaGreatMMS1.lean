/- Part 1 of the texts of one proof. -/
import Derived.WalkKit
import Derived.WalkSpells
import Derived.WalkLawsBesides
import Derived.Below
import Derived.Laws.OwnMore
import Derived.Deep.Draws
import Derived.Laws.Rows
import Derived.Laws.CopyOwn
import Derived.Deep.WholeRow
import Derived.Deep.MidRow
import Derived.Maps.AppendAt
import Derived.Laws.AppendOwnNone
import Derived.RegionTactic
import Derived.OwnWalk
import Derived.Deep.OwnRows
import Derived.ProofKit
import Derived.OpenShut
import Derived.ChangeSame
import Derived.Carry
import Derived.SizedLaws
import Derived.ChangeSlices
import Derived.Deep.Matrix
import Derived.ChangeMaps5
import Derived.Maps.Keyed
import Derived.Maps.OwnSet
import Derived.DeepKeys4
import Derived.Deep.RegionLaw
import Derived.StillTail
import Derived.Deep.Quiet
import Derived.BigQuiet
import Derived.Laws.Tables
import Derived.Stop.BytesEq
import Derived.Lib.Strings
import Derived.Lib.Walk
import Derived.Lib.Bytealg
import Derived.Lib.OthersKept
import Derived.Lib.Builder
import Derived.Laws.Externs
import Derived.Shelf.Strings.Builder1
import Derived.Shelf.Strings.OnBuilder
import Derived.Test.YtomnhnmciopiiaaGreatProg
import Derived.Lib.EndianBits
import Derived.Laws.BitsLemmas
import Derived.Laws.Strings
import Derived.Lib.Join
import Derived.Laws.IdiomStrings
import Derived.RangeFuncNested
import Derived.RangeFuncBound
import Derived.RangeFuncCalls
import Derived.RangeFuncLeaves
import Derived.Shelf.Abstract
import Derived.OwnWalkIn
import Derived.TacticsInMore
import Derived.LoopNIn
import Derived.LoopIn
import Derived.RegionIn
import Derived.Shelf.RegionOpen
import Derived.WalkMore
import Derived.OrdersHeld
import Derived.Recover
import Derived.Laws.Pointers
import Derived.Laws.BitsAllLaws
import Derived.Laws.World
import GoSem.Core.Value
import Derived.Deep.RegionHeld3
import Derived.Deep.QuietTactic
import Derived.Lib.SlBytesConst
import Derived.Lib.AppendStr
import Derived.Shelf.SlSortCmp.WholeK
import Derived.Ground.SlsfProg
import Derived.Lib.BytesEntry
import Derived.Shelf.SlSortCmp.NoneTotal
import Derived.Test.YtomnhnmciopiiaaGreatRows
set_option maxRecDepth 100000
set_option linter.unusedVariables false
set_option linter.unusedSimpArgs false
set_option maxHeartbeats 40000000
open Array renaming getElem?_eq_getElem → xa5, getElem?_toList → xaM, length_toList → xbh, toList_modify → xcn
open Go.RowKit.Below renaming refl → xaq
open Bool renaming and_eq_true → xaG
open Go.Instr renaming fill → xbL, loadAt → xcu, lookup → xbG, mapUpdate → xbX, sureAddr → xbT
open List renaming all_eq_true → xbg, append_nil → xaT, drop_zero → xaQ, eq_nil_of_length_eq_zero → xa4, find?_cons → xbO, getElem?_cons_succ → xbU, getElem?_eq_getElem → xaj, getElem?_eq_some_iff → xah, getElem?_map → xaD, getElem?_modify → xck, getElem?_of_mem → xaO, idxOf_lt_length_iff → xba, length_append → xap, length_cons → xaE, length_map → xat, length_set → xa6, length_singleton → xa0, length_take → xaJ, mem_append → xau, mem_cons → xax, mem_map → xav, mem_of_getElem? → xak, mem_range → xbb, mem_singleton → xan, nodup_append → xbq, pairwise_iff_getElem → xaV, range → xaf, replicate → xar, take_add_one → xaz
open Go.MapKept renaming run_getObj_map → xbt, run_setObj_map → xce
open Nat renaming le_refl → xai, le_trans → xay, mul_le_mul_right → xa8
open Option.some renaming inj → xao
open Go.Program renaming keyLits → xbC
open Go.Region renaming ready → xbo, wanted → xaw
open Go.Result renaming andThen → xbd, andThen_ok → xaA
open Go.Sem renaming run_bind → xaK, run_pure → xaN
open Go.Value renaming string → xaY
open Go.World renaming block_lt_of_cell? → xbk, cell?_of_block → xaU
section
namespace Go.Proofs.YtomnhnmciopiiaaGreat
open Go.RowKit
theorem ah {p:Prop} (h:p):Hid p:=h
def Blk (w:World) (g:Nat) (t:TypeId) (cs:Array Value):Prop:=w.heap[g]?=some (.cells cs t (0,0))
section
variable {w w':World} {g:Nat} {t:TypeId} {cs:Array Value}
theorem Blk.lt (h:Blk w g t cs):g<w.heap.size:=by
 rcases Nat.lt_or_ge g w.heap.size with hlt | hge
 ·exact hlt
 ·unfold Blk at h;rw [Array.getElem?_eq_none hge] at h;cases h
theorem Blk.cell (h:Blk w g t cs) (i:Nat):w.cell? ⟨g,i,none⟩=cs[i]?:=cell_of_row w g i cs t (0,0) h
theorem Blk.frozen (h:Blk w g t cs) (i:Nat):w.frozen? ⟨g,i,none⟩=false:=by
 unfold Blk at h
 simp [World.frozen?,h]
theorem Blk.new (w:World) (t:TypeId) (cs:Array Value):Blk (w.alloc (.cells cs t)) w.heap.size t cs:=heap_alloc_new w _
theorem Blk.drewN (h:Blk w g t cs) (n:Nat):Blk (w.drewN n) g t cs:=h
theorem Blk.alloc (h:Blk w g t cs) (o:Obj):Blk (w.alloc o) g t cs:=(Below.heap_alloc w o g h.lt).trans h
theorem Blk.tZ (h:Blk w g t cs) (i:Nat) (u:Value):Blk (w.setCell ⟨g,i,none⟩ u) g t (cs.setIfInBounds i u):=by
 unfold Blk at h ⊢
 simp [World.setCell,Array.getElem?_modify,h]
theorem Blk.below {B:Nat} (h:Blk w g t cs) (hb:Below B w w') (hg:g<B):Blk w' g t cs:=(hb.block g hg).trans h
theorem Blk.AS (h:Blk w g t cs) (cs':Array Value):Blk (w.setRow g cs') g t cs':=setRow_heap w g cs _ t _ h
theorem Blk.ne_ {g':Nat} {t':TypeId} {cs':Array Value} (h:Blk w g t cs) (h':Blk w g' t' cs') (hne:t ≠ t'):g ≠ g':=by
 rintro rfl
 unfold Blk at h h'
 rw [h] at h'
 injection h' with h'
 injection h' with _ ht
 exact hne ht
end
section
variable {P:Program} {ops:Array Oper} {rest:List Oper} {o:Oper} {a:Act} {w:World} {Q:Exit→Act→World→Prop}
theorem aa (hg:o.guard=none) (v:Value) (w':World) (hrun:(execOp a.eval o).run P w=.ok (.value v) w') (h:wpList P ops Q rest (a.put o.dst v) w'):wpList P ops Q (o :: rest) a w :=
 wpList_plain hg fun K hK=>by
  unfold Oper.wp
  rw [hrun]
  exact hK _ _ h
theorem lQ (hg:o.guard=none) (ty:TypeId) (x y:Operand) (ho:o.op=.store ty x y)
  (g:Nat) (cs cells:Array Value) (t:TypeId) (hb:Blk w g t cs)
  (hi:(P.info? ty).map (·.size)=some cells.size) (hs:cs.size=cells.size) (h1:cells.all (·.oneCell')=true)
  (hx:a.eval x=.pointer (some ⟨g,0,none⟩)) (hy:a.eval y=.agg cells)
  (h:wpList P ops Q rest (a.put o.dst undef) (w.setRow g cells)):wpList P ops Q (o :: rest) a w :=
 wpList_plain hg fun K hK=>by
  have hrun:=run_storeVar_row (P:=P) w g t ty cs cells hb hi hs h1
  unfold Oper.wp execOp
  simp only [ho,hx,hy,Instr.storeAt,xbT,xaK,xaN,xaA,hrun]
  exact hK _ _ h
end
section
variable {P:Program} {ops:Array Oper} {rest:List Oper} {o:Oper} {a:Act} {w:World} {Q:Exit→Act→World→Prop}
end
theorem ar {P:Program} {ops:Array Oper} {rest:List Oper} {o:Oper} {a:Act} {w:World} {Q:Exit→Act→World→Prop} (hg:o.guard=none) (ty:TypeId) (x y:Operand) (ho:o.op=.store ty x y)
  (g:Nat) (cs cells:Array Value) (t:TypeId) (hb:Blk w g t cs)
  (hi:(P.info? ty).map (·.size)=some cells.size) (hs:cs.size=cells.size) (h1:cells.all (·.oneCell')=true)
  (hx:a.eval x=.pointer (some ⟨g,0,none⟩)) (hy:a.eval y=.agg cells)
  (h:∀ w',Blk w' g t cells→w.grownBy w' (some g)→wpList P ops Q rest (a.put o.dst undef) w'):wpList P ops Q (o :: rest) a w :=
 lQ hg ty x y ho g cs cells t hb hi hs h1 hx hy
  (h _ (hb.AS cells) ⟨rfl,rfl,rfl,by simp [World.setRow],fun k _ hne=>setRow_other w g k cells (fun e=>hne (by rw [e]))⟩)
theorem size_alloc (w:World) (o:Obj):(w.alloc o).heap.size=w.heap.size+1:=by
 show (w.heap.push o).size=_
 simp
end Go.Proofs.YtomnhnmciopiiaaGreat
end
section
namespace Go.Proofs.YtomnhnmciopiiaaGreat
open Go Go.RowKit
theorem ag (n:Nat) {P:Program} {ops:Array Oper} {Q:Exit→Act→World→Prop} {rest:List Oper} {op:Op} {t} {p} {af} {g} {a:Act} {w:World}
  (h:wpList P ops Q (⟨some n,op,t,p,af,g⟩ :: rest) a w):wpList P ops Q (⟨some n,op,t,p,af,g⟩ :: rest) a w:=h
theorem bI (x y:Nat) {P:Program} {ops:Array Oper} {Q:Exit→Act→World→Prop} {rest:List Oper} {ty:TypeId} {t} {p} {af} {g} {a:Act} {w:World}
  (h:wpList P ops Q (⟨none,.store ty (.tmp x) (.tmp y),t,p,af,g⟩ :: rest) a w):wpList P ops Q (⟨none,.store ty (.tmp x) (.tmp y),t,p,af,g⟩ :: rest) a w:=h
theorem oP (x:Nat) {P:Program} {ops:Array Oper} {Q:Exit→Act→World→Prop} {rest:List Oper} {ty:TypeId} {c:Value} {t} {p} {af} {g} {a:Act} {w:World}
  (h:wpList P ops Q (⟨none,.store ty (.tmp x) (.const c),t,p,af,g⟩ :: rest) a w):wpList P ops Q (⟨none,.store ty (.tmp x) (.const c),t,p,af,g⟩ :: rest) a w:=h
end Go.Proofs.YtomnhnmciopiiaaGreat
end
section
namespace Go.Proofs.YtomnhnmciopiiaaGreat
open Go.RowKit
theorem oE {P:Program} (t e n:Nat) (k:IntKind) (ht:P.underlying t=some (.array n e)) (he:P.underlying e=some (.int k)) (hs:(P.info? e).map (·.size)=some 1)
  (cs:Array Value) (i:Nat) (hi:i<n) (v:Value) (hv:cs[i]?=some v) (w:World):(Instr.index t (.agg cs) (.int .i64 (i:Int))).run P w=.ok v w:=by
 cases hq:P.info? e with
 | none=>simp [hq] at hs
 | some j =>
  have h1:j.size=1:=by simpa [hq] using hs
  simp [Instr.index,asIntOf,run_underlying ht,hi,part,isAgg,run_underlying he,sizeOf,typeInfo,hq,h1,hv]
end Go.Proofs.YtomnhnmciopiiaaGreat
end
section
namespace Go.Proofs.YtomnhnmciopiiaaGreat
open Go.RowKit
def bv (l:List UInt8):List Value:=l.map fun b=>Value.int .u8 (b.toNat:Int)
theorem uX:(Tryz.prog.info? 5).map (·.size)=some 1:=by kernel_rfl
theorem Bl (l:List UInt8) (i:Nat) (h:i<l.length):(bv l).toArray[i]?=some (.int .u8 ((l.getD i 0).toNat:Int)):=by
 simp [bv,List.getD,h]
def Alike (B:Nat) (w w':World):Prop:=∀ k,k<B→w'.heap[k]?=w.heap[k]?
theorem Alike.cell {B:Nat} {w w':World} (h:Alike B w w') {p:Addr} (hp:p.block<B):w'.cell? p=w.cell? p:=xaU (h p.block hp)
theorem Af:(Tryz.prog.info? 5).map (fun i=>(i.zero,i.size,i.bytes))=some (some (.int .u8 0),1,1):=by kernel_rfl
theorem bvL (a:List UInt8):(bv a).length=a.length:=by simp [bv]
theorem bv1 (a:List UInt8):∀ u∈bv a,u.oneCell'=true:=by
 intro u hu
 obtain ⟨_,_,rfl⟩:=xav.1 hu
 rfl
theorem qF {a w:World} {g:Nat} (h:a.grownBy w (some g)) {p:Addr} (hp:p.block=g∨a.heap.size≤p.block) (u:Value):a.grownBy (w.setCell p u) (some g) :=
 ⟨h.os,h.tape,h.output,by simpa [World.setCell] using h.size,fun i hi hne=>(Below.heap_setCell w p u i (by
  rintro rfl
  rcases hp with hp | hp
  ·exact hne (by rw [hp])
  ·omega)).trans (h.block i hi hne)⟩
end Go.Proofs.YtomnhnmciopiiaaGreat
end
section
namespace Go.Proofs.YtomnhnmciopiiaaGreat
open Go.RowKit Go.WideShapes Go.ChangeShapes
theorem laidOut:laidOutB Tryz.prog=true:=by kernel_rfl
section
variable {H:Type} {enc:TypeId×Value→H} {P:Program}
theorem k7 (hl:laidOutB P=true) {W W':World} (hb:Below W.heap.size W W'):∀ {ts:List TypeId} {vs:List Value} {ds:List (DataW H)} {ps:List MemPlace},(∀ t∈ts,P.readableRec t=true∧t<P.types.size) →
  DataW.TrodAll enc P W 0 (fun _=>true) true ts vs ds ps→(∀ x∈ps,x.block<W.heap.size)→DataW.TrodAll enc P W' 0 (fun b=>decide (b<W.heap.size)) true ts vs ds ps
 | [],vs,ds,ps,_,h,_=>by
  obtain ⟨rfl,rfl,rfl⟩:=trodAll_nil h
  rfl
 | t :: ts,vs,ds,ps,ht,h,hlt=>by
  obtain ⟨v,vs',d,ds',p,q,rfl,rfl,rfl,hd,hrest⟩:=trodAll_cons h
  have h1:=Below.trod hl (ht t (by simp)).1 (ht t (by simp)).2 hd hb (fun x hx=>hlt x (by simp [hx]))
  have h2:=k7 hl hb (fun s hs=>ht s (by simp [hs])) hrest (fun x hx=>hlt x (by simp [hx]))
  exact ⟨p,q,h1,h2,rfl⟩
theorem Ak {f:Func} {s:ChangeSpec} {fresh handsOn:Bool} {W W':World} {args:Array Value} {ds gs:List (DataW H)} {before:List MemPlace} {tb:TypeId} (hl:laidOutB P=true)
  (hW:DataW.Whole enc P f.params.toList s.vars false W args.toList ds gs before) (hv:s.vars=[]) (hfn:s.fn H (ds++gs)={ results:=[.lit (.bool true)],args:=ds }) (hr:f.resultTypes=#[tb]) (hu:P.underlying tb=some .bool)
  (hp:f.params.toList.all (fun t=>P.readableRec t&&decide (t<P.types.size))=true) (hb:Below W.heap.size W W') :
  s.post enc P f false fresh handsOn false W args (.bool true) W':=by
 have hW2:=hW
 obtain ⟨p,q,hA,hV,rfl,hz,hn⟩:=hW
 rw [hv] at hV
 obtain ⟨rfl,rfl⟩:=trodVars_none hV
 have hlt:∀ x∈p++[],x.block<W.heap.size:=fun x hx=>hW2.lt x hx
 rw [xaT] at hlt
 refine ⟨ds,[],p++[],[],p,[],hW2,?_,?_,?_,World.keptBut_mono (fun x hx=>⟨hx,.inr (.inl (by simpa using hx))⟩) (hb.frame (·∈p++[])),fun h=>by cases h⟩
 ·rw [hfn,hr]
  exact trodAll_mk1 (shut_bool hu _)
 ·rw [hfn]
  refine k7 hl hb (fun t ht=>?_) hA hlt
  have h:=xbg.1 hp t ht
  simpa using h
 ·rw [hv]
  exact (by rw [hfn];rfl)
end
end Go.Proofs.YtomnhnmciopiiaaGreat
end
section
namespace Go.Proofs.YtomnhnmciopiiaaGreat
open Go Go.RowKit Go.WideShapes Go.ChangeShapes
theorem oC {B:Nat} {w w':World} {b o:Nat} {cs:List Value} (h:w.rangeAt b o cs) (ha:Alike B w w') (hb:b<B):w'.rangeAt b o cs :=
 fun j v hv=>(ha.cell (p:=⟨b,o+j,none⟩) hb).trans (h j v hv)
theorem cz {w:World} {b o:Nat} {c1 c2:List Value} (h:w.rangeAt b o (c1++c2)):w.rangeAt b o c1:=by
 intro j v hv
 have hj:=(xah.1 hv).1
 exact h j v (by rw [List.getElem?_append_left hj];exact hv)
theorem ed {w:World} {b o:Nat} {c1 c2:List Value} (h:w.rangeAt b o (c1++c2)):w.rangeAt b (o+c1.length) c2:=by
 intro j v hv
 have:=h (c1.length+j) v (by rw [List.getElem?_append_right (by omega)];simpa using hv)
 rwa [← Nat.add_assoc] at this
theorem dP {w:World} {g:Nat} {t:TypeId} {cs:Array Value} (h:Blk w g t cs):w.rangeAt g 0 cs.toList:=by
 intro j v hv
 rw [Nat.zero_add,h.cell]
 simpa using hv
structure Lay (α:Type) where
 t:TypeId
 n:Nat
 At:World→Nat→List Value→α→Prop
 len:∀ {w B cs x},At w B cs x→cs.length=n
 one:∀ {w B cs x},At w B cs x→∀ v∈cs,v.oneCell'=true
 alike:∀ {w w' B cs x},At w B cs x→Alike B w w'→At w' B cs x
 dV:∀ {w B B' cs x},At w B cs x→B≤B'→At w B' cs x
structure va (α:Type) where
 shape:Nat→List (TypeId×Nat)
 n:Nat
 At:World→Nat→List Value→α→Prop
 len:∀ {w B cs x},At w B cs x→cs.length=n
 one:∀ {w B cs x},At w B cs x→∀ v∈cs,v.oneCell'=true
 alike:∀ {w w' B cs x},At w B cs x→Alike B w w'→At w' B cs x
 dV:∀ {w B B' cs x},At w B cs x→B≤B'→At w B' cs x
def Lay.int (t:TypeId) (k:IntKind):Lay Int where
 t:=t
 n:=1
 At:=fun _ _ cs x=>cs=[.int k x]∧(Lit.int k x).wf=true
 len:=fun h=>by rw [h.1];rfl
 one:=fun h v hv=>by rw [h.1] at hv;simp only [xan] at hv;subst hv;rfl
 alike:=fun h _=>h
 dV:=fun h _=>h
def Lay.bool (t:TypeId):Lay Bool where
 t:=t
 n:=1
 At:=fun _ _ cs x=>cs=[.bool x]
 len:=fun h=>by rw [h];rfl
 one:=fun h v hv=>by rw [h] at hv;simp only [xan] at hv;subst hv;rfl
 alike:=fun h _=>h
 dV:=fun h _=>h
def Lay.str (t:TypeId):Lay ByteArray where
 t:=t
 n:=1
 At:=fun _ _ cs x=>cs=[.string x]∧x.size≤maxLen
 len:=fun h=>by rw [h.1];rfl
 one:=fun h v hv=>by rw [h.1] at hv;simp only [xan] at hv;subst hv;rfl
 alike:=fun h _=>h
 dV:=fun h _=>h
def Lay.u8s (t:TypeId) (k:Nat):Lay (List UInt8) where
 t:=t
 n:=k
 At:=fun _ _ cs x=>cs=bv x∧x.length=k
 len:=fun h=>by rw [h.1,bvL,h.2]
 one:=fun h=>by rw [h.1];exact bv1 _
 alike:=fun h _=>h
 dV:=fun h _=>h
def va.nil:va Unit where
 shape:=fun _=>[]
 n:=0
 At:=fun _ _ cs _=>cs=[]
 len:=fun h=>by rw [h];rfl
 one:=fun h v hv=>by rw [h] at hv;cases hv
 alike:=fun h _=>h
 dV:=fun h _=>h
def va.cons {α β:Type} (L:Lay α) (F:va β):va (α×β) where
 shape:=fun off=>(L.t,off) :: F.shape (off+L.n)
 n:=L.n+F.n
 At:=fun w B cs x=>∃ c1 c2,cs=c1++c2∧L.At w B c1 x.1∧F.At w B c2 x.2
 len:=fun ⟨c1,c2,e,h1,h2⟩=>by rw [e,xap,L.len h1,F.len h2]
 one:=fun ⟨c1,c2,e,h1,h2⟩ v hv=>by
  rw [e,xau] at hv
  exact hv.elim (L.one h1 v) (F.one h2 v)
 alike:=fun ⟨c1,c2,e,h1,h2⟩ ha=>⟨c1,c2,e,L.alike h1 ha,F.alike h2 ha⟩
 dV:=fun ⟨c1,c2,e,h1,h2⟩ hb=>⟨c1,c2,e,L.dV h1 hb,F.dV h2 hb⟩
def Lay.struct {γ β:Type} (t:TypeId) (F:va β) (f:γ→β):Lay γ where
 t:=t
 n:=F.n
 At:=fun w B cs x=>F.At w B cs (f x)
 len:=fun h=>F.len h
 one:=fun h=>F.one h
 alike:=fun h=>F.alike h
 dV:=fun h=>F.dV h
def pO {α:Type} (L:Lay α) (w:World) (B b off:Nat) (l:List α):Prop:=∀ j x,l[j]?=some x→∃ cs,w.rangeAt b (off+j*L.n) cs∧L.At w B cs x
def Lay.slice {α:Type} (t:TypeId) (L:Lay α):Lay (List α) where
 t:=t
 n:=1
 At:=fun w B cs l=>∃ A cap,cs=[.slice A l.length cap]∧l.length≤cap∧cap≤maxLen∧(A=none→cap=0)∧(0<l.length→∃ b off,A=some ⟨b,off,none⟩∧b<B∧pO L w B b off l)
 len:=fun ⟨A,cap,e,_⟩=>by rw [e];rfl
 one:=fun ⟨A,cap,e,_⟩ v hv=>by rw [e] at hv;simp only [xan] at hv;subst hv;rfl
 alike:=fun ⟨A,cap,e,h1,h2,h3,h4⟩ ha=>⟨A,cap,e,h1,h2,h3,fun h0=>by
  obtain ⟨b,off,k1,k2,k3⟩:=h4 h0
  exact ⟨b,off,k1,k2,fun j x hj=>by
   obtain ⟨cs,q1,q2⟩:=k3 j x hj
   exact ⟨cs,oC q1 ha k2,L.alike q2 ha⟩⟩⟩
 dV:=fun ⟨A,cap,e,h1,h2,h3,h4⟩ hB=>⟨A,cap,e,h1,h2,h3,fun h0=>by
  obtain ⟨b,off,k1,k2,k3⟩:=h4 h0
  exact ⟨b,off,k1,by omega,fun j x hj=>by
   obtain ⟨cs,q1,q2⟩:=k3 j x hj
   exact ⟨cs,q1,L.dV q2 hB⟩⟩⟩
end Go.Proofs.YtomnhnmciopiiaaGreat
end
section
namespace Go.Proofs.YtomnhnmciopiiaaGreat
open Go Go.RowKit Go.Maps Go.MapKept Go.ChangeMaps
section
variable {K V:Type} [DecidableEq K]
def aX (m:List (K×V)) (x:K):Option V:=(m.find? fun p=>p.1=x).map (·.2)
def jH (m:List (K×V)) (x:K) (v:V):List (K×V):=if (aX m x).isSome then m.map (fun p=>if p.1=x then (x,v) else p) else m++[(x,v)]
theorem gR {m:List (K×V)} {x:K}:aX m x=none↔∀ p∈m,p.1 ≠ x:=by
 unfold aX
 simp [List.find?_eq_none]
theorem mC {m:List (K×V)} (hn:(m.map (·.1)).Nodup) {j:Nat} {x:K} {v:V} (h:m[j]?=some (x,v)):aX m x=some v:=by
 induction m generalizing j with
 | nil=>simp at h
 | cons p m ih =>
  unfold aX
  rw [xbO]
  by_cases hp:p.1=x
  ·simp only [hp,decide_true,Option.map_some]
   cases j with
   | zero=>simp at h;rw [h]
   | succ j =>
    simp only [xbU] at h
    have hm:x∈m.map (·.1):=xav.2 ⟨_,xak h,rfl⟩
    simp only [List.map_cons,List.nodup_cons,hp] at hn
    exact absurd hm hn.1
  ·simp only [hp,decide_false]
   cases j with
   | zero=>simp at h;rw [h] at hp;exact absurd rfl hp
   | succ j=>exact ih (by simp only [List.map_cons,List.nodup_cons] at hn;exact hn.2) (by simpa using h)
theorem nM {m:List (K×V)} {x:K} {v:V} (h:aX m x=some v):(x,v)∈m:=by
 unfold aX at h
 obtain ⟨p,hp,rfl⟩:=Option.map_eq_some_iff.1 h
 have h1:=List.mem_of_find?_eq_some hp
 have h2:=List.find?_some hp
 simp only [decide_eq_true_eq] at h2
 rw [← h2]
 exact h1
omit [DecidableEq K] in
theorem Ah {m:List (K×V)} (hn:(m.map (·.1)).Nodup) {i j:Nat} {p q:K×V} (hi:m[i]?=some p) (hj:m[j]?=some q) (e:p.1=q.1):i=j:=by
 obtain ⟨i1,i2⟩:=xah.1 hi
 obtain ⟨j1,j2⟩:=xah.1 hj
 rcases Nat.lt_trichotomy i j with h | h | h
 ·exact absurd (show ((m.map (·.1))[i]'(by simpa using i1))=((m.map (·.1))[j]'(by simpa using j1)) by simp [i2,j2,e]) (xaV.1 hn i j (by simpa using i1) (by simpa using j1) h)
 ·exact h
 ·exact absurd (show ((m.map (·.1))[j]'(by simpa using j1))=((m.map (·.1))[i]'(by simpa using i1)) by simp [i2,j2,e]) (xaV.1 hn j i (by simpa using j1) (by simpa using i1) h)
theorem yH {m:List (K×V)} (hn:(m.map (·.1)).Nodup) {j:Nat} {x:K} {u v:V} (h:m[j]?=some (x,u)):jH m x v=m.set j (x,v):=by
 unfold jH
 rw [if_pos (by rw [mC hn h];rfl)]
 apply List.ext_getElem?
 intro i
 rw [xaD,List.getElem?_set]
 by_cases hi:j=i
 ·subst hi
  have hlt:=(xah.1 h).1
  obtain ⟨_,h2⟩:=xah.1 h
  simp [hlt,h2]
 ·rw [if_neg hi]
  cases hp:m[i]? with
  | none=>rfl
  | some p =>
   have hne:p.1 ≠ x:=by
    intro e
    exact hi (Ah hn h hp e.symm)
   simp [hne]
theorem kM {m:List (K×V)} {x:K} {v:V} (h:aX m x=none):jH m x v=m++[(x,v)]:=by
 unfold jH
 rw [h]
 rfl
theorem wu (m:List (K×V)) (x:K) (v:V):(jH m x v).map (·.1)=if (aX m x).isSome then m.map (·.1) else m.map (·.1)++[x]:=by
 unfold jH
 split
 ·rw [List.map_map]
  apply List.map_congr_left
  intro p _
  simp only [Function.comp]
  split
  ·rename_i h;exact h.symm
  ·rfl
 ·simp
theorem mem_keys {m:List (K×V)} {x:K}:x∈m.map (·.1)↔(aX m x).isSome=true:=by
 constructor
 ·intro h
  obtain ⟨p,hp,rfl⟩:=xav.1 h
  cases hg:aX m p.1 with
  | none=>exact absurd rfl (gR.1 hg p hp)
  | some v=>rfl
 ·intro h
  obtain ⟨v,hv⟩:=Option.isSome_iff_exists.1 h
  exact xav.2 ⟨_,nM hv,rfl⟩
theorem nN {m:List (K×V)} (hn:(m.map (·.1)).Nodup) (x:K) (v:V):((jH m x v).map (·.1)).Nodup:=by
 rw [wu]
 split
 ·exact hn
 ·rename_i h
  rw [xbq]
  refine ⟨hn,by simp,fun a ha b hb e=>?_⟩
  simp only [xan] at hb
  subst hb e
  exact h (mem_keys.1 ha)
theorem wq (m:List (K×V)) (x y:K) (v:V):aX (jH m x v) y=if y=x then some v else aX m y:=by
 unfold jH
 split
 ·rename_i h
  have hg:∀ l:List (K×V),aX (l.map (fun p=>if p.1=x then (x,v) else p)) y=if y=x then (if (aX l x).isSome then some v else none) else aX l y:=by
   intro l
   induction l with
   | nil=>by_cases e:y=x<;>simp [aX,e]
   | cons p l ih =>
    unfold aX at ih ⊢
    rw [List.map_cons,xbO,xbO,xbO]
    by_cases hp:p.1=x
    ·by_cases hy:y=x
     ·simp [hp,hy]
     ·have:¬ x=y:=fun e=>hy e.symm
      simp [hp,hy,this] at ih ⊢
      exact ih
    ·rw [if_neg hp]
     by_cases hq:p.1=y
     ·have hy:¬ y=x:=fun e=>hp (hq.trans e)
      simp [hy,hq]
     ·simp only [hq,decide_false,hp]
      exact ih
  rw [hg,h]
  rfl
 ·rename_i h
  have hx:aX m x=none:=by simpa using h
  unfold aX at hx ⊢
  rw [List.find?_append]
  by_cases hy:y=x
  ·subst hy
   have:m.find? (fun p=>decide (p.1=y))=none:=by simpa using hx
   simp [this]
  ·have hxy:¬ x=y:=fun e=>hy e.symm
   simp [hy,hxy]
end
structure jS (P:Program) (k:TypeId) {K:Type} (ek:K→Value) (ok:K→Prop):Prop where
 law:Keyed P k
 key:∀ x,ok x→∃ l,keyOf P k (ek x)=some l
 inj:∀ x y,ok x→ok y→ek x=ek y→x=y
def Stamped (es:Array MapEntry) (clock:Nat):Prop:=(es.toList.map (·.born)).Nodup∧∀ e∈es.toList,e.born<clock
theorem oH {es:Array MapEntry} {c:Nat} (h:Stamped es c) (k v:Value):Stamped (es.push ⟨k,v,c⟩) (c+1):=by
 refine ⟨?_,fun e he=>?_⟩
 ·rw [Array.toList_push,List.map_append,xbq]
  refine ⟨h.1,by simp,fun a ha b hb e=>?_⟩
  obtain ⟨x,hx,rfl⟩:=xav.1 ha
  have:=h.2 x hx
  simp only [List.map_cons,List.map_nil,xan] at hb
  omega
 ·rw [Array.toList_push] at he
  rcases xau.1 he with he | he
  ·have:=h.2 e he;omega
  ·rw [xan.1 he];exact Nat.lt_succ_self c
theorem mu {es:Array MapEntry} {c:Nat} (h:Stamped es c) (j:Nat) (f:MapEntry→MapEntry) (hf:∀ e,(f e).born=e.born):Stamped (es.modify j f) c:=by
 have e1:(es.modify j f).toList.map (·.born)=es.toList.map (·.born):=by
  apply List.ext_getElem?
  intro i
  simp only [xcn,xaD,xck]
  by_cases hi:j=i
  ·subst hi
   cases es.toList[j]?<;>simp [hf]
  ·simp [hi]
 refine ⟨by rw [e1];exact h.1,fun e he=>?_⟩
 have:e.born∈es.toList.map (·.born):=by rw [← e1];exact xav.2 ⟨e,he,rfl⟩
 obtain ⟨x,hx,hxe⟩:=xav.1 this
 rw [← hxe]
 exact h.2 x hx
structure bH {K V:Type} (ek:K→Value) (ok:K→Prop) (ev:V→Value) (w:World) (b:Nat) (m:List (K×V)):Prop where
 at_:∃ es clock,w.heap[b]?=some (.map es clock)∧es.toList.map (fun e=>(e.key,e.val))=m.map (fun p=>(ek p.1,ev p.2))∧Stamped es clock
 nodup:(m.map (·.1)).Nodup
 ok:∀ p∈m,ok p.1
section
variable {P:Program} {k t e:TypeId} {K V:Type} {ek:K→Value} {ok:K→Prop} {ev:V→Value} {w w':World} {b:Nat} {m:List (K×V)}
theorem bH.lt (h:bH ek ok ev w b m):b<w.heap.size:=by
 obtain ⟨es,c,h1,_⟩:=h.at_
 exact (Array.getElem?_eq_some_iff.1 h1).1
theorem bH.of_eq (h:bH ek ok ev w b m) (he:w'.heap[b]?=w.heap[b]?):bH ek ok ev w' b m:=⟨by rw [he];exact h.at_,h.nodup,h.ok⟩
theorem bH.below {B:Nat} (h:bH ek ok ev w b m) (hb:Below B w w') (hB:b<B):bH ek ok ev w' b m:=h.of_eq (hb.block b hB)
theorem jz (w:World):bH ek ok ev (w.alloc (.map #[] 0)) w.heap.size ([]:List (K×V)):=⟨⟨#[],0,heap_alloc_new w _,rfl,⟨List.nodup_nil,fun e he=>by cases he⟩⟩,List.nodup_nil,fun p hp=>by cases hp⟩
variable [DecidableEq K]
theorem bH.find (h:bH ek ok ev w b m) (L:jS P k ek ok) {x:K} (hx:ok x) {es:Array MapEntry} (he:es.toList.map (fun e=>(e.key,e.val))=m.map (fun p=>(ek p.1,ev p.2))) (W:World) :
  ((Instr.findKey k (ek x) es.toList).run P W=.ok none W∧aX m x=none)∨∃ j v e,(Instr.findKey k (ek x) es.toList).run P W=.ok (some (j,ev v)) W∧m[j]?=some (x,v)∧es.toList[j]?=some e∧e.key=ek x:=by
 obtain ⟨l,hl⟩:=L.key x hx
 have hkeys:∀ e∈es.toList,∃ y,ok y∧e.key=ek y:=by
  intro e he2
  have:(e.key,e.val)∈m.map (fun p=>(ek p.1,ev p.2)):=by rw [← he];exact xav.2 ⟨e,he2,rfl⟩
  obtain ⟨p,hp,e2⟩:=xav.1 this
  injection e2 with e2 _
  exact ⟨p.1,h.ok p hp,e2.symm⟩
 rcases L.law.find W hl es.toList (fun e he2=>by obtain ⟨y,hy,e2⟩:=hkeys e he2;rw [e2];exact L.key y hy) with ⟨h1,h2⟩ | ⟨j,e,h1,h2,h3⟩
 ·refine .inl ⟨h1,gR.2 fun p hp e2=>?_⟩
  have:(ek p.1,ev p.2)∈es.toList.map (fun e=>(e.key,e.val)):=by rw [he];exact xav.2 ⟨p,hp,rfl⟩
  obtain ⟨e3,he3,e4⟩:=xav.1 this
  injection e4 with e4 _
  exact h2 e3 he3 (by rw [e4,e2])
 ·have h4:(es.toList.map (fun e=>(e.key,e.val)))[j]?=some (e.key,e.val):=by rw [xaD,h2];rfl
  rw [he,xaD] at h4
  obtain ⟨p,hp,e2⟩:=Option.map_eq_some_iff.1 h4
  injection e2 with e2 e3
  have hpx:p.1=x:=L.inj _ _ (h.ok p (xak hp)) hx (by rw [e2,h3])
  refine .inr ⟨j,p.2,e,by rw [e3];exact h1,?_,h2,h3⟩
  rw [hp,← hpx]
theorem bH.look (h:bH ek ok ev w b m) (L:jS P k ek ok) {x:K} (hx:ok x) (ht:P.underlying t=some (.map k e)) {z:Value} (hz:(zeroValue e).run P w=.ok z w) :
  (xbG t (.map (some b)) (ek x) false).run P w=.ok (((aX m x).map ev).getD z) w:=by
 obtain ⟨es,c,h1,h2,h7⟩:=h.at_
 obtain ⟨l,hl⟩:=L.key x hx
 rcases h.find (P:=P) L hx h2 w with ⟨h3,h4⟩ | ⟨j,v,e0,h3,h4,_⟩
 ·rw [h4]
  simp [xbG,run_underlying ht,xbt h1,L.law.check w _ hl,h3,hz,xbd]
 ·rw [mC h.nodup h4]
  simp [xbG,run_underlying ht,xbt h1,L.law.check w _ hl,h3,xbd]
theorem bH.look_ok (h:bH ek ok ev w b m) (L:jS P k ek ok) {x:K} (hx:ok x) (ht:P.underlying t=some (.map k e)) {z:Value} (hz:(zeroValue e).run P w=.ok z w) :
  (xbG t (.map (some b)) (ek x) true).run P w=.ok (.tuple #[((aX m x).map ev).getD z,.bool (aX m x).isSome]) w:=by
 obtain ⟨es,c,h1,h2,h7⟩:=h.at_
 obtain ⟨l,hl⟩:=L.key x hx
 rcases h.find (P:=P) L hx h2 w with ⟨h3,h4⟩ | ⟨j,v,e0,h3,h4,_⟩
 ·rw [h4]
  simp [xbG,run_underlying ht,xbt h1,L.law.check w _ hl,h3,hz,xbd]
 ·rw [mC h.nodup h4]
  simp [xbG,run_underlying ht,xbt h1,L.law.check w _ hl,h3,xbd]
def mJ (w w':World) (b:Nat):Prop:=w'.heap.size=w.heap.size∧(∀ k,k ≠ b→w'.heap[k]?=w.heap[k]?)∧w'.os=w.os∧w'.tape=w.tape∧w'.output=w.output
theorem mJ.grown (h:mJ w w' b):w.grownBy w' (some b):=⟨h.2.2.1,h.2.2.2.1,h.2.2.2.2,by rw [h.1];exact xai _,fun k _ hne=>h.2.1 k (fun e=>hne (by rw [e]))⟩
theorem jq (w:World) (b:Nat) (o:Obj):mJ w (setBlock w b o) b:=by
 refine ⟨by simp [setBlock],fun k hk=>?_,rfl,rfl,rfl⟩
 simp [setBlock,Ne.symm hk]
theorem jQ (w:World) (b:Nat) (o:Obj) (h:b<w.heap.size):(setBlock w b o).heap[b]?=some o:=by
 simp [setBlock,h]
theorem bH.update (h:bH ek ok ev w b m) (L:jS P k ek ok) {x:K} (hx:ok x) (ht:P.underlying t=some (.map k e)) (v:V) :
  ∃ w',(xbX t (.map (some b)) (ek x) (ev v)).run P w=.ok () w'∧bH ek ok ev w' b (jH m x v)∧mJ w w' b:=by
 obtain ⟨es,c,h1,h2,h7⟩:=h.at_
 obtain ⟨l,hl⟩:=L.key x hx
 have hlt:=h.lt
 have hok:∀ p∈jH m x v,ok p.1:=by
  intro p hp
  unfold jH at hp
  split at hp
  ·obtain ⟨q,hq,rfl⟩:=xav.1 hp
   split
   ·exact hx
   ·exact h.ok q hq
  ·rcases xau.1 hp with hp | hp
   ·exact h.ok p hp
   ·simp only [xan] at hp
    subst hp
    exact hx
 rcases h.find (P:=P) L hx h2 w with ⟨h3,h4⟩ | ⟨j,u,e0,h3,h4,h5,h6⟩
 ·refine ⟨setBlock w b (.map (es.push ⟨ek x,ev v,c⟩) (c+1)),?_,⟨⟨_,_,jQ w b _ hlt,?_,oH h7 _ _⟩,nN h.nodup x v,hok⟩,jq w b _⟩
  ·simp [xbX,run_underlying ht,xbt h1,L.law.check w _ hl,h3,xce _ h1,xbd,setBlock]
  ·rw [kM h4]
   simp [h2]
 ·have hj:es[j]?=some e0:=by simpa using h5
  refine ⟨setBlock w b (.map (es.modify j fun e=>{ e with key:=ek x,val:=ev v }) c),?_,⟨⟨_,_,jQ w b _ hlt,?_,mu h7 _ _ (fun _=>rfl)⟩,nN h.nodup x v,hok⟩,jq w b _⟩
  ·simp [xbX,run_underlying ht,xbt h1,L.law.check w _ hl,h3,hj,h6,L.law.stays w hl,xce _ h1,xbd,setBlock]
  ·rw [yH h.nodup h4,List.map_set,← h2,xcn]
   apply List.ext_getElem?
   intro i
   simp only [xaD,xck,List.getElem?_set,xat]
   have hjl:=(xah.1 h5).1
   by_cases hi:j=i
   ·subst hi
    simp only [xbh] at hjl
    simp [hjl]
   ·simp only [if_neg hi]
    simp
end
section
variable {P:Program} {ρ:Operand→Value} {o:Oper} {w w':World}
theorem dJ (t:TypeId) (m x:Operand) (c:Bool) (ho:o.op=.lookup t m x c) (mv kv v:Value) (hm:ρ m=mv) (hx:ρ x=kv) (hr:(xbG t mv kv c).run P w=.ok v w):(execOp ρ o).run P w=.ok (.value v) w:=by
 unfold execOp
 simp only [ho,hm,hx,xaK,hr,xaA,xaN]
end
section
variable {P:Program} {ops:Array Oper} {rest:List Oper} {o:Oper} {a:Act} {w w':World} {Q:Exit→Act→World→Prop}
theorem ff (hg:o.guard=none) (t:TypeId) (m x v:Operand) (ho:o.op=.mapUpdate t m x v) (mv kv vv:Value) (hm:a.eval m=mv) (hx:a.eval x=kv) (hv:a.eval v=vv) (hr:(xbX t mv kv vv).run P w=.ok () w')
  (h:wpList P ops Q rest (a.put o.dst undef) w'):wpList P ops Q (o :: rest) a w:=by
 refine wpList_plain hg fun K hK=>?_
 unfold Oper.wp
 simp [execOp,ho,hm,hx,hv,hr,xbd]
 exact hK _ _ h
end
end Go.Proofs.YtomnhnmciopiiaaGreat
end
section
namespace Go.Proofs.YtomnhnmciopiiaaGreat
open Go Go.RowKit Go.Maps
abbrev Hsh:=List UInt8
abbrev Pth:=List UInt8×ByteArray
def okH (h:Hsh):Prop:=h.length=20
def okP (p:Pth):Prop:=p.1.length=20∧p.2.size≤maxLen
def pC (p:Pth):List Value:=bv p.1++[.string p.2]
def hV (h:Hsh):Value:=.agg (bv h).toArray
def pV (p:Pth):Value:=.agg (pC p).toArray
theorem sI {a b:List UInt8} (h:bv a=bv b):a=b:=by
 induction a generalizing b with
 | nil =>
  cases b with
  | nil=>rfl
  | cons x b=>simp [bv] at h
 | cons x a ih =>
  cases b with
  | nil=>simp [bv] at h
  | cons y b =>
   simp only [bv,List.map_cons,List.cons.injEq,Value.int.injEq,true_and] at h
   have h1:x=y:=UInt8.toNat_inj.1 (by omega)
   rw [h1,ih h.2]
theorem yj {a b:Hsh} (h:hV a=hV b):a=b:=by
 unfold hV at h
 injection h with h
 exact sI (by simpa using congrArg Array.toList h)
theorem bQ {p:Pth} (h:okP p):(pC p).length=21:=by simp [pC,bvL,h.1]
theorem y1 {a b:Pth} (h:pC a=pC b):a=b:=by
 unfold pC at h
 have h2:=List.append_inj' h rfl
 have h3:a.2=b.2:=by simpa using h2.2
 exact Prod.ext (sI h2.1) h3
theorem y2 {a b:Pth} (h:pV a=pV b):a=b:=by
 unfold pV at h
 injection h with h
 exact y1 (by simpa using congrArg Array.toList h)
theorem jj (p:Pth):∀ v∈pC p,v.oneCell'=true:=by
 intro v hv
 rcases xau.1 hv with hv | hv
 ·exact bv1 _ v hv
 ·rw [xan.1 hv];rfl
theorem tv {α:Type} (n:Nat) (f:Nat→Option α) (g:Nat→α) (h:∀ i,i<n→f i=some (g i)):(xaf n).mapM f=some ((xaf n).map g):=by
 have:∀ l:List Nat,(∀ i∈l,i<n)→l.mapM f=some (l.map g):=by
  intro l
  induction l with
  | nil=>intro _;rfl
  | cons x l ih =>
   intro hl
   rw [List.mapM_cons,h x (hl x (by simp)),ih (fun i hi=>hl i (by simp [hi]))]
   rfl
 exact this _ fun i hi=>xbb.1 hi
theorem jb {P:Program} {t e:TypeId} {n:Nat} (d:Nat) (ht:P.underlying t=some (.array n e)) (he:P.underlying e=some (.int .u8)) (hc:P.cellsOf t=n) (h1:P.cellsOf e=1) {h:List UInt8} (hl:h.length=n) :
  ∃ L,P.keyLits (d+2) t (bv h)=some L:=by
 have hm:((xaf n).mapM fun i=>P.keyLits (d+1) e (((bv h).drop (i*P.cellsOf e)).take (P.cellsOf e)))=some ((xaf n).map fun i=>[Lit.int .u8 ((h.getD i 0).toNat:Int)]):=by
  refine tv n _ _ fun i hi=>?_
  rw [h1,Nat.mul_one]
  have e1:((bv h).drop i).take 1=[.int .u8 ((h.getD i 0).toNat:Int)]:=by
   rw [List.take_one]
   simp [bv,List.getD,hl,hi]
  rw [e1]
  generalize h.getD i 0=x
  have hw:(Lit.int .u8 (x.toNat:Int)).wf=true:=by
   have:=UInt8.toNat_lt x
   simp [Lit.wf,IntKind.min,IntKind.max,IntKind.signed,IntKind.bits]
   omega
  unfold xbC
  simp [he,hw]
 unfold xbC
 rw [ht]
 have hlen:(bv h).length=P.cellsOf t:=by rw [hc,bvL];exact hl
 generalize bv h=cs at hm hlen
 cases cs with
 | nil =>
  simp only []
  rw [if_pos hlen,hm]
  exact ⟨_,rfl⟩
 | cons x h =>
  simp only []
  rw [if_pos hlen,hm]
  exact ⟨_,rfl⟩
theorem fI:Tryz.prog.cellsOf 34=20:=by kernel_rfl
theorem mT:Tryz.prog.cellsOf 5=1:=by kernel_rfl
theorem jV:Tryz.prog.cellsOf 83=21:=by kernel_rfl
theorem lk:Tryz.prog.cellsOf 9=1:=by kernel_rfl
theorem dz:jS Tryz.prog 34 hV okH where
 law:=Keyed.of_law (deep_law_laid laidOut (m:=2) (by omega) (of_decide_eq_true (by kernel_rfl)) (by kernel_rfl) (by kernel_rfl))
 key:=fun h hh=>by
  obtain ⟨L,hL⟩:=jb (P:=Tryz.prog) (Tryz.prog.types.size-1) Tryz.underlying34 Tryz.underlying5 fI mT hh
  have hs:Tryz.prog.types.size-1+2=Tryz.prog.types.size+1:=by
   have:0<Tryz.prog.types.size:=of_decide_eq_true (by kernel_rfl)
   omega
  rw [hs] at hL
  have hk:Tryz.prog.keyType 34=true:=by kernel_rfl
  have hf:(hV h).formed Tryz.prog 34=true:=by
   simp [hV,Value.formed,Tryz.underlying34,fI,bvL]
   exact hh
  unfold keyOf
  rw [Tryz.underlying34]
  simp only [hk,hf,Bool.and_self,if_true]
  rw [show (hV h).cells.toList=bv h by simp [hV,Value.cells],hL]
  exact ⟨_,rfl⟩
 inj:=fun _ _ _ _ h=>yj h
theorem jm:jS Tryz.prog 83 pV okP where
 law:=Keyed.of_law (deep_law_laid laidOut (m:=3) (by omega) (of_decide_eq_true (by kernel_rfl)) (by kernel_rfl) (by kernel_rfl))
 key:=fun p hp=>by
  obtain ⟨L,hL⟩:=jb (P:=Tryz.prog) (Tryz.prog.types.size-2) Tryz.underlying34 Tryz.underlying5 fI mT hp.1
  have h0:2<Tryz.prog.types.size:=of_decide_eq_true (by kernel_rfl)
  have hs:Tryz.prog.types.size-2+2=Tryz.prog.types.size:=by omega
  rw [hs] at hL
  have hk:Tryz.prog.keyType 83=true:=by kernel_rfl
  have hf:(pV p).formed Tryz.prog 83=true:=by
   simp [pV,Value.formed,Tryz.underlying83,jV,bQ hp]
  have hst:Tryz.prog.keyLits Tryz.prog.types.size 9 [.string p.2]=some [.string p.2.data.toList]:=by
   obtain ⟨d,hd⟩:∃ d,Tryz.prog.types.size=d+1:=⟨Tryz.prog.types.size-1,by omega⟩
   rw [hd]
   unfold xbC
   simp [Tryz.underlying9,hp.2]
  have e1:((pC p).drop 0).take (Tryz.prog.cellsOf 34)=bv p.1:=by
   rw [fI,xaQ,pC,List.take_left' (by rw [bvL];exact hp.1)]
  have e2:((pC p).drop 20).take (Tryz.prog.cellsOf 9)=[.string p.2]:=by
   rw [lk,pC,List.drop_left' (by rw [bvL];exact hp.1)]
   rfl
  have hpk:∃ L,Tryz.prog.keyLits (Tryz.prog.types.size+1) 83 (pC p)=some L:=by
   unfold xbC
   rw [Tryz.underlying83]
   simp only [jV,bQ hp]
   rw [if_pos ⟨trivial,by kernel_rfl⟩]
   simp only [List.mapM_cons,List.mapM_nil,e1,e2,hL,hst]
   exact ⟨_,rfl⟩
  obtain ⟨L2,hL2⟩:=hpk
  unfold keyOf
  rw [Tryz.underlying83]
  simp only [hk,hf,Bool.and_self,if_true]
  rw [show (pV p).cells.toList=pC p by simp [pV,Value.cells],hL2]
  exact ⟨_,rfl⟩
 inj:=fun _ _ _ _ h=>y2 h
def gj:Lay Hsh:=Lay.u8s 34 20
def mG:Lay Pth:=Lay.struct 83 (.cons gj (.cons (Lay.str 9) .nil)) fun p=>(p.1,p.2,())
theorem dt {w:World} {B:Nat} {cs:List Value} {h:Hsh}:gj.At w B cs h↔cs=bv h∧okH h:=Iff.rfl
theorem cG {w:World} {B:Nat} {cs:List Value} {p:Pth}:mG.At w B cs p↔cs=pC p∧okP p:=by
 constructor
 ·rintro ⟨c1,c2,rfl,⟨rfl,h1⟩,c3,c4,rfl,⟨rfl,h2⟩,h3⟩
  have h3:c4=[]:=h3
  subst h3
  exact ⟨by simp [pC],h1,h2⟩
 ·rintro ⟨rfl,h1,h2⟩
  exact ⟨bv p.1,[.string p.2],rfl,⟨rfl,h1⟩,[.string p.2],[],by simp,⟨rfl,h2⟩,rfl⟩
def gZ:Lay (List Pth):=Lay.slice 72 mG
def eW:Lay (List Hsh):=Lay.slice 27 gj
theorem cW (a b:Hsh) (ha:okH a) (hb:okH b) (w:World):(Op.equal 34 (hV a) (hV b)).run Tryz.prog w=.ok (decide (a=b)) w:=by
 obtain ⟨la,h1⟩:=dz.key a ha
 obtain ⟨lb,h2⟩:=dz.key b hb
 obtain ⟨r,h3,h4⟩:=run_equal_deep (P:=Tryz.prog) w (m:=2) (by omega) (by kernel_rfl) (by kernel_rfl) h1 h2
 have:r=decide (a=b):=by
  rw [Bool.eq_iff_iff,h4,decide_eq_true_iff]
  constructor
  ·intro e
   subst e
   exact yj (dz.law.inj h1 h2)
  ·intro e
   subst e
   rw [h1] at h2
   injection h2
 rw [← this]
 exact h3
theorem fg (a b:Pth) (ha:okP a) (hb:okP b) (w:World):(Op.equal 83 (pV a) (pV b)).run Tryz.prog w=.ok (decide (a=b)) w:=by
 obtain ⟨la,h1⟩:=jm.key a ha
 obtain ⟨lb,h2⟩:=jm.key b hb
 obtain ⟨r,h3,h4⟩:=run_equal_deep (P:=Tryz.prog) w (m:=3) (by omega) (by kernel_rfl) (by kernel_rfl) h1 h2
 have:r=decide (a=b):=by
  rw [Bool.eq_iff_iff,h4,decide_eq_true_iff]
  constructor
  ·intro e
   subst e
   exact y2 (jm.law.inj h1 h2)
  ·intro e
   subst e
   rw [h1] at h2
   injection h2
 rw [← this]
 exact h3
theorem dH (a b:Hsh) (ha:okH a) (hb:okH b) (w:World):(binOp .eql 34 (hV a) (hV b)).run Tryz.prog w=.ok (.bool (decide (a=b))) w:=by
 have h:=cW a b ha hb w
 unfold hV at h ⊢
 simp only [binOp,xaK,h,xaA,xaN]
theorem q4 (a b:Pth) (ha:okP a) (hb:okP b) (w:World):(binOp .eql 83 (pV a) (pV b)).run Tryz.prog w=.ok (.bool (decide (a=b))) w:=by
 have h:=fg a b ha hb w
 unfold pV at h ⊢
 simp only [binOp,xaK,h,xaA,xaN]
end Go.Proofs.YtomnhnmciopiiaaGreat
end
section
namespace Go.Proofs.YtomnhnmciopiiaaGreat.Dr
variable {H:Type} [DecidableEq H]
structure It (H:Type) where
 cls:H
 ins:List H
 ok:Bool
def css (l:List (It H)):List H:=l.map (·.cls)
def cw (known:List H):List (It H)→Bool
 | []=>true
 | x :: l=>x.ok&&!known.contains x.cls&&x.ins.all (fun c=>known.contains c)&&cw (known++[x.cls]) l
def bR (l:List (It H)):Bool:=cw [] l
structure eP (l:List (It H)):Prop where
 ok:∀ (n:Nat) (x:It H),l[n]?=some x→x.ok=true
 nodup:(css l).Nodup
 ins:∀ (n:Nat) (x:It H),l[n]?=some x→∀ c∈x.ins,(css l).idxOf c<n
theorem tO (l:List (It H)):∀ known:List H,known.Nodup→(cw known l=true↔(∀ (n:Nat) (x:It H),l[n]?=some x→x.ok=true)∧(known++css l).Nodup∧∀ (n:Nat) (x:It H),l[n]?=some x→∀ c∈x.ins,(known++css l).idxOf c<known.length+n):=by
 induction l with
 | nil=>intro known hk;simp [cw,css,hk]
 | cons x l ih =>
  intro known hk
  have ea:known++css (x :: l)=(known++[x.cls])++css l:=by simp [css]
  simp only [cw,xaG,Bool.not_eq_true',xbg,List.contains_iff_mem]
  constructor
  ·rintro ⟨⟨⟨h1,h2⟩,h3⟩,h4⟩
   have h2:x.cls ∉ known:=by simpa using h2
   have hn:(known++[x.cls]).Nodup:=by
    rw [xbq]
    refine ⟨hk,by simp,?_⟩
    intro a ha b hb e
    rw [xan.1 hb] at e
    exact h2 (e▸ha)
   obtain ⟨i1,i2,i3⟩:=(ih _ hn).1 h4
   refine ⟨?_,by rw [ea];exact i2,?_⟩
   ·intro n y hy
    cases n with
    | zero=>injection hy with hy;subst hy;exact h1
    | succ n=>exact i1 n y hy
   ·intro n y hy c hc
    rw [ea]
    cases n with
    | zero =>
     injection hy with hy
     subst hy
     have hck:c∈known:=by simpa using h3 c hc
     rw [List.append_assoc,List.idxOf_append,if_pos hck]
     exact xba.2 hck
    | succ n =>
     have:=i3 n y hy c hc
     rw [xap,xa0] at this
     omega
  ·rintro ⟨h1,h2,h3⟩
   rw [ea] at h2
   have hn:(known++[x.cls]).Nodup:=(xbq.1 h2).1
   refine ⟨⟨⟨h1 0 x rfl,?_⟩,?_⟩,(ih _ hn).2 ⟨fun n y hy=>h1 (n+1) y hy,h2,fun n y hy c hc=>?_⟩⟩
   ·have h5:=(xbq.1 hn).2.2
    have:x.cls ∉ known:=fun hm=>h5 _ hm _ (xan.2 rfl) rfl
    simpa using this
   ·intro c hc
    have h5:=h3 0 x rfl c hc
    rw [Nat.add_zero,List.idxOf_append] at h5
    split at h5
    ·rename_i hm;simpa using hm
    ·omega
   ·have h5:=h3 (n+1) y hy c hc
    rw [ea] at h5
    rw [xap,xa0]
    omega
theorem dQ (l:List (It H)):bR l=true↔eP l:=by
 have h:=tO l [] List.nodup_nil
 simp only [List.nil_append,List.length_nil,Nat.zero_add] at h
 exact ⟨fun e=>by obtain ⟨a,b,c⟩:=h.1 e;exact ⟨a,b,c⟩,fun ⟨a,b,c⟩=>h.2 ⟨a,b,c⟩⟩
def j5 (cs:List H) (ins:List H) (b:List Bool):List Bool:=ins.foldl (fun b c=>b.set (cs.idxOf c) true) b
def gO (l:List (It H)) (n:Nat):List H:=(l[n]?.map (·.ins)).getD []
def fx (l:List (It H)):Nat→List Bool→List Bool
 | 0,b=>b
 | n+1,b=>fx l n (if b[n]?.getD false then j5 (css l) (gO l n) b else b)
def bY (l:List (It H)) (m:Nat):List Bool:=fx l (m+1) ((xar l.length false).set m true)
abbrev Mk (b:List Bool) (k:Nat):Prop:=b[k]?=some true
theorem nO (cs:List H):∀ (ins:List H) (b:List Bool),(j5 cs ins b).length=b.length
 | [],_=>rfl
 | c :: ins,b=>by
  show (j5 cs ins (b.set _ true)).length=_
  rw [nO cs ins,xa6]
theorem pw (l:List (It H)):∀ (n:Nat) (b:List Bool),(fx l n b).length=b.length
 | 0,_=>rfl
 | n+1,b=>by
  unfold fx
  rw [pw l n]
  split
  ·exact nO _ _ _
  ·rfl
theorem cT (l:List (It H)) (m:Nat):(bY l m).length=l.length:=by
 unfold bY
 rw [pw,xa6,List.length_replicate]
theorem jA (cs:List H):∀ (ins:List H) (b:List Bool) (k:Nat),Mk (j5 cs ins b) k↔Mk b k∨(k<b.length∧∃ c∈ins,cs.idxOf c=k)
 | [],b,k=>by simp [j5]
 | c :: ins,b,k=>by
  show Mk (j5 cs ins (b.set (cs.idxOf c) true)) k↔_
  rw [jA cs ins,xa6]
  unfold Mk
  rw [List.getElem?_set]
  constructor
  ·rintro (h | ⟨h1,c',hc',h2⟩)
   ·split at h
    ·rename_i e
     split at h
     ·exact .inr ⟨by omega,c,by simp,e⟩
     ·cases h
    ·exact .inl h
   ·exact .inr ⟨h1,c',by simp [hc'],h2⟩
  ·rintro (h | ⟨h1,c',hc',h2⟩)
   ·left
    split
    ·rename_i e
     rw [if_pos (by have:=(xah.1 h).1;omega)]
    ·exact h
   ·rcases xax.1 hc' with rfl | hc'
    ·left
     rw [if_pos h2,if_pos (by omega)]
    ·exact .inr ⟨h1,c',hc',h2⟩
section
variable {l:List (It H)} (hr:eP l)
include hr
theorem iZ {n:Nat} {c:H} (hc:c∈gO l n):(css l).idxOf c<n:=by
 unfold gO at hc
 cases h:l[n]? with
 | none=>rw [h] at hc;cases hc
 | some x=>rw [h] at hc;exact hr.ins n x h c hc
theorem nI:∀ (n:Nat) (b:List Bool) (k:Nat),n≤k+1→(Mk (fx l n b) k↔Mk b k)
 | 0,_,_,_=>Iff.rfl
 | n+1,b,k,hk=>by
  unfold fx
  rw [nI n _ k (by omega)]
  split
  ·rw [jA]
   constructor
   ·rintro (h | ⟨_,c,hc,e⟩)
    ·exact h
    ·have:=iZ hr hc;omega
   ·exact .inl
  ·exact Iff.rfl
omit hr in
theorem j4:∀ (n:Nat) (b:List Bool) (k:Nat),Mk b k→Mk (fx l n b) k
 | 0,_,_,h=>h
 | n+1,b,k,h=>by
  unfold fx
  refine j4 n _ k ?_
  split
  ·exact (jA _ _ _ _).2 (.inl h)
  ·exact h
omit hr in
theorem gp (S:Nat→Prop) (hS:∀ n,S n→∀ c∈gO l n,S ((css l).idxOf c)):∀ (n:Nat) (b:List Bool),(∀ k,Mk b k→S k)→∀ k,Mk (fx l n b) k→S k
 | 0,_,h=>h
 | n+1,b,h=>by
  unfold fx
  refine gp S hS n _ fun k hk=>?_
  split at hk
  ·rename_i hb
   rcases (jA _ _ _ _).1 hk with hk | ⟨_,c,hc,rfl⟩
   ·exact h k hk
   ·refine hS n (h n ?_) c hc
    cases e:b[n]? with
    | none=>rw [e] at hb;cases hb
    | some v=>rw [e] at hb;show b[n]?=some true;rw [e];exact congrArg some hb
  ·exact h k hk
theorem kJ:∀ (n:Nat) (b:List Bool),b.length=l.length→∀ n',n'<n→Mk (fx l n b) n'→∀ c∈gO l n',Mk (fx l n b) ((css l).idxOf c)
 | 0,_,_,_,h,_,_,_=>absurd h (by omega)
 | n+1,b,hb,n',hn,hm,c,hc=>by
  have hlt:=iZ hr hc
  unfold fx at hm ⊢
  by_cases h:n'<n
  ·refine kJ n _ ?_ n' h hm c hc
   split
   ·rw [nO];exact hb
   ·exact hb
  ·obtain rfl:n'=n:=by omega
   rw [nI hr n' _ n' (by omega)] at hm
   refine j4 n' _ _ ?_
   have hbn:Mk b n':=by
    split at hm
    ·rcases (jA _ _ _ _).1 hm with h | ⟨_,c',hc',e⟩
     ·exact h
     ·have:=iZ hr hc';omega
    ·exact hm
   have:b[n']?.getD false=true:=by rw [hbn];rfl
   rw [if_pos this]
   exact (jA _ _ _ _).2 (.inr ⟨by have:=(xah.1 hbn).1;omega,c,hc,rfl⟩)
omit hr in
theorem wB {m:Nat} (hm:m<l.length):Mk (bY l m) m:=by
 unfold bY
 refine j4 _ _ _ ?_
 show (List.set _ m true)[m]?=some true
 rw [List.getElem?_set_self (by simpa using hm)]
omit hr in
theorem qn {n m k:Nat} (h:Mk ((xar n false).set m true) k):k=m:=by
 unfold Mk at h
 rw [List.getElem?_set] at h
 split at h
 ·rename_i e;exact e.symm
 ·rw [List.getElem?_replicate] at h
  split at h<;>cases h
theorem mF {m k:Nat} (h:Mk (bY l m) k):k≤m :=
 gp (l:=l) (fun k=>k≤m) (fun n hn c hc=>by have:=iZ hr hc;omega) (m+1) _ (fun k hk=>Nat.le_of_eq (qn hk)) k h
theorem ma {m n:Nat} (h:Mk (bY l m) n) {c:H} (hc:c∈gO l n):Mk (bY l m) ((css l).idxOf c) :=
 kJ hr (m+1) _ (by simp) n (by have:=mF hr h;omega) h c hc
theorem nS {m n k:Nat} (h:Mk (bY l m) n) (hk:Mk (bY l n) k):Mk (bY l m) k :=
 gp (l:=l) (fun k=>Mk (bY l m) k) (fun _ hn _ hc=>ma hr hn hc) (n+1) _ (fun k hk=>by rw [qn hk];exact h) k hk
end
def dj:List H→List Bool→List H
 | x :: l,true :: b=>x :: dj l b
 | _ :: l,false :: b=>dj l b
 | [],_=>[]
 | _ :: _,[]=>[]
def cnt (b:List Bool) (k:Nat):Nat:=(b.take k).count true
omit [DecidableEq H] in
theorem kP:∀ (l:List H) (b:List Bool),b.length=l.length→(dj l b).length=b.count true
 | [],b,h=>by rw [xa4 h];rfl
 | x :: l,[],h=>by simp at h
 | x :: l,true :: b,h=>by simp [dj,kP l b (by simpa using h)]
 | x :: l,false :: b,h=>by simp [dj,kP l b (by simpa using h)]
omit [DecidableEq H] in
theorem nV:∀ (l:List H) (b:List Bool) (n:Nat),b.length=l.length→Mk b n→(dj l b)[cnt b n]?=l[n]?
 | [],b,n,h,hm=>by rw [xa4 h] at hm;simp [Mk] at hm
 | x :: l,[],n,h,hm=>by simp at h
 | x :: l,true :: b,0,h,hm=>rfl
 | x :: l,false :: b,0,h,hm=>by simp [Mk] at hm
 | x :: l,true :: b,n+1,h,hm=>by
  have:=nV l b n (by simpa using h) (by simpa [Mk] using hm)
  simpa [dj,cnt] using this
 | x :: l,false :: b,n+1,h,hm=>by
  have:=nV l b n (by simpa using h) (by simpa [Mk] using hm)
  simpa [dj,cnt] using this
omit [DecidableEq H] in
theorem lI:∀ (l:List H) (b:List Bool) (i:Nat),b.length=l.length→i<(dj l b).length→∃ n,Mk b n∧cnt b n=i
 | [],b,i,h,hi=>by simp [dj] at hi
 | x :: l,[],i,h,hi=>by simp at h
 | x :: l,true :: b,0,h,hi=>⟨0,rfl,rfl⟩
 | x :: l,true :: b,i+1,h,hi=>by
  obtain ⟨n,h1,h2⟩:=lI l b i (by simpa using h) (by simpa [dj] using hi)
  exact ⟨n+1,by simpa [Mk] using h1,by simpa [cnt] using h2⟩
 | x :: l,false :: b,i,h,hi=>by
  obtain ⟨n,h1,h2⟩:=lI l b i (by simpa using h) (by simpa [dj] using hi)
  exact ⟨n+1,by simpa [Mk] using h1,by simpa [cnt] using h2⟩
omit [DecidableEq H] in
theorem gT:∀ (l:List H) (b:List Bool),(dj l b).Sublist l
 | [],b=>by cases b<;>exact List.Sublist.slnil
 | x :: l,[]=>List.nil_sublist _
 | x :: l,true :: b=>(gT l b).cons_cons x
 | x :: l,false :: b=>(gT l b).cons x
theorem mU {b:List Bool} {k:Nat} (h:Mk b k):cnt b (k+1)=cnt b k+1:=by
 unfold cnt
 rw [xaz,h]
 simp
theorem xH {b:List Bool} {k n:Nat} (h:k≤n):cnt b k≤cnt b n:=by
 unfold cnt
 exact List.Sublist.count_le _ (List.take_sublist_take_left h)
theorem Bm {b:List Bool} {k n:Nat} (h:Mk b k) (hk:k<n):cnt b k<cnt b n:=by
 have:=mU h
 have:=xH (b:=b) (show k+1≤n by omega)
 omega
theorem oT:∀ (b b':List Bool),b.length=b'.length→(∀ k,Mk b' k→Mk b k)→b'.count true≤b.count true
 | [],b',h,_=>by rw [xa4 h.symm];exact xai _
 | x :: b,[],h,_=>by simp at h
 | x :: b,y :: b',h,hs=>by
  have ih:=oT b b' (by simpa using h) fun k hk=>by have:=hs (k+1) (by simpa [Mk] using hk);simpa [Mk] using this
  cases y with
  | false=>cases x<;>simp<;>omega
  | true =>
   have:=hs 0 rfl
   simp [Mk] at this
   subst this
   simpa using ih
def bW (l:List (It H)) (c:H):List H:=dj (css l) (bY l ((css l).idxOf c))
section
variable {l:List (It H)} (hr:eP l)
include hr
theorem nw {n:Nat} {x:It H} (h:l[n]?=some x):(css l).idxOf x.cls=n:=by
 have hn:n<(css l).length:=by
  have:=(xah.1 h).1
  simpa [css] using this
 have e:(css l)[n]=x.cls:=by
  have h2:(css l)[n]?=some x.cls:=by simp [css,h]
  rw [xaj hn] at h2
  exact xao h2
 rw [← e]
 exact hr.nodup.idxOf_getElem n hn
theorem wL (b:List Bool):(dj (css l) b).Nodup:=hr.nodup.sublist (gT _ _)
theorem lK {b:List Bool} (hb:b.length=l.length) {n:Nat} {x:It H} (h:l[n]?=some x) (hm:Mk b n):(dj (css l) b)[cnt b n]?=some x.cls∧(dj (css l) b).idxOf x.cls=cnt b n:=by
 have h1:(dj (css l) b)[cnt b n]?=some x.cls:=by
  rw [nV _ _ n (by rw [hb];simp [css]) hm]
  simp [css,h]
 refine ⟨h1,?_⟩
 obtain ⟨h2,h3⟩:=xah.1 h1
 rw [← h3]
 exact (wL hr b).idxOf_getElem _ h2
end
section
variable {l:List (It H)} (hr:eP l)
include hr
theorem lH {c:H} (i:Nat) (hi:i<(bW l c).length):∃ n x,l[n]?=some x∧Mk (bY l ((css l).idxOf c)) n∧(bW l c)[i]?=some x.cls∧cnt (bY l ((css l).idxOf c)) n=i∧n≤(css l).idxOf c:=by
 obtain ⟨n,h1,h2⟩:=lI _ _ i (by rw [cT];simp [css]) hi
 have hn:n<l.length:=by have:=(xah.1 h1).1;rwa [cT] at this
 obtain ⟨x,hx⟩:∃ x,l[n]?=some x:=⟨_,xaj hn⟩
 have h3:=(lK hr (cT l _) hx h1).1
 rw [h2] at h3
 exact ⟨n,x,hx,h1,h3,h2,mF hr h1⟩
omit hr in
theorem s8 {c:H} (hc:c∈css l):(css l).idxOf c<l.length:=by
 have:=xba.2 hc
 simpa [css] using this
omit hr in
theorem lg {c:H} (hc:c∈css l):∃ x,l[(css l).idxOf c]?=some x∧x.cls=c:=by
 have h:=s8 hc
 obtain ⟨x,hx⟩:∃ x,l[(css l).idxOf c]?=some x:=⟨_,xaj h⟩
 have h2:(css l)[(css l).idxOf c]?=some c:=by
  rw [xaj (xba.2 hc)]
  exact congrArg some (List.getElem_idxOf _)
 obtain ⟨i,hi⟩:∃ i,i=(css l).idxOf c:=⟨_,rfl⟩
 rw [← hi] at h2 hx ⊢
 have h3:(css l)[i]?=some x.cls:=by simp [css,hx]
 rw [h2] at h3
 exact ⟨x,hx,(xao h3).symm⟩
theorem tD {c:H} (hc:c∈css l):0<(bW l c).length∧(bW l c)[(bW l c).length-1]?=some c:=by
 obtain ⟨x,hx,rfl⟩:=lg hc
 have hm:=wB (l:=l) (s8 hc)
 have h1:=(lK hr (cT l _) hx hm).1
 have hl:(bW l x.cls).length=cnt (bY l ((css l).idxOf x.cls)) ((css l).idxOf x.cls)+1:=by
  show (dj _ _).length=_
  rw [kP _ _ (by rw [cT];simp [css]),← mU hm]
  unfold cnt
  have e:∀ b:List Bool,∀ m,(∀ k,Mk b k→k≤m)→b.count true=(b.take (m+1)).count true:=by
   intro b m hb
   have h2:(b.drop (m+1)).count true=0:=by
    rw [List.count_eq_zero]
    intro hmem
    obtain ⟨j,hj⟩:=xaO hmem
    rw [List.getElem?_drop] at hj
    have:=hb _ hj
    omega
   have h3:=List.count_append (a:=true) (l₁:=b.take (m+1)) (l₂:=b.drop (m+1))
   rw [List.take_append_drop] at h3
   omega
  exact e _ _ fun k hk=>mF hr hk
 rw [hl]
 exact ⟨by omega,h1⟩
theorem rU {c:H} {n:Nat} {x:It H} (hx:l[n]?=some x) (hm:Mk (bY l ((css l).idxOf c)) n) {d:H} (hd:d∈x.ins):(bW l c).idxOf d<(bW l c).idxOf x.cls∧d∈bW l c:=by
 have hd2:d∈gO l n:=by unfold gO;rw [hx];exact hd
 have hk:=ma hr hm hd2
 have hlt:=iZ hr hd2
 have hdm:d∈css l:=xba.1 (by have:=(xah.1 hx).1;simp [css];simp [css] at hlt;omega)
 obtain ⟨y,hy,rfl⟩:=lg hdm
 have h1:=lK hr (cT l ((css l).idxOf c)) hy hk
 have h2:=lK hr (cT l ((css l).idxOf c)) hx hm
 refine ⟨?_,xak h1.1⟩
 show (dj _ _).idxOf _<(dj _ _).idxOf _
 rw [h1.2,h2.2]
 exact Bm hk hlt
theorem wG {c:H} {n:Nat} {x:It H} (hx:l[n]?=some x) (hm:Mk (bY l ((css l).idxOf c)) n):(∀ d∈bW l x.cls,d∈bW l c)∧(bW l x.cls).length≤cnt (bY l ((css l).idxOf c)) n+1:=by
 have hi:=nw hr hx
 constructor
 ·intro d hd
  obtain ⟨i,hi2⟩:=xaO hd
  obtain ⟨k,y,hy,hk,h3,_,_⟩:=lH hr (c:=x.cls) i (xah.1 hi2).1
  rw [hi2] at h3
  injection h3 with h3
  subst h3
  rw [hi] at hk
  exact xak (lK hr (cT l _) hy (nS hr hm hk)).1
 ·show (dj _ _).length≤_
  rw [kP _ _ (by rw [cT];simp [css]),hi,← mU hm]
  unfold cnt
  have hb:(bY l n).count true=((bY l n).take (n+1)).count true:=by
   have h2:((bY l n).drop (n+1)).count true=0:=by
    rw [List.count_eq_zero]
    intro hmem
    obtain ⟨j,hj⟩:=xaO hmem
    rw [List.getElem?_drop] at hj
    have:=mF hr hj
    omega
   have h3:=List.count_append (a:=true) (l₁:=(bY l n).take (n+1)) (l₂:=(bY l n).drop (n+1))
   rw [List.take_append_drop] at h3
   omega
  rw [hb]
  refine oT _ _ (by simp [cT]) fun k hk=>?_
  unfold Mk at hk ⊢
  rw [List.getElem?_take] at hk ⊢
  split at hk
  ·rename_i hlt
   rw [if_pos hlt]
   exact nS hr hm hk
  ·cases hk
end
def maxOf:List Nat→Nat:=fun l=>l.foldl max 0
def jG:List (It H)→(H→Nat)→H→Nat
 | [],f=>f
 | x :: l,f=>jG l fun h=>if h=x.cls then maxOf (x.ins.map f)+1 else f h
def cE (l:List (It H)) (c:H):Nat:=jG (l.take ((css l).idxOf c+1)) (fun _=>0) c
theorem mV (a b:List (It H)) (f:H→Nat):jG (a++b) f=jG b (jG a f):=by
 induction a generalizing f with
 | nil=>rfl
 | cons x a ih=>exact ih _
theorem mW:∀ (l:List (It H)) (f:H→Nat) (h:H),h ∉ css l→jG l f h=f h
 | [],_,_,_=>rfl
 | x :: l,f,h,hn=>by
  unfold jG
  rw [mW l _ h (fun hm=>hn (List.mem_cons_of_mem _ hm)),if_neg (fun e=>hn (by rw [e];exact List.mem_cons_self ..))]
theorem nB {l:List Nat} {n:Nat} (h:n∈l):n≤maxOf l:=by
 have key:∀ (l:List Nat) (a:Nat),a≤l.foldl max a∧∀ n∈l,n≤l.foldl max a:=by
  intro l
  induction l with
  | nil=>intro a;exact ⟨xai _,fun n h=>by cases h⟩
  | cons x l ih =>
   intro a
   obtain ⟨h1,h2⟩:=ih (max a x)
   refine ⟨xay (Nat.le_max_left _ _) h1,fun n hn=>?_⟩
   rcases xax.1 hn with rfl | hn
   ·exact xay (Nat.le_max_right _ _) h1
   ·exact h2 n hn
 exact (key l 0).2 n h
section
variable {l:List (It H)} (hr:eP l)
include hr
theorem mY {n:Nat} {x:It H} (hx:l[n]?=some x):cE l x.cls=maxOf (x.ins.map (jG (l.take n) fun _=>0))+1:=by
 unfold cE
 rw [nw hr hx,xaz,hx,mV]
 show (if x.cls=x.cls then _ else _)=_
 rw [if_pos rfl]
theorem mX {d:H} {n:Nat} (hd:(css l).idxOf d<n):jG (l.take n) (fun _=>0) d=cE l d:=by
 unfold cE
 have e:l.take n=l.take ((css l).idxOf d+1)++(l.take n).drop ((css l).idxOf d+1):=by
  have h:=List.take_append_drop ((css l).idxOf d+1) (l.take n)
  rw [List.take_take,Nat.min_eq_left (by omega)] at h
  exact h.symm
 rw [e,mV,mW]
 intro hm
 obtain ⟨y,hy,rfl⟩:=xav.1 hm
 obtain ⟨j,hj⟩:=xaO hy
 rw [List.getElem?_drop,List.getElem?_take] at hj
 split at hj
 ·have:=nw hr hj
  omega
 ·cases hj
theorem xL {n:Nat} {x:It H} (hx:l[n]?=some x) {d:H} (hd:d∈x.ins):cE l d<cE l x.cls:=by
 rw [mY hr hx,← mX hr (n:=n) (hr.ins n x hx d hd)]
 exact Nat.lt_succ_of_le (nB (xav.2 ⟨d,hd,rfl⟩))
end
end Go.Proofs.YtomnhnmciopiiaaGreat.Dr
end
section
namespace Go.Proofs.YtomnhnmciopiiaaGreat.Dr
variable {H:Type} [DecidableEq H]
def cy (l:List (It H)) (c:H):List H:=(l.filter fun x=>x.ins.contains c).map (·.cls)
theorem wm {l:List (It H)} {c h:H}:h∈cy l c↔∃ x∈l,c∈x.ins∧x.cls=h:=by
 unfold cy
 constructor
 ·intro hm
  obtain ⟨x,hx,rfl⟩:=xav.1 hm
  obtain ⟨h1,h2⟩:=List.mem_filter.1 hx
  exact ⟨x,h1,by simpa using h2,rfl⟩
 ·rintro ⟨x,h1,h2,rfl⟩
  exact xav.2 ⟨x,List.mem_filter.2 ⟨h1,by simpa using h2⟩,rfl⟩
section
variable {l:List (It H)} (hr:eP l)
include hr
theorem oZ {x y:It H} (hx:x∈l) (hy:y∈l) (h:x.cls=y.cls):x=y:=by
 obtain ⟨i,hi⟩:=xaO hx
 obtain ⟨j,hj⟩:=xaO hy
 have h1:=nw hr hi
 have h2:=nw hr hj
 rw [h,h2] at h1
 subst h1
 rw [hi] at hj
 exact xao hj
end
end Go.Proofs.YtomnhnmciopiiaaGreat.Dr
end
section
namespace Go.Proofs.YtomnhnmciopiiaaGreat
open Go Go.RowKit Go.Maps
abbrev Inp:=Pth×Hsh×Bool
abbrev Nam:=ByteArray×Inp
abbrev Drv:=ByteArray×List Nam×List Int
abbrev Itm:=Hsh×Drv
def okI (x:Inp):Prop:=okP x.1∧okH x.2.1
def okN (x:Nam):Prop:=x.1.size≤maxLen∧okI x.2
def iC (x:Inp):List Value:=pC x.1++(bv x.2.1++[.bool x.2.2])
def nC (x:Nam):List Value:=.string x.1 :: iC x.2
def dC (d:Drv) (v1 v2:Value):List Value:=[.string d.1,v1,v2]
def tC (x:Itm) (v1 v2:Value):List Value:=bv x.1++dC x.2 v1 v2
def yo:Lay Inp:=Lay.struct 85 (.cons mG (.cons gj (.cons (Lay.bool 4) .nil))) fun x=>(x.1,x.2.1,x.2.2,())
def lF:Lay Nam:=Lay.struct 87 (.cons (Lay.str 9) (.cons yo .nil)) fun x=>(x.1,x.2,())
def dv:Lay (List Nam):=Lay.slice 23 lF
def b5:Lay (List Int):=Lay.slice 24 (Lay.int 5 .u8)
def sP:Lay Drv:=Lay.struct 26 (.cons (Lay.str 9) (.cons dv (.cons b5 .nil))) fun d=>(d.1,d.2.1,d.2.2,())
def jY:Lay Itm:=Lay.struct 59 (.cons gj (.cons sP .nil)) fun x=>(x.1,x.2,())
def bB:Lay (List Itm):=Lay.slice 22 jY
theorem pg {w:World} {B:Nat} {cs:List Value} {x:Inp}:yo.At w B cs x↔cs=iC x∧okI x:=by
 constructor
 ·rintro ⟨c1,d1,rfl,h1,c2,d2,rfl,⟨rfl,h2⟩,c3,d3,rfl,h3,h4⟩
  have h3:c3=[.bool x.2.2]:=h3
  have h4:d3=[]:=h4
  subst h3 h4
  obtain ⟨rfl,h5⟩:=cG.1 h1
  exact ⟨rfl,h5,h2⟩
 ·rintro ⟨rfl,h1,h2⟩
  exact ⟨pC x.1,_,rfl,cG.2 ⟨rfl,h1⟩,bv x.2.1,_,rfl,⟨rfl,h2⟩,[.bool x.2.2],[],rfl,rfl,rfl⟩
theorem bw {w:World} {B:Nat} {cs:List Value} {x:Nam}:lF.At w B cs x↔cs=nC x∧okN x:=by
 constructor
 ·rintro ⟨c1,d1,rfl,⟨rfl,h1⟩,c2,d2,rfl,h2,h3⟩
  have h3:d2=[]:=h3
  subst h3
  obtain ⟨rfl,h5⟩:=pg.1 h2
  exact ⟨by simp [nC],h1,h5⟩
 ·rintro ⟨rfl,h1,h2⟩
  exact ⟨[.string x.1],iC x.2,rfl,⟨rfl,h1⟩,iC x.2,[],by simp,pg.2 ⟨rfl,h2⟩,rfl⟩
theorem uY {α:Type} {t:TypeId} {L:Lay α} {w:World} {B:Nat} {cs:List Value} {l:List α} (h:(Lay.slice t L).At w B cs l):∃ v,cs=[v]:=by
 obtain ⟨A,cap,e,_⟩:=h
 exact ⟨_,e⟩
structure aK (w:World) (B:Nat) (d:Drv) (v1 v2:Value):Prop where
 name:d.1.size≤maxLen
 ins:dv.At w B [v1] d.2.1
 rcp:b5.At w B [v2] d.2.2
theorem jv {w:World} {B:Nat} {cs:List Value} {d:Drv}:sP.At w B cs d↔∃ v1 v2,cs=dC d v1 v2∧aK w B d v1 v2:=by
 constructor
 ·rintro ⟨c1,d1,rfl,⟨rfl,h1⟩,c2,d2,rfl,h2,c3,d3,rfl,h3,h4⟩
  have h4:d3=[]:=h4
  subst h4
  obtain ⟨v1,rfl⟩:=uY h2
  obtain ⟨v2,rfl⟩:=uY h3
  exact ⟨v1,v2,rfl,h1,h2,h3⟩
 ·rintro ⟨v1,v2,rfl,h1,h2,h3⟩
  exact ⟨[.string d.1],[v1,v2],rfl,⟨rfl,h1⟩,[v1],[v2],rfl,h2,[v2],[],rfl,h3,rfl⟩
theorem bP {w:World} {B:Nat} {cs:List Value} {x:Itm}:jY.At w B cs x↔∃ v1 v2,cs=tC x v1 v2∧okH x.1∧aK w B x.2 v1 v2:=by
 constructor
 ·rintro ⟨c1,d1,rfl,⟨rfl,h1⟩,c2,d2,rfl,h2,h3⟩
  have h3:d2=[]:=h3
  subst h3
  obtain ⟨v1,v2,rfl,h5⟩:=jv.1 h2
  exact ⟨v1,v2,by simp [tC],h1,h5⟩
 ·rintro ⟨v1,v2,rfl,h1,h2⟩
  exact ⟨bv x.1,dC x.2 v1 v2,rfl,⟨rfl,h1⟩,dC x.2 v1 v2,[],by simp,jv.2 ⟨v1,v2,rfl,h2⟩,rfl⟩
def az (l:List Nam):List Hsh:=l.foldl (fun out x=>if x.2.2.2=true∧x.2.2.1 ∉ out then out++[x.2.2.1] else out) []
end Go.Proofs.YtomnhnmciopiiaaGreat
end
section
namespace Go.Proofs.YtomnhnmciopiiaaGreat
open Go
section
variable {P:Program} {ops:Array Oper} {md:Region.Mode} {C:World→Prop}
theorem rz {n:Nat} {d:Array Bool} (hs:Region.sinkB md ops n=true) (hc:Region.chainB md ops n=true) (hn:n<ops.size) (inv:HeadInv md ops n d)
  {i j:Nat} (hin:i<n) (hun:d.getD i true=false) (hj:j∈xbo md ops d):j<n :=
 Nat.lt_of_not_le fun h=>tail_waits hs hc hn inv _ i rfl hin hun j h hj
end
end Go.Proofs.YtomnhnmciopiiaaGreat
end
section
namespace Go.Proofs.YtomnhnmciopiiaaGreat
open Go Go.RowKit
section
variable {P:Program} {w:World}
theorem aR {w:World} {base n s:Nat} {e:TypeId} {v:Value} {xs:List Value} (h:w.ownsRow base e s v n xs) :
  (v=.slice none 0 0∧n=0∧xs=[])∨∃ g cap cur,v=.slice (some ⟨g,0,none⟩) n cap∧base≤g∧n≤cap∧cap≤maxLen∧Blk w g e cur∧cur.size=cap*s∧cur.toList.take (n*s)=xs∧g<w.heap.size:=by
 obtain ⟨hl,h⟩:=h
 rcases h with ⟨h,h2⟩ | ⟨g,cap,cur,h,hb,hh,hn,hc,hs,ht⟩
 ·exact .inl ⟨h,h2,xa4 (by rw [hl,h2,Nat.zero_mul])⟩
 ·exact .inr ⟨g,cap,cur,h,hb,hn,hc,hh,hs,ht,Blk.lt hh⟩
theorem yY {w:World} {base e g n cap k s:Nat} {xs:List Value} (h:w.ownsRow base e s (.slice (some ⟨g,0,none⟩) n cap) n xs) (hk:k≤n):w.ownsRow base e s (.slice (some ⟨g,0,none⟩) k cap) k (xs.take (k*s)):=by
 obtain ⟨hl,h⟩:=h
 have hks:k*s≤n*s:=xa8 _ hk
 rcases h with ⟨h,_⟩ | ⟨g',cap',cur,h,hb,hh,hn,hc,hs,ht⟩
 ·cases h
 ·injection h with e1 e2 e3
  injection e1 with e1
  injection e1 with e1
  subst e1 e3
  refine ⟨by rw [xaJ];omega,.inr ⟨g,cap,cur,rfl,hb,hh,by omega,hc,hs,?_⟩⟩
  rw [← ht,List.take_take]
  congr 1
  omega
theorem an {w w':World} {base n s:Nat} {e:TypeId} {v:Value} {xs:List Value} (h:w.ownsRow base e s v n xs) (hk:∀ g,v.ownBlock=some g→g<w.heap.size→w'.heap[g]?=w.heap[g]?):w'.ownsRow base e s v n xs:=by
 obtain ⟨hl,h⟩:=h
 refine ⟨hl,?_⟩
 rcases h with h | ⟨g,cap,cur,h,hb,hh,hr⟩
 ·exact .inl h
 ·subst h
  exact .inr ⟨g,cap,cur,rfl,hb,(hk g rfl (Blk.lt hh)).trans hh,hr⟩
theorem aB {w:World} {base n g s:Nat} {e:TypeId} {v:Value} {xs:List Value} (h:w.ownsRow base e s v n xs) (hg:v.ownBlock=some g):base≤g∧g<w.heap.size:=by
 rcases aR h with ⟨rfl,_⟩ | ⟨g',cap,cur,rfl,hb,_,_,hh,_⟩
 ·cases hg
 ·injection hg with hg
  change g'=g at hg
  subst hg
  exact ⟨hb,hh.lt⟩
theorem ew {w:World} {base n g s:Nat} {e t:TypeId} {v:Value} {xs:List Value} {cs:Array Value} (h:w.ownsRow base e s v n xs) (hb:Blk w g t cs) (hne:e ≠ t):v.ownBlock ≠ some g:=by
 rcases aR h with ⟨rfl,_⟩ | ⟨g',cap,cur,rfl,_,_,_,hh,_⟩
 ·simp [Value.ownBlock]
 ·intro he
  injection he with he
  change g'=g at he
  subst he
  exact Blk.ne_ hh hb hne rfl
theorem bn {w:World} {base base' n s:Nat} {e:TypeId} {v:Value} {xs:List Value} (h:w.ownsRow base e s v n xs) (hb:∀ g,v.ownBlock=some g→base'≤g):w.ownsRow base' e s v n xs:=by
 obtain ⟨hl,h⟩:=h
 refine ⟨hl,?_⟩
 rcases h with h | ⟨g,cap,cur,rfl,_,hr⟩
 ·exact .inl h
 ·exact .inr ⟨g,cap,cur,rfl,hb g rfl,hr⟩
theorem cN {w:World} {base n s:Nat} {e:TypeId} {v:Value} {xs:List Value} (h:w.ownsRow base e s v n xs) (hn:0<n):∃ g cap,v=.slice (some ⟨g,0,none⟩) n cap:=by
 rcases aR h with ⟨_,h0,_⟩ | ⟨g,cap,cur,rfl,_⟩
 ·omega
 ·exact ⟨g,cap,rfl⟩
end
section
variable (R e s n m:Nat) (v:Value) (ys:List Value)
variable {R e s n m v ys}
end
section
variable {P:Program}
end
section
variable {P:Program} {ρ:Operand→Value} {o:Oper}
theorem av (ty:TypeId) (x:Operand) (ho:o.op=.load ty x) (g:Nat) (hx:ρ x=.pointer (some ⟨g,0,none⟩)) (t:TypeId) (cs:Array Value) (d:TypeDesc) (w:World) (hg:Blk w g t cs)
  (hu:P.underlying ty=some d) (hd:(match d with | .struct _ | .array _ _=>true | _=>false)=true) (hi:(P.info? ty).map (·.size)=some cs.size):(execOp ρ o).run P w=.ok (.value (.agg cs)) w:=by
 unfold execOp
 simp only [ho,hx,xcu,xbT,xaK,xaN,xaA,run_loadVar_row w g t ty cs (0,0) d hg hu hd hi]
end
end Go.Proofs.YtomnhnmciopiiaaGreat
end
section
namespace Go.Proofs.YtomnhnmciopiiaaGreat
open Go Go.RowKit
theorem uD {α:Type} {s:Nat}:∀ (l:List (List α)) (k:Nat) (b:List α),(∀ b∈l,b.length=s)→l[k]?=some b→(l.flatten.drop (k*s)).take s=b
 | [],_,_,_,h=>by simp at h
 | b :: l,0,c,hs,h=>by
  have h1:=hs b (by simp)
  simp at h
  subst h
  simp [← h1]
 | b :: l,k+1,c,hs,h=>by
  have h1:=hs b (by simp)
  rw [List.flatten_cons,List.drop_append,show (k+1)*s-b.length=k*s by rw [h1,Nat.add_mul];omega,List.drop_eq_nil_of_le (by rw [h1,Nat.add_mul];omega),List.nil_append]
  exact uD l k c (fun d hd=>hs d (by simp [hd])) (by simpa using h)
theorem Blk.setCells {g:Nat} {t:TypeId}:∀ (vs:List Value) (o:Nat) (w:World) (cs:Array Value),Blk w g t cs→o+vs.length≤cs.size→Blk (w.setCells g o vs) g t (cs.toList.take o++(vs++cs.toList.drop (o+vs.length))).toArray
 | [],o,w,cs,h,_=>by simpa [World.setCells] using h
 | v :: vs,o,w,cs,h,hl=>by
  simp only [xaE] at hl
  have h2:=Blk.setCells vs (o+1) _ _ (h.tZ o v) (by simp;omega)
  rw [World.setCells]
  have e:(cs.setIfInBounds o v).toList.take (o+1)++(vs++(cs.setIfInBounds o v).toList.drop (o+1+vs.length))=cs.toList.take o++(v :: vs++cs.toList.drop (o+(v :: vs).length)):=by
   have ho:o<cs.toList.length:=by simp;omega
   rw [Array.toList_setIfInBounds,List.drop_set_of_lt (by omega),List.take_set,List.take_succ_eq_append_getElem ho,List.set_append_right _ _ (by simp;omega)]
   have e2:o-(List.take o cs.toList).length=0:=by simp;omega
   rw [e2]
   simp [Nat.add_comm,Nat.add_left_comm]
  rwa [e] at h2
theorem eF {g:Nat} {a:World}:∀ (vs:List Value) (o:Nat) (w:World),a.grownBy w (some g)→a.grownBy (w.setCells g o vs) (some g)
 | [],_,_,h=>h
 | v :: vs,o,w,h=>by
  rw [World.setCells]
  exact eF vs (o+1) _ (qF h (.inl rfl) v)
section
variable {w:World} {base g n cap s:Nat} {e:TypeId} {xs:List Value}
theorem fE (h:w.ownsRow base e s (.slice (some ⟨g,0,none⟩) n cap) n xs) (o:Nat) (vs:List Value) (hf:o+vs.length≤n*s):(w.setCells g o vs).ownsRow base e s (.slice (some ⟨g,0,none⟩) n cap) n (xs.take o++(vs++xs.drop (o+vs.length))):=by
 have hl:=h.1
 rcases aR h with ⟨h,_⟩ | ⟨g',cap',cur,h',hb,hn,hc,hh,hs,ht,_⟩
 ·cases h
 ·injection h' with e1 e2 e3
  injection e1 with e1
  injection e1 with e1
  subst e1 e3
  have hns:n*s≤cap*s:=xa8 _ hn
  refine ⟨by simp;omega,.inr ⟨g,cap,_,rfl,hb,Blk.setCells vs o w cur hh (by omega),hn,hc,by simp;omega,?_⟩⟩
  have e:cur.toList=xs++cur.toList.drop (n*s):=by rw [← ht,List.take_append_drop]
  show (cur.toList.take o++(vs++cur.toList.drop (o+vs.length))).take (n*s)=_
  have e1:cur.toList.take o=xs.take o:=by rw [← ht,List.take_take];congr 1;omega
  have e2:cur.toList.drop (o+vs.length)=xs.drop (o+vs.length)++cur.toList.drop (n*s):=by
   rw [e,List.drop_append,show o+vs.length-xs.length=0 by omega,xaQ,← e]
  rw [e1,e2,← List.append_assoc,← List.append_assoc]
  rw [List.take_append_of_le_length (by simp;omega),List.take_of_length_le (by simp;omega),List.append_assoc]
theorem gV (h:w.ownsRow base e s (.slice (some ⟨g,0,none⟩) n cap) n xs) (o m:Nat) (cs:List Value) (hcs:(xs.drop o).take m=cs):w.rangeAt g o cs:=by
 rcases aR h with ⟨h,_⟩ | ⟨g',cap',cur,h',hb,hn,hc,hh,hs,ht,_⟩
 ·cases h
 ·injection h' with e1 e2 e3
  injection e1 with e1
  injection e1 with e1
  subst e1 e3
  intro j v hv
  rw [hh.cell,← xaM]
  rw [← hcs,List.getElem?_take,List.getElem?_drop,← ht,List.getElem?_take] at hv
  split at hv
  ·split at hv
   ·exact hv
   ·cases hv
  ·cases hv
theorem lM (h:w.ownsRow base e s (.slice (some ⟨g,0,none⟩) n cap) n xs) (o m:Nat) (hf:o+m≤n*s):w.there g o m:=by
 rcases aR h with ⟨h,_⟩ | ⟨g',cap',cur,h',hb,hn,hc,hh,hs,ht,_⟩
 ·cases h
 ·injection h' with e1 e2 e3
  injection e1 with e1
  injection e1 with e1
  subst e1 e3
  intro j hj
  have hns:n*s≤cap*s:=xa8 _ hn
  have hlt:o+j<cur.size:=by omega
  exact ⟨by rw [hh.cell,xa5 hlt];rfl,hh.frozen _⟩
end
section
variable {P:Program} {ρ:Operand→Value} {o:Oper}
theorem aj (ty:TypeId) (x:Operand) (ho:o.op=.load ty x) (b off:Nat) (hx:ρ x=.pointer (some ⟨b,off,none⟩)) (cs:List Value) (d:TypeDesc) (w:World) (hc:w.rangeAt b off cs)
  (hu:P.underlying ty=some d) (hd:d.isRow=true) (hi:(P.info? ty).map (·.size)=some cs.length):(execOp ρ o).run P w=.ok (.value (.agg cs.toArray)) w:=by
 unfold execOp
 simp only [ho,hx,xcu,xbT,xaK,xaN,xaA,run_loadVar_mid w b off ty cs d hc hu hd hi]
theorem exec_load_cell (ty:TypeId) (x:Operand) (ho:o.op=.load ty x) (p:Addr) (hx:ρ x=.pointer (some p)) (u:Value) (d:TypeDesc) (w:World) (hu:P.underlying ty=some d) (hd:d.isRow=false) (hc:w.cell? p=some u):(execOp ρ o).run P w=.ok (.value u) w:=by
 have hagg:(isAgg ty).run P w=.ok false w:=by
  unfold isAgg
  rw [xaK,run_underlying hu w]
  cases d<;>simp_all
 unfold execOp
 simp [ho,hx,xcu,xbT,loadVar,hagg,hc]
end
end Go.Proofs.YtomnhnmciopiiaaGreat
end
section
namespace Go.Proofs.YtomnhnmciopiiaaGreat
open Go Go.RowKit Go.Maps
theorem ei:(Tryz.prog.info? 34).map (·.size)=some 20:=by kernel_rfl
theorem b8:(Tryz.prog.info? 83).map (·.size)=some 21:=by kernel_rfl
def zcP:Array Value:=(bv (xar 20 0)++[xaY ByteArray.empty]).toArray
def zcH:Array Value:=(bv (xar 20 0)).toArray
theorem aH {P:Program} {ρ:Operand→Value} {o:Oper} (ty e:TypeId) (x i:Operand) (ho:o.op=.indexAddr ty x i) (b off n cap:Nat) (k:Int) (kk:IntKind) (hx:ρ x=.slice (some ⟨b,off,none⟩) n cap) (hi:ρ i=.int kk k) (hk:0≤k∧k<(n:Int)) (s:Nat) (hu:P.underlying ty=some (.slice e)) (hs:(P.info? e).map (·.size)=some s) (w:World) :
  (execOp ρ o).run P w=.ok (.value (.pointer (some ⟨b,off+k.toNat*s,none⟩))) w:=by
 have e2:P.elem ty=e:=by simp [Program.elem,hu]
 unfold execOp
 simp only [ho,hx,hi,xaK,xaN,run_indexAt_slice w ty _ _ _ kk k (by rw [e2];exact hu),e2,if_pos hk]
 cases hq:P.info? e with
 | none=>simp [hq] at hs
 | some j =>
  have h1:j.size=s:=by simpa [hq] using hs
  simp [sizeOf,typeInfo,hq,h1,Addr.add_mid]
theorem ak {α:Type} {t:TypeId} {L:Lay α} {w:World} {B:Nat} {v:Value} {l:List α} (h:(Lay.slice t L).At w B [v] l):∃ A cap,v=.slice A l.length cap∧l.length≤cap∧cap≤maxLen∧(A=none→cap=0)∧(0<l.length→∃ b off,A=some ⟨b,off,none⟩∧b<B∧pO L w B b off l):=by
 obtain ⟨A,cap,e,h1,h2,h3,h4⟩:=h
 injection e with e _
 exact ⟨A,cap,e,h1,h2,h3,h4⟩
theorem bD {P:Program} {ops:Array Oper} {rest:List Oper} {o1 o2:Oper} {a:Act} {w:World} {Q:Exit→Act→World→Prop} (hg1:o1.guard=none) (hg2:o2.guard=none) (ty:TypeId) (x y:Operand) (ho2:o2.op=.store ty x y) (zc cells:Array Value)
  (hr:(execOp a.eval o1).run P w=.ok (.value (.pointer (some ⟨w.heap.size,0,none⟩))) (w.alloc (.cells zc ty)))
  (hi:(P.info? ty).map (·.size)=some cells.size) (hz:zc.size=cells.size) (h1:cells.all (·.oneCell')=true)
  (hx:(a.put o1.dst (.pointer (some ⟨w.heap.size,0,none⟩))).eval x=.pointer (some ⟨w.heap.size,0,none⟩)) (hy:(a.put o1.dst (.pointer (some ⟨w.heap.size,0,none⟩))).eval y=.agg cells)
  (h:∀ w',Blk w' w.heap.size ty cells→Below w.heap.size w w'→wpList P ops Q rest ((a.put o1.dst (.pointer (some ⟨w.heap.size,0,none⟩))).put o2.dst undef) w'):wpList P ops Q (o1 :: o2 :: rest) a w:=by
 refine aa hg1 _ _ hr ?_
 refine ar hg2 ty x y ho2 w.heap.size zc cells ty (Blk.new _ _ _) hi hz h1 hx hy ?_
 intro w' hb hg
 refine h w' hb (((xaq _ w).alloc (xai _) _).grown hg (by rw [size_alloc];omega) ?_)
 intro k hk
 injection hk with hk
 omega
theorem a7 {w w':World} {b o:Nat} {cs:List Value} (h:w.rangeAt b o cs) (he:w'.heap[b]?=w.heap[b]?):w'.rangeAt b o cs:=by
 intro j v hv
 have:=h j v hv
 unfold World.cell? at this ⊢
 dsimp only at this ⊢
 rw [he]
 exact this
theorem hsz {h:Hsh} (hh:okH h):(Tryz.prog.info? 34).map (·.size)=some (bv h).toArray.size:=by
 rw [ei]
 simp [bvL]
 exact hh.symm
theorem psz {p:Pth} (hp:okP p):(Tryz.prog.info? 83).map (·.size)=some (pC p).toArray.size:=by
 rw [b8]
 simp [bQ hp]
end Go.Proofs.YtomnhnmciopiiaaGreat
end
section
namespace Go.Proofs.YtomnhnmciopiiaaGreat
open Go Go.RowKit
theorem o7 (off:Nat):∀ (l:List Value) (k:Nat) (acc:Array Value),off+k+l.length≤acc.size →
  ((l.zipIdx k).foldl (fun a x=>a.setIfInBounds (off+x.2) x.1) acc).toList=acc.toList.take (off+k)++l++acc.toList.drop (off+k+l.length)
 | [],k,acc,_=>by simp
 | x :: l,k,acc,h=>by
  rw [xaE] at h
  rw [List.zipIdx_cons,List.foldl_cons,o7 off l (k+1) _ (by rw [Array.size_setIfInBounds];omega)]
  have hk:off+k<acc.toList.length:=by rw [xbh];omega
  have hs:(acc.setIfInBounds (off+k) x).toList=(acc.toList.take (off+k)++[x])++acc.toList.drop (off+k+1):=by
   rw [Array.toList_setIfInBounds,List.set_eq_take_append_cons_drop,if_pos hk,List.append_assoc]
   rfl
  have hl:(acc.toList.take (off+k)++[x]).length=off+k+1:=by
   rw [xap,xaJ,Nat.min_eq_left (by omega)]
   rfl
  simp only
  rw [hs,← Nat.add_assoc,List.take_left' hl,List.drop_append,hl,List.drop_of_length_le (by rw [hl];omega),List.nil_append,List.drop_drop,xaE]
  have e:off+k+1+(off+k+1+l.length-(off+k+1))=off+k+(l.length+1):=by omega
  rw [e]
  simp
theorem lx (place:Nat→Option (Nat×Nat)) (cells:Array Value) (i:Nat) (v:Value) (rest:List (Nat×Value)) (off:Nat) (hp:place i=some (off,v.cells.size)) (hc:off+v.cells.size≤cells.size) :
  xbL place cells ((i,v) :: rest)=xbL place (cells.toList.take off++v.cells.toList++cells.toList.drop (off+v.cells.size)).toArray rest:=by
 have e:v.cells.zipIdx.foldl (fun cs x=>cs.setIfInBounds (off+x.2) x.1) cells=(cells.toList.take off++v.cells.toList++cells.toList.drop (off+v.cells.size)).toArray:=by
  apply Array.ext'
  have h:=o7 off v.cells.toList 0 cells (by simpa using hc)
  simp only [Nat.add_zero] at h
  rw [← Array.foldl_toList,Array.toList_zipIdx,h]
  simp
 rw [xbL,hp]
 simp only []
 rw [if_neg (by simp;omega)]
 rw [← e]
theorem mr {P:Program} {t e n:Nat} {z v:Value} (ht:P.underlying t=some (.slice e)) (hs:(P.info? e).map (·.size)=some n) (hn:0<n) (h24:n≤16777216) (hz:∀ w,(zeroValue e).run P w=.ok z w) (hv:v.cells.size=n) (w:World) :
  (Instr.buildSlice t 1 #[(0,v)]).run P w=.ok (.slice (some ⟨w.heap.size,0,none⟩) 1 1) (w.alloc (.cells v.cells e)):=by
 have hsz:∀ w,(sizeOf e).run P w=.ok n w:=by
  intro w
  cases hq:P.info? e with
  | none=>simp [hq] at hs
  | some i =>
   have h1:i.size=n:=by simpa [hq] using hs
   simp [sizeOf,typeInfo,hq,h1]
 have hfill:∀ cells:Array Value,cells.size=n→xbL (fun i=>some (i*n,n)) cells [(0,v)]=some v.cells:=by
  intro cells hc
  rw [lx _ _ 0 v [] 0 (by simp [hv]) (by omega)]
  unfold xbL
  congr 1
  apply Array.ext'
  simp
  omega
 have h0:¬ n=0:=by omega
 have h25:¬ 16777216<n:=by omega
 simp [Instr.buildSlice,run_underlying ht,hsz,h0,h25,hz,hfill,xbd]
 have hr:(newRow e v.cells).run P w=.ok ⟨w.heap.size,0,none⟩ (w.alloc (.cells v.cells e)):=rfl
 rw [hr]
theorem bO {P:Program} {ρ:Operand→Value} {o:Oper} (t:TypeId) (x:Operand) (ho:o.op=.buildSlice t 1 #[(0,x)]) {e n:Nat} {z v:Value} (hx:ρ x=v) (ht:P.underlying t=some (.slice e)) (hs:(P.info? e).map (·.size)=some n) (hn:0<n) (h24:n≤16777216) (hz:∀ w,(zeroValue e).run P w=.ok z w) (hv:v.cells.size=n) (w:World) :
  (execOp ρ o).run P w=.ok (.value (.slice (some ⟨w.heap.size,0,none⟩) 1 1)) (w.alloc (.cells v.cells e)):=by
 have h:=mr (P:=P) ht hs hn h24 hz hv w
 unfold execOp
 simp only [ho,List.map_toArray,List.map_cons,List.map_nil,hx,xaK,h,xaA,xaN]
end Go.Proofs.YtomnhnmciopiiaaGreat
end
section
namespace Go.Proofs.YtomnhnmciopiiaaGreat
open Go Go.RowKit
section
variable {P:Program} {ρ:Operand→Value} {o:Oper}
theorem ie (t:TypeId) (x:Operand) (lo hi mx:Option Operand) (ho:o.op=.slice t x lo hi mx) (v:Value) (hv:∀ W,(Instr.sliceAt t (ρ x) (lo.map ρ) (hi.map ρ) (mx.map ρ)).run P W=.ok v W) (W:World):(execOp ρ o).run P W=.ok (.value v) W:=by
 unfold execOp
 simp only [ho,xaK,hv W,xaA,xaN]
theorem bU (op:BinOp) (t:TypeId) (x y:Operand) (r:TypeId) (ho:o.op=.binOp op t x y r) (xs ys:Array Value) (hx:ρ x=.agg xs) (hy:ρ y=.agg ys) (hm:P.eqGuardType P.depth t=false) (v:Value) (hv:∀ W,(binOp op t (.agg xs) (.agg ys)).run P W=.ok v W) (W:World):(execOp ρ o).run P W=.ok (.value v) W:=by
 unfold execOp
 simp only [ho,hx,hy,xaK,run_eqGuard_agg W op t x y xs ys hm,hv W,xaA,xaN]
section
variable (t e:TypeId) (ht:P.underlying t=some (.slice e)) (hs:(P.info? e).map (·.size)=some 1)
include ht hs
end
end
theorem jR {P:Program} {ops:Array Oper} {rest:List Oper} {o:Oper} {a:Act} {w:World} {Q:Exit→Act→World→Prop} (hw:xaw o (yielded ops a.tmps)=true)
  (h:∀ K:Act→World→Prop,(∀ a w,wpList P ops Q rest a w→K a w)→o.wp P a w K Q):wpList P ops Q (o :: rest) a w :=
 wpList_step fun K hK=>by rw [if_pos hw];exact h K hK
theorem aC {P:Program} {ops:Array Oper} {rest:List Oper} {o:Oper} {a:Act} {w:World} {Q:Exit→Act→World→Prop} (hw:xaw o (yielded ops a.tmps)=true) (v:Value) (w':World) (hrun:(execOp a.eval o).run P w=.ok (.value v) w') (h:wpList P ops Q rest (a.put o.dst v) w'):wpList P ops Q (o :: rest) a w :=
 jR hw fun K hK=>by
  unfold Oper.wp
  rw [hrun]
  exact hK _ _ h
end Go.Proofs.YtomnhnmciopiiaaGreat
end
section
namespace Go.Proofs.YtomnhnmciopiiaaGreat
open Go Go.RowKit
structure fY (w:World) (n:Nat) (A:Option Addr) (m c:Nat) (news:List Value):Prop where
 len:news.length=m*n
 none_:A=none→m=0∧c=0
 one:∀ u∈news,u.oneCell'=true
 cells:∀ ad,A=some ad→∀ j u,news[j]?=some u→w.cell? (ad.add j)=some u
theorem fY.below {w w':World} {n m c:Nat} {A:Option Addr} {news:List Value} (h:fY w n A m c news) (hb:Below w.heap.size w w'):fY w' n A m c news :=
 ⟨h.len,h.none_,h.one,fun ad had j u hu=>by
  have h1:=h.cells ad had j u hu
  rw [xaU (w':=w') (hb.block _ (xbk w _ h1))]
  exact h1⟩
section
variable {P:Program} {w:World} {ops:Array Oper} {rest:List Oper} {o:Oper} {a:Act} {Q:Exit→Act→World→Prop}
theorem si (base:Nat) (t ty e:TypeId) (i:TypeInfo) (z:Value) (size bytes:Nat) (ht:P.underlying t=some (.slice e)) (hi:P.info? e=some i) (hz:i.zero=some z)
  (hsize:i.size=size) (hby:i.bytes=bytes) (hzs:z.cells.size=size) (hsz:0<size) (v:Value) (n:Nat) (xs:List Value) (hown:w.ownsRow base e size v n xs)
  (A:Option Addr) (m c:Nat) (news:List Value) (hs:fY w size A m c news) (h63:n+m≤maxLen) (hbytes:(n+m)*bytes≤140737488355328) (hbase:base≤w.heap.size) :
  ∃ v' w',(Builtin.append_ #[t,t] ty #[v,.slice A m c]).run P w=.ok v' w'∧w'.ownsRow base e size v' (n+m) (xs++news)∧w.grownBy w' v.ownBlock ∧
   (v'.ownBlock=v.ownBlock∨v'.ownBlock=some w.heap.size)∧(v'=.slice none 0 0→v=.slice none 0 0):=by
 rcases A with _ | ad
 ·obtain ⟨rfl,rfl⟩:=hs.none_ rfl
  have hn:news=[]:=xa4 (by rw [hs.len];omega)
  subst hn
  exact ⟨v,w,run_append_owned_none (P:=P) (w:=w) base t ty e i size ht hi v n xs hown,by simpa using hown,World.grownBy.refl w _,.inl rfl,id⟩
 ·obtain ⟨v',w',h1,h2,h3,h4,h5⟩:=run_append_own_at (P:=P) w base t ty e i z size bytes ht hi hz hsize hby hzs hsz v n xs hown ad m c news hs.len (hs.cells ad rfl) hs.one h63 hbytes hbase
  exact ⟨v',w',h1,h2,h3,h5,fun h=>(h4.1 h).1⟩
theorem aD (hgd:o.guard=none) (s x:Operand) (t:TypeId)
  (ho:o.op=.call { callee:=.builtin .append,args:=#[s,x],argTypes:=#[t,t] })
  (base:Nat) (e:TypeId) (i:TypeInfo) (z:Value) (size bytes:Nat) (ht:P.underlying t=some (.slice e)) (hi:P.info? e=some i) (hz:i.zero=some z)
  (hsize:i.size=size) (hby:i.bytes=bytes) (hzs:z.cells.size=size) (hsz:0<size) (v:Value) (n:Nat) (xs:List Value) (hown:w.ownsRow base e size v n xs)
  (A:Option Addr) (m c:Nat) (news:List Value) (hsrc:fY w size A m c news) (h63:n+m≤maxLen) (hbytes:(n+m)*bytes≤140737488355328) (hbase:base≤w.heap.size)
  (hs:a.eval s=v) (hx:a.eval x=.slice A m c)
  (h:∀ v' w',w'.ownsRow base e size v' (n+m) (xs++news)→w.grownBy w' v.ownBlock→(v'.ownBlock=v.ownBlock∨v'.ownBlock=some w.heap.size)→wpList P ops Q rest (a.put o.dst v') w') :
  wpList P ops Q (o :: rest) a w:=by
 refine wpList_plain hgd fun K hK=>?_
 obtain ⟨v',w',hr,h2,h3,h4,_⟩:=si (P:=P) (w:=w) base t o.type e i z size bytes ht hi hz hsize hby hzs hsz v n xs hown A m c news hsrc h63 hbytes hbase
 unfold Oper.wp execOp
 simp only [ho,resolve,invoke,builtin,xaK,xaN,xaA,List.map_toArray,List.map_cons,List.map_nil,hs,hx,hr]
 exact hK _ _ (h v' w' h2 h3 h4)
end
theorem Below.yi {w0 w w':World} {v:Value} {base n s:Nat} {e:TypeId} {xs:List Value} (h:Below w0.heap.size w0 w) (hown:w.ownsRow base e s v n xs) (hb:w0.heap.size≤base) (hg:w.grownBy w' v.ownBlock):Below w0.heap.size w0 w' :=
 h.grown hg h.size fun _ hk=>xay hb (aB hown hk).1
section
variable {α:Type} {f:α→List Value} {n:Nat}
theorem kF:∀ (l:List α),(∀ x∈l,(f x).length=n)→(l.flatMap f).length=l.length*n
 | [],_=>by simp
 | x :: l,h=>by
  rw [List.flatMap_cons,xap,h x (by simp),kF l fun y hy=>h y (by simp [hy]),xaE,Nat.add_mul]
  omega
theorem o5 (h0:0<n):∀ (l:List α),(∀ x∈l,(f x).length=n)→∀ (j:Nat) (u:Value),(l.flatMap f)[j]?=some u→∃ x,l[j / n]?=some x∧(f x)[j % n]?=some u
 | [],_,j,u,hu=>by simp at hu
 | x :: l,h,j,u,hu=>by
  have hx:=h x (by simp)
  rw [List.flatMap_cons,List.getElem?_append] at hu
  by_cases hj:j<n
  ·rw [if_pos (by omega)] at hu
   rw [Nat.div_eq_of_lt hj,Nat.mod_eq_of_lt hj]
   exact ⟨x,rfl,hu⟩
  ·rw [if_neg (by omega),hx] at hu
   obtain ⟨y,h1,h2⟩:=o5 h0 l (fun y hy=>h y (by simp [hy])) (j-n) u hu
   have e1:j / n=(j-n) / n+1:=by
    rw [show j=(j-n)+n by omega,Nat.add_div_right _ h0]
    simp
   have e2:j % n=(j-n) % n:=by
    rw [Nat.mod_eq_sub_mod (by omega)]
   exact ⟨y,by rw [e1,xbU];exact h1,by rw [e2];exact h2⟩
theorem iW (h0:0<n):∀ (l:List α),(∀ x∈l,(f x).length=n)→∀ (k:Nat) (x:α),l[k]?=some x→∀ j u,(f x)[j]?=some u→(l.flatMap f)[k*n+j]?=some u
 | [],_,k,x,hk,_,_,_=>by simp at hk
 | y :: l,h,k,x,hk,j,u,hu=>by
  have hy:=h y (by simp)
  rw [List.flatMap_cons]
  cases k with
  | zero =>
   simp only [List.getElem?_cons_zero,Option.some.injEq] at hk
   subst hk
   rw [Nat.zero_mul,Nat.zero_add,List.getElem?_append_left (xah.1 hu).1]
   exact hu
  | succ k =>
   rw [xbU] at hk
   have:=iW h0 l (fun y hy=>h y (by simp [hy])) k x hk j u hu
   rw [List.getElem?_append_right (by rw [hy,Nat.add_mul];omega),hy,show (k+1)*n+j-n=k*n+j by rw [Nat.add_mul];omega]
   exact this
theorem vz (h:∀ x:α,∀ u∈f x,u.oneCell'=true) (l:List α):∀ u∈l.flatMap f,u.oneCell'=true:=by
 intro u hu
 obtain ⟨x,_,hx⟩:=List.mem_flatMap.1 hu
 exact h x u hx
theorem jD {t:TypeId} {L:Lay α} (h0:0<L.n) (hf:∀ {w B cs x},L.At w B cs x→cs=f x) (h1:∀ x:α,∀ u∈f x,u.oneCell'=true) {w:World} {B len cap:Nat} {A:Option Addr} {l:List α} (h:(Lay.slice t L).At w B [.slice A len cap] l):len=l.length∧fY w L.n A l.length cap (l.flatMap f):=by
 obtain ⟨A',cap',e,h2,h3,h4,h5⟩:=h
 simp only [List.cons.injEq,Value.slice.injEq,and_true] at e
 obtain ⟨rfl,rfl,rfl⟩:=e
 have hlen:∀ x∈l,(f x).length=L.n:=fun x hx=>by
  obtain ⟨i,hi⟩:=xaO hx
  obtain ⟨b,off,_,_,hE⟩:=h5 (by have:=(xah.1 hi).1;omega)
  obtain ⟨cs,_,h6⟩:=hE i x hi
  rw [← hf h6]
  exact L.len h6
 refine ⟨rfl,kF l hlen,fun hA=>by have:=h4 hA;omega,vz h1 l,fun ad had j u hu=>?_⟩
 obtain ⟨x,h6,h7⟩:=o5 h0 l hlen j u hu
 obtain ⟨b,off,e,hb,hE⟩:=h5 (Nat.lt_of_le_of_lt (Nat.zero_le _) (xah.1 h6).1)
 rw [e] at had
 injection had with had
 subst had
 obtain ⟨cs,h8,h9⟩:=hE _ x h6
 rw [hf h9] at h8
 have:=h8 _ u h7
 rw [Addr.add_mid]
 rw [Nat.add_assoc,show j / L.n*L.n+j % L.n=j by rw [Nat.mul_comm];exact Nat.div_add_mod j L.n] at this
 exact this
theorem p6 {w:World} {g:Nat} {t:TypeId} {cs:List Value} (hb:Blk w g t cs.toArray) (h1:∀ u∈cs,u.oneCell'=true):fY w cs.length (some ⟨g,0,none⟩) 1 1 cs :=
 ⟨by omega,(fun h=>by cases h),h1,fun ad had j u hu=>by
  injection had with had
  subst had
  rw [Addr.add_mid,Nat.zero_add,hb.cell]
  simpa using hu⟩
theorem dg {t e:TypeId} {L:Lay α} (h0:0<L.n) {w:World} {R:Nat} {v:Value} {l:List α} (hown:w.ownsRow R e L.n v l.length (l.flatMap f)) (B:Nat) (hB:w.heap.size≤B) (hat:∀ x∈l,L.At w B (f x) x):(Lay.slice t L).At w B [v] l:=by
 have hlen:∀ x∈l,(f x).length=L.n:=fun x hx=>L.len (hat x hx)
 rcases aR hown with ⟨rfl,hl,_⟩ | ⟨g,cap,cur,rfl,hbg,hnc,hcm,hg,hcs,htake,_⟩
 ·obtain rfl:=xa4 hl
  exact ⟨none,0,rfl,xai _,Nat.zero_le _,(fun _=>rfl),fun h=>absurd h (by simp)⟩
 ·refine ⟨_,cap,rfl,hnc,hcm,(fun h=>by cases h),fun _=>⟨g,0,rfl,by have:=hg.lt;omega,fun j x hj=>⟨f x,fun i u hu=>?_,hat x (xak hj)⟩⟩⟩
  have h2:=iW h0 l hlen j x hj i u hu
  rw [hg.cell,← xaM,Nat.zero_add]
  rw [← htake] at h2
  have hlt:j*L.n+i<l.length*L.n:=by
   have:=(xah.1 h2).1
   rw [xaJ] at this
   omega
  rwa [List.getElem?_take_of_lt hlt] at h2
end
end Go.Proofs.YtomnhnmciopiiaaGreat
end
