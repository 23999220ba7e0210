/- Part 1 of the texts of one proof. -/
import Derived.WalkKit
import Derived.WalkSpells
import Derived.WalkLawsBesides
import Derived.Below
import Derived.Laws.OwnMore
import Derived.Deep.Draws
import Derived.Laws.Rows
import Derived.Laws.CopyOwn
import Derived.Deep.WholeRow
import Derived.Deep.MidRow
import Derived.Maps.AppendAt
import Derived.Laws.AppendOwnNone
import Derived.RegionTactic
import Derived.OwnWalk
import Derived.Deep.OwnRows
import Derived.Deep.RegionLaw
import Derived.StillTail
import Derived.Deep.Quiet
import Derived.BigQuiet
import Derived.ProofKit
import Derived.OpenShut
import Derived.ChangeSame
import Derived.Carry
import Derived.SizedLaws
import Derived.ChangeSlices
import Derived.Deep.Matrix
import Derived.ChangeMaps5
import Derived.Laws.Tables
import Derived.Stop.BytesEq
import Derived.Maps.Keyed
import Derived.Maps.OwnSet
import Derived.DeepKeys4
import Derived.Lib.Strings
import Derived.Lib.Walk
import Derived.Lib.Bytealg
import Derived.Lib.OthersKept
import Derived.Lib.Builder
import Derived.Laws.Externs
import Derived.Shelf.Strings.Builder1
import Derived.Shelf.Strings.OnBuilder
import Derived.Test.YtomnhnmciopiiaaGreatProg
import Derived.Lib.EndianBits
import Derived.Laws.BitsLemmas
import Derived.Laws.Strings
import Derived.Lib.Join
import Derived.Laws.IdiomStrings
import Derived.RangeFuncNested
import Derived.RangeFuncBound
import Derived.RangeFuncCalls
import Derived.RangeFuncLeaves
import Derived.Shelf.Abstract
import Derived.OwnWalkIn
import Derived.TacticsInMore
import Derived.LoopNIn
import Derived.LoopIn
import Derived.RegionIn
import Derived.Shelf.RegionOpen
import Derived.WalkMore
import Derived.Recover
import Derived.Laws.Pointers
import Derived.Laws.BitsAllLaws
import Derived.Laws.World
import GoSem.Core.Value
import Derived.Deep.RegionHeld3
import Derived.Deep.QuietTactic
import Derived.OrdersHeld
import Derived.Lib.SlBytesConst
import Derived.Lib.AppendStr
import Derived.Test.YtomnhnmciopiiaaGreatRows
set_option maxRecDepth 100000
set_option linter.unusedVariables false
set_option linter.unusedSimpArgs false
set_option maxHeartbeats 40000000
open Array renaming getElem?_toList → xa7, replicate → xbu, setIfInBounds_comm → xb7
open Go.RowKit.Below renaming heap_setCell → xbv, refl → xao
open Bool renaming and_eq_true → xaw
open Go.Instr renaming index → xbC, sureAddr → xbM
open List renaming all_eq_true → xaO, append_assoc → xaR, append_nil → xbo, drop_zero → xaK, eq_nil_of_length_eq_zero → xaT, flatMap_cons → xbf, getElem?_cons_succ → xbs, getElem?_cons_zero → xa3, getElem?_eq_getElem → xai, getElem?_eq_none → xbH, getElem?_eq_some_iff → xah, getElem?_of_mem → xaP, length_append → xak, length_cons → xaF, length_set → xbh, length_take → xaN, map_cons → xa9, mem_append → xax, mem_append_left → xaY, mem_cons → xaD, mem_map → xaA, mem_of_getElem? → xaj, mem_of_mem_drop → xcp, mem_singleton → xan, ne_nil_of_mem → xbJ, pairwise_append → xbw, pairwise_cons → xbQ, pairwise_iff_getElem → xa6, range → xaf, take_append_of_le_length → xbl, take_of_length_le → xav, take_succ_eq_append_getElem → xbb
open Nat renaming add_mul → xbK, decEq → xb0, le_refl → xag, le_trans → xaH, lt_of_lt_of_le → xaZ, mod_eq_of_lt → xbx, mul_le_mul_right → xbm
open Option renaming bind_some → xbk
open Option.some renaming inj → xam
open Go.Region renaming Mode → xbY, binds → xbS, chainB → xb8, lexHead → xbn, lexTailB → xbD, noSelect → xbE, noSelect_spec → xch, ready → xa4, sinkB → xce, wanted → xaq
open Go.Result renaming andThen → xbB, andThen_ok → xat
open Go.Sem renaming run_bind → xaI, run_pure → xaQ
open UInt8 renaming ofNat → xaJ
open Go.World renaming block_lt_of_cell? → xa5, cell?_alloc_lt → xci, cell?_of_block → xaV, ownsRow_nil → xbg
open Go.World.grownBy renaming refl → xa1
section
namespace Go.Proofs.YtomnhnmciopiiaaGreat
open Go.RowKit
theorem ab {p:Prop} (h:p):Hid p:=h
theorem oM {k:IntKind} {a b:Int} (h:a=b):Ending.returned (.int k a)=.returned (.int k b):=by rw [h]
def Blk (w:World) (g:Nat) (t:TypeId) (cs:Array Value):Prop:=w.heap[g]?=some (.cells cs t (0,0))
section
variable {w w':World} {g:Nat} {t:TypeId} {cs:Array Value}
theorem Blk.lt (h:Blk w g t cs):g<w.heap.size:=by
 rcases Nat.lt_or_ge g w.heap.size with hlt | hge
 ·exact hlt
 ·unfold Blk at h;rw [Array.getElem?_eq_none hge] at h;cases h
theorem Blk.cell (h:Blk w g t cs) (i:Nat):w.cell? ⟨g,i,none⟩=cs[i]?:=cell_of_row w g i cs t (0,0) h
theorem Blk.frozen (h:Blk w g t cs) (i:Nat):w.frozen? ⟨g,i,none⟩=false:=by
 unfold Blk at h
 simp [World.frozen?,h]
theorem Blk.new (w:World) (t:TypeId) (cs:Array Value):Blk (w.alloc (.cells cs t)) w.heap.size t cs:=heap_alloc_new w _
theorem Blk.drew (h:Blk w g t cs):Blk w.drew g t cs:=h
theorem Blk.drewN (h:Blk w g t cs) (n:Nat):Blk (w.drewN n) g t cs:=h
theorem Blk.alloc (h:Blk w g t cs) (o:Obj):Blk (w.alloc o) g t cs:=(Below.heap_alloc w o g h.lt).trans h
theorem Blk.gP (h:Blk w g t cs) (i:Nat) (u:Value):Blk (w.setCell ⟨g,i,none⟩ u) g t (cs.setIfInBounds i u):=by
 unfold Blk at h ⊢
 simp [World.setCell,Array.getElem?_modify,h]
theorem Blk.below {B:Nat} (h:Blk w g t cs) (hb:Below B w w') (hg:g<B):Blk w' g t cs:=(hb.block g hg).trans h
theorem Blk.grown {row:Option Nat} (h:Blk w g t cs) (hb:w.grownBy w' row) (hg:some g ≠ row):Blk w' g t cs:=(hb.block g h.lt hg).trans h
theorem Blk.oN (h:Blk w g t cs) (cs':Array Value):Blk (w.setRow g cs') g t cs':=setRow_heap w g cs _ t _ h
theorem Blk.ne_ {g':Nat} {t':TypeId} {cs':Array Value} (h:Blk w g t cs) (h':Blk w g' t' cs') (hne:t ≠ t'):g ≠ g':=by
 rintro rfl
 unfold Blk at h h'
 rw [h] at h'
 injection h' with h'
 injection h' with _ ht
 exact hne ht
end
theorem below_drewN {B:Nat} {a w:World} (h:Below B a w) (n:Nat):Below B a (w.drewN n):=⟨h.os,h.tape,h.output,h.size,h.block⟩
section
variable {P:Program} {ops:Array Oper} {rest:List Oper} {o:Oper} {a:Act} {w:World} {Q:Exit→Act→World→Prop}
theorem aa (hg:o.guard=none) (v:Value) (w':World) (hrun:(execOp a.eval o).run P w=.ok (.value v) w') (h:wpList P ops Q rest (a.put o.dst v) w'):wpList P ops Q (o :: rest) a w :=
 wpList_plain hg fun K hK=>by
  unfold Oper.wp
  rw [hrun]
  exact hK _ _ h
theorem eV (hg:o.guard=none) (ty:TypeId) (x y:Operand) (ho:o.op=.store ty x y)
  (g:Nat) (cs cells:Array Value) (t:TypeId) (hb:Blk w g t cs)
  (hi:(P.info? ty).map (·.size)=some cells.size) (hs:cs.size=cells.size) (h1:cells.all (·.oneCell')=true)
  (hx:a.eval x=.pointer (some ⟨g,0,none⟩)) (hy:a.eval y=.agg cells)
  (h:wpList P ops Q rest (a.put o.dst undef) (w.setRow g cells)):wpList P ops Q (o :: rest) a w :=
 wpList_plain hg fun K hK=>by
  have hrun:=run_storeVar_row (P:=P) w g t ty cs cells hb hi hs h1
  unfold Oper.wp execOp
  simp only [ho,hx,hy,Instr.storeAt,xbM,xaI,xaQ,xat,hrun]
  exact hK _ _ h
end
section
variable {P:Program} {ops:Array Oper} {rest:List Oper} {o:Oper} {a:Act} {w:World} {Q:Exit→Act→World→Prop}
theorem dj (hgd:o.guard=none) (ty:TypeId) (x:Operand) (ho:o.op=.load ty x)
  (g:Nat) (t:TypeId) (cs:Array Value) (n:Nat) (e:TypeId) (hg:Blk w g t cs)
  (hu:P.underlying ty=some (.array n e)) (hi:(P.info? ty).map (·.size)=some cs.size) (hx:a.eval x=.pointer (some ⟨g,0,none⟩))
  (h:wpList P ops Q rest (a.put o.dst (.agg cs)) w):wpList P ops Q (o :: rest) a w :=
 wpList_load_row hgd ty x ho g hx t cs (0,0) _ hg hu rfl hi h
theorem ch {fn:Func} {p:Tmp} {ty:TypeId} (h:fn.results=#[.cell p ty]) (tmps:Array Value) (w:World) (g:Nat) (t:TypeId) (cs:Array Value) (n:Nat) (e:TypeId)
  (hp:tmps.getD p undef=.pointer (some ⟨g,0,none⟩)) (hg:Blk w g t cs)
  (hu:P.underlying ty=some (.array n e)) (hi:(P.info? ty).map (·.size)=some cs.size) :
  (results fn tmps).run P w=.ok (.agg cs) w:=results_cell_row h tmps w g t cs (0,0) _ hp hg hu rfl hi
end
theorem dO (w:World) (cs:Array Value) (t:TypeId) (b i:Nat):(w.alloc (.cells cs t)).cell? ⟨b,i,none⟩=if b=w.heap.size then cs[i]? else w.cell? ⟨b,i,none⟩:=by
 split
 ·rename_i h
  subst h
  exact (Blk.new w t cs).cell i
 ·rename_i h
  unfold World.cell? World.alloc
  simp only [Array.getElem?_push,if_neg h]
theorem ak {P:Program} {ops:Array Oper} {rest:List Oper} {o:Oper} {a:Act} {w:World} {Q:Exit→Act→World→Prop} (hg:o.guard=none) (ty:TypeId) (x y:Operand) (ho:o.op=.store ty x y)
  (g:Nat) (cs cells:Array Value) (t:TypeId) (hb:Blk w g t cs)
  (hi:(P.info? ty).map (·.size)=some cells.size) (hs:cs.size=cells.size) (h1:cells.all (·.oneCell')=true)
  (hx:a.eval x=.pointer (some ⟨g,0,none⟩)) (hy:a.eval y=.agg cells)
  (h:∀ w',Blk w' g t cells→w.grownBy w' (some g)→wpList P ops Q rest (a.put o.dst undef) w'):wpList P ops Q (o :: rest) a w :=
 eV hg ty x y ho g cs cells t hb hi hs h1 hx hy
  (h _ (hb.oN cells) ⟨rfl,rfl,rfl,by simp [World.setRow],fun k _ hne=>setRow_other w g k cells (fun e=>hne (by rw [e]))⟩)
theorem size_alloc (w:World) (o:Obj):(w.alloc o).heap.size=w.heap.size+1:=by
 show (w.heap.push o).size=_
 simp
theorem Blk.aM (w:World) (o:Obj) (t:TypeId) (cs:Array Value):Blk ((w.alloc o).alloc (.cells cs t)) (w.heap.size+1) t cs:=by
 have h:=Blk.new (w.alloc o) t cs
 rwa [size_alloc] at h
theorem tH {P:Program} {ops:Array Oper} {rest:List Oper} {o:Oper} {a:Act} {w:World} {Q:Exit→Act→World→Prop} (hgd:o.guard=none) (d s:Operand) (dT sT:TypeId)
  (ho:o.op=.call { callee:=.builtin .copy,args:=#[d,s],argTypes:=#[dT,sT] }) (elem:TypeId) (hu:P.underlying dT=some (.slice elem)) (hsz:(P.info? elem).map (·.size)=some 1)
  (g off dLen dCap:Nat) (ad:Addr) (sLen sCap:Nat) (cur:Array Value) (t:TypeId) (hg:Blk w g t cur) (cs:List Value) (hn:cs.length=Nat.min sLen dLen)
  (hsrc:∀ j v,cs[j]?=some v→w.cell? (ad.add j)=some v) (hfit:off+cs.length≤cur.size) (h1:∀ v∈cs,v.oneCell'=true)
  (hd:a.eval d=.slice (some ⟨g,off,none⟩) dLen dCap) (hs:a.eval s=.slice (some ad) sLen sCap)
  (h:∀ w',Blk w' g t (cur.toList.take off++(cs++cur.toList.drop (off+cs.length))).toArray→w.grownBy w' (some g)→wpList P ops Q rest (a.put o.dst (goInt cs.length)) w'):wpList P ops Q (o :: rest) a w :=
 wpList_copy_own hgd d s dT sT ho elem hu hsz g off dLen dCap ad sLen sCap hd hs cur t hg cs hn hsrc hfit h1
  (h _ (hg.oN _) ⟨rfl,rfl,rfl,by simp [World.setRow],fun k _ hne=>setRow_other w g k _ (fun e=>hne (by rw [e]))⟩)
theorem qP {B g:Nat} {w0 w:World} (hb:Below B w0 w) (hBg:B≤g) (cs:Array Value):Below B w0 (w.setRow g cs):=below_setRow hb hBg cs
end Go.Proofs.YtomnhnmciopiiaaGreat
end
section
namespace Go.Proofs.YtomnhnmciopiiaaGreat
open Go.RowKit
structure Src (w:World) (A:Option Addr) (m c:Nat) (news:List Value):Prop where
 len:news.length=m
 none_:A=none→m=0∧c=0
 one:∀ u∈news,u.oneCell'=true
 cells:∀ ad,A=some ad→∀ j u,news[j]?=some u→w.cell? (ad.add j)=some u
theorem nX {w:World} {p:Addr} {u:Value} (h:w.cell? p=some u) (o:Obj):(w.alloc o).cell? p=some u :=
 (xci w o p (xa5 w _ h)).trans h
theorem Src.alloc {w:World} {A:Option Addr} {m c:Nat} {news:List Value} (h:Src w A m c news) (o:Obj):Src (w.alloc o) A m c news :=
 ⟨h.len,h.none_,h.one,fun ad had j u hu=>nX (h.cells ad had j u hu) o⟩
theorem iS (w:World) (x:Value) (t:TypeId) (h:x.oneCell'=true):Src (w.alloc (.cells #[x] t)) (some ⟨w.heap.size,0,none⟩) 1 1 [x] :=
 ⟨rfl,(by intro h;cases h),(by intro u hu;rw [xan.1 hu];exact h),(by intro ad had;injection had with had;subst had;exact cell_one_new w x t)⟩
section
variable {P:Program} {w:World} {ops:Array Oper} {rest:List Oper} {o:Oper} {a:Act} {Q:Exit→Act→World→Prop}
theorem EM (base:Nat) (t ty e:TypeId) (i:TypeInfo) (z:Value) (bytes:Nat) (ht:P.underlying t=some (.slice e)) (hi:P.info? e=some i) (hz:i.zero=some z)
  (hsize:i.size=1) (hby:i.bytes=bytes) (hzs:z.cells.size=1) (v:Value) (n:Nat) (xs:List Value) (hown:w.ownsRow base e 1 v n xs)
  (A:Option Addr) (m c:Nat) (news:List Value) (hs:Src w A m c news) (h63:n+m≤maxLen) (hbytes:(n+m)*bytes≤140737488355328) (hbase:base≤w.heap.size) :
  ∃ v' w',(Builtin.append_ #[t,t] ty #[v,.slice A m c]).run P w=.ok v' w'∧w'.ownsRow base e 1 v' (n+m) (xs++news)∧w.grownBy w' v.ownBlock ∧
   (v'.ownBlock=v.ownBlock∨v'.ownBlock=some w.heap.size)∧(v'=.slice none 0 0→v=.slice none 0 0):=by
 rcases A with _ | ad
 ·obtain ⟨rfl,rfl⟩:=hs.none_ rfl
  have hn:news=[]:=xaT hs.len
  subst hn
  exact ⟨v,w,run_append_owned_none (P:=P) (w:=w) base t ty e i 1 ht hi v n xs hown,by simpa using hown,xa1 w _,.inl rfl,id⟩
 ·obtain ⟨v',w',h1,h2,h3,h4,h5⟩:=run_append_own_at (P:=P) w base t ty e i z 1 bytes ht hi hz hsize hby hzs (by omega) v n xs hown ad m c news (by rw [hs.len];omega) (hs.cells ad rfl) hs.one h63 hbytes hbase
  exact ⟨v',w',h1,h2,h3,h5,fun h=>(h4.1 h).1⟩
theorem Dq {K:Act→World→Prop} (s x:Operand) (t:TypeId)
  (ho:o.op=.call { callee:=.builtin .append,args:=#[s,x],argTypes:=#[t,t] })
  (base:Nat) (e:TypeId) (i:TypeInfo) (z:Value) (bytes:Nat) (ht:P.underlying t=some (.slice e)) (hi:P.info? e=some i) (hz:i.zero=some z)
  (hsize:i.size=1) (hby:i.bytes=bytes) (hzs:z.cells.size=1) (v:Value) (n:Nat) (xs:List Value) (hown:w.ownsRow base e 1 v n xs)
  (A:Option Addr) (m c:Nat) (news:List Value) (hsrc:Src w A m c news) (h63:n+m≤maxLen) (hbytes:(n+m)*bytes≤140737488355328) (hbase:base≤w.heap.size)
  (hs:a.eval s=v) (hx:a.eval x=.slice A m c)
  (h:∀ v' w',w'.ownsRow base e 1 v' (n+m) (xs++news)→w.grownBy w' v.ownBlock→(v'.ownBlock=v.ownBlock∨v'.ownBlock=some w.heap.size)→(v'=.slice none 0 0→v=.slice none 0 0)→K (a.put o.dst v') w'):o.wp P a w K Q:=by
 obtain ⟨v',w',hr,h2,h3,h4,h5⟩:=EM (P:=P) (w:=w) base t o.type e i z bytes ht hi hz hsize hby hzs v n xs hown A m c news hsrc h63 hbytes hbase
 unfold Oper.wp execOp
 simp only [ho,resolve,invoke,builtin,xaI,xaQ,xat,List.map_toArray,xa9,List.map_nil,hs,hx,hr]
 exact h v' w' h2 h3 h4 h5
theorem dR (hgd:o.guard=none) (s x:Operand) (t:TypeId)
  (ho:o.op=.call { callee:=.builtin .append,args:=#[s,x],argTypes:=#[t,t] })
  (base:Nat) (e:TypeId) (i:TypeInfo) (z:Value) (bytes:Nat) (ht:P.underlying t=some (.slice e)) (hi:P.info? e=some i) (hz:i.zero=some z)
  (hsize:i.size=1) (hby:i.bytes=bytes) (hzs:z.cells.size=1) (v:Value) (n:Nat) (xs:List Value) (hown:w.ownsRow base e 1 v n xs)
  (A:Option Addr) (m c:Nat) (news:List Value) (hsrc:Src w A m c news) (h63:n+m≤maxLen) (hbytes:(n+m)*bytes≤140737488355328) (hbase:base≤w.heap.size)
  (hs:a.eval s=v) (hx:a.eval x=.slice A m c)
  (h:∀ v' w',w'.ownsRow base e 1 v' (n+m) (xs++news)→w.grownBy w' v.ownBlock→(v'.ownBlock=v.ownBlock∨v'.ownBlock=some w.heap.size)→(v'=.slice none 0 0→v=.slice none 0 0)→wpList P ops Q rest (a.put o.dst v') w') :
  wpList P ops Q (o :: rest) a w :=
 wpList_plain hgd fun _ hK=>Dq s x t ho base e i z bytes ht hi hz hsize hby hzs v n xs hown A m c news hsrc h63 hbytes hbase hs hx fun v' w' h2 h3 h4 h5=>hK _ _ (h v' w' h2 h3 h4 h5)
theorem vH {K:Act→World→Prop} {E:Prop} (hgd:o.guard=none) (s x:Operand) (t:TypeId)
  (ho:o.op=.call { callee:=.builtin .append,args:=#[s,x],argTypes:=#[t,t] })
  (base:Nat) (e:TypeId) (i:TypeInfo) (z:Value) (bytes:Nat) (ht:P.underlying t=some (.slice e)) (hi:P.info? e=some i) (hz:i.zero=some z)
  (hsize:i.size=1) (hby:i.bytes=bytes) (hzs:z.cells.size=1) (v:Value) (n:Nat) (xs:List Value) (hown:w.ownsRow base e 1 v n xs)
  (A:Option Addr) (m c:Nat) (news:List Value) (hsrc:Src w A m c news) (h63:n+m≤maxLen) (hbytes:(n+m)*bytes≤140737488355328) (hbase:base≤w.heap.size)
  (hs:a.eval s=v) (hx:a.eval x=.slice A m c)
  (h:∀ v' w',w'.ownsRow base e 1 v' (n+m) (xs++news)→w.grownBy w' v.ownBlock→(v'.ownBlock=v.ownBlock∨v'.ownBlock=some w.heap.size)→(v'=.slice none 0 0→v=.slice none 0 0)→K (a.put o.dst v') w') :
  if xaq o (yielded ops a.tmps)=true then Oper.wp P o a w K Q else E:=by
 have hw:xaq o (yielded ops a.tmps)=true:=by simp [xaq,hgd]
 rw [if_pos hw]
 exact Dq s x t ho base e i z bytes ht hi hz hsize hby hzs v n xs hown A m c news hsrc h63 hbytes hbase hs hx h
end
theorem eB {w:World} {base n:Nat} {e:TypeId} {v:Value} {xs:List Value} (h:w.ownsRow base e 1 v n xs) :
  (v=.slice none 0 0∧n=0∧xs=[])∨∃ g cap cur,v=.slice (some ⟨g,0,none⟩) n cap∧base≤g∧n≤cap∧cap≤maxLen∧Blk w g e cur∧cur.size=cap∧cur.toList.take n=xs∧g<w.heap.size:=by
 obtain ⟨hl,h⟩:=h
 rcases h with ⟨h,h2⟩ | ⟨g,cap,cur,h,hb,hh,hn,hc,hs,ht⟩
 ·exact .inl ⟨h,h2,xaT (by omega)⟩
 ·exact .inr ⟨g,cap,cur,h,hb,hn,hc,hh,by omega,by simpa using ht,Blk.lt hh⟩
theorem bq {w:World} {base n:Nat} {e:TypeId} {v:Value} {xs:List Value} (h:w.ownsRow base e 1 v n xs):∃ A c,v=.slice A n c:=by
 rcases eB h with ⟨rfl,rfl,_⟩ | ⟨g,cap,cur,rfl,_⟩
 ·exact ⟨_,_,rfl⟩
 ·exact ⟨_,_,rfl⟩
theorem gk {w w':World} {base n:Nat} {e:TypeId} {v:Value} {xs:List Value} (h:w.ownsRow base e 1 v n xs) (hk:∀ g,v.ownBlock=some g→g<w.heap.size→w'.heap[g]?=w.heap[g]?):w'.ownsRow base e 1 v n xs:=by
 obtain ⟨hl,h⟩:=h
 refine ⟨hl,?_⟩
 rcases h with h | ⟨g,cap,cur,h,hb,hh,hr⟩
 ·exact .inl h
 ·subst h
  exact .inr ⟨g,cap,cur,rfl,hb,(hk g rfl (Blk.lt hh)).trans hh,hr⟩
theorem mA {w:World} {base n g:Nat} {e t:TypeId} {v:Value} {xs:List Value} {cs:Array Value} (h:w.ownsRow base e 1 v n xs) (hb:Blk w g t cs) (hne:e ≠ t):v.ownBlock ≠ some g:=by
 rcases eB h with ⟨rfl,_⟩ | ⟨g',cap,cur,rfl,_,_,_,hh,_⟩
 ·simp [Value.ownBlock]
 ·intro he
  injection he with he
  change g'=g at he
  subst he
  exact Blk.ne_ hh hb hne rfl
theorem dm {w:World} {base n g:Nat} {e:TypeId} {v:Value} {xs:List Value} (h:w.ownsRow base e 1 v n xs) (hg:v.ownBlock=some g):base≤g∧g<w.heap.size:=by
 rcases eB h with ⟨rfl,_⟩ | ⟨g',cap,cur,rfl,hb,_,_,hh,_⟩
 ·cases hg
 ·injection hg with hg
  change g'=g at hg
  subst hg
  exact ⟨hb,hh.lt⟩
theorem qn {w:World} {base base' n:Nat} {e:TypeId} {v:Value} {xs:List Value} (h:w.ownsRow base e 1 v n xs) (hb:∀ g,v.ownBlock=some g→base'≤g):w.ownsRow base' e 1 v n xs:=by
 obtain ⟨hl,h⟩:=h
 refine ⟨hl,?_⟩
 rcases h with h | ⟨g,cap,cur,rfl,_,hr⟩
 ·exact .inl h
 ·exact .inr ⟨g,cap,cur,rfl,hb g rfl,hr⟩
structure cS (S:Nat→Prop) (w w':World):Prop where
 os:w'.os=w.os
 tape:w'.tape=w.tape
 output:w'.output=w.output
 size:w.heap.size≤w'.heap.size
 block:∀ k,k<w.heap.size→¬ S k→w'.heap[k]?=w.heap[k]?
section
variable {S T:Nat→Prop} {a b c w:World}
theorem cS.refl (S:Nat→Prop) (w:World):cS S w w:=⟨rfl,rfl,rfl,xag _,fun _ _ _=>rfl⟩
theorem cS.Fk (h:cS S a b) (k:cS T b c) (hT:∀ k,k<a.heap.size→T k→S k):cS S a c :=
 ⟨k.os.trans h.os,k.tape.trans h.tape,k.output.trans h.output,xaH h.size k.size,fun i hi hne=>(k.block i (xaZ hi h.size) (fun ht=>hne (hT i hi ht))).trans (h.block i hi hne)⟩
theorem cS.kh {row:Option Nat} (h:a.grownBy b row) (hr:∀ k,row=some k→k<a.heap.size→S k):cS S a b:=⟨h.os,h.tape,h.output,h.size,fun k hk hn=>h.block k hk fun e=>hn (hr k e.symm hk)⟩
theorem cS.alloc (h:cS S a b) (o:Obj):cS S a (b.alloc o) :=
 ⟨h.os,h.tape,h.output,xaH h.size (by rw [size_alloc];omega),fun i hi hne=>(Below.heap_alloc b o i (xaZ hi h.size)).trans (h.block i hi hne)⟩
theorem cS.setCell (h:cS S a b) {p:Addr} (hp:p.block<a.heap.size→S p.block) (u:Value):cS S a (b.setCell p u) :=
 ⟨h.os,h.tape,h.output,by simpa [World.setCell] using h.size,fun i hi hne=>(xbv b p u i (by
  rintro rfl
  exact hne (hp hi))).trans (h.block i hi hne)⟩
theorem cS.y0 (h:cS S b c) (hb:Below a.heap.size a b) (hS:∀ k,k<b.heap.size→S k→a.heap.size≤k):Below a.heap.size a c :=
 ⟨h.os.trans hb.os,h.tape.trans hb.tape,h.output.trans hb.output,xaH hb.size h.size,fun k hk=>(h.block k (xaZ hk hb.size) fun hs=>by have:=hS k (xaZ hk hb.size) hs;omega).trans (hb.block k hk)⟩
end
end Go.Proofs.YtomnhnmciopiiaaGreat
end
section
namespace Go.Proofs.YtomnhnmciopiiaaGreat
open Go.RowKit
section
variable {P:Program} (t e n:Nat) (ht:P.underlying t=some (.array n e)) (hs:(P.info? e).map (·.size)=some 1)
include ht hs
theorem rj (b o q:Nat) (hq:q<n) (w:World) :
  (Instr.sliceAt t (.pointer (some ⟨b,o,none⟩)) (some (.int .i64 (q:Int))) none none).run P w=.ok (.slice (some ⟨b,o+q,none⟩) (n-q) (n-q)) w:=by
 have e1:P.arrayLen t=n:=by simp [Program.arrayLen,ht]
 have e2:P.elem t=e:=by simp [Program.elem,ht]
 have h:=run_sliceAt_array_l (P:=P) w t ⟨b,o,none⟩ (by rw [e1,e2];exact ht) .i64 (q:Int) (by omega) (by rw [e1];omega)
 rw [h,e1,e2]
 cases hi:P.info? e with
 | none=>simp [hi] at hs
 | some i =>
  have h1:i.size=1:=by simpa [hi] using hs
  have h2:¬ n=q:=by omega
  simp [sizeOf,typeInfo,hi,h1,slicedAt,h2,Addr.add_mid]
end
section
variable {P:Program} (t e:Nat) (ht:P.underlying t=some (.slice e)) (hs:(P.info? e).map (·.size)=some 1)
include ht hs
theorem iB (A:Option Addr) (len cap n:Nat) (hn:n≤len) (w:World) :
  (Instr.slice t (.slice A len cap) (some (.int .i64 (n:Int))) none none).run P w=.ok (.slice (if cap=n then A else A.map (·.add n)) (len-n) (cap-n)) w:=by
 have e2:P.elem t=e:=by simp [Program.elem,ht]
 have h:=run_slice_l (P:=P) w t A len cap (by rw [e2];exact ht) .i64 (n:Int) (by omega) (by omega)
 rw [h,e2]
 cases hi:P.info? e with
 | none=>simp [hi] at hs
 | some i =>
  have h1:i.size=1:=by simpa [hi] using hs
  simp [sizeOf,typeInfo,hi,h1,sliced]
theorem jw (A:Option Addr) (len cap n:Nat) (hn:n≤len) (w:World) :
  (Instr.sliceAt t (.slice A len cap) (some (.int .i64 (n:Int))) none none).run P w=.ok (.slice (if cap=n then A else A.map (·.add n)) (len-n) (cap-n)) w:=by
 have e2:P.elem t=e:=by simp [Program.elem,ht]
 rw [run_sliceAt_slice w t _ _ _ _ (by rw [e2];exact ht)]
 exact iB t e ht hs A len cap n hn w
end
end Go.Proofs.YtomnhnmciopiiaaGreat
end
section
namespace Go.Proofs.YtomnhnmciopiiaaGreat
open Go.RowKit
theorem kY {P:Program} (t e n:Nat) (k:IntKind) (ht:P.underlying t=some (.array n e)) (he:P.underlying e=some (.int k)) (hs:(P.info? e).map (·.size)=some 1)
  (cs:Array Value) (i:Nat) (hi:i<n) (v:Value) (hv:cs[i]?=some v) (w:World):(xbC t (.agg cs) (.int .i64 (i:Int))).run P w=.ok v w:=by
 cases hq:P.info? e with
 | none=>simp [hq] at hs
 | some j =>
  have h1:j.size=1:=by simpa [hq] using hs
  simp [xbC,asIntOf,run_underlying ht,hi,part,isAgg,run_underlying he,sizeOf,typeInfo,hq,h1,hv]
end Go.Proofs.YtomnhnmciopiiaaGreat
end
section
namespace Go.Proofs.YtomnhnmciopiiaaGreat
open Go.RowKit
def bv (l:List UInt8):List Value:=l.map fun b=>Value.int .u8 (b.toNat:Int)
theorem nS:(Tryz.prog.info? 5).map (·.size)=some 1:=by kernel_rfl
theorem lj (l:List UInt8):(bv l).toArray.all (·.oneCell')=true:=by
 rw [Array.all_eq_true_iff_forall_mem];intro v hv;simp [bv] at hv;obtain ⟨x,_,rfl⟩:=hv;rfl
theorem o6 (l:List UInt8) (i:Nat) (h:i<l.length):(bv l).toArray[i]?=some (.int .u8 ((l.getD i 0).toNat:Int)):=by
 simp [bv,List.getD,h]
theorem By (l:List UInt8) (i:Nat) (x:UInt8):(bv l).toArray.setIfInBounds i (.int .u8 (x.toNat:Int))=(bv (l.set i x)).toArray:=by
 simp [bv,List.map_set]
def dV (w:World) (B:Nat) (v:Value) (l:List UInt8):Prop :=
 ∃ A cap,v=.slice A l.length cap∧l.length≤cap∧(0<l.length→∃ b off,A=some ⟨b,off,none⟩∧b<B∧∀ j,j<l.length→w.cell? ⟨b,off+j,none⟩=some (.int .u8 ((l.getD j 0).toNat:Int)))
def lU (w:World) (B:Nat) (v:Value) (ls:List (List UInt8)):Prop :=
 ∃ A cap,v=.slice A ls.length cap∧ls.length≤cap∧(0<ls.length→∃ b off,A=some ⟨b,off,none⟩∧b<B∧∀ j,j<ls.length→∃ u,w.cell? ⟨b,off+j,none⟩=some u∧dV w B u (ls.getD j []))
def Alike (B:Nat) (w w':World):Prop:=∀ k,k<B→w'.heap[k]?=w.heap[k]?
theorem Alike.cell {B:Nat} {w w':World} (h:Alike B w w') {p:Addr} (hp:p.block<B):w'.cell? p=w.cell? p:=xaV (h p.block hp)
theorem dV.alike {w w':World} {B:Nat} {v:Value} {l:List UInt8} (h:dV w B v l) (ha:Alike B w w'):dV w' B v l:=by
 obtain ⟨A,cap,hv,hc,hA⟩:=h
 refine ⟨A,cap,hv,hc,fun hl=>?_⟩
 obtain ⟨b,off,h1,h2,h3⟩:=hA hl
 exact ⟨b,off,h1,h2,fun j hj=>(ha.cell (p:=⟨b,off+j,none⟩) h2).trans (h3 j hj)⟩
theorem fA {B:Nat} {w w':World} (h:Below B w w'):Alike B w w':=h.block
theorem oX {B g:Nat} {w w':World} (h:w.grownBy w' (some g)) (hB:B≤g) (hw:B≤w.heap.size):Alike B w w' :=
 fun k hk=>h.block k (by omega) (by intro e;injection e with e;omega)
theorem Alike.trans {B:Nat} {a b c:World} (h:Alike B a b) (k:Alike B b c):Alike B a c:=fun i hi=>(k i hi).trans (h i hi)
theorem yA:(Tryz.prog.info? 5).map (fun i=>(i.zero,i.size,i.bytes))=some (some (.int .u8 0),1,1):=by kernel_rfl
theorem bvA (a b:List UInt8):bv (a++b)=bv a++bv b:=by simp [bv]
theorem bvL (a:List UInt8):(bv a).length=a.length:=by simp [bv]
theorem bv1 (a:List UInt8):∀ u∈bv a,u.oneCell'=true:=by
 intro u hu
 obtain ⟨_,_,rfl⟩:=xaA.1 hu
 rfl
theorem sI {w:World} {B:Nat} {A:Option Addr} {l:List UInt8} {cap:Nat} (h:dV w B (.slice A l.length cap) l) (hn:A=none→cap=0):Src w A l.length cap (bv l):=by
 obtain ⟨A',cap',hv,hc,hA⟩:=h
 injection hv with e1 e2 e3
 subst e1 e3
 refine ⟨bvL l,fun h=>?_,bv1 l,fun ad had j u hu=>?_⟩
 ·have:=hn h
  exact ⟨by omega,this⟩
 ·have hj:j<l.length:=by
   have:=(xah.1 hu).1
   simpa [bv] using this
  obtain ⟨b,off,h1,_,h3⟩:=hA (by omega)
  rw [h1] at had
  obtain rfl:=xam had
  have e:(⟨b,off,none⟩:Addr).add j=⟨b,off+j,none⟩:=by unfold Addr.add;split<;>simp_all
  rw [e,h3 j hj]
  have e2:(bv l)[j]?=some (.int .u8 ((l.getD j 0).toNat:Int)):=by simp [bv,List.getD,hj]
  rw [e2] at hu
  exact hu
theorem fb {w:World} {base:Nat} {v:Value} {l:List UInt8} (h:w.ownsRow base 5 1 v l.length (bv l)):dV w w.heap.size v l:=by
 rcases eB h with ⟨rfl,h0,_⟩ | ⟨g,cap,cur,rfl,_,hc,_,hb,_,ht,hlt⟩
 ·exact ⟨none,0,by rw [h0],by omega,fun h=>by omega⟩
 ·refine ⟨_,cap,rfl,hc,fun _=>⟨g,0,rfl,hlt,fun j hj=>?_⟩⟩
  rw [Nat.zero_add,hb.cell]
  have h1:cur.toList[j]?=(bv l)[j]?:=by
   rw [← ht,List.getElem?_take_of_lt hj]
  rw [← xa7,h1]
  simp [bv,List.getD,hj]
theorem sj (w:World) (e:TypeId):(w.alloc (.cells #[] e)).ownsRow w.heap.size e 1 (.slice (some ⟨w.heap.size,0,none⟩) 0 0) 0 [] :=
 ⟨rfl,.inr ⟨w.heap.size,0,#[],rfl,xag _,Blk.new w e #[],xag _,Nat.zero_le _,rfl,rfl⟩⟩
theorem vp {w:World} {base n cap:Nat} {A:Option Addr} {e:TypeId} {xs:List Value} (h:w.ownsRow base e 1 (.slice A n cap) n xs):A=none→cap=0:=by
 intro hA
 rcases eB h with ⟨e,_⟩ | ⟨q,cp,cur,e,_⟩
 ·injection e
 ·injection e with e1
  rw [hA] at e1
  cases e1
theorem xD {w:World} {base cap:Nat} {A:Option Addr} {l:List UInt8} (h:w.ownsRow base 5 1 (.slice A l.length cap) l.length (bv l)):Src w A l.length cap (bv l) :=
 sI (fb h) (vp h)
theorem dL {a w:World} {g:Nat} (h:a.grownBy w (some g)) {p:Addr} (hp:p.block=g∨a.heap.size≤p.block) (u:Value):a.grownBy (w.setCell p u) (some g) :=
 ⟨h.os,h.tape,h.output,by simpa [World.setCell] using h.size,fun i hi hne=>(xbv w p u i (by
  rintro rfl
  rcases hp with hp | hp
  ·exact hne (by rw [hp])
  ·omega)).trans (h.block i hi hne)⟩
end Go.Proofs.YtomnhnmciopiiaaGreat
end
section
namespace Go.Proofs.YtomnhnmciopiiaaGreat
open Go
section
variable {P:Program} {ops:Array Oper} {md:xbY} {C:World→Prop}
def uI (P:Program) (md:xbY) (ops:Array Oper) (C:World→Prop) (n:Nat) (L:Array Bool→Act→Prop):Nat→Array Bool→Act→Prop
 | 0,d,a=>L d a
 | f+1,d,a=>xa4 md ops d ≠ []∧∀ i∈xa4 md ops d,i<n∧qOp P ops C i (uI P md ops C n L f (d.setIfInBounds i true)) a
theorem lX {n g:Nat} {L:Array Bool→Act→Prop} {Q':Exit→Act→World→Prop} (hL:∀ d a w,C w→L d a→wpAny P md ops Q' g d a w) :
  ∀ (f:Nat) (d:Array Bool) (a:Act) (w:World),C w→uI P md ops C n L f d a→wpAny P md ops Q' (f+g) d a w
 | 0,d,a,w,hw,h=>by
  rw [Nat.zero_add]
  exact hL _ _ _ hw h
 | f+1,d,a,w,hw,h=>by
  rw [Nat.add_right_comm]
  exact ⟨fun he=>absurd he h.1,fun i hi=>wpOp_of_qOp hw (fun a' w' hw' h'=>lX hL f _ a' w' hw' h') (h.2 i hi).2⟩
theorem ji {n:Nat} {d:Array Bool} (hs:xce md ops n=true) (hc:xb8 md ops n=true) (hn:n<ops.size) (inv:HeadInv md ops n d)
  {i j:Nat} (hin:i<n) (hun:d.getD i true=false) (hj:j∈xa4 md ops d):j<n :=
 Nat.lt_of_not_le fun h=>tail_waits hs hc hn inv _ i rfl hin hun j h hj
theorem uJ {n i:Nat} {oi:Oper} {v:Value} {L:Array Bool→Act→Prop} (hi:ops[i]?=some oi) (hsel:∀ (j:Nat) (o:Oper) cs b,ops[j]?=some o→o.op ≠ .select cs b)
  (hs:xce md ops n=true) (hc:xb8 md ops n=true) (hn:n<ops.size) (hin:i<n) (hdone:∀ d a,L d a→∀ j∈xa4 md ops d,n≤j) (f:Nat) :
  ∀ (d:Array Bool) (a:Act),HeadInv md ops n d →
   (∀ j oj,ops[j]?=some oj→j ≠ i→d.getD j true=false→(∀ e∈oj.after,xbS md e=true→e.on ≠ i)→oi.apart ops oj=true) →
   i∈xa4 md ops d→YieldsIn P ops C oi v a →
   uI P md ops C n L f (d.setIfInBounds i true) (a.put oi.dst v)→uI P md ops C n L (f+1) d a:=by
 induction f with
 | zero =>
  intro d a inv _ hr hy H
  refine ⟨xbJ hr,fun j hj=>?_⟩
  have hjn:=ji hs hc hn inv hin (mem_ready.1 hr).1 hj
  refine ⟨hjn,?_⟩
  rcases xb0 j i with hji | hji
  ·exact absurd (hdone _ _ H j (ready_mono hj hji)) (by omega)
  ·subst hji
   exact hy.qOp hi H
 | succ f ih =>
  intro d a inv hfree hr hy H
  refine ⟨xbJ hr,fun j hj=>?_⟩
  have hjn:=ji hs hc hn inv hin (mem_ready.1 hr).1 hj
  refine ⟨hjn,?_⟩
  rcases xb0 j i with hji | hji
  ·obtain ⟨hjun,oj,hoj,hall⟩:=mem_ready.1 hj
   have hnot:∀ e∈oj.after,xbS md e=true→e.on ≠ i:=by
    intro e he hb heq
    have h1:=hall e he hb
    rw [heq,getD_both (mem_ready.1 hr).1] at h1
    cases h1
   have hstep:=qOp_put hoj (hfree j oj hoj hji hjun hnot) (fun cs b=>hsel i oi cs b hi) (fun cs b=>hsel j oj cs b hoj) hy (H.2 j (ready_mono hj hji)).2
   refine qOp_mono (fun a' h3=>ih (d.setIfInBounds j true) a' (inv.set hj hjn) ?_ (ready_mono hr (Ne.symm hji)) h3.1 ?_) hstep
   ·intro k ok hk hki hunk hno
    refine hfree k ok hk hki ?_ hno
    rcases xb0 j k with hjk | hjk
    ·rwa [getD_set_ne true hjk] at hunk
    ·subst hjk
     exact hjun
   ·rw [xb7 _ _ hji]
    exact h3.2
  ·subst hji
   exact hy.qOp hi H
theorem rS {n g:Nat} {Lq:Act→Prop} (hsel:xbE ops=true) (hs:xce md ops n=true) (hc:xb8 md ops n=true) (hn:n<ops.size) :
  ∀ (l:List Oper) (k:Nat) (d:Array Bool) (a:Act),(∀ j,j<l.length→l[j]?=ops[k+j]?)→k+l.length=n→HeadInv md ops n d →
  xbn md ops g l.length k d=true→wpQuiet P ops C Lq l a →
  uI P md ops C n (fun d' a'=>Region.seqB md ops g n d'=true∧Lq a') l.length d a
 | [],k,d,a,_,hk,_,hB,h=>by
  obtain rfl:k=n:=by simpa using hk
  exact ⟨by simpa [xbn] using hB,h⟩
 | o :: l,k,d,a,hl,hk,inv,hB,h=>by
  have h0:ops[k]?=some o:=by simpa using (hl 0 (by simp)).symm
  simp only [xaF,xbn,xaw] at hB
  obtain ⟨⟨hr,hf⟩,hB'⟩:=hB
  have hkn:k<n:=by simp only [xaF] at hk;omega
  have hr':k∈xa4 md ops d:=by simpa using hr
  have hst:qOp P ops C k (wpQuiet P ops C Lq l) a:=by unfold qOp;simp only [h0];exact h
  obtain ⟨v,hy,hK⟩:=yieldsIn_of_qOp h0 hst
  refine uJ h0 (xch hsel) hs hc hn hkn (fun d' a' hL=>seqB_ready hL.1) l.length d a inv (Region.free_spec h0 hf) hr' hy ?_
  refine rS hsel hs hc hn l (k+1) _ _ (fun j hj=>?_) (by simp only [xaF] at hk;omega) (inv.set hr' hkn) hB' hK
  have:=hl (j+1) (by simp;omega)
  simpa [Nat.add_assoc,Nat.add_comm 1 j] using this
theorem ru {id:Nat} {Q:Exit→Act→World→Prop} {a:Act} {w:World} {l:List Oper} (n:Nat) (hm:P.follows .mixedOrders=true) (hB:xbD .any l.toArray n=true)
  (hC:C w.drew) (h:wpQuiet P l.toArray C (fun a'=>∀ w',C w'→wpList P l.toArray Q (l.drop n) a' w') (l.take n) a):(Code.region id l.toArray true).wp P Q a w:=by
 simp only [xbD,xaw,decide_eq_true_eq] at hB
 obtain ⟨⟨⟨⟨hsel,hn⟩,hs⟩,hc⟩,hlex⟩:=hB
 have hn':n<l.length:=by simpa using hn
 have htl:(l.take n).length=n:=by simp;omega
 have hdl:(l.drop n).length=l.toArray.size-n:=by simp
 have inv0:HeadInv .any l.toArray n (xbu l.toArray.size false) :=
  ⟨by simp,fun j oj _ hl=>(by rw [getD_replicate_false] at hl;cases hl),fun t _ ht=>getD_in (by simpa using ht) (getD_replicate_false _ _)⟩
 have H:=rS (C:=C) (md:=.any) (g:=l.toArray.size-n) hsel hs hc hn (l.take n) 0 _ a (fun j hj=>by
  have hj':j<n:=by rw [htl] at hj;exact hj
  simp [hj']) (by simpa using htl) inv0 (by rw [htl];exact hlex) h
 refine wp_region_any hm ?_
 have hfin:=lX (Q':=Q) (g:=l.toArray.size-n) (fun d a' w' hw' hL=>by
  have h2:=wpAny_of_seq (md:=.any) (Q':=Q) (l.drop n) n d a' w' (fun j=>by simp [List.getElem?_drop]) (by rw [hdl];exact hL.1) (hL.2 w' hw')
  rwa [hdl] at h2) _ _ _ w.drew hC H
 rw [htl,show n+(l.toArray.size-n)=l.toArray.size by omega] at hfin
 exact hfin
theorem bK {id:Nat} {Q:Exit→Act→World→Prop} {a:Act} {w:World} {l:List Oper} (n:Nat) (hm:P.follows .mixedOrders=true) (hB:xbD .any l.toArray n=true)
  (h:wpQuiet P l.toArray (fun w'=>∃ k,w'=w.drewN k) (fun a'=>∀ k,wpList P l.toArray Q (l.drop n) a' (w.drewN k)) (l.take n) a):(Code.region id l.toArray true).wp P Q a w:=by
 refine ru (C:=fun w'=>∃ k,w'=w.drewN k) n hm hB ⟨1,rfl⟩ ?_
 have e:(fun a'=>∀ w',(∃ k,w'=w.drewN k)→wpList P l.toArray Q (l.drop n) a' w')=(fun a'=>∀ k,wpList P l.toArray Q (l.drop n) a' (w.drewN k)):=by
  funext a'
  exact propext ⟨fun h k=>h _ ⟨k,rfl⟩,fun h w' ⟨k,hk⟩=>hk▸h k⟩
 rw [e]
 exact h
end
end Go.Proofs.YtomnhnmciopiiaaGreat
end
section
namespace Go.Proofs.YtomnhnmciopiiaaGreat
open Go Go.RowKit
section
variable {P:Program} {w:World}
theorem a7 {w:World} {base n s:Nat} {e:TypeId} {v:Value} {xs:List Value} (h:w.ownsRow base e s v n xs) :
  (v=.slice none 0 0∧n=0∧xs=[])∨∃ g cap cur,v=.slice (some ⟨g,0,none⟩) n cap∧base≤g∧n≤cap∧cap≤maxLen∧Blk w g e cur∧cur.size=cap*s∧cur.toList.take (n*s)=xs∧g<w.heap.size:=by
 obtain ⟨hl,h⟩:=h
 rcases h with ⟨h,h2⟩ | ⟨g,cap,cur,h,hb,hh,hn,hc,hs,ht⟩
 ·exact .inl ⟨h,h2,xaT (by rw [hl,h2,Nat.zero_mul])⟩
 ·exact .inr ⟨g,cap,cur,h,hb,hn,hc,hh,hs,ht,Blk.lt hh⟩
theorem vn {w:World} {base e g n cap k s:Nat} {xs:List Value} (h:w.ownsRow base e s (.slice (some ⟨g,0,none⟩) n cap) n xs) (hk:k≤n):w.ownsRow base e s (.slice (some ⟨g,0,none⟩) k cap) k (xs.take (k*s)):=by
 obtain ⟨hl,h⟩:=h
 have hks:k*s≤n*s:=xbm _ hk
 rcases h with ⟨h,_⟩ | ⟨g',cap',cur,h,hb,hh,hn,hc,hs,ht⟩
 ·cases h
 ·injection h with e1 e2 e3
  injection e1 with e1
  injection e1 with e1
  subst e1 e3
  refine ⟨by rw [xaN];omega,.inr ⟨g,cap,cur,rfl,hb,hh,by omega,hc,hs,?_⟩⟩
  rw [← ht,List.take_take]
  congr 1
  omega
theorem ao {w w':World} {base n s:Nat} {e:TypeId} {v:Value} {xs:List Value} (h:w.ownsRow base e s v n xs) (hk:∀ g,v.ownBlock=some g→g<w.heap.size→w'.heap[g]?=w.heap[g]?):w'.ownsRow base e s v n xs:=by
 obtain ⟨hl,h⟩:=h
 refine ⟨hl,?_⟩
 rcases h with h | ⟨g,cap,cur,h,hb,hh,hr⟩
 ·exact .inl h
 ·subst h
  exact .inr ⟨g,cap,cur,rfl,hb,(hk g rfl (Blk.lt hh)).trans hh,hr⟩
theorem az {w:World} {base n g s:Nat} {e:TypeId} {v:Value} {xs:List Value} (h:w.ownsRow base e s v n xs) (hg:v.ownBlock=some g):base≤g∧g<w.heap.size:=by
 rcases a7 h with ⟨rfl,_⟩ | ⟨g',cap,cur,rfl,hb,_,_,hh,_⟩
 ·cases hg
 ·injection hg with hg
  change g'=g at hg
  subst hg
  exact ⟨hb,hh.lt⟩
theorem ef {w:World} {base n g s:Nat} {e t:TypeId} {v:Value} {xs:List Value} {cs:Array Value} (h:w.ownsRow base e s v n xs) (hb:Blk w g t cs) (hne:e ≠ t):v.ownBlock ≠ some g:=by
 rcases a7 h with ⟨rfl,_⟩ | ⟨g',cap,cur,rfl,_,_,_,hh,_⟩
 ·simp [Value.ownBlock]
 ·intro he
  injection he with he
  change g'=g at he
  subst he
  exact Blk.ne_ hh hb hne rfl
theorem bH {w:World} {base base' n s:Nat} {e:TypeId} {v:Value} {xs:List Value} (h:w.ownsRow base e s v n xs) (hb:∀ g,v.ownBlock=some g→base'≤g):w.ownsRow base' e s v n xs:=by
 obtain ⟨hl,h⟩:=h
 refine ⟨hl,?_⟩
 rcases h with h | ⟨g,cap,cur,rfl,_,hr⟩
 ·exact .inl h
 ·exact .inr ⟨g,cap,cur,rfl,hb g rfl,hr⟩
theorem hJ {w:World} {base n s:Nat} {e:TypeId} {v:Value} {xs:List Value} (h:w.ownsRow base e s v n xs) (hn:0<n):∃ g cap,v=.slice (some ⟨g,0,none⟩) n cap:=by
 rcases a7 h with ⟨_,h0,_⟩ | ⟨g,cap,cur,rfl,_⟩
 ·omega
 ·exact ⟨g,cap,rfl⟩
end
section
variable (R e s n m:Nat) (v:Value) (ys:List Value)
variable {R e s n m v ys}
end
section
variable {P:Program}
end
section
variable {P:Program} {ρ:Operand→Value} {o:Oper}
theorem av (ty:TypeId) (x:Operand) (ho:o.op=.load ty x) (g:Nat) (hx:ρ x=.pointer (some ⟨g,0,none⟩)) (t:TypeId) (cs:Array Value) (d:TypeDesc) (w:World) (hg:Blk w g t cs)
  (hu:P.underlying ty=some d) (hd:(match d with | .struct _ | .array _ _=>true | _=>false)=true) (hi:(P.info? ty).map (·.size)=some cs.size):(execOp ρ o).run P w=.ok (.value (.agg cs)) w:=by
 unfold execOp
 simp only [ho,hx,Instr.loadAt,xbM,xaI,xaQ,xat,run_loadVar_row w g t ty cs (0,0) d hg hu hd hi]
end
end Go.Proofs.YtomnhnmciopiiaaGreat
end
section
namespace Go.Proofs.YtomnhnmciopiiaaGreat
open Go.RowKit Go.WideShapes Go.ChangeShapes
theorem laidOut:laidOutB Tryz.prog=true:=by kernel_rfl
section
variable {H:Type} {enc:TypeId×Value→H} {P:Program}
theorem mI (hl:laidOutB P=true) {W W':World} (hb:Below W.heap.size W W'):∀ {ts:List TypeId} {vs:List Value} {ds:List (DataW H)} {ps:List MemPlace},(∀ t∈ts,P.readableRec t=true∧t<P.types.size) →
  DataW.TrodAll enc P W 0 (fun _=>true) true ts vs ds ps→(∀ x∈ps,x.block<W.heap.size)→DataW.TrodAll enc P W' 0 (fun b=>decide (b<W.heap.size)) true ts vs ds ps
 | [],vs,ds,ps,_,h,_=>by
  obtain ⟨rfl,rfl,rfl⟩:=trodAll_nil h
  rfl
 | t :: ts,vs,ds,ps,ht,h,hlt=>by
  obtain ⟨v,vs',d,ds',p,q,rfl,rfl,rfl,hd,hrest⟩:=trodAll_cons h
  have h1:=Below.trod hl (ht t (by simp)).1 (ht t (by simp)).2 hd hb (fun x hx=>hlt x (by simp [hx]))
  have h2:=mI hl hb (fun s hs=>ht s (by simp [hs])) hrest (fun x hx=>hlt x (by simp [hx]))
  exact ⟨p,q,h1,h2,rfl⟩
theorem Ei {f:Func} {s:ChangeSpec} {fresh handsOn:Bool} {W W':World} {args:Array Value} {ds gs:List (DataW H)} {before:List MemPlace} {tb:TypeId} (hl:laidOutB P=true)
  (hW:DataW.Whole enc P f.params.toList s.vars false W args.toList ds gs before) (hv:s.vars=[]) (hfn:s.fn H (ds++gs)={ results:=[.lit (.bool true)],args:=ds }) (hr:f.resultTypes=#[tb]) (hu:P.underlying tb=some .bool)
  (hp:f.params.toList.all (fun t=>P.readableRec t&&decide (t<P.types.size))=true) (hb:Below W.heap.size W W') :
  s.post enc P f false fresh handsOn false W args (.bool true) W':=by
 have hW2:=hW
 obtain ⟨p,q,hA,hV,rfl,hz,hn⟩:=hW
 rw [hv] at hV
 obtain ⟨rfl,rfl⟩:=trodVars_none hV
 have hlt:∀ x∈p++[],x.block<W.heap.size:=fun x hx=>hW2.lt x hx
 rw [xbo] at hlt
 refine ⟨ds,[],p++[],[],p,[],hW2,?_,?_,?_,World.keptBut_mono (fun x hx=>⟨hx,.inr (.inl (by simpa using hx))⟩) (hb.frame (·∈p++[])),fun h=>by cases h⟩
 ·rw [hfn,hr]
  exact trodAll_mk1 (shut_bool hu _)
 ·rw [hfn]
  refine mI hl hb (fun t ht=>?_) hA hlt
  have h:=xaO.1 hp t ht
  simpa using h
 ·rw [hv]
  exact (by rw [hfn];rfl)
theorem add_plain (b o j:Nat):(⟨b,o,none⟩:Addr).add j=⟨b,o+j,none⟩:=by
 unfold Addr.add
 split
 ·rename_i h;subst h;rfl
 ·rfl
theorem rE (w:World) (b o m:Nat):w.cell? ⟨b,o,some m⟩=none:=by
 unfold World.cell?
 split<;>simp_all
end
end Go.Proofs.YtomnhnmciopiiaaGreat
end
section
namespace Go.Proofs.YtomnhnmciopiiaaGreat
open Go Go.RowKit Go.WideShapes Go.ChangeShapes
theorem ri {B:Nat} {w w':World} {b o:Nat} {cs:List Value} (h:w.rangeAt b o cs) (ha:Alike B w w') (hb:b<B):w'.rangeAt b o cs :=
 fun j v hv=>(ha.cell (p:=⟨b,o+j,none⟩) hb).trans (h j v hv)
theorem da {w:World} {b o:Nat} {c1 c2:List Value} (h:w.rangeAt b o (c1++c2)):w.rangeAt b o c1:=by
 intro j v hv
 have hj:=(xah.1 hv).1
 exact h j v (by rw [List.getElem?_append_left hj];exact hv)
theorem ff {w:World} {b o:Nat} {c1 c2:List Value} (h:w.rangeAt b o (c1++c2)):w.rangeAt b (o+c1.length) c2:=by
 intro j v hv
 have:=h (c1.length+j) v (by rw [List.getElem?_append_right (by omega)];simpa using hv)
 rwa [← Nat.add_assoc] at this
theorem en {w:World} {g:Nat} {t:TypeId} {cs:Array Value} (h:Blk w g t cs):w.rangeAt g 0 cs.toList:=by
 intro j v hv
 rw [Nat.zero_add,h.cell]
 simpa using hv
structure Lay (α:Type) where
 t:TypeId
 n:Nat
 At:World→Nat→List Value→α→Prop
 len:∀ {w B cs x},At w B cs x→cs.length=n
 one:∀ {w B cs x},At w B cs x→∀ v∈cs,v.oneCell'=true
 alike:∀ {w w' B cs x},At w B cs x→Alike B w w'→At w' B cs x
 eY:∀ {w B B' cs x},At w B cs x→B≤B'→At w B' cs x
structure jT (α:Type) where
 shape:Nat→List (TypeId×Nat)
 n:Nat
 At:World→Nat→List Value→α→Prop
 len:∀ {w B cs x},At w B cs x→cs.length=n
 one:∀ {w B cs x},At w B cs x→∀ v∈cs,v.oneCell'=true
 alike:∀ {w w' B cs x},At w B cs x→Alike B w w'→At w' B cs x
 eY:∀ {w B B' cs x},At w B cs x→B≤B'→At w B' cs x
structure Lay.eG {α:Type} (L:Lay α) (P:Program):Prop where
 cells:P.cellsOf L.t=L.n
 op:∀ {H:Type} {enc:TypeId×Value→H} {w:World} {sp:Nat→Bool} {hd:Bool} {fuel:Nat} {cs:List Value} {y:DataW H×List MemPlace},DataW.trod enc P w 0 sp hd fuel L.t cs=some y→∃ x,L.At w w.heap.size cs x
structure jT.eG {α:Type} (F:jT α) (P:Program):Prop where
 op:∀ {H:Type} {enc:TypeId×Value→H} {w:World} {sp:Nat→Bool} {hd:Bool} {fuel:Nat} {cs:List Value} {off:Nat},cs.length=off+F.n →
  (∀ p∈F.shape off,∃ y,DataW.trod enc P w 0 sp hd fuel p.1 ((cs.drop p.2).take (P.cellsOf p.1))=some y)→∃ x,F.At w w.heap.size (cs.drop off) x
def Lay.int (t:TypeId) (k:IntKind):Lay Int where
 t:=t
 n:=1
 At:=fun _ _ cs x=>cs=[.int k x]∧(Lit.int k x).wf=true
 len:=fun h=>by rw [h.1];rfl
 one:=fun h v hv=>by rw [h.1] at hv;simp only [xan] at hv;subst hv;rfl
 alike:=fun h _=>h
 eY:=fun h _=>h
theorem nf {P:Program} {t:TypeId} {k:IntKind} (ht:P.underlying t=some (.int k)) (hc:P.cellsOf t=1):(Lay.int t k).eG P where
 cells:=hc
 op:=fun h=>by
  obtain ⟨z,rfl,_,hw⟩:=DataW.trod_int ht h
  exact ⟨z,rfl,hw⟩
def Lay.bool (t:TypeId):Lay Bool where
 t:=t
 n:=1
 At:=fun _ _ cs x=>cs=[.bool x]
 len:=fun h=>by rw [h];rfl
 one:=fun h v hv=>by rw [h] at hv;simp only [xan] at hv;subst hv;rfl
 alike:=fun h _=>h
 eY:=fun h _=>h
theorem lB {P:Program} {t:TypeId} (ht:P.underlying t=some .bool) (hc:P.cellsOf t=1):(Lay.bool t).eG P where
 cells:=hc
 op:=fun h=>by
  obtain ⟨z,rfl,_⟩:=DataW.trod_bool ht h
  exact ⟨z,rfl⟩
def Lay.str (t:TypeId):Lay ByteArray where
 t:=t
 n:=1
 At:=fun _ _ cs x=>cs=[.string x]∧x.size≤maxLen
 len:=fun h=>by rw [h.1];rfl
 one:=fun h v hv=>by rw [h.1] at hv;simp only [xan] at hv;subst hv;rfl
 alike:=fun h _=>h
 eY:=fun h _=>h
theorem ng {P:Program} {t:TypeId} (ht:P.underlying t=some .string) (hc:P.cellsOf t=1):(Lay.str t).eG P where
 cells:=hc
 op:=fun h=>by
  obtain ⟨z,rfl,_,hw⟩:=DataW.trod_string ht h
  exact ⟨z,rfl,hw⟩
def Lay.u8s (t:TypeId) (k:Nat):Lay (List UInt8) where
 t:=t
 n:=k
 At:=fun _ _ cs x=>cs=bv x∧x.length=k
 len:=fun h=>by rw [h.1,bvL,h.2]
 one:=fun h=>by rw [h.1];exact bv1 _
 alike:=fun h _=>h
 eY:=fun h _=>h
theorem Af {P:Program} {t e:TypeId} {k:Nat} (ht:P.underlying t=some (.array k e)) (he:P.underlying e=some (.int .u8)) (hc:P.cellsOf t=k) (h1:P.cellsOf e=1):(Lay.u8s t k).eG P where
 cells:=hc
 op:=fun {H enc w sp hd fuel cs y} h=>by
  obtain ⟨xs,m,_,_,hl,hxl,hel⟩:=DataW.trod_array ht h
  rw [hc] at hl
  have hz:∀ i,i<k→∃ z:UInt8,cs[i]?=some (.int .u8 (z.toNat:Int)):=by
   intro i hi
   have h2:=hel i hi
   rw [h1,Nat.mul_one,xai (by omega)] at h2
   obtain ⟨z,e1,_,hw⟩:=DataW.trod_int he h2
   have hb:=bounds_u8 hw
   refine ⟨xaJ z.toNat,?_⟩
   have e2:(cs.drop i)[0]?=some (.int .u8 z):=by
    have:=congrArg (fun l=>l[0]?) e1
    simpa using this
   rw [UInt8.toNat_ofNat']
   rw [List.getElem?_drop,Nat.add_zero] at e2
   rw [e2]
   congr 2
   omega
  obtain ⟨f,hf⟩:∃ f:Nat→UInt8,∀ i,i<k→cs[i]?=some (.int .u8 ((f i).toNat:Int)) :=
   ⟨fun i=>if h:i<k then Classical.choose (hz i h) else 0,fun i h=>by simp only [dif_pos h];exact Classical.choose_spec (hz i h)⟩
  refine ⟨(xaf k).map f,?_,by simp⟩
  apply List.ext_getElem?
  intro i
  by_cases hi:i<k
  ·rw [hf i hi]
   simp [bv,hi]
  ·rw [xbH (by omega),xbH (by rw [bvL];simp;omega)]
def jT.nil:jT Unit where
 shape:=fun _=>[]
 n:=0
 At:=fun _ _ cs _=>cs=[]
 len:=fun h=>by rw [h];rfl
 one:=fun h v hv=>by rw [h] at hv;cases hv
 alike:=fun h _=>h
 eY:=fun h _=>h
theorem jr {P:Program}:jT.nil.eG P where
 op:=fun {H enc w sp hd fuel cs off} h _=>⟨(),by
  have h:cs.length=off+0:=h
  show cs.drop off=[]
  rw [List.drop_eq_nil_iff]
  omega⟩
def jT.cons {α β:Type} (L:Lay α) (F:jT β):jT (α×β) where
 shape:=fun off=>(L.t,off) :: F.shape (off+L.n)
 n:=L.n+F.n
 At:=fun w B cs x=>∃ c1 c2,cs=c1++c2∧L.At w B c1 x.1∧F.At w B c2 x.2
 len:=fun ⟨c1,c2,e,h1,h2⟩=>by rw [e,xak,L.len h1,F.len h2]
 one:=fun ⟨c1,c2,e,h1,h2⟩ v hv=>by
  rw [e,xax] at hv
  exact hv.elim (L.one h1 v) (F.one h2 v)
 alike:=fun ⟨c1,c2,e,h1,h2⟩ ha=>⟨c1,c2,e,L.alike h1 ha,F.alike h2 ha⟩
 eY:=fun ⟨c1,c2,e,h1,h2⟩ hb=>⟨c1,c2,e,L.eY h1 hb,F.eY h2 hb⟩
theorem dh {P:Program} {α β:Type} {L:Lay α} {F:jT β} (hL:L.eG P) (hF:F.eG P):(jT.cons L F).eG P where
 op:=fun {H enc w sp hd fuel cs off} hl h=>by
  have hl:cs.length=off+(L.n+F.n):=hl
  obtain ⟨y,hy⟩:=h (L.t,off) (List.mem_cons_self ..)
  obtain ⟨x1,h1⟩:=hL.op hy
  obtain ⟨x2,h2⟩:=hF.op (off:=off+L.n) (cs:=cs) (by omega) (fun p hp=>h p (List.mem_cons_of_mem _ hp))
  refine ⟨(x1,x2),_,_,?_,h1,h2⟩
  rw [hL.cells,← List.drop_drop,List.take_append_drop]
def Lay.struct {γ β:Type} (t:TypeId) (F:jT β) (f:γ→β):Lay γ where
 t:=t
 n:=F.n
 At:=fun w B cs x=>F.At w B cs (f x)
 len:=fun h=>F.len h
 one:=fun h=>F.one h
 alike:=fun h=>F.alike h
 eY:=fun h=>F.eY h
theorem fJ {P:Program} {γ β:Type} {t:TypeId} {F:jT β} {f:γ→β} {fs:Array Field} (mk:β→γ) (hmk:∀ b,f (mk b)=b) (hF:F.eG P) (ht:P.underlying t=some (.struct fs)) (hc:P.cellsOf t=F.n)
  (hs:fs.toList.map (fun g=>(g.type,g.offset))=F.shape 0):(Lay.struct t F f).eG P where
 cells:=hc
 op:=fun {H enc w sp hd fuel cs y} h=>by
  obtain ⟨xs,n,_,_,hl,hxl,hel⟩:=DataW.trod_struct ht h
  obtain ⟨b,hb⟩:=hF.op (H:=H) (enc:=enc) (w:=w) (sp:=sp) (hd:=hd) (fuel:=n) (cs:=cs) (off:=0) (by omega) (fun p hp=>by
   rw [← hs] at hp
   obtain ⟨g,hg,rfl⟩:=xaA.1 hp
   obtain ⟨i,hi,rfl⟩:=List.getElem_of_mem hg
   have hi2:fs[i]?=some fs.toList[i]:=by simp at hi;simp [hi]
   have h2:=hel i _ hi2
   rw [xai (by simpa [hxl] using hi)] at h2
   exact ⟨_,h2⟩)
  refine ⟨mk b,?_⟩
  show F.At w w.heap.size cs (f (mk b))
  rw [hmk]
  simpa using hb
def sw {α:Type} (L:Lay α) (w:World) (B b off:Nat) (l:List α):Prop:=∀ j x,l[j]?=some x→∃ cs,w.rangeAt b (off+j*L.n) cs∧L.At w B cs x
def Lay.slice {α:Type} (t:TypeId) (L:Lay α):Lay (List α) where
 t:=t
 n:=1
 At:=fun w B cs l=>∃ A cap,cs=[.slice A l.length cap]∧l.length≤cap∧cap≤maxLen∧(A=none→cap=0)∧(0<l.length→∃ b off,A=some ⟨b,off,none⟩∧b<B∧sw L w B b off l)
 len:=fun ⟨A,cap,e,_⟩=>by rw [e];rfl
 one:=fun ⟨A,cap,e,_⟩ v hv=>by rw [e] at hv;simp only [xan] at hv;subst hv;rfl
 alike:=fun ⟨A,cap,e,h1,h2,h3,h4⟩ ha=>⟨A,cap,e,h1,h2,h3,fun h0=>by
  obtain ⟨b,off,k1,k2,k3⟩:=h4 h0
  exact ⟨b,off,k1,k2,fun j x hj=>by
   obtain ⟨cs,q1,q2⟩:=k3 j x hj
   exact ⟨cs,ri q1 ha k2,L.alike q2 ha⟩⟩⟩
 eY:=fun ⟨A,cap,e,h1,h2,h3,h4⟩ hB=>⟨A,cap,e,h1,h2,h3,fun h0=>by
  obtain ⟨b,off,k1,k2,k3⟩:=h4 h0
  exact ⟨b,off,k1,by omega,fun j x hj=>by
   obtain ⟨cs,q1,q2⟩:=k3 j x hj
   exact ⟨cs,q1,L.eY q2 hB⟩⟩⟩
theorem ki {P:Program} {α:Type} {t:TypeId} {L:Lay α} (hL:L.eG P) (hn:0<L.n) (ht:P.underlying t=some (.slice L.t)) (hc:P.cellsOf t=1):(Lay.slice t L).eG P where
 cells:=hc
 op:=fun {H enc w sp hd fuel cs y} h=>by
  rcases Go.Deep.open_slice ht h with ⟨rfl,_⟩ | ⟨a,len,cap,m,n,D,Pl,rfl,_,hl,hm,hmm,_,hi⟩
  ·exact ⟨[],none,0,rfl,xag _,Nat.zero_le _,fun _=>rfl,fun h=>absurd h (by simp)⟩
  ·rw [hL.cells] at hi
   have hml:len≤m:=by rw [hmm];split<;>omega
   have hel:∀ i,i<len→∃ (x:α) (cs:List Value),cs.length=L.n∧(∀ k,k<L.n→w.cell? ((a.add (i*L.n)).add k)=cs[k]?)∧L.At w w.heap.size cs x:=by
    intro i hil
    obtain ⟨cs',hc',htr⟩:=hi i (by omega)
    obtain ⟨_,hcl,hat⟩:=World.cells?_some hc'
    obtain ⟨x,hx⟩:=hL.op htr
    exact ⟨x,cs',hcl,hat,hx⟩
   rcases Nat.eq_zero_or_pos len with rfl | hpos
   ·exact ⟨[],some a,cap,rfl,Nat.zero_le _,hm,(fun h=>by cases h),fun h=>absurd h (by simp)⟩
   obtain ⟨x0,_⟩:=hel 0 hpos
   obtain ⟨f,hf⟩:∃ f:Nat→α,∀ i,i<len→∃ cs:List Value,cs.length=L.n∧(∀ k,k<L.n→w.cell? ((a.add (i*L.n)).add k)=cs[k]?)∧L.At w w.heap.size cs (f i) :=
    ⟨fun i=>if h:i<len then Classical.choose (hel i h) else x0,fun i h=>by simp only [dif_pos h];exact Classical.choose_spec (hel i h)⟩
   clear hel
   have hll:((xaf len).map f).length=len:=by simp
   refine ⟨(xaf len).map f,some a,cap,by rw [hll],by omega,hm,(fun h=>by cases h),fun _=>?_⟩
   obtain ⟨c0,q0,q1,_⟩:=hf 0 hpos
   have hcell:=q1 0 hn
   rw [xai (by omega)] at hcell
   obtain ⟨b,off,sp'⟩:=a
   cases sp' with
   | some q =>
    have h2:w.cell? ⟨b,off,some q⟩=some c0[0]:=by simpa [Addr.add] using hcell
    rw [rE] at h2
    cases h2
   | none =>
    have h2:w.cell? ⟨b,off,none⟩=some c0[0]:=by simpa [Addr.add] using hcell
    refine ⟨b,off,rfl,xa5 w _ h2,fun j x hj=>?_⟩
    obtain ⟨hj1,hj2⟩:=xah.1 hj
    rw [hll] at hj1
    have hj3:f j=x:=by simpa using hj2
    obtain ⟨cs,k1,k2,k3⟩:=hf j hj1
    rw [hj3] at k3
    refine ⟨cs,fun k v hk=>?_,k3⟩
    have hkn:k<L.n:=by
     have:=(xah.1 hk).1
     omega
    have:=k2 k hkn
    rw [add_plain,add_plain,hk] at this
    exact this
end Go.Proofs.YtomnhnmciopiiaaGreat
end
section
namespace Go.Proofs.YtomnhnmciopiiaaGreat
open Go Go.RowKit
structure eZ (w:World) (n:Nat) (A:Option Addr) (m c:Nat) (news:List Value):Prop where
 len:news.length=m*n
 none_:A=none→m=0∧c=0
 one:∀ u∈news,u.oneCell'=true
 cells:∀ ad,A=some ad→∀ j u,news[j]?=some u→w.cell? (ad.add j)=some u
theorem eZ.below {w w':World} {n m c:Nat} {A:Option Addr} {news:List Value} (h:eZ w n A m c news) (hb:Below w.heap.size w w'):eZ w' n A m c news :=
 ⟨h.len,h.none_,h.one,fun ad had j u hu=>by
  have h1:=h.cells ad had j u hu
  rw [xaV (w':=w') (hb.block _ (xa5 w _ h1))]
  exact h1⟩
section
variable {P:Program} {w:World} {ops:Array Oper} {rest:List Oper} {o:Oper} {a:Act} {Q:Exit→Act→World→Prop}
theorem qA (base:Nat) (t ty e:TypeId) (i:TypeInfo) (z:Value) (size bytes:Nat) (ht:P.underlying t=some (.slice e)) (hi:P.info? e=some i) (hz:i.zero=some z)
  (hsize:i.size=size) (hby:i.bytes=bytes) (hzs:z.cells.size=size) (hsz:0<size) (v:Value) (n:Nat) (xs:List Value) (hown:w.ownsRow base e size v n xs)
  (A:Option Addr) (m c:Nat) (news:List Value) (hs:eZ w size A m c news) (h63:n+m≤maxLen) (hbytes:(n+m)*bytes≤140737488355328) (hbase:base≤w.heap.size) :
  ∃ v' w',(Builtin.append_ #[t,t] ty #[v,.slice A m c]).run P w=.ok v' w'∧w'.ownsRow base e size v' (n+m) (xs++news)∧w.grownBy w' v.ownBlock ∧
   (v'.ownBlock=v.ownBlock∨v'.ownBlock=some w.heap.size)∧(v'=.slice none 0 0→v=.slice none 0 0):=by
 rcases A with _ | ad
 ·obtain ⟨rfl,rfl⟩:=hs.none_ rfl
  have hn:news=[]:=xaT (by rw [hs.len];omega)
  subst hn
  exact ⟨v,w,run_append_owned_none (P:=P) (w:=w) base t ty e i size ht hi v n xs hown,by simpa using hown,xa1 w _,.inl rfl,id⟩
 ·obtain ⟨v',w',h1,h2,h3,h4,h5⟩:=run_append_own_at (P:=P) w base t ty e i z size bytes ht hi hz hsize hby hzs hsz v n xs hown ad m c news hs.len (hs.cells ad rfl) hs.one h63 hbytes hbase
  exact ⟨v',w',h1,h2,h3,h5,fun h=>(h4.1 h).1⟩
theorem aE (hgd:o.guard=none) (s x:Operand) (t:TypeId)
  (ho:o.op=.call { callee:=.builtin .append,args:=#[s,x],argTypes:=#[t,t] })
  (base:Nat) (e:TypeId) (i:TypeInfo) (z:Value) (size bytes:Nat) (ht:P.underlying t=some (.slice e)) (hi:P.info? e=some i) (hz:i.zero=some z)
  (hsize:i.size=size) (hby:i.bytes=bytes) (hzs:z.cells.size=size) (hsz:0<size) (v:Value) (n:Nat) (xs:List Value) (hown:w.ownsRow base e size v n xs)
  (A:Option Addr) (m c:Nat) (news:List Value) (hsrc:eZ w size A m c news) (h63:n+m≤maxLen) (hbytes:(n+m)*bytes≤140737488355328) (hbase:base≤w.heap.size)
  (hs:a.eval s=v) (hx:a.eval x=.slice A m c)
  (h:∀ v' w',w'.ownsRow base e size v' (n+m) (xs++news)→w.grownBy w' v.ownBlock→(v'.ownBlock=v.ownBlock∨v'.ownBlock=some w.heap.size)→wpList P ops Q rest (a.put o.dst v') w') :
  wpList P ops Q (o :: rest) a w:=by
 refine wpList_plain hgd fun K hK=>?_
 obtain ⟨v',w',hr,h2,h3,h4,_⟩:=qA (P:=P) (w:=w) base t o.type e i z size bytes ht hi hz hsize hby hzs hsz v n xs hown A m c news hsrc h63 hbytes hbase
 unfold Oper.wp execOp
 simp only [ho,resolve,invoke,builtin,xaI,xaQ,xat,List.map_toArray,xa9,List.map_nil,hs,hx,hr]
 exact hK _ _ (h v' w' h2 h3 h4)
end
theorem Below.B5 {w0 w w':World} {v:Value} {base n s:Nat} {e:TypeId} {xs:List Value} (h:Below w0.heap.size w0 w) (hown:w.ownsRow base e s v n xs) (hb:w0.heap.size≤base) (hg:w.grownBy w' v.ownBlock):Below w0.heap.size w0 w' :=
 h.grown hg h.size fun _ hk=>xaH hb (az hown hk).1
section
variable {α:Type} {f:α→List Value} {n:Nat}
theorem gV:∀ (l:List α),(∀ x∈l,(f x).length=n)→(l.flatMap f).length=l.length*n
 | [],_=>by simp
 | x :: l,h=>by
  rw [xbf,xak,h x (by simp),gV l fun y hy=>h y (by simp [hy]),xaF,xbK]
  omega
theorem kC (h0:0<n):∀ (l:List α),(∀ x∈l,(f x).length=n)→∀ (j:Nat) (u:Value),(l.flatMap f)[j]?=some u→∃ x,l[j / n]?=some x∧(f x)[j % n]?=some u
 | [],_,j,u,hu=>by simp at hu
 | x :: l,h,j,u,hu=>by
  have hx:=h x (by simp)
  rw [xbf,List.getElem?_append] at hu
  by_cases hj:j<n
  ·rw [if_pos (by omega)] at hu
   rw [Nat.div_eq_of_lt hj,xbx hj]
   exact ⟨x,rfl,hu⟩
  ·rw [if_neg (by omega),hx] at hu
   obtain ⟨y,h1,h2⟩:=kC h0 l (fun y hy=>h y (by simp [hy])) (j-n) u hu
   have e1:j / n=(j-n) / n+1:=by
    rw [show j=(j-n)+n by omega,Nat.add_div_right _ h0]
    simp
   have e2:j % n=(j-n) % n:=by
    rw [Nat.mod_eq_sub_mod (by omega)]
   exact ⟨y,by rw [e1,xbs];exact h1,by rw [e2];exact h2⟩
theorem mg (h0:0<n):∀ (l:List α),(∀ x∈l,(f x).length=n)→∀ (k:Nat) (x:α),l[k]?=some x→∀ j u,(f x)[j]?=some u→(l.flatMap f)[k*n+j]?=some u
 | [],_,k,x,hk,_,_,_=>by simp at hk
 | y :: l,h,k,x,hk,j,u,hu=>by
  have hy:=h y (by simp)
  rw [xbf]
  cases k with
  | zero =>
   simp only [xa3,Option.some.injEq] at hk
   subst hk
   rw [Nat.zero_mul,Nat.zero_add,List.getElem?_append_left (xah.1 hu).1]
   exact hu
  | succ k =>
   rw [xbs] at hk
   have:=mg h0 l (fun y hy=>h y (by simp [hy])) k x hk j u hu
   rw [List.getElem?_append_right (by rw [hy,xbK];omega),hy,show (k+1)*n+j-n=k*n+j by rw [xbK];omega]
   exact this
theorem zj (h:∀ x:α,∀ u∈f x,u.oneCell'=true) (l:List α):∀ u∈l.flatMap f,u.oneCell'=true:=by
 intro u hu
 obtain ⟨x,_,hx⟩:=List.mem_flatMap.1 hu
 exact h x u hx
theorem ij {t:TypeId} {L:Lay α} (h0:0<L.n) (hf:∀ {w B cs x},L.At w B cs x→cs=f x) (h1:∀ x:α,∀ u∈f x,u.oneCell'=true) {w:World} {B len cap:Nat} {A:Option Addr} {l:List α} (h:(Lay.slice t L).At w B [.slice A len cap] l):len=l.length∧eZ w L.n A l.length cap (l.flatMap f):=by
 obtain ⟨A',cap',e,h2,h3,h4,h5⟩:=h
 simp only [List.cons.injEq,Value.slice.injEq,and_true] at e
 obtain ⟨rfl,rfl,rfl⟩:=e
 have hlen:∀ x∈l,(f x).length=L.n:=fun x hx=>by
  obtain ⟨i,hi⟩:=xaP hx
  obtain ⟨b,off,_,_,hE⟩:=h5 (by have:=(xah.1 hi).1;omega)
  obtain ⟨cs,_,h6⟩:=hE i x hi
  rw [← hf h6]
  exact L.len h6
 refine ⟨rfl,gV l hlen,fun hA=>by have:=h4 hA;omega,zj h1 l,fun ad had j u hu=>?_⟩
 obtain ⟨x,h6,h7⟩:=kC h0 l hlen j u hu
 obtain ⟨b,off,e,hb,hE⟩:=h5 (Nat.lt_of_le_of_lt (Nat.zero_le _) (xah.1 h6).1)
 rw [e] at had
 injection had with had
 subst had
 obtain ⟨cs,h8,h9⟩:=hE _ x h6
 rw [hf h9] at h8
 have:=h8 _ u h7
 rw [Addr.add_mid]
 rw [Nat.add_assoc,show j / L.n*L.n+j % L.n=j by rw [Nat.mul_comm];exact Nat.div_add_mod j L.n] at this
 exact this
theorem sH {w:World} {g:Nat} {t:TypeId} {cs:List Value} (hb:Blk w g t cs.toArray) (h1:∀ u∈cs,u.oneCell'=true):eZ w cs.length (some ⟨g,0,none⟩) 1 1 cs :=
 ⟨by omega,(fun h=>by cases h),h1,fun ad had j u hu=>by
  injection had with had
  subst had
  rw [Addr.add_mid,Nat.zero_add,hb.cell]
  simpa using hu⟩
theorem ie {t e:TypeId} {L:Lay α} (h0:0<L.n) {w:World} {R:Nat} {v:Value} {l:List α} (hown:w.ownsRow R e L.n v l.length (l.flatMap f)) (B:Nat) (hB:w.heap.size≤B) (hat:∀ x∈l,L.At w B (f x) x):(Lay.slice t L).At w B [v] l:=by
 have hlen:∀ x∈l,(f x).length=L.n:=fun x hx=>L.len (hat x hx)
 rcases a7 hown with ⟨rfl,hl,_⟩ | ⟨g,cap,cur,rfl,hbg,hnc,hcm,hg,hcs,htake,_⟩
 ·obtain rfl:=xaT hl
  exact ⟨none,0,rfl,xag _,Nat.zero_le _,(fun _=>rfl),fun h=>absurd h (by simp)⟩
 ·refine ⟨_,cap,rfl,hnc,hcm,(fun h=>by cases h),fun _=>⟨g,0,rfl,by have:=hg.lt;omega,fun j x hj=>⟨f x,fun i u hu=>?_,hat x (xaj hj)⟩⟩⟩
  have h2:=mg h0 l hlen j x hj i u hu
  rw [hg.cell,← xa7,Nat.zero_add]
  rw [← htake] at h2
  have hlt:j*L.n+i<l.length*L.n:=by
   have:=(xah.1 h2).1
   rw [xaN] at this
   omega
  rwa [List.getElem?_take_of_lt hlt] at h2
end
end Go.Proofs.YtomnhnmciopiiaaGreat
end
section
namespace Go.Proofs.YtomnhnmciopiiaaGreat
open Go Go.RowKit
theorem rR (off:Nat):∀ (l:List Value) (k:Nat) (acc:Array Value),off+k+l.length≤acc.size →
  ((l.zipIdx k).foldl (fun a x=>a.setIfInBounds (off+x.2) x.1) acc).toList=acc.toList.take (off+k)++l++acc.toList.drop (off+k+l.length)
 | [],k,acc,_=>by simp
 | x :: l,k,acc,h=>by
  rw [xaF] at h
  rw [List.zipIdx_cons,List.foldl_cons,rR off l (k+1) _ (by rw [Array.size_setIfInBounds];omega)]
  have hk:off+k<acc.toList.length:=by rw [Array.length_toList];omega
  have hs:(acc.setIfInBounds (off+k) x).toList=(acc.toList.take (off+k)++[x])++acc.toList.drop (off+k+1):=by
   rw [Array.toList_setIfInBounds,List.set_eq_take_append_cons_drop,if_pos hk,xaR]
   rfl
  have hl:(acc.toList.take (off+k)++[x]).length=off+k+1:=by
   rw [xak,xaN,Nat.min_eq_left (by omega)]
   rfl
  simp only
  rw [hs,← Nat.add_assoc,List.take_left' hl,List.drop_append,hl,List.drop_of_length_le (by rw [hl];omega),List.nil_append,List.drop_drop,xaF]
  have e:off+k+1+(off+k+1+l.length-(off+k+1))=off+k+(l.length+1):=by omega
  rw [e]
  simp
theorem kB (place:Nat→Option (Nat×Nat)) (cells:Array Value) (i:Nat) (v:Value) (rest:List (Nat×Value)) (off:Nat) (hp:place i=some (off,v.cells.size)) (hc:off+v.cells.size≤cells.size) :
  Instr.fill place cells ((i,v) :: rest)=Instr.fill place (cells.toList.take off++v.cells.toList++cells.toList.drop (off+v.cells.size)).toArray rest:=by
 have e:v.cells.zipIdx.foldl (fun cs x=>cs.setIfInBounds (off+x.2) x.1) cells=(cells.toList.take off++v.cells.toList++cells.toList.drop (off+v.cells.size)).toArray:=by
  apply Array.ext'
  have h:=rR off v.cells.toList 0 cells (by simpa using hc)
  simp only [Nat.add_zero] at h
  rw [← Array.foldl_toList,Array.toList_zipIdx,h]
  simp
 rw [Instr.fill,hp]
 simp only []
 rw [if_neg (by simp;omega)]
 rw [← e]
theorem om {P:Program} {t e n:Nat} {z v:Value} (ht:P.underlying t=some (.slice e)) (hs:(P.info? e).map (·.size)=some n) (hn:0<n) (h24:n≤16777216) (hz:∀ w,(zeroValue e).run P w=.ok z w) (hv:v.cells.size=n) (w:World) :
  (Instr.buildSlice t 1 #[(0,v)]).run P w=.ok (.slice (some ⟨w.heap.size,0,none⟩) 1 1) (w.alloc (.cells v.cells e)):=by
 have hsz:∀ w,(sizeOf e).run P w=.ok n w:=by
  intro w
  cases hq:P.info? e with
  | none=>simp [hq] at hs
  | some i =>
   have h1:i.size=n:=by simpa [hq] using hs
   simp [sizeOf,typeInfo,hq,h1]
 have hfill:∀ cells:Array Value,cells.size=n→Instr.fill (fun i=>some (i*n,n)) cells [(0,v)]=some v.cells:=by
  intro cells hc
  rw [kB _ _ 0 v [] 0 (by simp [hv]) (by omega)]
  unfold Instr.fill
  congr 1
  apply Array.ext'
  simp
  omega
 have h0:¬ n=0:=by omega
 have h25:¬ 16777216<n:=by omega
 simp [Instr.buildSlice,run_underlying ht,hsz,h0,h25,hz,hfill,xbB]
 have hr:(newRow e v.cells).run P w=.ok ⟨w.heap.size,0,none⟩ (w.alloc (.cells v.cells e)):=rfl
 rw [hr]
theorem bl {P:Program} {ρ:Operand→Value} {o:Oper} (t:TypeId) (x:Operand) (ho:o.op=.buildSlice t 1 #[(0,x)]) {e n:Nat} {z v:Value} (hx:ρ x=v) (ht:P.underlying t=some (.slice e)) (hs:(P.info? e).map (·.size)=some n) (hn:0<n) (h24:n≤16777216) (hz:∀ w,(zeroValue e).run P w=.ok z w) (hv:v.cells.size=n) (w:World) :
  (execOp ρ o).run P w=.ok (.value (.slice (some ⟨w.heap.size,0,none⟩) 1 1)) (w.alloc (.cells v.cells e)):=by
 have h:=om (P:=P) ht hs hn h24 hz hv w
 unfold execOp
 simp only [ho,List.map_toArray,xa9,List.map_nil,hx,xaI,h,xat,xaQ]
end Go.Proofs.YtomnhnmciopiiaaGreat
end
section
namespace Go.Proofs.YtomnhnmciopiiaaGreat
open Go Go.RowKit
theorem ae (n:Nat) {P:Program} {ops:Array Oper} {Q:Exit→Act→World→Prop} {rest:List Oper} {op:Op} {t} {p} {af} {g} {a:Act} {w:World}
  (h:wpList P ops Q (⟨some n,op,t,p,af,g⟩ :: rest) a w):wpList P ops Q (⟨some n,op,t,p,af,g⟩ :: rest) a w:=h
theorem aV (x y:Nat) {P:Program} {ops:Array Oper} {Q:Exit→Act→World→Prop} {rest:List Oper} {ty:TypeId} {t} {p} {af} {g} {a:Act} {w:World}
  (h:wpList P ops Q (⟨none,.store ty (.tmp x) (.tmp y),t,p,af,g⟩ :: rest) a w):wpList P ops Q (⟨none,.store ty (.tmp x) (.tmp y),t,p,af,g⟩ :: rest) a w:=h
theorem mN (x:Nat) {P:Program} {ops:Array Oper} {Q:Exit→Act→World→Prop} {rest:List Oper} {ty:TypeId} {c:Value} {t} {p} {af} {g} {a:Act} {w:World}
  (h:wpList P ops Q (⟨none,.store ty (.tmp x) (.const c),t,p,af,g⟩ :: rest) a w):wpList P ops Q (⟨none,.store ty (.tmp x) (.const c),t,p,af,g⟩ :: rest) a w:=h
end Go.Proofs.YtomnhnmciopiiaaGreat
end
section
namespace Go.Proofs.YtomnhnmciopiiaaGreat
open Go Go.RowKit
section
variable {P:Program} {ops:Array Oper} {rest:List Oper} {o:Oper} {a:Act} {w:World} {Q:Exit→Act→World→Prop}
structure fy (w w':World) (t:TypeId) (cells:Array Value):Prop where
 blk:Blk w' w.heap.size t cells
 below:Below w.heap.size w w'
 size:w'.heap.size=w.heap.size+1
theorem bS (w:World) (t:TypeId) (cells:Array Value):fy w (w.alloc (.cells cells t)) t cells :=
 ⟨Blk.new _ _ _,(xao _ w).alloc (xag _) _,by rw [size_alloc]⟩
theorem aF (hg:o.guard=none) (ty:TypeId) (x:Operand) (ho:o.op=.box ty x) (cells:Array Value) (hx:a.eval x=.agg cells)
  (h:∀ w',fy w w' ty cells→wpList P ops Q rest (a.put o.dst (.pointer (some ⟨w.heap.size,0,none⟩))) w'):wpList P ops Q (o :: rest) a w:=by
 refine aa hg (.pointer (some ⟨w.heap.size,0,none⟩)) (w.alloc (.cells cells ty)) ?_ (h _ (bS w ty cells))
 unfold execOp
 simp only [ho,hx]
 rfl
theorem aC (hg:o.guard=none) (ty:TypeId) (zc:Array Value) (hr:(execOp a.eval o).run P w=.ok (.value (.pointer (some ⟨w.heap.size,0,none⟩))) (w.alloc (.cells zc ty)))
  (h:∀ w',fy w w' ty zc→wpList P ops Q rest (a.put o.dst (.pointer (some ⟨w.heap.size,0,none⟩))) w'):wpList P ops Q (o :: rest) a w :=
 aa hg _ _ hr (h _ (bS w ty zc))
theorem aO (hg:o.guard=none) (t:TypeId) (x:Operand) (ho:o.op=.buildSlice t 1 #[(0,x)]) (e n:Nat) (z v:Value) (hx:a.eval x=v) (ht:P.underlying t=some (.slice e)) (hs:(P.info? e).map (·.size)=some n) (hn:0<n) (h24:n≤16777216) (hz:∀ w,(zeroValue e).run P w=.ok z w) (hv:v.cells.size=n)
  (h:∀ w',fy w w' e v.cells→wpList P ops Q rest (a.put o.dst (.slice (some ⟨w.heap.size,0,none⟩) 1 1)) w'):wpList P ops Q (o :: rest) a w :=
 aa hg _ _ (bl t x ho hx ht hs hn h24 hz hv w) (h _ (bS w e v.cells))
theorem bD (hg:o.guard=none) (ty:TypeId) (x y:Operand) (ho:o.op=.store ty x y) (g i:Nat) (t:TypeId) (cs:Array Value) (hb:Blk w g t cs) (hi:i<cs.size) (hs:(P.info? ty).map (·.size)=some 1) (v:Value) (h1:v.oneCell'=true)
  (hx:a.eval x=.pointer (some ⟨g,i,none⟩)) (hy:a.eval y=v)
  (h:∀ w',Blk w' g t (cs.setIfInBounds i v)→w.grownBy w' (some g)→w'.heap.size=w.heap.size→wpList P ops Q rest (a.put o.dst undef) w'):wpList P ops Q (o :: rest) a w:=by
 have hr:(storeVar ty ⟨g,i,none⟩ v).run P w=.ok () (w.setCell ⟨g,i,none⟩ v):=by
  have:=run_storeCells_cells (P:=P) g i [v] 0 w (fun j hj=>by
   have hj0:j=0:=by simpa using hj
   subst hj0
   rw [Nat.add_zero,hb.cell,Array.getElem?_eq_getElem hi]
   rfl) (fun j _=>hb.frozen _) (fun u hu=>by rw [xan.1 hu];exact h1)
  have hc:v.cells=#[v]:=by cases v<;>first | rfl | cases h1
  cases hq:P.info? ty with
  | none=>simp [hq] at hs
  | some j =>
   have hs:j.size=1:=by simpa [hq] using hs
   simp only [Nat.add_zero] at this
   simp [storeVar,sizeOf,typeInfo,hq,hc,hs,this]
   rfl
 refine wpList_plain hg fun K hK=>?_
 unfold Oper.wp execOp
 simp only [ho,hx,hy,Instr.storeAt,xbM,xaI,xaQ,xat,hr]
 exact hK _ _ (h _ (hb.gP i v) ⟨rfl,rfl,rfl,by simp [World.setCell],fun k _ hne=>xbv w ⟨g,i,none⟩ v k (fun e=>hne (by rw [e]))⟩ (by simp [World.setCell]))
theorem fy.src {w w':World} {t:TypeId} {cs:List Value} {n:Nat} (h:fy w w' t cs.toArray) (hl:cs.length=n) (h1:∀ u∈cs,u.oneCell'=true):eZ w' n (some ⟨w.heap.size,0,none⟩) 1 1 cs:=by
 subst hl
 exact sH h.blk h1
end
end Go.Proofs.YtomnhnmciopiiaaGreat
end
section
namespace Go.Proofs.YtomnhnmciopiiaaGreat
open Go Go.RowKit
structure Ent where
 F:Nat→Prop
 P:World→Prop
def Ent.Ok (e:Ent):Prop:=∀ w w',e.P w→(∀ b,e.F b→b<w.heap.size→w'.heap[b]?=w.heap[b]?)→e.P w'
def Far (F G:Nat→Prop):Prop:=∀ b,F b→G b→False
theorem Far.symm {F G:Nat→Prop} (h:Far F G):Far G F:=fun b x y=>h b y x
structure Mem (w0 w:World) (L:List Ent):Prop where
 below:Below w0.heap.size w0 w
 ok:∀ e∈L,e.Ok
 holds:∀ e∈L,e.P w
 lo:∀ e∈L,∀ b,e.F b→w0.heap.size≤b∧b<w.heap.size
 far:L.Pairwise fun x y=>Far x.F y.F
section
variable {w0 w w':World} {L:List Ent} {e e':Ent}
theorem Mem.start (w:World):Mem w w []:=⟨xao _ _,(fun _ h=>by cases h),(fun _ h=>by cases h),(fun _ h=>by cases h),.nil⟩
theorem Mem.get (h:Mem w0 w L) (i:Nat) (hi:L[i]?=some e):e.P w:=h.holds e (xaj hi)
theorem Mem.from_ (h:Mem w0 w L) (i:Nat) (hi:L[i]?=some e) {b:Nat} (hb:e.F b):w0.heap.size≤b∧b<w.heap.size:=h.lo e (xaj hi) b hb
theorem Mem.call (h:Mem w0 w L) (hb:Below w.heap.size w w'):Mem w0 w' L :=
 ⟨h.below.trans (hb.mono h.below.size),h.ok,(fun e he=>h.ok e he w w' (h.holds e he) fun b _ hl=>hb.block b hl),(fun e he b hf=>⟨(h.lo e he b hf).1,xaZ (h.lo e he b hf).2 hb.size⟩),h.far⟩
theorem Mem.cons (h:Mem w0 w L) (ho:e.Ok) (hp:e.P w) (hF:∀ b,e.F b→w0.heap.size≤b∧b<w.heap.size∧∀ x∈L,¬ x.F b):Mem w0 w (e :: L) :=
 ⟨h.below,(fun x hx=>by rcases xaD.1 hx with rfl | hx;exact ho;exact h.ok x hx),(fun x hx=>by rcases xaD.1 hx with rfl | hx;exact hp;exact h.holds x hx),(fun x hx b hf=>by rcases xaD.1 hx with rfl | hx;exact ⟨(hF b hf).1,(hF b hf).2.1⟩;exact h.lo x hx b hf),xbQ.2 ⟨fun x hx b h1 h2=>(hF b h1).2.2 x hx h2,h.far⟩⟩
theorem Mem.new (h:Mem w0 w L) (hb:Below w.heap.size w w') (ho:e.Ok) (hp:e.P w') (hF:∀ b,e.F b→w.heap.size≤b∧b<w'.heap.size):Mem w0 w' (e :: L) :=
 (h.call hb).cons ho hp fun b hf=>⟨xaH h.below.size (hF b hf).1,(hF b hf).2,fun x hx hx2=>by have:=(h.lo x hx b hx2).2;have:=(hF b hf).1;omega⟩
theorem Mem.upd (h:Mem w0 w L) (i:Nat) (hi:L[i]?=some e) {row:Option Nat} (hg:w.grownBy w' row) (hrow:∀ b,row=some b→e.F b) (ho:e'.Ok) (hp:e'.P w') (hF:∀ b,e'.F b→e.F b∨(w.heap.size≤b∧b<w'.heap.size)):Mem w0 w' (L.set i e'):=by
 have hlt:i<L.length:=(xah.1 hi).1
 have hmem:∀ x,x∈L.set i e'→x=e'∨∃ k,k ≠ i∧L[k]?=some x:=fun x hx=>by
  obtain ⟨k,hk⟩:=xaP hx
  rw [List.getElem?_set] at hk
  by_cases e1:i=k
  ·rw [if_pos e1,if_pos (by omega)] at hk
   exact .inl (xam hk).symm
  ·rw [if_neg e1] at hk
   exact .inr ⟨k,fun e2=>e1 e2.symm,hk⟩
 have hfar:∀ k x,k ≠ i→L[k]?=some x→Far e.F x.F:=fun k x hk hx=>by
  have hp2:=xa6.1 h.far
  have hkl:=(xah.1 hx).1
  have e1:=(xah.1 hx).2
  have e2:=(xah.1 hi).2
  rcases Nat.lt_or_ge k i with hlt2 | hge
  ·have:=hp2 k i hkl hlt hlt2
   rw [e1,e2] at this
   exact this.symm
  ·have:=hp2 i k hlt hkl (by omega)
   rw [e1,e2] at this
   exact this
 refine ⟨h.below.grown hg h.below.size fun b hb=>(h.from_ i hi (hrow b hb)).1,fun x hx=>?_,fun x hx=>?_,fun x hx b hf=>?_,?_⟩
 ·rcases hmem x hx with rfl | ⟨k,_,hk⟩
  ·exact ho
  ·exact h.ok x (xaj hk)
 ·rcases hmem x hx with rfl | ⟨k,hne,hk⟩
  ·exact hp
  ·refine h.ok x (xaj hk) w w' (h.holds x (xaj hk)) fun b hf hl=>hg.block b hl fun e1=>?_
   exact hfar k x hne hk b (hrow b e1.symm) hf
 ·rcases hmem x hx with rfl | ⟨k,_,hk⟩
  ·rcases hF b hf with h1 | h1
   ·exact ⟨(h.from_ i hi h1).1,xaZ (h.from_ i hi h1).2 hg.size⟩
   ·exact ⟨xaH h.below.size h1.1,h1.2⟩
  ·have:=h.lo x (xaj hk) b hf
   exact ⟨this.1,xaZ this.2 hg.size⟩
 ·refine xa6.2 fun a c ha hc hac=>?_
  rw [xbh] at ha hc
  rw [List.getElem_set,List.getElem_set]
  have hold:∀ k (hk:k<L.length),k ≠ i→Far e'.F (L[k]).F:=fun k hk hne b h1 h2=>by
   rcases hF b h1 with h3 | h3
   ·exact hfar k _ hne (xai hk) b h3 h2
   ·have:=(h.lo _ (List.getElem_mem hk) b h2).2
    omega
  by_cases e1:i=a
  ·subst e1
   rw [if_pos rfl,if_neg (by omega)]
   exact hold c hc (by omega)
  ·rw [if_neg e1]
   by_cases e2:i=c
   ·subst e2
    rw [if_pos rfl]
    exact (hold a ha (by omega)).symm
   ·rw [if_neg e2]
    exact xa6.1 h.far a c ha hc hac
theorem Mem.mD (h:Mem w0 w L) (i:Nat) (hi:L[i]?=some e) (ho:e'.Ok) (hp:e'.P w) (hF:∀ b,e'.F b→e.F b):Mem w0 w (L.set i e') :=
 h.upd i hi (xa1 w none) (fun _ hb=>by cases hb) ho hp fun b hf=>.inl (hF b hf)
theorem Mem.pick (h:Mem w0 w L) (l:List Nat) (hn:l.Nodup) {L':List Ent} (hs:l.mapM (fun i=>L[i]?)=some L'):Mem w0 w L':=by
 have hat:∀ (l:List Nat) (L':List Ent),l.mapM (fun i=>L[i]?)=some L'→L'.length=l.length∧∀ (k:Nat) (x:Ent),L'[k]?=some x→∃ i,l[k]?=some i∧L[i]?=some x:=by
  intro l
  induction l with
  | nil=>intro L' hs;simp at hs;subst hs;exact ⟨rfl,fun k x hx=>by simp at hx⟩
  | cons i l ih =>
   intro L' hs
   rw [List.mapM_cons] at hs
   cases h1:L[i]? with
   | none=>simp [h1] at hs
   | some x =>
    cases h2:l.mapM (fun i=>L[i]?) with
    | none=>simp [h1,h2] at hs
    | some M =>
     simp only [h1,h2,Option.bind_eq_bind,xbk,Option.pure_def,Option.some.injEq] at hs
     subst hs
     obtain ⟨k1,k2⟩:=ih M h2
     refine ⟨by simp [k1],fun k y hy=>?_⟩
     cases k with
     | zero=>simp at hy;subst hy;exact ⟨i,rfl,h1⟩
     | succ k=>exact k2 k y (by simpa using hy)
 obtain ⟨hl,hg⟩:=hat l L' hs
 have hm:∀ x∈L',x∈L:=fun x hx=>by
  obtain ⟨k,hk⟩:=xaP hx
  obtain ⟨i,_,hi⟩:=hg k x hk
  exact xaj hi
 refine ⟨h.below,fun x hx=>h.ok x (hm x hx),fun x hx=>h.holds x (hm x hx),fun x hx=>h.lo x (hm x hx),xa6.2 fun a c ha hc hac=>?_⟩
 obtain ⟨i,hi1,hi2⟩:=hg a _ (xai ha)
 obtain ⟨k,hk1,hk2⟩:=hg c _ (xai hc)
 obtain ⟨hil,e1⟩:=xah.1 hi2
 obtain ⟨hkl,e2⟩:=xah.1 hk2
 have hne:i ≠ k:=by
  rintro rfl
  have h1:=xah.1 hi1
  have h2:=xah.1 hk1
  have:=(List.getElem_inj hn).1 (h1.2.trans h2.2.symm)
  omega
 have hp2:=xa6.1 h.far
 rw [← e1,← e2]
 rcases Nat.lt_or_ge i k with h1 | h1
 ·exact hp2 i k hil hkl h1
 ·exact (hp2 k i hkl hil (by omega)).symm
theorem Mem.drop (h:Mem w0 w L) (n:Nat):Mem w0 w (L.drop n) :=
 ⟨h.below,fun x hx=>h.ok x (xcp hx),fun x hx=>h.holds x (xcp hx),fun x hx=>h.lo x (xcp hx),h.far.drop⟩
def Ent.both (a b:Ent):Ent:=⟨fun k=>a.F k∨b.F k,fun w=>a.P w∧b.P w⟩
theorem Ent.DM {a b:Ent} (ha:a.Ok) (hb:b.Ok):(a.both b).Ok:=fun w w' h hk=>⟨ha w w' h.1 fun k hf=>hk k (.inl hf),hb w w' h.2 fun k hf=>hk k (.inr hf)⟩
def Ent.all {α:Type} (l:List α) (f:α→Ent):Ent:=⟨fun b=>∃ x∈l,(f x).F b,fun w=>(∀ x∈l,(f x).P w)∧l.Pairwise fun x y=>Far (f x).F (f y).F⟩
theorem Ent.oY {α:Type} {l:List α} {f:α→Ent} (h:∀ x∈l,(f x).Ok):(Ent.all l f).Ok:=fun w w' hp hk=>⟨fun x hx=>h x hx w w' (hp.1 x hx) fun b hf=>hk b ⟨x,hx,hf⟩,hp.2⟩
theorem Mem.join {a b:Ent} (h:Mem w0 w (a :: b :: L)):Mem w0 w (a.both b :: L):=by
 have h2:=h.drop 2
 have hf:=xbQ.1 h.far
 have hf2:=xbQ.1 hf.2
 refine h2.cons (Ent.DM (h.ok a (by simp)) (h.ok b (by simp))) ⟨h.holds a (by simp),h.holds b (by simp)⟩ fun k hk=>?_
 rcases hk with hk | hk
 ·exact ⟨(h.lo a (by simp) k hk).1,(h.lo a (by simp) k hk).2,fun x hx hx2=>hf.1 x (List.mem_cons_of_mem _ hx) k hk hx2⟩
 ·exact ⟨(h.lo b (by simp) k hk).1,(h.lo b (by simp) k hk).2,fun x hx hx2=>hf2.1 x hx k hk hx2⟩
theorem Mem.push {α:Type} {l:List α} {x:α} {f:α→Ent} (h:Mem w0 w (f x :: Ent.all l f :: L)) (hx:(f x).Ok):Mem w0 w (Ent.all (l++[x]) f :: L):=by
 have h2:=h.join
 have hf0:Far (f x).F (Ent.all l f).F:=(xbQ.1 h.far).1 _ (by simp)
 have hp0:=h.holds (Ent.all l f) (by simp)
 refine (h2.drop 1).cons ?_ ?_ ?_
 ·intro w w' hp hk
  refine ⟨fun y hy=>?_,hp.2⟩
  rcases xax.1 hy with hy | hy
  ·exact ((h.ok (Ent.all l f) (by simp)) w w' ⟨fun y hy=>hp.1 y (xaY _ hy),hp0.2⟩ (fun b ⟨z,hz,hf⟩=>hk b ⟨z,xaY _ hz,hf⟩)).1 y hy
  ·rw [xan.1 hy]
   exact hx w w' (hp.1 x (by simp)) fun b hf=>hk b ⟨x,by simp,hf⟩
 ·refine ⟨fun y hy=>?_,xbw.2 ⟨hp0.2,by simp,fun y hy z hz b h1 h3=>?_⟩⟩
  ·rcases xax.1 hy with hy | hy
   ·exact hp0.1 y hy
   ·rw [xan.1 hy]
    exact h.holds (f x) (by simp)
  ·rw [xan.1 hz] at h3
   exact hf0 b h3 ⟨y,hy,h1⟩
 ·rintro b ⟨y,hy,hf⟩
  have hb:((f x).both (Ent.all l f)).F b:=by
   rcases xax.1 hy with hy | hy
   ·exact .inr ⟨y,hy,hf⟩
   ·rw [xan.1 hy] at hf
    exact .inl hf
  exact ⟨(h2.lo _ (by simp) b hb).1,(h2.lo _ (by simp) b hb).2,fun z hz hz2=>(xbQ.1 h2.far).1 z hz b hb hz2⟩
def bh (g:Nat) (t:TypeId) (cs:Array Value):Ent:=⟨fun b=>b=g,fun w=>Blk w g t cs⟩
theorem sF (g:Nat) (t:TypeId) (cs:Array Value):(bh g t cs).Ok:=fun _ _ h hk=>(hk g rfl (Blk.lt h)).trans h
def ax (B:Nat) (t:TypeId) (s:Nat) (u:Value) (n:Nat) (xs:List Value):Ent:=⟨fun b=>u.ownBlock=some b,fun w=>w.ownsRow B t s u n xs⟩
theorem gz (B:Nat) (t:TypeId) (s:Nat) (u:Value) (n:Nat) (xs:List Value):(ax B t s u n xs).Ok:=fun _ _ h hk=>ao h fun g hg hl=>hk g hg hl
theorem Mem.blk {g:Nat} {t:TypeId} {cs:Array Value} (h:Mem w0 w L) (i:Nat) (hi:L[i]?=some (bh g t cs)):Blk w g t cs:=h.get i hi
theorem Mem.own {B n s:Nat} {t:TypeId} {u:Value} {xs:List Value} (h:Mem w0 w L) (i:Nat) (hi:L[i]?=some (ax B t s u n xs)):w.ownsRow B t s u n xs:=h.get i hi
theorem Mem.aM {t:TypeId} {cs:Array Value} (h:Mem w0 w L) (hn:fy w w' t cs):Mem w0 w' (bh w.heap.size t cs :: L) :=
 h.new hn.below (sF _ _ _) hn.blk fun b hf=>by have:=hn.size;have e:b=w.heap.size:=hf;omega
theorem Mem.st {g:Nat} {t t':TypeId} {cs cs':Array Value} (h:Mem w0 w L) (i:Nat) (hi:L[i]?=some (bh g t cs)) (hk:Blk w' g t' cs') (hg:w.grownBy w' (some g)):Mem w0 w' (L.set i (bh g t' cs')) :=
 h.upd i hi hg (fun _ hb=>(xam hb).symm) (sF _ _ _) hk fun _ hf=>.inl hf
theorem Mem.app {B n n' s:Nat} {t:TypeId} {u u':Value} {xs xs':List Value} (h:Mem w0 w L) (i:Nat) (hi:L[i]?=some (ax B t s u n xs)) (ho:w'.ownsRow B t s u' n' xs') (hg:w.grownBy w' u.ownBlock) (hp:u'.ownBlock=u.ownBlock∨u'.ownBlock=some w.heap.size):Mem w0 w' (L.set i (ax B t s u' n' xs')) :=
 h.upd i hi hg (fun _ hb=>hb) (gz _ _ _ _ _ _) ho fun b hf=>by
  have hf:u'.ownBlock=some b:=hf
  rcases hp with e1 | e1
  ·exact .inl (show u.ownBlock=some b by rw [← e1];exact hf)
  ·rw [e1] at hf
   injection hf with hf
   subst hf
   exact .inr ⟨xag _,(az ho e1).2⟩
theorem Mem.dE (h:Mem w0 w L) (B:Nat) (t:TypeId) (s:Nat):Mem w0 w (ax B t s (.slice none 0 0) 0 [] :: L) :=
 h.cons (gz _ _ _ _ _ _) (xbg _ _ _ _) fun b hf=>by cases (show (none:Option Nat)=some b from hf)
theorem Mem.pure (h:Mem w0 w L) (ho:e.Ok) (hp:e.P w) (hF:∀ b,¬ e.F b):Mem w0 w (e :: L):=h.cons ho hp fun b hf=>absurd hf (hF b)
theorem Mem.sz {α:Type} (h:Mem w0 w L) (f:α→Ent):Mem w0 w (Ent.all [] f :: L) :=
 h.pure (fun _ _ _ _=>⟨(fun x hx=>by cases hx),List.Pairwise.nil⟩) ⟨(fun x hx=>by cases hx),List.Pairwise.nil⟩ (fun b ⟨x,hx,_⟩=>by cases hx)
theorem Mem.old (h:Mem w0 w L) {b:Nat} (hb:b<w0.heap.size):w.heap[b]?=w0.heap[b]?:=h.below.block b hb
end
end Go.Proofs.YtomnhnmciopiiaaGreat
end
section
namespace Go.Proofs.YtomnhnmciopiiaaGreat
open Go Go.RowKit
theorem yt {α:Type} {s:Nat}:∀ (l:List (List α)) (k:Nat) (b:List α),(∀ b∈l,b.length=s)→l[k]?=some b→(l.flatten.drop (k*s)).take s=b
 | [],_,_,_,h=>by simp at h
 | b :: l,0,c,hs,h=>by
  have h1:=hs b (by simp)
  simp at h
  subst h
  simp [← h1]
 | b :: l,k+1,c,hs,h=>by
  have h1:=hs b (by simp)
  rw [List.flatten_cons,List.drop_append,show (k+1)*s-b.length=k*s by rw [h1,xbK];omega,List.drop_eq_nil_of_le (by rw [h1,xbK];omega),List.nil_append]
  exact yt l k c (fun d hd=>hs d (by simp [hd])) (by simpa using h)
theorem Blk.setCells {g:Nat} {t:TypeId}:∀ (vs:List Value) (o:Nat) (w:World) (cs:Array Value),Blk w g t cs→o+vs.length≤cs.size→Blk (w.setCells g o vs) g t (cs.toList.take o++(vs++cs.toList.drop (o+vs.length))).toArray
 | [],o,w,cs,h,_=>by simpa [World.setCells] using h
 | v :: vs,o,w,cs,h,hl=>by
  simp only [xaF] at hl
  have h2:=Blk.setCells vs (o+1) _ _ (h.gP o v) (by simp;omega)
  rw [World.setCells]
  have e:(cs.setIfInBounds o v).toList.take (o+1)++(vs++(cs.setIfInBounds o v).toList.drop (o+1+vs.length))=cs.toList.take o++(v :: vs++cs.toList.drop (o+(v :: vs).length)):=by
   have ho:o<cs.toList.length:=by simp;omega
   rw [Array.toList_setIfInBounds,List.drop_set_of_lt (by omega),List.take_set,xbb ho,List.set_append_right _ _ (by simp;omega)]
   have e2:o-(List.take o cs.toList).length=0:=by simp;omega
   rw [e2]
   simp [Nat.add_comm,Nat.add_left_comm]
  rwa [e] at h2
theorem ir {g:Nat} {a:World}:∀ (vs:List Value) (o:Nat) (w:World),a.grownBy w (some g)→a.grownBy (w.setCells g o vs) (some g)
 | [],_,_,h=>h
 | v :: vs,o,w,h=>by
  rw [World.setCells]
  exact ir vs (o+1) _ (dL h (.inl rfl) v)
section
variable {w:World} {base g n cap s:Nat} {e:TypeId} {xs:List Value}
theorem my (h:w.ownsRow base e s (.slice (some ⟨g,0,none⟩) n cap) n xs) (o:Nat) (vs:List Value) (hf:o+vs.length≤n*s):(w.setCells g o vs).ownsRow base e s (.slice (some ⟨g,0,none⟩) n cap) n (xs.take o++(vs++xs.drop (o+vs.length))):=by
 have hl:=h.1
 rcases a7 h with ⟨h,_⟩ | ⟨g',cap',cur,h',hb,hn,hc,hh,hs,ht,_⟩
 ·cases h
 ·injection h' with e1 e2 e3
  injection e1 with e1
  injection e1 with e1
  subst e1 e3
  have hns:n*s≤cap*s:=xbm _ hn
  refine ⟨by simp;omega,.inr ⟨g,cap,_,rfl,hb,Blk.setCells vs o w cur hh (by omega),hn,hc,by simp;omega,?_⟩⟩
  have e:cur.toList=xs++cur.toList.drop (n*s):=by rw [← ht,List.take_append_drop]
  show (cur.toList.take o++(vs++cur.toList.drop (o+vs.length))).take (n*s)=_
  have e1:cur.toList.take o=xs.take o:=by rw [← ht,List.take_take];congr 1;omega
  have e2:cur.toList.drop (o+vs.length)=xs.drop (o+vs.length)++cur.toList.drop (n*s):=by
   rw [e,List.drop_append,show o+vs.length-xs.length=0 by omega,xaK,← e]
  rw [e1,e2,← xaR,← xaR]
  rw [xbl (by simp;omega),xav (by simp;omega),xaR]
theorem Al (h:w.ownsRow base e s (.slice (some ⟨g,0,none⟩) n cap) n xs) (o m:Nat) (cs:List Value) (hcs:(xs.drop o).take m=cs):w.rangeAt g o cs:=by
 rcases a7 h with ⟨h,_⟩ | ⟨g',cap',cur,h',hb,hn,hc,hh,hs,ht,_⟩
 ·cases h
 ·injection h' with e1 e2 e3
  injection e1 with e1
  injection e1 with e1
  subst e1 e3
  intro j v hv
  rw [hh.cell,← xa7]
  rw [← hcs,List.getElem?_take,List.getElem?_drop,← ht,List.getElem?_take] at hv
  split at hv
  ·split at hv
   ·exact hv
   ·cases hv
  ·cases hv
theorem si (h:w.ownsRow base e s (.slice (some ⟨g,0,none⟩) n cap) n xs) (o m:Nat) (hf:o+m≤n*s):w.there g o m:=by
 rcases a7 h with ⟨h,_⟩ | ⟨g',cap',cur,h',hb,hn,hc,hh,hs,ht,_⟩
 ·cases h
 ·injection h' with e1 e2 e3
  injection e1 with e1
  injection e1 with e1
  subst e1 e3
  intro j hj
  have hns:n*s≤cap*s:=xbm _ hn
  have hlt:o+j<cur.size:=by omega
  exact ⟨by rw [hh.cell,Array.getElem?_eq_getElem hlt];rfl,hh.frozen _⟩
end
section
variable {P:Program} {ρ:Operand→Value} {o:Oper}
theorem ai (ty:TypeId) (x:Operand) (ho:o.op=.load ty x) (b off:Nat) (hx:ρ x=.pointer (some ⟨b,off,none⟩)) (cs:List Value) (d:TypeDesc) (w:World) (hc:w.rangeAt b off cs)
  (hu:P.underlying ty=some d) (hd:d.isRow=true) (hi:(P.info? ty).map (·.size)=some cs.length):(execOp ρ o).run P w=.ok (.value (.agg cs.toArray)) w:=by
 unfold execOp
 simp only [ho,hx,Instr.loadAt,xbM,xaI,xaQ,xat,run_loadVar_mid w b off ty cs d hc hu hd hi]
theorem exec_load_cell (ty:TypeId) (x:Operand) (ho:o.op=.load ty x) (p:Addr) (hx:ρ x=.pointer (some p)) (u:Value) (d:TypeDesc) (w:World) (hu:P.underlying ty=some d) (hd:d.isRow=false) (hc:w.cell? p=some u):(execOp ρ o).run P w=.ok (.value u) w:=by
 have hagg:(isAgg ty).run P w=.ok false w:=by
  unfold isAgg
  rw [xaI,run_underlying hu w]
  cases d<;>simp_all
 unfold execOp
 simp [ho,hx,Instr.loadAt,xbM,loadVar,hagg,hc]
end
end Go.Proofs.YtomnhnmciopiiaaGreat
end
