/- Part 4 of the texts of one proof. -/
import Derived.Test.YtomnhnmciopiiaaGreatMMW3
section
namespace Go.Proofs.YtomnhnmciopiiaaGreat
open Go Go.RowKit Go.Shelf
attribute [local go_sem] Oper.semAt_some
set_option maxRecDepth 100000
variable {S:Nat→Prop}
set_option maxHeartbeats 4000000 in
theorem yG (n:Nat) (hn:1≤n) (l Bf Bt n₀ m len cap b off:Nat) (cf:Nat→List Value) (hm:m<len) (hl:len≤maxLen) (hb:b<n₀) (_:Bf<n₀) (hBt:Bt<n₀) (hSb:¬ S b) (_:¬ S Bf) (hSt:¬ S Bt) (hcf:∀ j,j<len→(cf j).length=23) (J Jx:List Nat→World→Prop)
  (hY:∀ pre x W,J pre W→pre.length<m+1→YieldAt Fence.wide (n-1) Tryz.prog l #[.int .i64 ((m-x:Nat):Int),.agg (cf (m-x)).toArray] W fun e W' =>
   (e=.returned (.bool true)∧J (pre++[x]) W'∧cO S n₀ W W')∨(e=.returned (.bool false)∧Jx (pre++[x]) W'))
  (W:World) (hf:W.cell? ⟨Bf,0,none⟩=some (.int .i64 (m:Int))) (ht:W.cell? ⟨Bt,1,none⟩=some (.slice (some ⟨b,off,none⟩) len cap)) (hcs:∀ j,j<len→W.rangeAt b (off+j*23) (cf j)) (h0:J [] W) :
  CallsIn Fence.wide n Tryz.prog 163 #[.func (.yield l) #[] #[],.pointer (some ⟨Bf,0,none⟩),.pointer (some ⟨Bt,0,none⟩)] W fun e W'=>(∃ v,e=.returned v) ∧
   ((∃ ys,ys=List.range (m+1)∧J ys W')∨(∃ pre,(∃ k,k≤m+1∧pre=List.range k)∧Jx pre W')):=by
 have l9:(len:Int)≤9223372036854775807:=by simp only [maxLen] at hl;omega
 have HCS:=ah (And.intro hcs hcf)
 have HF:=ah (And.intro hf ht)
 clear hcs hcf hl ht
 refine callsIn_of_wp Tryz.func163 rfl trivial ?_ rfl
 simp only [Tryz.ntmps163,List.size_toArray,List.length_cons,List.length_nil,Nat.reduceAdd,Nat.reduceSub,Array.replicate_succ,Array.replicate_zero,List.push_toArray,List.append_toArray,List.nil_append,List.cons_append]
 gi_wp2
 clear hf
 gi_loopw [4] (fun i wr=>∃ k:Nat,((k=m+1∧i=.int .i64 (-1))∨∃ p:Nat,k+p=m∧i=.int .i64 (p:Int))∧J (List.range k) wr∧cO S n₀ W wr)
  (fun i _=>(intOf i+1).toNat)
 case atStart=>exact ⟨0,.inr ⟨m,by omega,rfl⟩,h0,cO.refl _⟩
 case round =>
  obtain ⟨k,hk,hJs,hnx⟩:=hrel
  rcases hk with ⟨rfl,rfl⟩ | ⟨p,hp,rfl⟩
  ·gi_wp2
   go_end0
   exact ⟨⟨_,rfl⟩,.inl ⟨_,rfl,hJs⟩⟩
  ·obtain ⟨fn,tmps,assign,body,hy,hR⟩:=hY (List.range k) k wr hJs (by rw [List.length_range];omega)
   rw [show m-k=p by omega] at hy
   have hb':=hnx.cell hBt hSt HF.out.2
   have hc':=hnx.range hb hSb (HCS.out.1 p (by omega))
   have hszt:(Tryz.prog.info? 59).map (·.size)=some (cf p).length:=by rw [HCS.out.2 p (by omega)];kernel_rfl
   have n1:(0:Int)≤(p:Int):=by omega
   have n2:(p:Int)<(len:Int):=by omega
   have HN:=ah hnx
   clear hnx
   gi_wp2_with (first | ((with_reducible refine pf 15 ?_);(refine iT (o:=⟨some 15,_,_,_,_,_⟩) rfl rfl (.pointer (some ⟨b,off+(p:Int).toNat*23,none⟩)) wr (aJ (o:=⟨some 15,_,_,_,_,_⟩) 22 59 (.tmp 13) (.tmp 14) rfl b off len cap (p:Int) .i64 rfl rfl ⟨n1,n2⟩ 23 Tryz.underlying22 cP wr) ?_;rw [show off+(p:Int).toNat*23=off+p*23 by omega])) | ((with_reducible refine pf 16 ?_);(refine iT (o:=⟨some 16,_,_,_,_,_⟩) rfl rfl (.agg (cf p).toArray) wr (ai (o:=⟨some 16,_,_,_,_,_⟩) 59 (.tmp 15) rfl b (off+p*23) rfl (cf p) _ wr hc' Tryz.underlying59 rfl hszt) ?_)))
   refine hR.mono ?_
   rintro e W3 (⟨rfl,hJ3,hk3⟩ | ⟨rfl,hJx3⟩)
   ·have H3:=ah (And.intro hJ3 hk3)
    clear hJ3 hk3 hb' hc' hy hR hJs
    gi_wp2_with fail
    go_roundw
    case rel =>
     refine ⟨k+1,?_,by rw [List.range_succ];exact H3.out.1,HN.out.trans H3.out.2⟩
     rcases Nat.eq_zero_or_pos p with rfl | h
     ·exact .inl ⟨by omega,by go_num⟩
     ·obtain ⟨q,rfl⟩:∃ q,p=q+1:=⟨p-1,by omega⟩
      exact .inr ⟨q,by omega,by go_num⟩
    case measure=>simp [intOf]
   ·clear hb' hc' hy hR hJs
    gi_wp2_with fail
    refine bodyPost_ret (results_none rfl _ _ _) rfl ?_
    exact ⟨⟨_,rfl⟩,.inr ⟨_,⟨k+1,by omega,(List.range_succ).symm⟩,hJx3⟩⟩
theorem ye (w:World) (mv sl:Value) (m:Int) (_:mv.oneCell'=true) (_:sl.oneCell'=true):Calls Tryz.prog 121 #[.agg #[mv,sl],.int .i64 m] w fun e w' =>
  e=.returned (.func (.func 163) #[] #[.pointer (some ⟨w.heap.size+1,0,none⟩),.pointer (some ⟨w.heap.size,0,none⟩)])∧Blk w' w.heap.size 129 #[mv,sl]∧Blk w' (w.heap.size+1) 3 #[.int .i64 m]∧Below w.heap.size w w':=by
 go_enter Tryz.func121,Tryz.ntmps121
 go_wp2_with (((with_reducible refine ag 2 ?_);(refine ay (o:=⟨some 2,_,_,_,_,_⟩) rfl 129 (.tmp 0) rfl #[mv,sl] rfl ?_);intro w1 hn;have H1:=ah hn;clear hn;simp only [Act.put,List.setIfInBounds_toArray,List.set_cons_zero,List.set_cons_succ]))
 go_ret
 have h:=cD w1 3 #[.int .i64 m]
 have hs:=H1.out.size
 refine ⟨?_,(H1.out.blk.below h.below H1.out.blk.lt),?_,H1.out.below.trans (Below.mono h.below H1.out.below.size)⟩
 ·rw [← hs];rfl
 ·rw [← hs];exact h.blk
theorem uz (n:Nat) (hn:1≤n) (Bf Bt m len cap b off:Nat) (cf:Nat→List Value) (hm:m<len) (hl:len≤maxLen) (hcf:∀ j,j<len→(cf j).length=23) (w:World) (hb:b<w.heap.size) (hBf:Bf<w.heap.size) (hBt:Bt<w.heap.size) (hSb:¬ S b) (hSf:¬ S Bf) (hSt:¬ S Bt)
  (hf:w.cell? ⟨Bf,0,none⟩=some (.int .i64 (m:Int))) (ht:w.cell? ⟨Bt,1,none⟩=some (.slice (some ⟨b,off,none⟩) len cap)) (hcs:∀ j,j<len→w.rangeAt b (off+j*23) (cf j)) :
  SeqStopsK Fence.wide n Tryz.prog 163 #[.pointer (some ⟨Bf,0,none⟩),.pointer (some ⟨Bt,0,none⟩)] (fun x:Nat=>#[.int .i64 ((m-x:Nat):Int),.agg (cf (m-x)).toArray]) (cO S w.heap.size) (fun ys=>ys=List.range (m+1)) (fun pre=>∃ k,k≤m+1∧pre=List.range k) (m+1) w:=fun l J Jx W hW _ _ hY h0 =>
 yG n hn l Bf Bt w.heap.size m len cap b off cf hm hl hb hBf hBt hSb hSf hSt hcf J Jx hY W ((hW.cell (p:=⟨Bf,0,none⟩) hBf).trans hf) ((hW.cell (p:=⟨Bt,0+1,none⟩) hBt).trans ht) (fun j hj=>a8 (hcs j hj) (hW.block b hb)) h0
end Go.Proofs.YtomnhnmciopiiaaGreat
end
section
namespace Go.Proofs.YtomnhnmciopiiaaGreat
open Go Go.RowKit Go.Shelf Go.Maps
attribute [local go_sem] Oper.semAt_some
set_option maxRecDepth 100000
def fO {H:Type} [DecidableEq H] (l:List (Dr.It H)) (c:H):Nat:=(Dr.css l).idxOf c
theorem Ag {H:Type} [DecidableEq H] {l:List (Dr.It H)} {c:H} (hc:c∈Dr.css l):∃ x,l[fO l c]?=some x∧x.cls=c:=Dr.lO hc
theorem qp {H:Type} [DecidableEq H] {l:List (Dr.It H)} {c:H} (hc:c∈Dr.css l):fO l c<l.length:=Dr.sR hc
def fx {H:Type} [DecidableEq H] (l:List (Dr.It H)) (m:Nat) (b:List Bool) (x:Nat):List Bool:=if b[m-x]?.getD false then Dr.kg (Dr.css l) (Dr.gY l (m-x)) b else b
theorem ko {H:Type} [DecidableEq H] (l:List (Dr.It H)) (m:Nat) (b:List Bool):∀ k,k≤m+1→Dr.fC l (m+1) b=Dr.fC l (m+1-k) ((List.range k).foldl (fx l m) b)
 | 0,_=>rfl
 | k+1,hk=>by
  rw [ko l m b k (by omega),List.range_succ,List.foldl_append,show m+1-k=(m-k)+1 by omega,Dr.fC,show m+1-(k+1)=m-k by omega]
  rfl
theorem rP {H:Type} [DecidableEq H] (l:List (Dr.It H)) (m:Nat):(List.range (m+1)).foldl (fx l m) ((List.replicate l.length false).set m true)=Dr.b5 l m:=by
 have h:=ko l m ((List.replicate l.length false).set m true) (m+1) (Nat.le_refl _)
 rw [Nat.sub_self] at h
 exact h.symm
theorem mW {l:List Itm} (hr:Dr.eQ (l.map itP)) {c:Hsh} (hc:c∈Dr.css (l.map itP)):aX (dh l) c=some (fO (l.map itP) c):=by
 obtain ⟨x,hx,hxc⟩:=Ag hc
 obtain ⟨y,hy,rfl⟩:∃ y,l[fO (l.map itP) c]?=some y∧itP y=x:=by
  rw [List.getElem?_map] at hx
  cases h:l[fO (l.map itP) c]? with
  | none=>rw [h] at hx;cases hx
  | some y=>rw [h] at hx;exact ⟨y,rfl,Option.some.inj hx⟩
 refine mD (by rw [jE];exact hr.nodup) (j:=fO (l.map itP) c) ?_
 unfold dh
 rw [List.getElem?_map,List.getElem?_zipIdx,hy]
 simp [← hxc,itP]
theorem xC {w:World} {base g n s:Nat} {e:TypeId} {xs:List Value} (h:w.ownsRow base e s (.slice (some ⟨g,0,none⟩) n n) n xs):Blk w g e xs.toArray:=by
 obtain ⟨hl,h⟩:=h
 rcases h with ⟨h,_⟩ | ⟨g',cap,cur,h,_,hb,_,_,hs,ht⟩
 ·cases h
 ·injection h with e1 e2 e3
  injection e1 with e1
  injection e1 with e1
  subst e1 e3
  have:cur=xs.toArray:=by rw [← ht,List.take_of_length_le (by simp;omega)]
  rw [← this]
  exact hb
theorem uy (n:Nat):(madeCells #[Value.bool false] n).toList=(List.replicate n false).map Value.bool:=by
 apply List.ext_getElem
 ·simp [size_madeCells]
 ·intro i h1 h2
  simp [madeCells,Nat.mod_one]
theorem ni {g:Nat} {w:World} {b:List Bool} (h:Blk w g 4 (b.map Value.bool).toArray) {i:Nat} {v:Bool} (hv:b[i]?=some v):w.cell? ⟨g,i,none⟩=some (.bool v):=by
 rw [h.cell,List.getElem?_toArray,List.getElem?_map,hv]
 rfl
theorem th:(Tryz.prog.info? 4).map (fun i=>(i.zero,i.size,i.bytes))=some (some (.bool false),1,1):=by kernel_rfl
structure NSt (w:World) (mb b off cap:Nat) (l:List Itm) (c:Hsh) (gc gn Bn:Nat) (marks:List Bool) (W:World):Prop where
 tbl:Blk W w.heap.size 129 #[.map (some mb),.slice (some ⟨b,off,none⟩) l.length cap]
 cls:Blk W gc 34 (bv c).toArray
 nQ:Blk W gn 4 (marks.map Value.bool).toArray
 box:Blk W Bn 133 #[.slice (some ⟨gn,0,none⟩) l.length l.length]
 iw:bG hV okH evN W mb (dh l)
 below:Below w.heap.size w W
 len:marks.length=l.length
 lo:mb<w.heap.size∧b<w.heap.size∧w.heap.size<gc∧gc<gn∧gn<Bn
section
variable {w W W':World} {mb b off cap:Nat} {l:List Itm} {c:Hsh} {gc gn Bn:Nat} {marks:List Bool}
theorem NSt.grow (h:NSt w mb b off cap l c gc gn Bn marks W) (hb:Below W.heap.size W W'):NSt w mb b off cap l c gc gn Bn marks W' :=
 ⟨h.tbl.below hb h.tbl.lt,h.cls.below hb h.cls.lt,h.nQ.below hb h.nQ.lt,h.box.below hb h.box.lt,h.iw.below hb h.iw.lt,h.below.trans (Below.mono hb h.below.size),h.len,h.lo⟩
theorem NSt.set (h:NSt w mb b off cap l c gc gn Bn marks W) (i:Nat) (hk:Blk W' gn 4 ((marks.map Value.bool).toArray.setIfInBounds i (.bool true))) (hg:W.grownBy W' (some gn)):NSt w mb b off cap l c gc gn Bn (marks.set i true) W':=by
 have hlo:=h.lo
 refine ⟨(hg.block _ h.tbl.lt (fun e=>by have:=Option.some.inj e;omega)).trans h.tbl,(hg.block _ h.cls.lt (fun e=>by have:=Option.some.inj e;omega)).trans h.cls,?_,(hg.block _ h.box.lt (fun e=>by have:=Option.some.inj e;omega)).trans h.box,h.iw.of_eq (hg.block _ h.iw.lt (fun e=>by have:=Option.some.inj e;omega)),h.below.grown hg h.below.size (fun k e=>by have:=Option.some.inj e;omega),by rw [List.length_set,h.len],hlo⟩
 rwa [List.setIfInBounds_toArray,show (marks.map Value.bool).set i (.bool true)=(marks.set i true).map Value.bool by rw [List.map_set]] at hk
theorem NSt.own {row:Option Nat} {N:Nat} (hN:w.heap.size≤N) (h:NSt w mb b off cap l c gc gn Bn marks W) (hg:W.grownBy W' row) (hr:∀ r,row=some r→N≤r∧∃ o:Obj,W.heap[r]?=some o∧o.isCells=false):NSt w mb b off cap l c gc gn Bn marks W':=by
 have hr':∀ r,row=some r→∃ o:Obj,W.heap[r]?=some o∧o.isCells=false:=fun r e=>(hr r e).2
 exact ⟨ju h.tbl hg hr',ju h.cls hg hr',ju h.nQ hg hr',ju h.box hg hr',xB (B:=N) h.iw (by have:=h.lo;omega) hg hr,h.below.grown hg h.below.size (fun k e=>by have:=(hr k e).1;omega),h.len,h.lo⟩
end
structure fD (g:Nat) (W W':World):Prop where
 size:W.heap.size≤W'.heap.size
 same:∀ k,k<W.heap.size→k ≠ g→W'.heap[k]?=W.heap[k]?
theorem fD.trans {g:Nat} {A B C:World} (h:fD g A B) (k:fD g B C):fD g A C:=⟨Nat.le_trans h.size k.size,fun i h1 h2=>(k.same i (Nat.lt_of_lt_of_le h1 h.size) h2).trans (h.same i h1 h2)⟩
theorem fD.sE {g:Nat} {W W':World} (h:Below W.heap.size W W'):fD g W W':=⟨h.size,fun k h1 _=>h.block k h1⟩
theorem fD.zp {g:Nat} {W W':World} (h:W.grownBy W' (some g)):fD g W W':=⟨h.size,fun k h1 h2=>h.block k h1 fun e=>h2 (Option.some.inj e)⟩
theorem fD.Bh {g N:Nat} {W W':World} (h:fD g W W'):cO (·=g) N W W':=⟨h.size,fun k _ _ h2 h3 _=>(h.same k (Array.getElem?_eq_some_iff.1 h3).1 h2).trans h3⟩
theorem fD.from {g N:Nat} {W W':World} {t:TypeId} {cs:Array Value} (h:fD g W W') (hb:Blk W g t cs):KeepsFrom N W W':=⟨h.size,fun k o _ h3 h4=>(h.same k (Array.getElem?_eq_some_iff.1 h3).1 fun e=>by
 subst e
 rw [show W.heap[k]?=_ from hb] at h3
 injection h3 with h3
 subst h3
 cases h4).trans h3⟩
theorem gV {P:Program} {ρ:Operand→Value} {o:Oper} (ty e:TypeId) (x i:Operand) (ho:o.op=.indexAddr ty x i) (b n cap k:Nat) (hx:ρ x=.slice (some ⟨b,0,none⟩) n cap) (hi:ρ i=.int .i64 (k:Int)) (hk:k<n) (s:Nat) (hu:P.underlying ty=some (.slice e)) (hs:(P.info? e).map (·.size)=some s) (w:World) :
  (execOp ρ o).run P w=.ok (.value (.pointer (some ⟨b,k*s,none⟩))) w:=by
 have h:=aJ (P:=P) (ρ:=ρ) (o:=o) ty e x i ho b 0 n cap (k:Int) .i64 hx hi ⟨by omega,by omega⟩ s hu hs w
 rwa [Int.toNat_natCast,Nat.zero_add] at h
theorem mC {w:World} {mb:Nat} {m:List (Hsh×Nat)} (hm:bG hV okH evN w mb m) {c:Hsh} (hc:okH c) {n:Nat} (hg:aX m c=some n) {ρ:Operand→Value} {o:Oper} (x y:Operand) (ho:o.op=.lookup 127 x y false) (hx:ρ x=.map (some mb)) (hy:ρ y=.agg (bv c).toArray) :
  (execOp ρ o).run Tryz.prog w=.ok (.value (.int .i64 (n:Int))) w:=by
 have h:=dH (P:=Tryz.prog) (o:=o) (ρ:=ρ) 127 x y false ho (.map (some mb)) (.agg (bv c).toArray) _ hx hy (hm.look dy hc Tryz.underlying127 (pj w))
 rw [hg] at h
 exact h
theorem vp {α:Type} {L:Lay α} {w:World} {B b off:Nat} {l:List α} (h:pZ L w B b off l):∃ cf:Nat→List Value,∀ j x,l[j]?=some x→w.rangeAt b (off+j*L.n) (cf j)∧L.At w B (cf j) x:=by
 have key:∀ j,∃ cs:List Value,∀ x,l[j]?=some x→w.rangeAt b (off+j*L.n) cs∧L.At w B cs x:=fun j=>by
  cases hj:l[j]? with
  | none=>exact ⟨[],fun x hx=>by cases hx⟩
  | some x =>
   obtain ⟨cs,h1,h2⟩:=h j x hj
   exact ⟨cs,fun y hy=>by injection hy with hy;subst hy;exact ⟨h1,h2⟩⟩
 exact ⟨fun j=>Classical.choose (key j),fun j x hx=>Classical.choose_spec (key j) x hx⟩
theorem yR {l:List Itm} {n:Nat} {x:Itm} (h:l[n]?=some x):Dr.gY (l.map itP) n=az x.2.2.1:=by
 unfold Dr.gY
 rw [List.getElem?_map,h]
 rfl
theorem xe {H:Type} [DecidableEq H] (cs:List H) (ins:List H) (b:List Bool) (c:H):Dr.kg cs (ins++[c]) b=(Dr.kg cs ins b).set (cs.idxOf c) true:=by
 unfold Dr.kg
 rw [List.foldl_append]
 rfl
theorem yN {P:Program} {fn:Func} {t D:Nat} {R:Ending→World→Prop} {tmps:Array Value} {W:World} {v:Value} (h:fn.results=#[.tmp t]) (hv:tmps.getD t undef=v) (hK:W.heap[D]?=some (.deferred (some []))) (hR:R (.returned v) (W.putObj D (.deferred none))) :
  bodyPostM Fence.wide 5 P fn R .ret { tmps:=tmps,defers:=[{ target:=.collected D,args:=#[] }] } W:=by
 have hv':tmps[t]?.getD undef=v:=by simpa using hv
 exact ⟨by simp,.inl ⟨_,_,rfl,run_takeDeferred hK,v,by simp [results,h,go_sem,hv'],hR⟩⟩
theorem hJ {w:World} {B n s:Nat} {e:TypeId} {u:Value} {xs:List Value} (h:w.ownsRow B e s u n xs):∃ A c,u=.slice A n c:=by
 rcases aU h with ⟨e,h0,_⟩ | ⟨g,cap,cur,e,_⟩
 ·exact ⟨none,0,by rw [e,h0]⟩
 ·exact ⟨_,_,e⟩
theorem lQ {l:List Hsh} (hl:∀ h∈l,okH h) {k:Nat} {h:Hsh} (hk:l[k]?=some h):((l.flatMap bv).drop (k*20)).take 20=bv h:=by
 rw [List.flatMap_def]
 refine uE (s:=20) (l.map bv) k (bv h) ?_ (by rw [List.getElem?_map,hk];rfl)
 intro b hb
 obtain ⟨x,hx,rfl⟩:=List.mem_map.1 hb
 rw [bvL]
 exact hl x hx
theorem tW {H:Type} [DecidableEq H] {l:List (Dr.It H)} (hr:Dr.eQ l) {n:Nat} {x:Dr.It H} (h:l[n]?=some x):∀ c∈x.ins,c∈Dr.css l:=fun c hc=>by
 have h1:=hr.ins n x h c hc
 have h2:=(List.getElem?_eq_some_iff.1 h).1
 refine List.idxOf_lt_length_iff.1 (Nat.lt_of_lt_of_le h1 ?_)
 simp [Dr.css]
 omega
theorem wJ {l:List Itm} (hr:Dr.eQ (l.map itP)) {n:Nat} {x:Itm} (h:l[n]?=some x):∀ c∈az x.2.2.1,c∈Dr.css (l.map itP) :=
 tW hr (n:=n) (x:=itP x) (by rw [List.getElem?_map,h];rfl)
def zv (w:World) (l:List Itm) (m:Nat) (w':World) (e:Ending):Prop:=∃ g,e=.returned (.slice (some ⟨g,0,none⟩) l.length l.length)∧Blk w' g 4 ((Dr.b5 (l.map itP) m).map Value.bool).toArray∧w.heap.size≤g∧Below w.heap.size w w'
set_option maxHeartbeats 8000000 in
theorem uu (w:World) (l:List Itm) (mb:Nat) (A:Option Addr) (cap:Nat) (h:bz.At w w.heap.size [.slice A l.length cap] l) (hl:∀ x∈l,x.2.2.1.length≤1000000) (hlen:l.length≤1000000) (hr:Dr.eQ (l.map itP)) (hm:bG hV okH evN w mb (dh l)) (c:Hsh) (hc:okH c) (hcm:c∈Dr.css (l.map itP)) :
  Calls Tryz.prog 75 #[.agg #[.map (some mb),.slice A l.length cap],.agg (bv c).toArray] w fun e w'=>zv w l (fO (l.map itP) c) w' e:=by
 obtain ⟨ibo,hih,hq0,hq1,hq2⟩:=info_parts th
 have HK:=ah (And.intro hih (And.intro hq0 (And.intro hq1 hq2)))
 clear hih hq0 hq1 hq2
 obtain ⟨A',cap',e,hcl,hcm9,_,hA⟩:=ak h
 injection e with e1 e2 e3
 subst e1 e3
 have hml:=qp hcm
 rw [List.length_map] at hml
 have hget:=mW hr hcm
 obtain ⟨m,hmd⟩:∃ m,m=fO (l.map itP) c:=⟨_,rfl⟩
 rw [← hmd] at hml hget ⊢
 clear hmd e2
 obtain ⟨b,off,rfl,hlb,hE⟩:=hA (by omega)
 have HM:=ah (And.intro hm hget)
 have HE:=ah (And.intro hE (And.intro hlb hr))
 have hszc:=eR hc
 have m0:(0:Int)≤(m:Int):=by omega
 have m1:(m:Int)<(l.length:Int):=by omega
 clear hA hcl hcm hm hget hE hlb hr h
 refine (callsIn_wide (n:=5)).1 ?_
 refine callsIn_of_wp_marks Tryz.func75 rfl trivial ?_ rfl
 simp only [Tryz.ntmps75,List.size_toArray,List.length_cons,List.length_nil,Nat.reduceAdd,Nat.reduceSub,Array.replicate_succ,Array.replicate_zero,List.push_toArray,List.append_toArray,List.nil_append,List.cons_append]
 refine wpIn_wide.2 ?_
 go_wp2_with (first | go_step3 | ((with_reducible refine ag 2 ?_);(refine ay (o:=⟨some 2,_,_,_,_,_⟩) rfl 129 (.tmp 0) rfl #[.map (some mb),.slice (some ⟨b,off,none⟩) l.length cap] rfl ?_);intro w1 hn;have H1:=ah hn;clear hn;simp only [Act.put,List.setIfInBounds_toArray,List.set_cons_zero,List.set_cons_succ]) | ((with_reducible refine ag 3 ?_);(refine ay (o:=⟨some 3,_,_,_,_,_⟩) rfl 34 (.tmp 1) rfl (bv c).toArray rfl ?_);intro w2 hn;have H2:=ah (And.intro (H1.out.blk.below hn.below H1.out.blk.lt) (And.intro hn.blk (And.intro (H1.out.below.trans (Below.mono hn.below H1.out.below.size)) (And.intro H1.out.size hn.size))));clear hn;simp only [Act.put,List.setIfInBounds_toArray,List.set_cons_zero,List.set_cons_succ]) | ((with_reducible refine ag 11 ?_);(refine aa (o:=⟨some 11,_,_,_,_,_⟩) rfl (.slice (some ⟨b,off,none⟩) l.length cap) w2 (exec_load_cell (o:=⟨some 11,_,_,_,_,_⟩) 22 (.tmp 10) rfl ⟨w.heap.size,1,none⟩ rfl _ _ w2 Tryz.underlying22 rfl (show w2.cell? ⟨w.heap.size,1,none⟩=some (.slice (some ⟨b,off,none⟩) l.length cap) from H2.out.1.cell 1)) ?_)) | (at_make;refine wpList_make_full _ rfl _ _ 133 rfl w2.heap.size 4 ibo _ 1 Tryz.underlying133 HK.out.1 HK.out.2.1 HK.out.2.2.1 _ _ _ _ l.length rfl rfl ?hC ?hC2 ?hB ?hM ?hZ ?_))
 case hC=>rfl
 case hC2=>rfl
 case hB=>have:=HK.out.2.2.2;rw [this];omega
 case hM=>simp only [maxLen];omega
 case hZ=>exact Nat.le_refl _
 intro w3 own3 gr3
 have hb3:Below w2.heap.size w2 w3:=(Below.refl _ w2).grown gr3 (Nat.le_refl _) (fun k hk=>by cases hk)
 rw [uy] at own3
 have hk3:=xC own3
 have H3:=ah (And.intro (H2.out.1.below hb3 H2.out.1.lt) (And.intro (H2.out.2.1.below hb3 H2.out.2.1.lt) (And.intro (H2.out.2.2.1.trans (Below.mono hb3 H2.out.2.2.1.size)) (And.intro hk3 (And.intro hk3.lt H2.out.2.2.2)))))
 clear own3 gr3 hb3 hk3
 go_wp2_with (first | go_step3 | ((with_reducible refine ag 5 ?_);(refine aC (o:=⟨some 5,_,_,_,_,_⟩) rfl 133 #[.slice none 0 0] (by kernel_rfl) ?_);intro w4 hn;have H4:=ah (And.intro (H3.out.1.below hn.below H3.out.1.lt) (And.intro (H3.out.2.1.below hn.below H3.out.2.1.lt) (And.intro (H3.out.2.2.1.trans (Below.mono hn.below H3.out.2.2.1.size)) (And.intro (H3.out.2.2.2.1.below hn.below H3.out.2.2.2.1.lt) (And.intro hn.blk hn.size)))));clear hn;simp only [Act.put,List.setIfInBounds_toArray,List.set_cons_zero,List.set_cons_succ]) | ((with_reducible refine bI 5 13 ?_);(refine bW (o:=⟨none,_,_,_,_,_⟩) rfl 133 (.tmp 5) (.tmp 13) rfl w3.heap.size (0) 133 #[.slice none 0 0] H4.out.2.2.2.2.1 (by decide) (by kernel_rfl) (.slice (some ⟨w2.heap.size,0,none⟩) l.length l.length) rfl rfl rfl ?_);intro w5 hk hg hz;have h4z:w3.heap.size<w4.heap.size:=(by have:=H4.out.2.2.2.2.2;omega);have hst:NSt w mb b off cap l c w1.heap.size w2.heap.size w3.heap.size (List.replicate l.length false) w5:=⟨(hg.block _ H4.out.1.lt (fun e=>(by have:=Option.some.inj e;have:=H2.out.2.2.2.1;have:=H2.out.2.2.2.2;have:=H3.out.2.2.2.2.1;omega))).trans H4.out.1,(hg.block _ H4.out.2.1.lt (fun e=>(by have:=Option.some.inj e;have:=H2.out.2.2.2.1;have:=H2.out.2.2.2.2;have:=H3.out.2.2.2.2.1;omega))).trans H4.out.2.1,(hg.block _ H4.out.2.2.2.1.lt (fun e=>(by have:=Option.some.inj e;have:=H2.out.2.2.2.1;have:=H2.out.2.2.2.2;have:=H3.out.2.2.2.2.1;omega))).trans H4.out.2.2.2.1,hk,(HM.out.1.below (H4.out.2.2.1.grown hg H4.out.2.2.1.size (fun k e=>(by have:=Option.some.inj e;have:=H2.out.2.2.2.1;have:=H2.out.2.2.2.2;have:=H3.out.2.2.2.2.1;omega))) HM.out.1.lt),(H4.out.2.2.1.grown hg H4.out.2.2.1.size (fun k e=>(by have:=Option.some.inj e;have:=H2.out.2.2.2.1;have:=H2.out.2.2.2.2;have:=H3.out.2.2.2.2.1;omega))),List.length_replicate,HM.out.1.lt,HE.out.2.1,(by have:=H2.out.2.2.2.1;omega),(by have:=H2.out.2.2.2.2;omega),H3.out.2.2.2.2.1⟩;have H5:=ah hst;clear hk hg hz hst h4z;simp only [Act.put]))
 refine Fre.cq (X:=Bel) 6 [] (by kernel_rfl) (by kernel_rfl) (by simp) (by simp) (by simp) ?_
 simp only [List.take_succ_cons,List.take_zero,List.drop_succ_cons,List.drop_zero]
 refine Fre.ae (.slice (some ⟨w2.heap.size,0,none⟩) l.length l.length) (by kernel_rfl) (by kernel_rfl) (by kernel_rfl) (fun W9 hW9=>exec_load_cell (o:=⟨some 14,_,_,_,_,_⟩) 133 (.tmp 5) rfl ⟨w3.heap.size,0,none⟩ rfl _ _ W9 Tryz.underlying133 rfl (((H5.out.grow hW9).box).cell 0)) ?_
 simp only [Act.put,List.setIfInBounds_toArray,List.set_cons_zero,List.set_cons_succ]
 refine Fre.ae (.pointer (some ⟨w.heap.size,0,none⟩)) (by kernel_rfl) (by kernel_rfl) (by kernel_rfl) (fun _ _=>by kernel_rfl) ?_
 simp only [Act.put,List.setIfInBounds_toArray,List.set_cons_zero,List.set_cons_succ]
 refine Fre.ae (.map (some mb)) (by kernel_rfl) (by kernel_rfl) (by kernel_rfl) (fun W9 hW9=>exec_load_cell (o:=⟨some 16,_,_,_,_,_⟩) 127 (.tmp 15) rfl ⟨w.heap.size,0,none⟩ rfl _ _ W9 Tryz.underlying127 rfl (((H5.out.grow hW9).tbl).cell 0)) ?_
 simp only [Act.put,List.setIfInBounds_toArray,List.set_cons_zero,List.set_cons_succ]
 refine Fre.ae (.agg (bv c).toArray) (by kernel_rfl) (by kernel_rfl) (by kernel_rfl) (fun W9 hW9=>au (o:=⟨some 17,_,_,_,_,_⟩) 34 (.tmp 3) rfl w1.heap.size rfl 34 _ _ W9 ((H5.out.grow hW9).cls) Tryz.underlying34 rfl hszc) ?_
 simp only [Act.put,List.setIfInBounds_toArray,List.set_cons_zero,List.set_cons_succ]
 refine Fre.ae (.int .i64 (m:Int)) (by kernel_rfl) (by kernel_rfl) (by kernel_rfl) (fun W9 hW9=>mC ((H5.out.grow hW9).iw) hc HM.out.2 (.tmp 16) (.tmp 17) rfl rfl rfl) ?_
 simp only [Act.put,List.setIfInBounds_toArray,List.set_cons_zero,List.set_cons_succ]
 refine Fre.ae (.pointer (some ⟨w2.heap.size,m,none⟩)) (by kernel_rfl) (by kernel_rfl) (by kernel_rfl) (fun W9 hW9=>eY 133 4 (.tmp 14) (.tmp 18) rfl w2.heap.size l.length l.length m rfl rfl hml Tryz.underlying133 (by kernel_rfl) W9) ?_
 simp only [Act.put,List.setIfInBounds_toArray,List.set_cons_zero,List.set_cons_succ]
 intro w6 hx6
 have H6:=ah (H5.out.grow hx6)
 clear hx6
 dsimp only [Fre.ended,List.drop]
 go_wp2_with (first | go_step3 | ((with_reducible refine pD 19 ?_);(refine bW (o:=⟨none,_,_,_,_,_⟩) rfl 4 (.tmp 19) (.const (.bool true)) rfl w2.heap.size (m) 4 ((List.replicate l.length false).map Value.bool).toArray H6.out.nQ (by simp;exact hml) (by kernel_rfl) (.bool true) rfl rfl rfl ?_);intro w7 hk hg hz;have H7:=ah (H6.out.set m hk hg);clear hk hg hz;simp only [Act.put]))
 refine Fre.cq (X:=Bel) 5 [] (by kernel_rfl) (by kernel_rfl) (by simp) (by simp) (by simp) ?_
 simp only [List.take_succ_cons,List.take_zero,List.drop_succ_cons,List.drop_zero]
 refine Fre.ae (.agg #[.map (some mb),.slice (some ⟨b,off,none⟩) l.length cap]) (by kernel_rfl) (by kernel_rfl) (by kernel_rfl) (fun W9 hW9=>au (o:=⟨some 20,_,_,_,_,_⟩) 129 (.tmp 2) rfl w.heap.size rfl 129 _ _ W9 ((H7.out.grow hW9).tbl) Tryz.underlying129 rfl (by kernel_rfl)) ?_
 simp only [Act.put,List.setIfInBounds_toArray,List.set_cons_zero,List.set_cons_succ]
 refine Fre.ae (.pointer (some ⟨w.heap.size,0,none⟩)) (by kernel_rfl) (by kernel_rfl) (by kernel_rfl) (fun _ _=>by kernel_rfl) ?_
 simp only [Act.put,List.setIfInBounds_toArray,List.set_cons_zero,List.set_cons_succ]
 refine Fre.ae (.map (some mb)) (by kernel_rfl) (by kernel_rfl) (by kernel_rfl) (fun W9 hW9=>exec_load_cell (o:=⟨some 22,_,_,_,_,_⟩) 127 (.tmp 21) rfl ⟨w.heap.size,0,none⟩ rfl _ _ W9 Tryz.underlying127 rfl (((H7.out.grow hW9).tbl).cell 0)) ?_
 simp only [Act.put,List.setIfInBounds_toArray,List.set_cons_zero,List.set_cons_succ]
 refine Fre.ae (.agg (bv c).toArray) (by kernel_rfl) (by kernel_rfl) (by kernel_rfl) (fun W9 hW9=>au (o:=⟨some 23,_,_,_,_,_⟩) 34 (.tmp 3) rfl w1.heap.size rfl 34 _ _ W9 ((H7.out.grow hW9).cls) Tryz.underlying34 rfl hszc) ?_
 simp only [Act.put,List.setIfInBounds_toArray,List.set_cons_zero,List.set_cons_succ]
 refine Fre.ae (.int .i64 (m:Int)) (by kernel_rfl) (by kernel_rfl) (by kernel_rfl) (fun W9 hW9=>mC ((H7.out.grow hW9).iw) hc HM.out.2 (.tmp 22) (.tmp 23) rfl rfl rfl) ?_
 simp only [Act.put,List.setIfInBounds_toArray,List.set_cons_zero,List.set_cons_succ]
 intro w8 hx8
 have H8:=ah (H7.out.grow hx8)
 clear hx8
 dsimp only [Fre.ended,List.drop]
 go_wp2_with fail
 refine (ye w8 _ _ _ rfl rfl).mono ?_
 rintro e w9 ⟨rfl,hbt,hbf,hb9⟩
 dsimp only
 have H9:=ah (And.intro (H8.out.grow hb9) (And.intro hbt (And.intro hbf hb9)))
 clear hbt hbf hb9
 go_wp2_with fail
 obtain ⟨cf,hcf⟩:=vp HE.out.1
 have hlen9:∀ j,j<l.length→(cf j).length=23:=fun j hj=>iY.len (hcf j _ (List.getElem?_eq_getElem hj)).2
 have hcs9:∀ j,j<l.length→w9.rangeAt b (off+j*23) (cf j):=fun j hj=>a8 (hcf j _ (List.getElem?_eq_getElem hj)).1 (H9.out.1.below.block b HE.out.2.1)
 have HCF:=ah hcf
 have hmlen:l.length≤maxLen:=by simp only [maxLen];omega
 have hz9:w8.heap.size+1<w9.heap.size:=H9.out.2.2.1.lt
 have hzb:b<w9.heap.size:=by have:=H9.out.1.below.size;have:=HE.out.2.1;omega
 have hz8:w3.heap.size<w8.heap.size:=H8.out.box.lt
 have hlo:=H9.out.1.lo
 refine (wpIn_wide (n:=5)).1 ?_
 refine wpIn_rangeFunc_ownH (F:=Fence.wide) (n:=5) (α:=Nat) rfl (by omega) (gf:=163) (lb:=#[.pointer (some ⟨w8.heap.size+1,0,none⟩),.pointer (some ⟨w8.heap.size,0,none⟩)]) rfl trivial (enters_of Tryz.func163 (by kernel_rfl) rfl)
  (uz (S:=fun k=>k=w2.heap.size) 4 (by omega) (w8.heap.size+1) w8.heap.size m l.length cap b off cf hml hmlen hlen9 w9 hzb hz9 (by omega) (by omega) (by omega) (by omega) (H9.out.2.2.1.cell 0) (H9.out.2.1.cell 1) hcs9) cO.trans (cO.putObj (Nat.le_refl _)) (Below.refl _ _) (fun _=>rfl)
  (fun pre W=>NSt w mb b off cap l c w1.heap.size w2.heap.size w3.heap.size (pre.foldl (fx (l.map itP) m) ((List.replicate l.length false).set m true)) W) (fun _ _ _=>False) (fun pre X Y row hs hg hr=>hs.own H9.out.1.below.size hg hr) (fun c pre X Y row hs hg hr=>hs) H9.out.1
  (fun x a' W=>∃ Bx,Blk W Bx 59 (cf (m-x)).toArray∧a'={ tmps:=#[.agg #[.map (some mb),.slice (some ⟨b,off,none⟩) l.length cap],.agg (bv c).toArray,.pointer (some ⟨w.heap.size,0,none⟩),.pointer (some ⟨w1.heap.size,0,none⟩),.slice none 0 0,.pointer (some ⟨w3.heap.size,0,none⟩),.int .i64 ((m-x:Nat):Int),.pointer (some ⟨Bx,0,none⟩),undef,undef,.pointer (some ⟨w.heap.size,1,none⟩),.slice (some ⟨b,off,none⟩) l.length cap,.int .i64 (l.length:Int),.slice (some ⟨w2.heap.size,0,none⟩) l.length l.length,.slice (some ⟨w2.heap.size,0,none⟩) l.length l.length,.pointer (some ⟨w.heap.size,0,none⟩),.map (some mb),.agg (bv c).toArray,.int .i64 (m:Int),.pointer (some ⟨w2.heap.size,m,none⟩),.agg #[.map (some mb),.slice (some ⟨b,off,none⟩) l.length cap],.pointer (some ⟨w.heap.size,0,none⟩),.map (some mb),.agg (bv c).toArray,.int .i64 (m:Int),.func (.func 163) #[] #[.pointer (some ⟨w8.heap.size+1,0,none⟩),.pointer (some ⟨w8.heap.size,0,none⟩)],.int .i64 ((m-x:Nat):Int),.agg (cf (m-x)).toArray,undef,undef,undef,undef,undef,undef,undef,undef,undef,undef,undef,undef,undef,undef,undef,undef,undef,undef,undef,undef,undef],defers:=[] })
  (fun x a' _ X Y row hs hg hr=>by obtain ⟨Bx,h2,h3⟩:=hs;exact ⟨Bx,ju h2 hg (fun r e=>(hr r e).2),h3⟩) ?assign ?body ?done ?stop
 case assign =>
  intro l0 pre x W K hi hK
  obtain ⟨n,hn⟩:∃ n,n=m-x:=⟨_,rfl⟩
  rw [← hn] at hK ⊢
  have hn2:n<l.length:=by omega
  have hsz9:=hlen9 n hn2
  have hszt2:(Tryz.prog.info? 59).map (·.size)=some (cf n).toArray.size:=by rw [List.size_toArray,hsz9];kernel_rfl
  have hszzt:zcT.size=(cf n).toArray.size:=by rw [show (cf n).toArray.size=23 by rw [List.size_toArray];exact hsz9];kernel_rfl
  have hone9:(cf n).toArray.all (·.oneCell')=true:=all_oneCell_toArray (iY.one (HCF.out n _ (List.getElem?_eq_getElem hn2)).2)
  have HIW:=ah hi
  have HHK:=ah hK
  have HN:=ah hn
  clear hi hK hsz9 hn hcs9
  dsimp only
  gi_wp2_with (refine jz (fun h9=>(by obtain ⟨_,_,h9⟩:=h9;exact h9)) _ (by rfl) _ _ ?_;go_wp2_with (first | ((with_reducible refine ag 7 ?_);(refine aC (o:=⟨some 7,_,_,_,_,_⟩) rfl 59 zcT (by kernel_rfl) ?_);intro wa hn;have HA1:=ah hn;clear hn;simp only [Act.put,List.setIfInBounds_toArray,List.set_cons_zero,List.set_cons_succ]) | ((with_reducible refine bI 7 27 ?_);(with_reducible refine al (o:=⟨none,_,_,_,_,_⟩) rfl 59 (.tmp 7) (.tmp 27) rfl W.heap.size zcT (cf n).toArray 59 HA1.out.blk ?_ ?_ ?_ ?_ ?_ ?_);exact hszt2;exact hszzt;exact hone9;rfl;rfl;intro w7 hk7 hg7;have HB1:=ah (And.intro hk7 (HA1.out.below.grown hg7 (by have:=HA1.out.size;omega) (fun b hb=>(by have:=Option.some.inj hb;omega))));clear hk7 hg7;simp only [Act.put])))
  exact HHK.out _ _ (KeepsFrom.vw HB1.out.2) (cO.below HB1.out.2) (HIW.out.grow HB1.out.2) ⟨W.heap.size,HB1.out.1,rfl⟩
 case body =>
  rintro l0 pre x a' W hl0 _ hst ⟨Bx,hbx,rfl⟩ hlen2
  obtain ⟨n,hn⟩:∃ n,n=m-x:=⟨_,rfl⟩
  have hn2:n<l.length:=by omega
  have hnx:(pre++[x]).foldl (fx (l.map itP) m) ((List.replicate l.length false).set m true)=fx (l.map itP) m (pre.foldl (fx (l.map itP) m) ((List.replicate l.length false).set m true)) x:=by rw [List.foldl_append];rfl
  obtain ⟨mk,hmk⟩:∃ mk,mk=(pre.foldl (fx (l.map itP) m) ((List.replicate l.length false).set m true)):=⟨_,rfl⟩
  rw [← hmk] at hst hnx
  rw [← hn] at hbx ⊢
  have hmlen2:n<mk.length:=by rw [hst.len];exact hn2
  obtain ⟨y,hy⟩:∃ y,l[n]?=some y:=⟨_,List.getElem?_eq_getElem hn2⟩
  have hcfn:=(HCF.out n y hy).2
  obtain ⟨q1,q2,hcfe,hyo,hyd⟩:=bT.1 hcfn
  rw [hcfe] at hbx ⊢
  have hybnd:=hl y (List.mem_of_getElem? hy)
  have HX:=ah (And.intro hbx (And.intro hyo (And.intro hyd (And.intro hy (And.intro hn hnx)))))
  have HST:=ah hst
  clear hbx hyo hyd hy hn hnx hst hcfn hcfe hmk hcs9
  dsimp only
  cases hmn:mk[n]?.getD false
  ·have hmn2:mk[n]?=some false:=by rw [List.getElem?_eq_getElem hmlen2] at hmn ⊢;exact congrArg some hmn
   have HMN:=ah (ni HST.out.nQ hmn2)
   have hms:fx (l.map itP) m mk x=mk:=by unfold fx;rw [← HX.out.2.2.2.2.1,hmn];rfl
   have HMS:=ah hms
   clear hmn hmn2 hms
   gi_wp2_with (refine jz (fun h9=>(by obtain ⟨_,_,h9⟩:=h9;exact h9)) _ (by rfl) _ _ ?_;go_wp2_with (first | ((with_reducible refine ag 28 ?_);(refine aa (o:=⟨some 28,_,_,_,_,_⟩) rfl (.slice (some ⟨w2.heap.size,0,none⟩) l.length l.length) W (exec_load_cell (o:=⟨some 28,_,_,_,_,_⟩) 133 (.tmp 5) rfl ⟨w3.heap.size,0,none⟩ rfl _ _ W Tryz.underlying133 rfl (show W.cell? ⟨w3.heap.size,0,none⟩=some (.slice (some ⟨w2.heap.size,0,none⟩) l.length l.length) from HST.out.box.cell 0)) ?_)) | ((with_reducible refine ag 30 ?_);(refine aa (o:=⟨some 30,_,_,_,_,_⟩) rfl (.pointer (some ⟨w2.heap.size,n,none⟩)) W (eY 133 4 (.tmp 28) (.tmp 29) rfl w2.heap.size l.length l.length n rfl rfl hn2 Tryz.underlying133 (by kernel_rfl) W) ?_)) | ((with_reducible refine ag 31 ?_);(refine aa (o:=⟨some 31,_,_,_,_,_⟩) rfl (.bool false) W (exec_load_cell (o:=⟨some 31,_,_,_,_,_⟩) 4 (.tmp 30) rfl ⟨w2.heap.size,n,none⟩ rfl _ _ W Tryz.underlying4 rfl (show W.cell? ⟨w2.heap.size,n,none⟩=some (.bool false) from HMN.out)) ?_))))
   refine ⟨KeepsFrom.refl _ _,cO.refl _,?_⟩
   show NSt w mb b off cap l c w1.heap.size w2.heap.size w3.heap.size _ W
   rw [HX.out.2.2.2.2.2,HMS.out]
   exact HST.out
  ·have hmn2:mk[n]?=some true:=by rw [List.getElem?_eq_getElem hmlen2] at hmn ⊢;exact congrArg some hmn
   have HMN:=ah (ni HST.out.nQ hmn2)
   have hms:fx (l.map itP) m mk x=Dr.kg (Dr.css (l.map itP)) (az y.2.2.1) mk:=by unfold fx;rw [← HX.out.2.2.2.2.1,hmn,yR HX.out.2.2.2.1];rfl
   have HMS:=ah hms
   clear hmn hmn2 hms
   have hyat:aO W W.heap.size y.2 q1 q2:=HX.out.2.2.1.gF HST.out.below
   have hyd9:=hyat.okn
   gi_wp2_with (first | (refine jz (fun h9=>(by obtain ⟨_,_,h9⟩:=h9;exact h9)) _ (by rfl) _ _ ?_;go_wp2_with (first | ((with_reducible refine ag 28 ?_);(refine aa (o:=⟨some 28,_,_,_,_,_⟩) rfl (.slice (some ⟨w2.heap.size,0,none⟩) l.length l.length) W (exec_load_cell (o:=⟨some 28,_,_,_,_,_⟩) 133 (.tmp 5) rfl ⟨w3.heap.size,0,none⟩ rfl _ _ W Tryz.underlying133 rfl (show W.cell? ⟨w3.heap.size,0,none⟩=some (.slice (some ⟨w2.heap.size,0,none⟩) l.length l.length) from HST.out.box.cell 0)) ?_)) | ((with_reducible refine ag 30 ?_);(refine aa (o:=⟨some 30,_,_,_,_,_⟩) rfl (.pointer (some ⟨w2.heap.size,n,none⟩)) W (eY 133 4 (.tmp 28) (.tmp 29) rfl w2.heap.size l.length l.length n rfl rfl hn2 Tryz.underlying133 (by kernel_rfl) W) ?_)) | ((with_reducible refine ag 31 ?_);(refine aa (o:=⟨some 31,_,_,_,_,_⟩) rfl (.bool true) W (exec_load_cell (o:=⟨some 31,_,_,_,_,_⟩) 4 (.tmp 30) rfl ⟨w2.heap.size,n,none⟩ rfl _ _ W Tryz.underlying4 rfl (show W.cell? ⟨w2.heap.size,n,none⟩=some (.bool true) from HMN.out)) ?_)) | ((with_reducible refine ag 34 ?_);(refine aa (o:=⟨some 34,_,_,_,_,_⟩) rfl (.agg (dC y.2 q1 q2).toArray) W (ai (o:=⟨some 34,_,_,_,_,_⟩) 26 (.tmp 33) rfl Bx (20) rfl (dC y.2 q1 q2) _ W (fN HX.out.2.1 HX.out.1) Tryz.underlying26 rfl (by kernel_rfl)) ?_)) | ((go_at_call 46;refine (ey W y.2 q1 q2 hyat hybnd).mono ?_);rintro e wc ⟨uc,rfl,hoc,hbc⟩;have HC:=ah (And.intro hoc hbc);clear hoc hbc;obtain ⟨Ac,cc,rfl⟩:=hJ HC.out.1;dsimp only))))
   obtain ⟨N,hN⟩:∃ N,N=(az y.2.2.1).length:=⟨_,rfl⟩
   rw [← hN] at HC ⊢
   have hcok:=lN hyd9
   have hN9:(N:Int)≤1000000:=by have:=ef y.2.2.1 y.2.2.1.length;rw [List.take_length] at this;omega
   have hins:=wJ HE.out.2.2 HX.out.2.2.2.1
   have HCO:=ah (And.intro hcok (And.intro hN hins))
   clear hcok hN hins hyd9
   gi_loopw [37] (fun x37 wr=>∃ k:Nat,k≤N∧x37=.int .i64 (k:Int)∧NSt w mb b off cap l c w1.heap.size w2.heap.size w3.heap.size (Dr.kg (Dr.css (l.map itP)) ((az y.2.2.1).take k) mk) wr∧fD w2.heap.size W wr∧wr.ownsRow W.heap.size 34 20 (.slice Ac N cc) N ((az y.2.2.1).flatMap bv)) (fun x37 _=>N-(intOf x37).toNat)
   case atStart=>exact ⟨0,by omega,rfl,HST.out.grow HC.out.2,fD.sE HC.out.2,HC.out.1⟩
   case round =>
    obtain ⟨wi,rfl⟩:∃ wi,wi=wr:=⟨_,rfl⟩
    obtain ⟨k,hk,rfl,hst,hot,hown⟩:=hrel
    have HI:=ah (And.intro hst (And.intro hot hown))
    clear hst hot hown
    have k0:(0:Int)≤(k:Int):=by omega
    by_cases hk2:k<N
    ·have k1:(k:Int)<(N:Int):=by omega
     obtain ⟨z,hz⟩:∃ z,(az y.2.2.1)[k]?=some z:=⟨_,List.getElem?_eq_getElem (by rw [← HCO.out.2.1];exact hk2)⟩
     have hzo:=HCO.out.1 z (List.mem_of_getElem? hz)
     obtain ⟨g5,cap5,he5⟩:=du HI.out.2.2 (by omega)
     injection he5 with e51 _ e53
     subst e51 e53
     have hrz:wi.rangeAt g5 (k*20) (bv z):=gM HI.out.2.2 (k*20) 20 _ (lQ HCO.out.1 hz)
     have HRZ:=ah hrz
     have hszx2:=eR hzo
     have hszx:(Tryz.prog.info? 34).map (·.size)=some (bv z).length:=by simpa using hszx2
     have hszz:zcH.size=(bv z).toArray.size:=by rw [show (bv z).toArray.size=20 by rw [List.size_toArray,bvL];exact hzo];kernel_rfl
     have hone:(bv z).toArray.all (·.oneCell')=true:=all_oneCell_toArray (bv1 z)
     have hzk:=HCO.out.2.2 z (List.mem_of_getElem? hz)
     have hpz:=qp hzk
     have hgz:=mW HE.out.2.2 hzk
     obtain ⟨p,hp⟩:∃ p,p=fO (l.map itP) z:=⟨_,rfl⟩
     rw [List.length_map] at hpz
     rw [← hp] at hpz hgz
     have HZ:=ah (And.intro hz (And.intro hzo (And.intro hp hgz)))
     clear hz hzo hp hgz hzk hrz
     gi_wp2_with (first | (refine jz (fun h9=>(by obtain ⟨_,_,h9⟩:=h9;exact h9)) _ (by rfl) _ _ ?_;go_wp2_with (first | ((with_reducible refine ag 39 ?_);(refine aa (o:=⟨some 39,_,_,_,_,_⟩) rfl (.pointer (some ⟨g5,k*20,none⟩)) wi (gV 27 34 (.tmp 35) (.tmp 37) rfl g5 N cc k rfl rfl hk2 20 Tryz.underlying27 ej wi) ?_)) | ((with_reducible refine ag 40 ?_);(refine aa (o:=⟨some 40,_,_,_,_,_⟩) rfl (.agg (bv z).toArray) wi (ai (o:=⟨some 40,_,_,_,_,_⟩) 34 (.tmp 39) rfl g5 (k*20) rfl (bv z) _ wi HRZ.out Tryz.underlying34 rfl hszx) ?_)) | ((with_reducible refine ag 9 ?_);((with_reducible refine bn (o1:=⟨some 9,_,_,_,_,_⟩) (o2:=⟨none,_,_,_,_,_⟩) rfl rfl 34 (.tmp 9) (.tmp 40) ?_ zcH (bv z).toArray ?_ hszx2 ?_ hone ?_ ?_ ?_);rfl;kernel_rfl;exact hszz;rfl;rfl;intro wb hmm hbb;have HB:=ah (And.intro hmm hbb);clear hmm hbb;simp only [Act.put,List.setIfInBounds_toArray,List.set_cons_zero,List.set_cons_succ])))))
     have HJ:=ah (HI.out.1.grow HB.out.2)
     refine xU (by kernel_rfl) (fun h9=>(by obtain ⟨_,_,h9⟩:=h9;exact h9)) (by rfl) ?_
     refine Fre.l5 (X:=Bel) 6 [] (by kernel_rfl) (by kernel_rfl) (by simp) (by simp) (by simp) ?_
     simp only [List.take_succ_cons,List.take_zero,List.drop_succ_cons,List.drop_zero]
     refine Fre.ae (.slice (some ⟨w2.heap.size,0,none⟩) l.length l.length) (by kernel_rfl) (by kernel_rfl) (by kernel_rfl) (fun W9 hW9=>exec_load_cell (o:=⟨some 41,_,_,_,_,_⟩) 133 (.tmp 5) rfl ⟨w3.heap.size,0,none⟩ rfl _ _ W9 Tryz.underlying133 rfl (((HJ.out.grow hW9).box).cell 0)) ?_
     simp only [Act.put,List.setIfInBounds_toArray,List.set_cons_zero,List.set_cons_succ]
     refine Fre.ae (.pointer (some ⟨w.heap.size,0,none⟩)) (by kernel_rfl) (by kernel_rfl) (by kernel_rfl) (fun _ _=>by kernel_rfl) ?_
     simp only [Act.put,List.setIfInBounds_toArray,List.set_cons_zero,List.set_cons_succ]
     refine Fre.ae (.map (some mb)) (by kernel_rfl) (by kernel_rfl) (by kernel_rfl) (fun W9 hW9=>exec_load_cell (o:=⟨some 43,_,_,_,_,_⟩) 127 (.tmp 42) rfl ⟨w.heap.size,0,none⟩ rfl _ _ W9 Tryz.underlying127 rfl (((HJ.out.grow hW9).tbl).cell 0)) ?_
     simp only [Act.put,List.setIfInBounds_toArray,List.set_cons_zero,List.set_cons_succ]
     refine Fre.ae (.agg (bv z).toArray) (by kernel_rfl) (by kernel_rfl) (by kernel_rfl) (fun W9 hW9=>au (o:=⟨some 44,_,_,_,_,_⟩) 34 (.tmp 9) rfl wi.heap.size rfl 34 _ _ W9 (HB.out.1.below hW9 HB.out.1.lt) Tryz.underlying34 rfl hszx2) ?_
     simp only [Act.put,List.setIfInBounds_toArray,List.set_cons_zero,List.set_cons_succ]
     refine Fre.ae (.int .i64 (p:Int)) (by kernel_rfl) (by kernel_rfl) (by kernel_rfl) (fun W9 hW9=>mC ((HJ.out.grow hW9).iw) HZ.out.2.1 HZ.out.2.2.2 (.tmp 43) (.tmp 44) rfl rfl rfl) ?_
     simp only [Act.put,List.setIfInBounds_toArray,List.set_cons_zero,List.set_cons_succ]
     refine Fre.ae (.pointer (some ⟨w2.heap.size,p,none⟩)) (by kernel_rfl) (by kernel_rfl) (by kernel_rfl) (fun W9 hW9=>eY 133 4 (.tmp 41) (.tmp 45) rfl w2.heap.size l.length l.length p rfl rfl hpz Tryz.underlying133 (by kernel_rfl) W9) ?_
     simp only [Act.put,List.setIfInBounds_toArray,List.set_cons_zero,List.set_cons_succ]
     intro wd hxd
     have HD:=ah (And.intro (HJ.out.grow hxd) (HB.out.2.trans (Below.mono hxd HB.out.2.size)))
     clear hxd
     dsimp only [Fre.ended,List.drop]
     go_wp2_with ((with_reducible refine pD 46 ?_);(refine bW (o:=⟨none,_,_,_,_,_⟩) rfl 4 (.tmp 46) (.const (.bool true)) rfl w2.heap.size (p) 4 ((Dr.kg (Dr.css (l.map itP)) ((az y.2.2.1).take k) mk).map Value.bool).toArray HD.out.1.nQ (by have:=HD.out.1.len;simp;omega) (by kernel_rfl) (.bool true) rfl rfl rfl ?_);intro we hk hg hz;have HE9:=ah (And.intro (HD.out.1.set p hk hg) (fD.zp hg));clear hk hg hz;simp only [Act.put])
     have hsn:(Dr.kg (Dr.css (l.map itP)) ((az y.2.2.1).take k) mk).set p true=Dr.kg (Dr.css (l.map itP)) ((az y.2.2.1).take (k+1)) mk:=by rw [List.take_add_one,HZ.out.1,HZ.out.2.2.1];exact (xe _ _ _ _).symm
     have HSN:=ah hsn
     clear hsn
     gi_wp2_with fail
     go_roundw
     case rel=>exact ⟨k+1,by omega,by go_num,by rw [← HSN.out];exact HE9.out.1,(HI.out.2.1.trans (fD.sE HD.out.2)).trans HE9.out.2,ao (ao HI.out.2.2 fun g _ hl=>HD.out.2.block g hl) fun g hg hl=>HE9.out.2.same g hl (fun e=>by have:=(aD HI.out.2.2 hg).1;have:=HST.out.nQ.lt;omega)⟩
     case measure=>simp [intOf];omega
    ·obtain rfl:k=N:=by omega
     gi_wp2_with fail
     refine ⟨HI.out.2.1.from HST.out.nQ,HI.out.2.1.Bh,?_⟩
     show NSt w mb b off cap l c w1.heap.size w2.heap.size w3.heap.size _ wi
     rw [HX.out.2.2.2.2.2,HMS.out]
     have h9:=HI.out.1
     rw [HCO.out.2.1,List.take_length] at h9
     exact h9
 case done =>
  rintro D ys W hD rfl hst hK
  have hst2:=hst
  rw [show (List.range (m+1)).foldl (fx (l.map itP) m) ((List.replicate l.length false).set m true)=Dr.b5 (l.map itP) m by rw [show l.length=(l.map itP).length by rw [List.length_map]];exact rP _ _] at hst2
  have HW:=ah hst2
  clear hst hst2
  go_wp2_with (first | go_step3 | ((with_reducible refine ag 48 ?_);(refine aa (o:=⟨some 48,_,_,_,_,_⟩) rfl (.slice (some ⟨w2.heap.size,0,none⟩) l.length l.length) W (exec_load_cell (o:=⟨some 48,_,_,_,_,_⟩) 133 (.tmp 5) rfl ⟨w3.heap.size,0,none⟩ rfl _ _ W Tryz.underlying133 rfl (show W.cell? ⟨w3.heap.size,0,none⟩=some (.slice (some ⟨w2.heap.size,0,none⟩) l.length l.length) from HW.out.box.cell 0)) ?_)))
  refine yN rfl rfl hK ⟨w2.heap.size,rfl,(grownBy_putObj' W D (.deferred none)).block _ HW.out.nQ.lt (fun e=>by have:=Option.some.inj e;omega) |>.trans HW.out.nQ,by omega,HW.out.below.grown (grownBy_putObj' W D (.deferred none)) HW.out.below.size (fun k e=>by have:=Option.some.inj e;have:=H9.out.1.below.size;omega)⟩
 case stop =>
  rintro D c' pre W hD _ hf
  exact hf.elim
end Go.Proofs.YtomnhnmciopiiaaGreat
end
section
namespace Go.Proofs.YtomnhnmciopiiaaGreat
open Go Go.RowKit Go.Maps
set_option maxRecDepth 100000
theorem eT {w w':World} {v:Value} {l:List Itm} (h:bz.At w w.heap.size [v] l) (hb:Below w.heap.size w w'):bz.At w' w'.heap.size [v] l :=
 bz.dU (bz.alike h fun b hb9=>hb.block b hb9) hb.size
theorem oM {H:Type}:∀ (l:List H) (b:List Bool) (k:Nat) (x:H) (v:Bool),l[k]?=some x→b[k]?=some v→Dr.dj (l.take (k+1)) (b.take (k+1))=Dr.dj (l.take k) (b.take k)++(if v=true then [x] else [])
 | y :: l,u :: b,0,x,v,h1,h2=>by
  injection h1 with h1
  injection h2 with h2
  subst h1 h2
  cases u<;>rfl
 | y :: l,u :: b,k+1,x,v,h1,h2=>by
  have ih:=oM l b k x v (by simpa using h1) (by simpa using h2)
  show Dr.dj (y :: l.take (k+1)) (u :: b.take (k+1))=Dr.dj (y :: l.take k) (u :: b.take k)++_
  cases u
  ·exact ih
  ·exact congrArg (y :: ·) ih
 | [],_,k,x,v,h1,_=>by simp at h1
 | _ :: _,[],k,x,v,_,h2=>by simp at h2
def dB (l:List Itm) (c:Hsh):Int:=if Dr.bL (l.map itP)=true then (if (aX (dh l) c).isSome=true then 0 else 5) else 2
def cA (l:List Itm) (c:Hsh):List Hsh:=if Dr.bL (l.map itP)=true then (if (aX (dh l) c).isSome=true then Dr.bY (l.map itP) c else []) else []
theorem gX {l:List Itm} {c:Hsh} (h:(aX (dh l) c).isSome=true):c∈Dr.css (l.map itP):=by rw [← jE];exact mem_keys.2 h
theorem pk {l:List Itm} {c:Hsh} (h:(aX (dh l) c).isSome=false):c ∉ Dr.css (l.map itP):=fun hm=>by
 rw [← jE] at hm
 rw [mem_keys.1 hm] at h
 cases h
theorem wR {l:List (Dr.It Hsh)} {c:Hsh}:Dr.bY l c=Dr.dj (Dr.css l) (Dr.b5 l (fO l c)):=rfl
theorem Bz {l:List Itm} {k:Nat} {x:Itm} (h:l[k]?=some x):(Dr.css (l.map itP))[k]?=some x.1:=by
 unfold Dr.css
 rw [List.getElem?_map,List.getElem?_map,h]
 rfl
theorem zM (l:List Itm):(Dr.css (l.map itP)).length=l.length:=by simp [Dr.css]
theorem vq (w:World) (l:List Itm) (A:Option Addr) (cap:Nat) (h:bz.At w w.heap.size [.slice A l.length cap] l) (hl:∀ x∈l,x.2.2.1.length≤1000000) :
  Calls Tryz.prog 35 #[.slice A l.length cap] w fun e w'=>e=.returned (.bool (Dr.bL (l.map itP)))∧Below w.heap.size w w':=by
 go_enter Tryz.func35,Tryz.ntmps35
 go_wp2_with fail
 refine (lT w l A cap h hl).mono ?_
 rintro e w2 ⟨mb,rfl,_,hb⟩
 dsimp only
 have H2:=ah hb
 clear hb
 go_wp2_with (first | ((with_reducible refine ag 3 ?_);(refine aC (o:=⟨some 3,_,_,_,_,_⟩) rfl 129 #[.map none,.slice none 0 0] (by kernel_rfl) ?_);intro w3 hn;have H3:=ah hn;clear hn;simp only [Act.put,List.setIfInBounds_toArray,List.set_cons_zero,List.set_cons_succ]) | ((with_reducible refine bI 3 8 ?_);(with_reducible refine al (o:=⟨none,_,_,_,_,_⟩) rfl 129 (.tmp 3) (.tmp 8) rfl w2.heap.size #[.map none,.slice none 0 0] #[.map (some mb),.slice A l.length cap] 129 H3.out.blk ?_ ?_ ?_ ?_ ?_ ?_);kernel_rfl;rfl;kernel_rfl;rfl;rfl;intro w4 hk4 hg4;have H4:=ah (H2.out.trans (Below.mono (H3.out.below.grown hg4 (by have:=H3.out.size;omega) (fun b hb=>(by have:=Option.some.inj hb;omega))) H2.out.size));clear hk4 hg4;simp only [Act.put]))
 go_ret
 exact ⟨rfl,H4.out⟩
theorem pS {H:Type}:∀ (l:List H) (b:List Bool) (j:Nat),(Dr.dj (l.take j) (b.take j)).length≤j
 | _,_,0=>by simp [Dr.dj]
 | [],_,j+1=>by simp [Dr.dj]
 | x :: l,[],j+1=>by simp [Dr.dj]
 | x :: l,true :: b,j+1=>by
  have:=pS l b j
  show (x :: Dr.dj (l.take j) (b.take j)).length≤_
  rw [List.length_cons]
  omega
 | x :: l,false :: b,j+1=>by
  have:=pS l b j
  show (Dr.dj (l.take j) (b.take j)).length≤_
  omega
theorem cy {x:Itm} {v1 v2:Value} {w:World} {b o:Nat} (h:w.rangeAt b o (tC x v1 v2)):w.rangeAt b o (bv x.1):=cz (c2:=dC x.2 v1 v2) (by simpa [tC] using h)
set_option maxHeartbeats 8000000 in
theorem pb (w:World) (l:List Itm) (A:Option Addr) (cap:Nat) (h:bz.At w w.heap.size [.slice A l.length cap] l) (hl:∀ x∈l,x.2.2.1.length≤1000000) (hlen:l.length≤1000000) (c:Hsh) (hc:okH c) :
  Calls Tryz.prog 33 #[.slice A l.length cap,.agg (bv c).toArray] w fun e w'=>∃ u,e=.returned (.tuple #[u,.int .i64 (dB l c)])∧w'.ownsRow w.heap.size 34 20 u (cA l c).length ((cA l c).flatMap bv)∧Below w.heap.size w w':=by
 obtain ⟨ih,hih,hq0,hq1,hq2⟩:=info_parts dJ
 have HJ:=ah (And.intro hih (And.intro hq0 (And.intro hq1 hq2)))
 clear hih hq0 hq1 hq2
 obtain ⟨A',cap',e,hcl,hcm9,_,hA⟩:=ak h
 injection e with e1 e2 e3
 subst e1 e3
 have k9:(l.length:Int)≤9223372036854775807:=by omega
 have hszc:=eR hc
 have HA:=ah hA
 clear hA hcl hcm9 e2
 go_enter Tryz.func33,Tryz.ntmps33
 go_wp2_with (first | ((with_reducible refine ag 3 ?_);(refine ay (o:=⟨some 3,_,_,_,_,_⟩) rfl 34 (.tmp 1) rfl (bv c).toArray rfl ?_);intro w1 hn;have H1:=ah hn;clear hn;simp only [Act.put,List.setIfInBounds_toArray,List.set_cons_zero,List.set_cons_succ]))
 refine (lT w1 l A cap (eT h H1.out.below) hl).mono ?_
 rintro e w2 ⟨mb,rfl,hmap,hb⟩
 dsimp only
 have H2:=ah (And.intro (H1.out.blk.below hb H1.out.blk.lt) (And.intro (H1.out.below.trans (Below.mono hb H1.out.below.size)) hmap))
 clear hb hmap
 cases hR:Dr.bL (l.map itP)
 ·have HE:Hid (dB l c=2∧cA l c=[]):=ah (by unfold dB cA;rw [hR];exact ⟨rfl,rfl⟩)
  clear hR
  go_wp2_with (first | ((with_reducible refine ag 6 ?_);(refine aC (o:=⟨some 6,_,_,_,_,_⟩) rfl 129 #[.map none,.slice none 0 0] (by kernel_rfl) ?_);intro w3 hn;have H3:=ah hn;clear hn;simp only [Act.put,List.setIfInBounds_toArray,List.set_cons_zero,List.set_cons_succ]) | ((with_reducible refine bI 6 13 ?_);(with_reducible refine al (o:=⟨none,_,_,_,_,_⟩) rfl 129 (.tmp 6) (.tmp 13) rfl w2.heap.size #[.map none,.slice none 0 0] #[.map (some mb),.slice A l.length cap] 129 H3.out.blk ?_ ?_ ?_ ?_ ?_ ?_);kernel_rfl;rfl;kernel_rfl;rfl;rfl;intro w4 hk4 hg4;have h24:=H3.out.below.grown hg4 (by have:=H3.out.size;omega) (fun b hb=>(by have:=Option.some.inj hb;omega));have H4:=ah (And.intro hk4 (And.intro (H2.out.1.below h24 H2.out.1.lt) (And.intro (H2.out.2.1.trans (Below.mono h24 H2.out.2.1.size)) h24)));clear hk4 hg4 h24;simp only [Act.put]))
  refine bodyPost_ret (v:=.tuple #[.slice none 0 0,.int .i64 2]) (by simp [results,Tryz.results33,go_sem]) rfl ?_
  refine ⟨_,by rw [HE.out.1],?_,H4.out.2.2.1⟩
  rw [HE.out.2]
  exact World.ownsRow_nil _ _ _ _
 ·have HRT:=ah hR
  have hmk:=(H2.out.2.2 hR).2
  have HMK:=ah hmk
  clear hR hmk
  have hhc:=hc
  go_wp2_with (first | ((with_reducible refine ag 6 ?_);(refine aC (o:=⟨some 6,_,_,_,_,_⟩) rfl 129 #[.map none,.slice none 0 0] (by kernel_rfl) ?_);intro w3 hn;have H3:=ah hn;clear hn;simp only [Act.put,List.setIfInBounds_toArray,List.set_cons_zero,List.set_cons_succ]) | ((with_reducible refine bI 6 13 ?_);(with_reducible refine al (o:=⟨none,_,_,_,_,_⟩) rfl 129 (.tmp 6) (.tmp 13) rfl w2.heap.size #[.map none,.slice none 0 0] #[.map (some mb),.slice A l.length cap] 129 H3.out.blk ?_ ?_ ?_ ?_ ?_ ?_);kernel_rfl;rfl;kernel_rfl;rfl;rfl;intro w4 hk4 hg4;have h24:=H3.out.below.grown hg4 (by have:=H3.out.size;omega) (fun b hb=>(by have:=Option.some.inj hb;omega));have H4:=ah (And.intro hk4 (And.intro (H2.out.1.below h24 H2.out.1.lt) (And.intro (H2.out.2.1.trans (Below.mono h24 H2.out.2.1.size)) h24)));clear hk4 hg4 h24;simp only [Act.put]) | ((with_reducible refine ag 18 ?_);(refine aa (o:=⟨some 18,_,_,_,_,_⟩) rfl (.map (some mb)) w4 (exec_load_cell (o:=⟨some 18,_,_,_,_,_⟩) 127 (.tmp 17) rfl ⟨w2.heap.size,0,none⟩ rfl _ _ w4 Tryz.underlying127 rfl (show w4.cell? ⟨w2.heap.size,0,none⟩=some (.map (some mb)) from H4.out.1.cell 0)) ?_)) | ((with_reducible refine ag 19 ?_);(refine aa (o:=⟨some 19,_,_,_,_,_⟩) rfl (.agg ((bv c).toArray)) w4 (au (o:=⟨some 19,_,_,_,_,_⟩) 34 (.tmp 3) rfl w.heap.size rfl 34 _ _ w4 H4.out.2.1 Tryz.underlying34 rfl hszc) ?_)) | ((with_reducible refine ag 20 ?_);(refine aL (o:=⟨some 20,_,_,_,_,_⟩) rfl 27 (.tmp 19) rfl 34 20 (.agg zcH) (.agg (bv c).toArray) rfl Tryz.underlying27 ej (by decide) (by decide) (fun w=>by kernel_rfl) (by rw [Value.cells,List.size_toArray,bvL];exact hhc) ?_);intro w5 hn;have H5:=ah hn;clear hn;simp only [Act.put,List.setIfInBounds_toArray,List.set_cons_zero,List.set_cons_succ]))
  have hm5:bG hV okH evN w5 mb (dh l):=HMK.out.below (H4.out.2.2.2.trans (Below.mono H5.out.below H4.out.2.2.2.size)) HMK.out.lt
  have hone5:qQ c (.slice (some ⟨w4.heap.size,0,none⟩) 1 1) w5:=⟨_,rfl,H5.out.blk⟩
  have hat5:=hone5.at_ hc
  have HM5:=ah hm5
  clear hm5 hone5
  refine (ik w5 mb (dh l) HM5.out [c] _ hat5).mono ?_
  rintro e w6 ⟨rfl,hb⟩
  rw [lg]
  dsimp only
  have h46:=H5.out.below.trans (Below.mono hb H5.out.below.size)
  have H6:=ah (And.intro (H4.out.1.below h46 H4.out.1.lt) (And.intro (H4.out.2.1.below h46 H4.out.2.1.lt) (And.intro (H4.out.2.2.1.trans (Below.mono h46 H4.out.2.2.1.size)) (HM5.out.below hb HM5.out.lt))))
  clear hb h46 hat5
  cases hK:(aX (dh l) c).isSome
  ·have HE:Hid (dB l c=5∧cA l c=[]):=ah (by unfold dB cA;rw [HRT.out,hK];exact ⟨rfl,rfl⟩)
   clear hK
   go_wp2_with fail
   refine bodyPost_ret (v:=.tuple #[.slice none 0 0,.int .i64 5]) (by simp [results,Tryz.results33,go_sem]) rfl ?_
   refine ⟨_,by rw [HE.out.1],?_,H6.out.2.2.1⟩
   rw [HE.out.2]
   exact World.ownsRow_nil _ _ _ _
  ·have HE:Hid (dB l c=0∧cA l c=Dr.bY (l.map itP) c):=ah (by unfold dB cA;rw [HRT.out,hK];exact ⟨rfl,rfl⟩)
   have HCM:=ah (gX hK)
   clear hK
   go_wp2_with (first | ((with_reducible refine ag 23 ?_);(refine aa (o:=⟨some 23,_,_,_,_,_⟩) rfl (.agg (#[.map (some mb),.slice A l.length cap])) w6 (au (o:=⟨some 23,_,_,_,_,_⟩) 129 (.tmp 6) rfl w2.heap.size rfl 129 _ _ w6 H6.out.1 Tryz.underlying129 rfl (by kernel_rfl)) ?_)) | ((with_reducible refine ag 24 ?_);(refine aa (o:=⟨some 24,_,_,_,_,_⟩) rfl (.agg ((bv c).toArray)) w6 (au (o:=⟨some 24,_,_,_,_,_⟩) 34 (.tmp 3) rfl w.heap.size rfl 34 _ _ w6 H6.out.2.1 Tryz.underlying34 rfl hszc) ?_)))
   refine (uu w6 l mb A cap (eT h H6.out.2.2.1) hl hlen ((Dr.dO _).1 HRT.out) H6.out.2.2.2 c hc HCM.out).mono ?_
   rintro e w7 ⟨gn,rfl,hkn,hgn,hb⟩
   dsimp only
   have hnl:(Dr.b5 (l.map itP) (fO (l.map itP) c)).length=l.length:=by rw [Dr.cS,List.length_map]
   have H7:=ah (And.intro hkn (And.intro (H6.out.2.2.1.trans (Below.mono hb H6.out.2.2.1.size)) (Nat.le_trans H6.out.2.2.1.size hgn)))
   have HNL:=ah hnl
   clear hkn hgn hb hnl
   go_wp2_with fail
   go_loopw [4,27] (fun x4 x27 wr=>∃ (j:Nat) (u:Value),j≤l.length∧u=x4∧x27=.int .i64 (j:Int)∧Blk wr gn 4 ((Dr.b5 (l.map itP) (fO (l.map itP) c)).map Value.bool).toArray∧wr.ownsRow w.heap.size 34 20 u (Dr.dj ((Dr.css (l.map itP)).take j) ((Dr.b5 (l.map itP) (fO (l.map itP) c)).take j)).length ((Dr.dj ((Dr.css (l.map itP)).take j) ((Dr.b5 (l.map itP) (fO (l.map itP) c)).take j)).flatMap bv)∧Below w.heap.size w wr) (fun _ x27 _=>l.length-(intOf x27).toNat)
   case atStart=>exact ⟨0,_,by omega,rfl,rfl,H7.out.1,World.ownsRow_nil _ _ _ _,H7.out.2.1⟩
   case round =>
    obtain ⟨wo,rfl⟩:∃ wo,wo=wr:=⟨_,rfl⟩
    obtain ⟨j,x4,hj,rfl,rfl,hk,hown,hbw⟩:=hrel
    have HI:=ah (And.intro hk (And.intro hown hbw))
    clear hk hown hbw
    have j0:(0:Int)≤(j:Int):=by omega
    by_cases hj2:j<l.length
    ·have j1:(j:Int)<(l.length:Int):=by omega
     obtain ⟨x,hx⟩:∃ x,l[j]?=some x:=⟨_,List.getElem?_eq_getElem hj2⟩
     obtain ⟨b,off,rfl,hlb,hE⟩:=HA.out (by omega)
     obtain ⟨cs,hr,hatx⟩:=hE j x hx
     obtain ⟨q1,q2,rfl,hxo,hxd⟩:=bT.1 hatx
     obtain ⟨B1,k1,rfl,_⟩:=ak hxd.ins
     obtain ⟨B2,k2,rfl,_⟩:=ak hxd.rcp
     obtain ⟨q1,hq1⟩:∃ q1,q1=Value.slice B1 x.2.2.1.length k1:=⟨_,rfl⟩
     obtain ⟨q2,hq2⟩:∃ q2,q2=Value.slice B2 x.2.2.2.length k2:=⟨_,rfl⟩
     have hone1:q1.oneCell'=true∧q2.oneCell'=true:=by rw [hq1,hq2];exact ⟨rfl,rfl⟩
     rw [← hq1,← hq2] at hr hatx
     rw [← hq1,← hq2] at hxd
     have hbnd:=hl x (List.mem_of_getElem? hx)
     have HX:=ah (And.intro (a8 hr (HI.out.2.2.block b (by omega))) (And.intro hxo hxd))
     have HXX:=ah hx
     have hszt2:(Tryz.prog.info? 59).map (·.size)=some (tC x q1 q2).toArray.size:=by rw [show (tC x q1 q2).toArray.size=23 by rw [List.size_toArray];exact dA hxo];kernel_rfl
     have hszt:(Tryz.prog.info? 59).map (·.size)=some (tC x q1 q2).length:=by simpa using hszt2
     have hszzt:zcT.size=(tC x q1 q2).toArray.size:=by rw [show (tC x q1 q2).toArray.size=23 by rw [List.size_toArray];exact dA hxo];kernel_rfl
     have honet:(tC x q1 q2).toArray.all (·.oneCell')=true:=all_oneCell_toArray (jh x hone1.1 hone1.2)
     have hszx:(Tryz.prog.info? 34).map (·.size)=some (bv x.1).length:=by have:=eR hxo;simpa using this
     have hszx2:=eR hxo
     clear hx hE hr hatx hxd hq1 hq2
     have hhc:=hxo
     obtain ⟨v,hv⟩:∃ v,(Dr.b5 (l.map itP) (fO (l.map itP) c))[j]?=some v:=⟨_,List.getElem?_eq_getElem (by rw [HNL.out];exact hj2)⟩
     have hsn:=oM _ _ j x.1 v (Bz HXX.out) hv
     have hcv:=ni HI.out.1 hv
     have HSN:=ah hsn
     have HCV:=ah hcv
     have hol:(Dr.dj ((Dr.css (l.map itP)).take j) ((Dr.b5 (l.map itP) (fO (l.map itP) c)).take j)).length≤j:=pS _ _ j
     clear hsn hcv hv
     cases v
     ·go_wp2_with (first | ((with_reducible refine ag 30 ?_);(refine aa (o:=⟨some 30,_,_,_,_,_⟩) rfl (.pointer (some ⟨gn,j,none⟩)) wo (eY 133 4 (.tmp 25) (.tmp 27) rfl gn l.length l.length j rfl rfl hj2 Tryz.underlying133 (by kernel_rfl) wo) ?_)) | ((with_reducible refine ag 31 ?_);(refine aa (o:=⟨some 31,_,_,_,_,_⟩) rfl (.bool false) wo (exec_load_cell (o:=⟨some 31,_,_,_,_,_⟩) 4 (.tmp 30) rfl ⟨gn,j,none⟩ rfl _ _ wo Tryz.underlying4 rfl (show wo.cell? ⟨gn,j,none⟩=some (.bool false) from HCV.out)) ?_)))
      go_roundw
      case rel=>exact ⟨j+1,x4,by omega,rfl,by go_num,HI.out.1,by rw [HSN.out];simpa using HI.out.2.1,HI.out.2.2⟩
      case measure=>simp [intOf];omega
     ·go_wp2_with (first | ((with_reducible refine ag 30 ?_);(refine aa (o:=⟨some 30,_,_,_,_,_⟩) rfl (.pointer (some ⟨gn,j,none⟩)) wo (eY 133 4 (.tmp 25) (.tmp 27) rfl gn l.length l.length j rfl rfl hj2 Tryz.underlying133 (by kernel_rfl) wo) ?_)) | ((with_reducible refine ag 31 ?_);(refine aa (o:=⟨some 31,_,_,_,_,_⟩) rfl (.bool true) wo (exec_load_cell (o:=⟨some 31,_,_,_,_,_⟩) 4 (.tmp 30) rfl ⟨gn,j,none⟩ rfl _ _ wo Tryz.underlying4 rfl (show wo.cell? ⟨gn,j,none⟩=some (.bool true) from HCV.out)) ?_)) | ((with_reducible refine ag 36 ?_);(refine aa (o:=⟨some 36,_,_,_,_,_⟩) rfl (.pointer (some ⟨b,off+(j:Int).toNat*23,none⟩)) wo (aJ (o:=⟨some 36,_,_,_,_,_⟩) 22 59 (.tmp 34) (.tmp 35) rfl b off l.length cap (j:Int) .i64 rfl rfl ⟨j0,j1⟩ 23 Tryz.underlying22 cP wo) ?_;rw [show off+(j:Int).toNat*23=off+j*23 by omega])) | ((with_reducible refine ag 38 ?_);(refine aa (o:=⟨some 38,_,_,_,_,_⟩) rfl (.agg (bv x.1).toArray) wo (ai (o:=⟨some 38,_,_,_,_,_⟩) 34 (.tmp 37) rfl b (off+j*23) rfl (bv x.1) _ wo (cy HX.out.1) Tryz.underlying34 rfl hszx) ?_)) | ((with_reducible refine ag 39 ?_);(refine aL (o:=⟨some 39,_,_,_,_,_⟩) rfl 27 (.tmp 38) rfl 34 20 (.agg zcH) (.agg (bv x.1).toArray) rfl Tryz.underlying27 ej (by decide) (by decide) (fun w=>by kernel_rfl) (by rw [Value.cells,List.size_toArray,bvL];exact hhc) ?_);intro w8 hn;have H8:=ah hn;have h8:=ah (And.intro (hn.src (cs:=bv x.1) (n:=20) (by rw [bvL];exact hxo) (bv1 x.1)) (ao HI.out.2.1 fun g _ hl9=>hn.below.block g hl9));clear hn;simp only [Act.put,List.setIfInBounds_toArray,List.set_cons_zero,List.set_cons_succ]) | (at_builtin;((with_reducible refine ag 40 ?_);refine aH (o:=⟨some 40,_,_,_,_,_⟩) rfl _ _ 27 rfl w.heap.size 34 ih _ 20 20 Tryz.underlying27 HJ.out.1 HJ.out.2.1 HJ.out.2.2.1 HJ.out.2.2.2 rfl (by decide) _ ((Dr.dj ((Dr.css (l.map itP)).take j) ((Dr.b5 (l.map itP) (fO (l.map itP) c)).take j)).length) ((Dr.dj ((Dr.css (l.map itP)).take j) ((Dr.b5 (l.map itP) (fO (l.map itP) c)).take j)).flatMap bv) h8.out.2 (some ⟨wo.heap.size,0,none⟩) 1 1 (bv x.1) h8.out.1 ?hm1 ?hb1 ?hz1 rfl rfl ?_)))
      case hm1=>simp only [maxLen];omega
      case hb1=>omega
      case hz1=>have:=HI.out.2.2.size;have:=H8.out.below.size;omega
      intro u9 w9 own9 gr9 _
      have h9:w9.ownsRow w.heap.size 34 20 u9 (Dr.dj ((Dr.css (l.map itP)).take (j+1)) ((Dr.b5 (l.map itP) (fO (l.map itP) c)).take (j+1))).length ((Dr.dj ((Dr.css (l.map itP)).take (j+1)) ((Dr.b5 (l.map itP) (fO (l.map itP) c)).take (j+1))).flatMap bv):=by rw [HSN.out];simpa using own9
      have hkb:Blk w9 gn 4 ((Dr.b5 (l.map itP) (fO (l.map itP) c)).map Value.bool).toArray:=(gr9.block _ (by have:=HI.out.1.lt;have:=H8.out.below.size;omega) (fun e=>ew h8.out.2 (HI.out.1.below H8.out.below HI.out.1.lt) (by decide) e.symm)).trans (HI.out.1.below H8.out.below HI.out.1.lt)
      have hb9:Below w.heap.size w w9:=(HI.out.2.2.trans (Below.mono H8.out.below HI.out.2.2.size)).grown gr9 (by have:=HI.out.2.2.size;have:=H8.out.below.size;omega) (fun k hk=>(aD h8.out.2 hk).1)
      have H9:=ah (And.intro hkb (And.intro h9 hb9))
      clear own9 gr9 h9 hkb hb9
      go_wp2_with fail
      go_roundw
      case rel=>exact ⟨j+1,u9,by omega,rfl,by go_num,H9.out.1,H9.out.2.1,H9.out.2.2⟩
      case measure=>simp [intOf];omega
    ·obtain rfl:j=l.length:=by omega
     have ho:=HI.out.2.1
     rw [List.take_of_length_le (by rw [zM];exact Nat.le_refl _),List.take_of_length_le (by rw [HNL.out];exact Nat.le_refl _),← wR] at ho
     have HO:=ah ho
     clear ho
     obtain ⟨u9,hu9⟩:∃ u9,u9=x4:=⟨_,rfl⟩
     go_wp2_with fail
     refine bodyPost_ret (v:=.tuple #[x4,.int .i64 0]) (by simp [results,Tryz.results33,go_sem]) rfl ?_
     refine ⟨_,by rw [HE.out.1],?_,HI.out.2.2⟩
     rw [HE.out.2]
     exact HO.out
end Go.Proofs.YtomnhnmciopiiaaGreat
end
section
namespace Go.Proofs.YtomnhnmciopiiaaGreat
open Go Go.RowKit Go.Maps
set_option maxRecDepth 100000
def dR (l:List Itm) (c:Hsh):Nat:=if Dr.bL (l.map itP)=true then (if (aX (dh l) c).isSome=true then Dr.cI (l.map itP) c else 0) else 0
theorem nF (l:List Nat) (x:Nat):Dr.maxOf (l++[x])=max (Dr.maxOf l) x:=by
 unfold Dr.maxOf
 rw [List.foldl_append]
 rfl
theorem jn {l:List Nat} {b:Nat} (h:∀ x∈l,x≤b):Dr.maxOf l≤b:=by
 unfold Dr.maxOf
 have key:∀ (l:List Nat) (a:Nat),a≤b→(∀ x∈l,x≤b)→l.foldl max a≤b:=by
  intro l
  induction l with
  | nil=>intro a ha _;exact ha
  | cons x l ih =>
   intro a ha hx
   exact ih _ (Nat.max_le.2 ⟨ha,hx x (List.mem_cons_self ..)⟩) fun y hy=>hx y (List.mem_cons_of_mem _ hy)
 exact key l 0 (Nat.zero_le _) h
theorem vg {H:Type} [DecidableEq H] (l:List (Dr.It H)) (x:Dr.It H) (h:H):Dr.jJ (l++[x]) (fun _=>0) h=if h=x.cls then Dr.maxOf (x.ins.map (Dr.jJ l fun _=>0))+1 else Dr.jJ l (fun _=>0) h:=by
 rw [Dr.nO]
 rfl
def rp (l:List Itm) (j:Nat) (dm:List (Hsh×Nat)):Prop:=∀ h,(aX dm h).getD 0=Dr.jJ ((l.take j).map itP) (fun _=>0) h∧(aX dm h).getD 0≤j
theorem y0 (l:List Itm):rp l 0 []:=fun _=>⟨rfl,Nat.le_refl _⟩
theorem yH {l:List Itm} {j:Nat} {dm:List (Hsh×Nat)} {x:Itm} (h:rp l j dm) (hx:l[j]?=some x):rp l (j+1) (jI dm x.1 (Dr.maxOf ((az x.2.2.1).map fun c=>(aX dm c).getD 0)+1)):=fun c=>by
 have e:(l.take (j+1)).map itP=(l.take j).map itP++[itP x]:=by rw [List.take_add_one,hx];simp
 have em:((az x.2.2.1).map fun c=>(aX dm c).getD 0)=(az x.2.2.1).map (Dr.jJ ((l.take j).map itP) fun _=>0):=List.map_congr_left fun d _=>(h d).1
 rw [vD,e,vg]
 by_cases hc:c=x.1
 ·rw [if_pos hc,if_pos (show c=(itP x).cls from hc),em]
  refine ⟨rfl,?_⟩
  show Dr.maxOf _+1≤j+1
  have:Dr.maxOf ((az x.2.2.1).map (Dr.jJ ((l.take j).map itP) fun _=>0))≤j:=jn fun y hy=>by
   obtain ⟨d,_,rfl⟩:=List.mem_map.1 hy
   rw [← (h d).1]
   exact (h d).2
  omega
 ·rw [if_neg hc,if_neg (show ¬ c=(itP x).cls from hc)]
  exact ⟨(h c).1,Nat.le_trans (h c).2 (Nat.le_succ _)⟩
theorem z8 {l:List Itm} {j:Nat} {dm:List (Hsh×Nat)} (h:rp l j dm) (ks:List Hsh):Dr.maxOf (ks.map fun c=>(aX dm c).getD 0)≤j:=jn fun y hy=>by
 obtain ⟨d,_,rfl⟩:=List.mem_map.1 hy
 exact (h d).2
theorem vx {l:List Itm} {c:Hsh}:Dr.cI (l.map itP) c=Dr.jJ ((l.take (fO (l.map itP) c+1)).map itP) (fun _=>0) c:=by
 rw [List.map_take]
 rfl
theorem rE {w:World} {mb:Nat} {m:List (Hsh×Nat)} (hm:bG hV okH evN w mb m) {c:Hsh} (hc:okH c) {ρ:Operand→Value} {o:Oper} (x y:Operand) (ho:o.op=.lookup 99 x y false) (hx:ρ x=.map (some mb)) (hy:ρ y=.agg (bv c).toArray) :
  (execOp ρ o).run Tryz.prog w=.ok (.value (.int .i64 (((aX m c).getD 0:Nat):Int))) w:=by
 have h:=dH (P:=Tryz.prog) (o:=o) (ρ:=ρ) 99 x y false ho (.map (some mb)) (.agg (bv c).toArray) _ hx hy (hm.look dy hc Tryz.underlying99 (pj w))
 have e:((aX m c).map evN).getD (.int .i64 0)=.int .i64 (((aX m c).getD 0:Nat):Int):=by cases aX m c<;>rfl
 rw [e] at h
 exact h
theorem oH {P:Program} {ops:Array Oper} {rest:List Oper} {o:Oper} {a:Act} {w:World} {Q:Exit→Act→World→Prop} (hw:Region.wanted o (yielded ops a.tmps)=true) (t:TypeId) (x:Operand) (ho:o.op=.buildSlice t 1 #[(0,x)]) (e n:Nat) (z v:Value) (hx:a.eval x=v) (ht:P.underlying t=some (.slice e)) (hs:(P.info? e).map (·.size)=some n) (hn:0<n) (h24:n≤16777216) (hz:∀ w,(zeroValue e).run P w=.ok z w) (hv:v.cells.size=n)
  (h:∀ w',iS w w' e v.cells→wpList P ops Q rest (a.put o.dst (.slice (some ⟨w.heap.size,0,none⟩) 1 1)) w'):wpList P ops Q (o :: rest) a w :=
 aF hw _ _ (bM t x ho hx ht hs hn h24 hz hv w) (h _ (cD w e v.cells))
theorem rL {P:Program} (t e s:Nat) (ht:P.underlying t=some (.slice e)) (hs:(P.info? e).map (·.size)=some s) (A:Option Addr) (len cap n:Nat) (hn:n≤cap) (w:World) :
  (Instr.sliceAt t (.slice A len cap) none (some (.int .i64 (n:Int))) none).run P w=.ok (.slice A n cap) w:=by
 have e2:P.elem t=e:=by simp [Program.elem,ht]
 rw [run_sliceAt_slice w t _ _ _ _ (by rw [e2];exact ht)]
 have h:=run_slice_h (P:=P) w t A len cap (by rw [e2];exact ht) .i64 (n:Int) (by omega) (by omega)
 rw [h,e2]
 cases hi:P.info? e with
 | none=>simp [hi] at hs
 | some i =>
  have h1:i.size=s:=by simpa [hi] using hs
  have e0:A.map (fun a=>a.add 0)=A:=by cases A<;>simp [Addr.add]
  simp [sizeOf,typeInfo,hi,h1,sliced,e0]
theorem qI {P:Program} {ρ:Operand→Value} {o:Oper} (t e s:Nat) (x y:Operand) (ho:o.op=.slice t x none (some y) none) (A:Option Addr) (len cap n:Nat) (hx:ρ x=.slice A len cap) (hy:ρ y=.int .i64 (n:Int)) (ht:P.underlying t=some (.slice e)) (hs:(P.info? e).map (·.size)=some s) (hn:n≤cap) (w:World) :
  (execOp ρ o).run P w=.ok (.value (.slice A n cap)) w:=by
 refine iA t x none (some y) none ho _ (fun W=>?_) w
 rw [hx,Option.map_some,hy]
 exact rL t e s ht hs A len cap n hn W
set_option maxHeartbeats 8000000 in
theorem oR (w:World) (l:List Itm) (A:Option Addr) (cap:Nat) (h:bz.At w w.heap.size [.slice A l.length cap] l) (hl:∀ x∈l,x.2.2.1.length≤1000000) (hlen:l.length≤1000000) (c:Hsh) (hc:okH c) :
  Calls Tryz.prog 39 #[.slice A l.length cap,.agg (bv c).toArray] w fun e w'=>e=.returned (.int .i64 (dR l c:Int))∧Below w.heap.size w w':=by
 obtain ⟨A',cap',e,hcl,hcm9,_,hA⟩:=ak h
 injection e with e1 e2 e3
 subst e1 e3
 have k9:(l.length:Int)≤9223372036854775807:=by omega
 have hszc:=eR hc
 have HCL:=ah hcl
 have HA:=ah hA
 have hmm:=@run_makeMap Tryz.prog
 clear hA hcl hcm9 e2
 go_enter Tryz.func39,Tryz.ntmps39
 go_wp2_with (first | ((with_reducible refine ag 3 ?_);(refine ay (o:=⟨some 3,_,_,_,_,_⟩) rfl 34 (.tmp 1) rfl (bv c).toArray rfl ?_);intro w1 hn;have H1:=ah hn;clear hn;simp only [Act.put,List.setIfInBounds_toArray,List.set_cons_zero,List.set_cons_succ]))
 refine (lT w1 l A cap (eT h H1.out.below) hl).mono ?_
 rintro e w2 ⟨mb,rfl,hmap,hb⟩
 dsimp only
 have H2:=ah (And.intro (H1.out.blk.below hb H1.out.blk.lt) (And.intro (H1.out.below.trans (Below.mono hb H1.out.below.size)) hmap))
 clear hb hmap
 cases hR:Dr.bL (l.map itP)
 ·have HE:Hid (dR l c=0):=ah (by unfold dR;rw [hR];rfl)
  clear hR hmm
  go_wp2_with (first | ((with_reducible refine ag 5 ?_);(refine aC (o:=⟨some 5,_,_,_,_,_⟩) rfl 129 #[.map none,.slice none 0 0] (by kernel_rfl) ?_);intro w3 hn;have H3:=ah hn;clear hn;simp only [Act.put,List.setIfInBounds_toArray,List.set_cons_zero,List.set_cons_succ]) | ((with_reducible refine bI 5 16 ?_);(with_reducible refine al (o:=⟨none,_,_,_,_,_⟩) rfl 129 (.tmp 5) (.tmp 16) rfl w2.heap.size #[.map none,.slice none 0 0] #[.map (some mb),.slice A l.length cap] 129 H3.out.blk ?_ ?_ ?_ ?_ ?_ ?_);kernel_rfl;rfl;kernel_rfl;rfl;rfl;intro w4 hk4 hg4;have h24:=H3.out.below.grown hg4 (by have:=H3.out.size;omega) (fun b hb=>(by have:=Option.some.inj hb;omega));have H4:=ah (And.intro hk4 (And.intro (H2.out.1.below h24 H2.out.1.lt) (And.intro (H2.out.2.1.trans (Below.mono h24 H2.out.2.1.size)) h24)));clear hk4 hg4 h24;simp only [Act.put]))
  go_ret
  exact ⟨by rw [HE.out];rfl,H4.out.2.2.1⟩
 ·have HRT:=ah hR
  have hmk:=(H2.out.2.2 hR).2
  have HMK2:=ah hmk
  clear hR hmk
  go_wp2_with (first | ((with_reducible refine ag 5 ?_);(refine aC (o:=⟨some 5,_,_,_,_,_⟩) rfl 129 #[.map none,.slice none 0 0] (by kernel_rfl) ?_);intro w3 hn;have H3:=ah hn;clear hn;simp only [Act.put,List.setIfInBounds_toArray,List.set_cons_zero,List.set_cons_succ]) | ((with_reducible refine bI 5 16 ?_);(with_reducible refine al (o:=⟨none,_,_,_,_,_⟩) rfl 129 (.tmp 5) (.tmp 16) rfl w2.heap.size #[.map none,.slice none 0 0] #[.map (some mb),.slice A l.length cap] 129 H3.out.blk ?_ ?_ ?_ ?_ ?_ ?_);kernel_rfl;rfl;kernel_rfl;rfl;rfl;intro w4 hk4 hg4;have h24:=H3.out.below.grown hg4 (by have:=H3.out.size;omega) (fun b hb=>(by have:=Option.some.inj hb;omega));have H4:=ah (And.intro hk4 (And.intro (H2.out.1.below h24 H2.out.1.lt) (And.intro (H2.out.2.1.trans (Below.mono h24 H2.out.2.1.size)) h24)));clear hk4 hg4 h24;simp only [Act.put]) | ((with_reducible refine ag 22 ?_);(refine aF (o:=⟨some 22,_,_,_,_,_⟩) (by kernel_rfl) (.map (some mb)) w4 (exec_load_cell (o:=⟨some 22,_,_,_,_,_⟩) 127 (.tmp 21) rfl ⟨w2.heap.size,0,none⟩ rfl _ _ w4 Tryz.underlying127 rfl (show w4.cell? ⟨w2.heap.size,0,none⟩=some (.map (some mb)) from H4.out.1.cell 0)) ?_)) | ((with_reducible refine ag 23 ?_);(refine aF (o:=⟨some 23,_,_,_,_,_⟩) (by kernel_rfl) (.agg ((bv c).toArray)) w4 (au (o:=⟨some 23,_,_,_,_,_⟩) 34 (.tmp 3) rfl w.heap.size rfl 34 _ _ w4 H4.out.2.1 Tryz.underlying34 rfl hszc) ?_)) | ((with_reducible refine ag 24 ?_);(refine oH (o:=⟨some 24,_,_,_,_,_⟩) (by kernel_rfl) 27 (.tmp 23) rfl 34 20 (.agg zcH) (.agg (bv c).toArray) rfl Tryz.underlying27 ej (by decide) (by decide) (fun w=>by kernel_rfl) (by rw [Value.cells,List.size_toArray,bvL];exact hc) ?_);intro w5 hn;have H5:=ah hn;clear hn;simp only [Act.put,List.setIfInBounds_toArray,List.set_cons_zero,List.set_cons_succ]))
  have hm5:bG hV okH evN w5 mb (dh l):=HMK2.out.below (H4.out.2.2.2.trans (Below.mono H5.out.below H4.out.2.2.2.size)) HMK2.out.lt
  have hone5:qQ c (.slice (some ⟨w4.heap.size,0,none⟩) 1 1) w5:=⟨_,rfl,H5.out.blk⟩
  have hat5:=hone5.at_ hc
  have HM5:=ah hm5
  clear hm5 hone5
  refine (ik w5 mb (dh l) HM5.out [c] _ hat5).mono ?_
  rintro e w6 ⟨rfl,hb⟩
  rw [lg]
  dsimp only
  have h46:=H5.out.below.trans (Below.mono hb H5.out.below.size)
  have H6:=ah (And.intro (H4.out.1.below h46 H4.out.1.lt) (And.intro (H4.out.2.1.below h46 H4.out.2.1.lt) (And.intro (H4.out.2.2.1.trans (Below.mono h46 H4.out.2.2.1.size)) h46)))
  have HMK:=ah (HM5.out.below hb HM5.out.lt)
  clear hb h46 hat5
  cases hK:(aX (dh l) c).isSome
  ·have HE:Hid (dR l c=0):=ah (by unfold dR;rw [HRT.out,hK];rfl)
   clear hK hmm
   go_wp2_with fail
   go_ret
   exact ⟨by rw [HE.out];rfl,H6.out.2.2.1⟩
  ·have HE:Hid (dR l c=Dr.cI (l.map itP) c):=ah (by unfold dR;rw [HRT.out,hK];rfl)
   have HCM:=ah (gX hK)
   clear hK
   have hget:=mW ((Dr.dO _).1 HRT.out) HCM.out
   have hm9:=qp HCM.out
   obtain ⟨m,hm⟩:∃ m,m=fO (l.map itP) c:=⟨_,rfl⟩
   rw [List.length_map] at hm9
   rw [← hm] at hget hm9
   have HM:=ah (And.intro hm hget)
   clear hm hget
   have HD0:Hid (bG hV okH evN (w6.alloc (.map #[] 0)) w6.heap.size ([]:List (Hsh×Nat))∧Below w6.heap.size w6 (w6.alloc (.map #[] 0))):=ah ⟨jG w6,(Below.refl _ w6).alloc (Nat.le_refl _) _⟩
   have hmcap:m+1≤cap:=by have:=HCL.out;omega
   go_wp2_with (first | ((with_reducible refine ag 28 ?_);(refine aa (o:=⟨some 28,_,_,_,_,_⟩) rfl (.map (some w6.heap.size)) (w6.alloc (.map #[] 0)) (by kernel_rfl) ?_);(generalize hw7:w6.alloc (.map #[] 0)=w7 at HD0 ⊢);have H7:=ah (And.intro (H6.out.1.below HD0.out.2 H6.out.1.lt) (And.intro (H6.out.2.1.below HD0.out.2 H6.out.2.1.lt) (And.intro (H6.out.2.2.1.trans (Below.mono HD0.out.2 H6.out.2.2.1.size)) (HMK.out.below HD0.out.2 HMK.out.lt))));clear hw7;simp only [Act.put,List.setIfInBounds_toArray,List.set_cons_zero,List.set_cons_succ]) | ((with_reducible refine ag 31 ?_);(refine aa (o:=⟨some 31,_,_,_,_,_⟩) rfl (.map (some mb)) w7 (exec_load_cell (o:=⟨some 31,_,_,_,_,_⟩) 127 (.tmp 30) rfl ⟨w2.heap.size,0,none⟩ rfl _ _ w7 Tryz.underlying127 rfl (show w7.cell? ⟨w2.heap.size,0,none⟩=some (.map (some mb)) from H7.out.1.cell 0)) ?_)) | ((with_reducible refine ag 32 ?_);(refine aa (o:=⟨some 32,_,_,_,_,_⟩) rfl (.agg ((bv c).toArray)) w7 (au (o:=⟨some 32,_,_,_,_,_⟩) 34 (.tmp 3) rfl w.heap.size rfl 34 _ _ w7 H7.out.2.1 Tryz.underlying34 rfl hszc) ?_)) | ((with_reducible refine ag 33 ?_);(refine aa (o:=⟨some 33,_,_,_,_,_⟩) rfl (.int .i64 (m:Int)) w7 (mC H7.out.2.2.2 hc HM.out.2 (.tmp 31) (.tmp 32) rfl rfl rfl) ?_)) | ((with_reducible refine ag 35 ?_);(refine aa (o:=⟨some 35,_,_,_,_,_⟩) rfl (.slice A (m+1) cap) w7 (qI (o:=⟨some 35,_,_,_,_,_⟩) 22 59 23 (.tmp 29) (.tmp 34) rfl A l.length cap (m+1) rfl (by show Value.int .i64 ((m:Int)+1)=_;rfl) Tryz.underlying22 cP hmcap w7) ?_)))
   obtain ⟨dmb,hdmb⟩:∃ dmb,dmb=w6.heap.size:=⟨_,rfl⟩
   rw [← hdmb] at HD0 ⊢
   have HB6:=ah (show w.heap.size≤dmb by rw [hdmb];exact H6.out.2.2.1.size)
   have HKC:=ah (show w.heap.size<dmb by rw [hdmb];exact H6.out.2.1.lt)
   clear hdmb hmm
   go_loopw [37] (fun x37 wr=>∃ (j:Nat) (dm:List (Hsh×Nat)),j≤m+1∧x37=.int .i64 (j:Int)∧bG hV okH evN wr dmb dm∧rp l j dm∧Blk wr w.heap.size 34 (bv c).toArray∧Below w.heap.size w wr) (fun x37 _=>m+1-(intOf x37).toNat)
   case atStart=>exact ⟨0,[],by omega,rfl,HD0.out.1,y0 l,H7.out.2.1,H7.out.2.2.1⟩
   case round =>
    obtain ⟨wo,rfl⟩:∃ wo,wo=wr:=⟨_,rfl⟩
    obtain ⟨j,dm,hj,rfl,hdm,hok,hkc,hbw⟩:=hrel
    have HI:=ah (And.intro hdm (And.intro hok (And.intro hkc hbw)))
    clear hdm hok hkc hbw
    have j0:(0:Int)≤(j:Int):=by omega
    by_cases hj3:j<m+1
    ·have hj2:j<l.length:=by omega
     have j1:(j:Int)<(l.length:Int):=by omega
     obtain ⟨x,hx⟩:∃ x,l[j]?=some x:=⟨_,List.getElem?_eq_getElem hj2⟩
     obtain ⟨b,off,rfl,hlb,hE⟩:=HA.out (by omega)
     obtain ⟨cs,hr,hatx⟩:=hE j x hx
     obtain ⟨q1,q2,rfl,hxo,hxd⟩:=bT.1 hatx
     obtain ⟨B1,k1,rfl,_⟩:=ak hxd.ins
     obtain ⟨B2,k2,rfl,_⟩:=ak hxd.rcp
     obtain ⟨q1,hq1⟩:∃ q1,q1=Value.slice B1 x.2.2.1.length k1:=⟨_,rfl⟩
     obtain ⟨q2,hq2⟩:∃ q2,q2=Value.slice B2 x.2.2.2.length k2:=⟨_,rfl⟩
     have hone1:q1.oneCell'=true∧q2.oneCell'=true:=by rw [hq1,hq2];exact ⟨rfl,rfl⟩
     rw [← hq1,← hq2] at hr hatx
     rw [← hq1,← hq2] at hxd
     have hbnd:=hl x (List.mem_of_getElem? hx)
     have HX:=ah (And.intro (a8 hr (HI.out.2.2.2.block b (by omega))) (And.intro hxo hxd))
     have HXX:=ah hx
     have hszt2:(Tryz.prog.info? 59).map (·.size)=some (tC x q1 q2).toArray.size:=by rw [show (tC x q1 q2).toArray.size=23 by rw [List.size_toArray];exact dA hxo];kernel_rfl
     have hszt:(Tryz.prog.info? 59).map (·.size)=some (tC x q1 q2).length:=by simpa using hszt2
     have hszzt:zcT.size=(tC x q1 q2).toArray.size:=by rw [show (tC x q1 q2).toArray.size=23 by rw [List.size_toArray];exact dA hxo];kernel_rfl
     have honet:(tC x q1 q2).toArray.all (·.oneCell')=true:=all_oneCell_toArray (jh x hone1.1 hone1.2)
     have hszx:(Tryz.prog.info? 34).map (·.size)=some (bv x.1).length:=by have:=eR hxo;simpa using this
     have hszx2:=eR hxo
     clear hx hE hr hatx hxd hq1 hq2
     have j2:(j:Int)<((m+1:Nat):Int):=by omega
     go_wp2_with (first | ((with_reducible refine ag 39 ?_);(refine aa (o:=⟨some 39,_,_,_,_,_⟩) rfl (.pointer (some ⟨b,off+(j:Int).toNat*23,none⟩)) wo (aJ (o:=⟨some 39,_,_,_,_,_⟩) 22 59 (.tmp 35) (.tmp 37) rfl b off (m+1) cap (j:Int) .i64 rfl rfl ⟨j0,j2⟩ 23 Tryz.underlying22 cP wo) ?_;rw [show off+(j:Int).toNat*23=off+j*23 by omega])) | ((with_reducible refine ag 40 ?_);(refine aa (o:=⟨some 40,_,_,_,_,_⟩) rfl (.agg (tC x q1 q2).toArray) wo (ai (o:=⟨some 40,_,_,_,_,_⟩) 59 (.tmp 39) rfl b (off+j*23) rfl (tC x q1 q2) _ wo HX.out.1 Tryz.underlying59 rfl hszt) ?_)) | ((with_reducible refine ag 9 ?_);((with_reducible refine bn (o1:=⟨some 9,_,_,_,_,_⟩) (o2:=⟨none,_,_,_,_,_⟩) rfl rfl 59 (.tmp 9) (.tmp 40) ?_ zcT (tC x q1 q2).toArray ?_ hszt2 ?_ honet ?_ ?_ ?_);rfl;kernel_rfl;exact hszzt;rfl;rfl;intro w8 hmm hbb;have H8:=ah (And.intro hmm hbb);clear hmm hbb;simp only [Act.put,List.setIfInBounds_toArray,List.set_cons_zero,List.set_cons_succ])) | ((with_reducible refine ag 42 ?_);(refine aa (o:=⟨some 42,_,_,_,_,_⟩) rfl (.agg (dC x.2 q1 q2).toArray) w8 (ai (o:=⟨some 42,_,_,_,_,_⟩) 26 (.tmp 41) rfl wo.heap.size (20) rfl (dC x.2 q1 q2) _ w8 (fN HX.out.2.1 H8.out.1) Tryz.underlying26 rfl (by kernel_rfl)) ?_)))
     have hat8:aO w8 w8.heap.size x.2 q1 q2:=HX.out.2.2.gF (HI.out.2.2.2.trans (Below.mono H8.out.2 HI.out.2.2.2.size))
     have hcok:=lN hat8.okn
     refine (ey w8 x.2 q1 q2 hat8 hbnd).mono ?_
     rintro e w9 ⟨uc,rfl,hoc,hb⟩
     obtain ⟨Ac,cc,rfl⟩:=hJ hoc
     dsimp only
     have h9:=H8.out.2.trans (Below.mono hb H8.out.2.size)
     obtain ⟨N,hN⟩:∃ N,N=(az x.2.2.1).length:=⟨_,rfl⟩
     rw [← hN] at hoc ⊢
     have hN9:(N:Int)≤1000000:=by have:=ef x.2.2.1 x.2.2.1.length;rw [List.take_length] at this;omega
     have H9:=ah (And.intro (H8.out.1.below hb H8.out.1.lt) (And.intro (HI.out.1.below h9 HI.out.1.lt) (And.intro hoc (And.intro (HI.out.2.2.1.below h9 HI.out.2.2.1.lt) (HI.out.2.2.2.trans (Below.mono h9 HI.out.2.2.2.size))))))
     have HCO:=ah (And.intro hcok hN)
     have HZ9:=ah (Nat.le_trans HI.out.2.2.2.size H8.out.2.size)
     have hwo8:=H8.out.1.lt
     clear hb h9 hoc hcok hN hat8
     go_wp2_with fail
     go_loopw [10,45] (fun x10 x45 wr=>∃ (k:Nat),k≤N∧x10=.int .i64 (Dr.maxOf (((az x.2.2.1).take k).map fun c=>(aX dm c).getD 0):Int)∧x45=.int .i64 (k:Int)∧Below w9.heap.size w9 wr) (fun _ x45 _=>N-(intOf x45).toNat)
     case atStart=>exact ⟨0,by omega,rfl,rfl,Below.refl _ _⟩
     case round =>
      obtain ⟨wi,rfl⟩:∃ wi,wi=wr:=⟨_,rfl⟩
      obtain ⟨k,hk,rfl,rfl,hb⟩:=hrel
      have HB:=ah hb
      clear hb
      have k0:(0:Int)≤(k:Int):=by omega
      by_cases hk2:k<N
      ·have k1:(k:Int)<(N:Int):=by omega
       obtain ⟨z,hz⟩:∃ z,(az x.2.2.1)[k]?=some z:=⟨_,List.getElem?_eq_getElem (by rw [← HCO.out.2];exact hk2)⟩
       have hzo:=HCO.out.1 z (List.mem_of_getElem? hz)
       have hown9:=ao H9.out.2.2.1 fun g _ hl9=>HB.out.block g hl9
       obtain ⟨g5,cap5,he5⟩:=du hown9 (by omega)
       injection he5 with e51 _ e53
       subst e51 e53
       have hrz:wi.rangeAt g5 (k*20) (bv z):=gM hown9 (k*20) 20 _ (lQ HCO.out.1 hz)
       have HRZ:=ah hrz
       have hszy2:=eR hzo
       have hszy:(Tryz.prog.info? 34).map (·.size)=some (bv z).length:=by simpa using hszy2
       have hszz:zcH.size=(bv z).toArray.size:=by rw [show (bv z).toArray.size=20 by rw [List.size_toArray,bvL];exact hzo];kernel_rfl
       have hone:(bv z).toArray.all (·.oneCell')=true:=all_oneCell_toArray (bv1 z)
       have hsn:Dr.maxOf (((az x.2.2.1).take (k+1)).map fun c=>(aX dm c).getD 0)=max (Dr.maxOf (((az x.2.2.1).take k).map fun c=>(aX dm c).getD 0)) ((aX dm z).getD 0):=by rw [List.take_add_one,hz,List.map_append];exact nF _ _
       have HSN:=ah hsn
       obtain ⟨v,hv⟩:∃ v,v=(aX dm z).getD 0:=⟨_,rfl⟩
       obtain ⟨mo,hmo⟩:∃ mo,mo=Dr.maxOf (((az x.2.2.1).take k).map fun c=>(aX dm c).getD 0):=⟨_,rfl⟩
       rw [← hmo]
       have hva:=fun W (hm9:bG hV okH evN W dmb dm) ρ o (a b:Operand) h1 h2 h3=>rE (w:=W) hm9 hzo (ρ:=ρ) (o:=o) a b h1 h2 h3
       rw [← hv] at hva
       have HVA:=ah hva
       have HZ:=ah (And.intro hzo (And.intro hv hmo))
       clear hz hzo hrz hown9 hsn hv hmo hva
       by_cases hmx:(mo:Int)<(v:Int)
       ·go_wp2_with (first | ((with_reducible refine ag 47 ?_);(refine aa (o:=⟨some 47,_,_,_,_,_⟩) rfl (.pointer (some ⟨g5,k*20,none⟩)) wi (gV 27 34 (.tmp 43) (.tmp 45) rfl g5 N cc k rfl rfl hk2 20 Tryz.underlying27 ej wi) ?_)) | ((with_reducible refine ag 48 ?_);(refine aa (o:=⟨some 48,_,_,_,_,_⟩) rfl (.agg (bv z).toArray) wi (ai (o:=⟨some 48,_,_,_,_,_⟩) 34 (.tmp 47) rfl g5 (k*20) rfl (bv z) _ wi HRZ.out Tryz.underlying34 rfl hszy) ?_)) | ((with_reducible refine ag 12 ?_);((with_reducible refine bn (o1:=⟨some 12,_,_,_,_,_⟩) (o2:=⟨none,_,_,_,_,_⟩) rfl rfl 34 (.tmp 12) (.tmp 48) ?_ zcH (bv z).toArray ?_ hszy2 ?_ hone ?_ ?_ ?_);rfl;kernel_rfl;exact hszz;rfl;rfl;intro wb hmm hbb;have HBX:=ah (And.intro hmm hbb);clear hmm hbb;simp only [Act.put,List.setIfInBounds_toArray,List.set_cons_zero,List.set_cons_succ])) | ((with_reducible refine ag 51 ?_);(refine aa (o:=⟨some 51,_,_,_,_,_⟩) rfl (.agg ((bv z).toArray)) wb (au (o:=⟨some 51,_,_,_,_,_⟩) 34 (.tmp 12) rfl wi.heap.size rfl 34 _ _ wb HBX.out.1 Tryz.underlying34 rfl hszy2) ?_)) | ((with_reducible refine ag 52 ?_);(refine aa (o:=⟨some 52,_,_,_,_,_⟩) rfl (.int .i64 (v:Int)) wb (HVA.out wb ((H9.out.2.1.below HB.out H9.out.2.1.lt).below HBX.out.2 (H9.out.2.1.below HB.out H9.out.2.1.lt).lt) _ _ (.tmp 50) (.tmp 51) rfl rfl rfl) ?_)))
        go_roundw
        case rel=>exact ⟨k+1,by omega,by (rw [HSN.out,← HZ.out.2.2,← HZ.out.2.1];congr 1;omega),by go_num,HB.out.trans (Below.mono HBX.out.2 HB.out.size)⟩
        case measure=>simp [intOf];omega
       ·go_wp2_with (first | ((with_reducible refine ag 47 ?_);(refine aa (o:=⟨some 47,_,_,_,_,_⟩) rfl (.pointer (some ⟨g5,k*20,none⟩)) wi (gV 27 34 (.tmp 43) (.tmp 45) rfl g5 N cc k rfl rfl hk2 20 Tryz.underlying27 ej wi) ?_)) | ((with_reducible refine ag 48 ?_);(refine aa (o:=⟨some 48,_,_,_,_,_⟩) rfl (.agg (bv z).toArray) wi (ai (o:=⟨some 48,_,_,_,_,_⟩) 34 (.tmp 47) rfl g5 (k*20) rfl (bv z) _ wi HRZ.out Tryz.underlying34 rfl hszy) ?_)) | ((with_reducible refine ag 12 ?_);((with_reducible refine bn (o1:=⟨some 12,_,_,_,_,_⟩) (o2:=⟨none,_,_,_,_,_⟩) rfl rfl 34 (.tmp 12) (.tmp 48) ?_ zcH (bv z).toArray ?_ hszy2 ?_ hone ?_ ?_ ?_);rfl;kernel_rfl;exact hszz;rfl;rfl;intro wb hmm hbb;have HBX:=ah (And.intro hmm hbb);clear hmm hbb;simp only [Act.put,List.setIfInBounds_toArray,List.set_cons_zero,List.set_cons_succ])) | ((with_reducible refine ag 51 ?_);(refine aa (o:=⟨some 51,_,_,_,_,_⟩) rfl (.agg ((bv z).toArray)) wb (au (o:=⟨some 51,_,_,_,_,_⟩) 34 (.tmp 12) rfl wi.heap.size rfl 34 _ _ wb HBX.out.1 Tryz.underlying34 rfl hszy2) ?_)) | ((with_reducible refine ag 52 ?_);(refine aa (o:=⟨some 52,_,_,_,_,_⟩) rfl (.int .i64 (v:Int)) wb (HVA.out wb ((H9.out.2.1.below HB.out H9.out.2.1.lt).below HBX.out.2 (H9.out.2.1.below HB.out H9.out.2.1.lt).lt) _ _ (.tmp 50) (.tmp 51) rfl rfl rfl) ?_)))
        go_roundw
        case rel=>exact ⟨k+1,by omega,by (rw [HSN.out,← HZ.out.2.2,← HZ.out.2.1];congr 1;omega),by go_num,HB.out.trans (Below.mono HBX.out.2 HB.out.size)⟩
        case measure=>simp [intOf];omega
      ·obtain rfl:k=N:=by omega
       have htk:(az x.2.2.1).take k=az x.2.2.1:=by rw [HCO.out.2,List.take_length]
       obtain ⟨mo,hmo⟩:∃ mo,mo=Dr.maxOf ((az x.2.2.1).map fun c=>(aX dm c).getD 0):=⟨_,rfl⟩
       rw [htk,← hmo]
       have hmo9:(mo:Int)≤1000000:=by have h9:=z8 HI.out.2.1 (az x.2.2.1);omega
       have hds:=yH HI.out.2.1 HXX.out
       rw [← hmo] at hds
       have HDS:=ah hds
       have hm9:=H9.out.2.1.below HB.out H9.out.2.1.lt
       obtain ⟨w10,r1,r2,r3⟩:=bG.update hm9 dy HX.out.2.1 Tryz.underlying99 (mo+1)
       have HU:=ah (And.intro r1 (And.intro r2 r3))
       clear r1 r2 r3 htk hmo hds hm9
       go_wp2_with (first | ((with_reducible refine ag 57 ?_);(refine aa (o:=⟨some 57,_,_,_,_,_⟩) rfl (.agg (bv x.1).toArray) wi (ai (o:=⟨some 57,_,_,_,_,_⟩) 34 (.tmp 56) rfl wo.heap.size (0) rfl (bv x.1) _ wi (fl HX.out.2.1 (H9.out.1.below HB.out H9.out.1.lt)) Tryz.underlying34 rfl hszx) ?_)) | (refine eX (o:=⟨none,_,_,_,_,_⟩) rfl 99 (.tmp 55) (.tmp 57) (.tmp 59) rfl (.map (some dmb)) (.agg (bv x.1).toArray) (evN (mo+1)) rfl rfl rfl HU.out.1 ?_))
       go_roundw
       case rel=>exact ⟨j+1,_,by omega,by go_num,HU.out.2.1,HDS.out,(HU.out.2.2.2.1 _ (by have:=H9.out.2.1.lt;have:=HB6.out;have:=HKC.out;omega)).trans (H9.out.2.2.2.1.below HB.out H9.out.2.2.2.1.lt),(H9.out.2.2.2.2.trans (Below.mono HB.out H9.out.2.2.2.2.size)).grown HU.out.2.2.grown (Nat.le_trans H9.out.2.2.2.2.size HB.out.size) (fun k9 e9=>by have:=Option.some.inj e9;have:=HB6.out;omega)⟩
       case measure=>simp [intOf];omega
    ·obtain rfl:j=m+1:=by omega
     have hfin:(aX dm c).getD 0=Dr.cI (l.map itP) c:=by rw [vx,← HM.out.1];exact (HI.out.2.1 c).1
     have HF:=ah hfin
     clear hfin
     go_wp2_with (first | ((with_reducible refine ag 62 ?_);(refine aa (o:=⟨some 62,_,_,_,_,_⟩) rfl (.agg ((bv c).toArray)) wo (au (o:=⟨some 62,_,_,_,_,_⟩) 34 (.tmp 3) rfl w.heap.size rfl 34 _ _ wo HI.out.2.2.1 Tryz.underlying34 rfl hszc) ?_)) | ((with_reducible refine ag 63 ?_);(refine aa (o:=⟨some 63,_,_,_,_,_⟩) rfl (.int .i64 (((aX dm c).getD 0:Nat):Int)) wo (rE HI.out.1 hc (.tmp 61) (.tmp 62) rfl rfl rfl) ?_)))
     go_ret
     exact ⟨by rw [HE.out,← HF.out];rfl,HI.out.2.2.2⟩
end Go.Proofs.YtomnhnmciopiiaaGreat
end
section
namespace Go.Proofs.YtomnhnmciopiiaaGreat
open Go Go.RowKit Go.Maps
set_option maxRecDepth 100000
theorem sC {H:Type} [DecidableEq H] (l:List (Dr.It H)) (x:Dr.It H) (c:H):Dr.cu (l++[x]) c=Dr.cu l c++(if c∈x.ins then [x.cls] else []):=by
 unfold Dr.cu
 rw [List.filter_append,List.map_append]
 congr 1
 by_cases h:c∈x.ins
 ·simp [h]
 ·simp [h]
theorem oT {H:Type} [DecidableEq H] (l:List (Dr.It H)) (c:H):(Dr.cu l c).length≤l.length:=by
 unfold Dr.cu
 rw [List.length_map]
 exact List.length_filter_le _ _
theorem xP (l:List Itm) (c:Hsh) (j:Nat):(Dr.cu ((l.take j).map itP) c).length≤j:=by
 refine Nat.le_trans (oT _ _) ?_
 rw [List.length_map,List.length_take]
 omega
theorem sM {l:List Itm} {j:Nat} {x:Itm} {c:Hsh} (h:l[j]?=some x):Dr.cu ((l.take (j+1)).map itP) c=Dr.cu ((l.take j).map itP) c++(if c∈az x.2.2.1 then [x.1] else []):=by
 rw [List.take_add_one,h]
 have e:(l.take j++(some x).toList).map itP=(l.take j).map itP++[itP x]:=by simp
 rw [e,sC]
 congr 1
 by_cases hm:c∈az x.2.2.1
 ·rw [if_pos hm,if_pos (show c∈(itP x).ins from hm)]
  rfl
 ·rw [if_neg hm,if_neg (show ¬ c∈(itP x).ins from hm)]
def dX (l:List Itm) (c:Hsh) (j:Nat):List Hsh:=Dr.cu ((l.take j).map itP) c
theorem wy (l:List Itm) (c:Hsh) (j:Nat):(dX l c j).length≤j:=xP l c j
theorem td (l:List Itm) (c:Hsh):dX l c l.length=Dr.cu (l.map itP) c:=by unfold dX;rw [List.take_length]
def gN (x:Itm) (c:Hsh) (k:Nat):List Hsh:=if c∈(az x.2.2.1).take k then [x.1] else []
theorem vm (x:Itm) (c:Hsh):gN x c 0=[]:=by simp [gN]
theorem uF (x:Itm) (c:Hsh) (k:Nat):(gN x c k).length≤1:=by
 unfold gN
 split<;>simp
theorem yt {x:Itm} {c:Hsh}:gN x c (az x.2.2.1).length=if c∈az x.2.2.1 then [x.1] else []:=by
 unfold gN
 rw [List.take_length]
theorem sv {l:List Itm} {j:Nat} {x:Itm} {c:Hsh} (h:l[j]?=some x):dX l c (j+1)=dX l c j++gN x c (az x.2.2.1).length:=by rw [yt];exact sM h
theorem oY:∀ (l:List Nam) (out:List Hsh),out.Nodup→(l.foldl (fun out x=>if x.2.2.2=true∧x.2.2.1 ∉ out then out++[x.2.2.1] else out) out).Nodup
 | [],out,h=>h
 | x :: l,out,h=>by
  refine oY l _ ?_
  dsimp only
  split
  ·rename_i hc
   rw [List.nodup_append]
   exact ⟨h,by simp,fun a ha b hb e=>hc.2 (by rw [List.mem_singleton.1 hb] at e;exact e▸ha)⟩
  ·exact h
theorem ug (l:List Nam):(az l).Nodup:=oY l [] List.nodup_nil
theorem xk {x:Itm} {c z:Hsh} {k:Nat} (hz:(az x.2.2.1)[k]?=some z):if z=c then gN x c k=[]∧gN x c (k+1)=[x.1] else gN x c (k+1)=gN x c k:=by
 have e:(az x.2.2.1).take (k+1)=(az x.2.2.1).take k++[z]:=by rw [List.take_add_one,hz];rfl
 split
 ·rename_i h
  subst h
  have hn:=ug x.2.2.1
  have hnot:z ∉ (az x.2.2.1).take k:=fun hm=>by
   have h2:((az x.2.2.1).take (k+1)).Nodup:=hn.sublist (List.take_sublist _ _)
   rw [e,List.nodup_append] at h2
   exact h2.2.2 z hm z (List.mem_singleton.2 rfl) rfl
  unfold gN
  rw [if_neg hnot,e,if_pos (by simp)]
  exact ⟨rfl,rfl⟩
 ·rename_i h
  unfold gN
  rw [e]
  have h':¬ c=z:=fun e=>h e.symm
  simp [h']
set_option maxHeartbeats 8000000 in
theorem wZ (w:World) (l:List Itm) (A:Option Addr) (cap:Nat) (h:bz.At w w.heap.size [.slice A l.length cap] l) (hl:∀ x∈l,x.2.2.1.length≤1000000) (hlen:l.length≤1000000) (c:Hsh) (hc:okH c) :
  Calls Tryz.prog 41 #[.slice A l.length cap,.agg (bv c).toArray] w fun e w'=>∃ u,e=.returned u∧w'.ownsRow w.heap.size 34 20 u (Dr.cu (l.map itP) c).length ((Dr.cu (l.map itP) c).flatMap bv)∧Below w.heap.size w w':=by
 obtain ⟨ih,hih,hq0,hq1,hq2⟩:=info_parts dJ
 have HJ:=ah (And.intro hih (And.intro hq0 (And.intro hq1 hq2)))
 clear hih hq0 hq1 hq2
 obtain ⟨A',cap',e,hcl,hcm9,_,hA⟩:=ak h
 injection e with e1 e2 e3
 subst e1 e3
 have k9:(l.length:Int)≤9223372036854775807:=by omega
 have hszc:=eR hc
 have HA:=ah hA
 clear hA hcl hcm9 e2
 go_enter Tryz.func41,Tryz.ntmps41
 go_wp2_with (first | ((with_reducible refine ag 3 ?_);(refine ay (o:=⟨some 3,_,_,_,_,_⟩) rfl 34 (.tmp 1) rfl (bv c).toArray rfl ?_);intro w1 hn;have H1:=ah hn;clear hn;simp only [Act.put,List.setIfInBounds_toArray,List.set_cons_zero,List.set_cons_succ]))
 go_loopw [4,11] (fun x4 x11 wr=>∃ (j:Nat) (u:Value),j≤l.length∧u=x4∧x11=.int .i64 (j:Int)∧Blk wr w.heap.size 34 (bv c).toArray∧wr.ownsRow w1.heap.size 34 20 u (dX l c j).length ((dX l c j).flatMap bv)∧Below w.heap.size w wr) (fun _ x11 _=>l.length-(intOf x11).toNat)
 case atStart=>exact ⟨0,_,by omega,rfl,rfl,H1.out.blk,World.ownsRow_nil _ _ _ _,H1.out.below⟩
 case round =>
  obtain ⟨wo,rfl⟩:∃ wo,wo=wr:=⟨_,rfl⟩
  obtain ⟨j,x4,hj,rfl,rfl,hk,hown,hbw⟩:=hrel
  have HI:=ah (And.intro hk (And.intro hown hbw))
  clear hk hown hbw
  have j0:(0:Int)≤(j:Int):=by omega
  by_cases hj2:j<l.length
  ·have j1:(j:Int)<(l.length:Int):=by omega
   obtain ⟨x,hx⟩:∃ x,l[j]?=some x:=⟨_,List.getElem?_eq_getElem hj2⟩
   obtain ⟨b,off,rfl,hlb,hE⟩:=HA.out (by omega)
   obtain ⟨cs,hr,hatx⟩:=hE j x hx
   obtain ⟨q1,q2,rfl,hxo,hxd⟩:=bT.1 hatx
   obtain ⟨B1,k1,rfl,_⟩:=ak hxd.ins
   obtain ⟨B2,k2,rfl,_⟩:=ak hxd.rcp
   obtain ⟨q1,hq1⟩:∃ q1,q1=Value.slice B1 x.2.2.1.length k1:=⟨_,rfl⟩
   obtain ⟨q2,hq2⟩:∃ q2,q2=Value.slice B2 x.2.2.2.length k2:=⟨_,rfl⟩
   have hone1:q1.oneCell'=true∧q2.oneCell'=true:=by rw [hq1,hq2];exact ⟨rfl,rfl⟩
   rw [← hq1,← hq2] at hr hatx
   rw [← hq1,← hq2] at hxd
   have hbnd:=hl x (List.mem_of_getElem? hx)
   have HX:=ah (And.intro (a8 hr (HI.out.2.2.block b (by omega))) (And.intro hxo hxd))
   have HXX:=ah hx
   have hszt2:(Tryz.prog.info? 59).map (·.size)=some (tC x q1 q2).toArray.size:=by rw [show (tC x q1 q2).toArray.size=23 by rw [List.size_toArray];exact dA hxo];kernel_rfl
   have hszt:(Tryz.prog.info? 59).map (·.size)=some (tC x q1 q2).length:=by simpa using hszt2
   have hszzt:zcT.size=(tC x q1 q2).toArray.size:=by rw [show (tC x q1 q2).toArray.size=23 by rw [List.size_toArray];exact dA hxo];kernel_rfl
   have honet:(tC x q1 q2).toArray.all (·.oneCell')=true:=all_oneCell_toArray (jh x hone1.1 hone1.2)
   have hszx:(Tryz.prog.info? 34).map (·.size)=some (bv x.1).length:=by have:=eR hxo;simpa using this
   have hszx2:=eR hxo
   clear hx hE hr hatx hxd hq1 hq2
   go_wp2_with (first | ((with_reducible refine ag 13 ?_);(refine aa (o:=⟨some 13,_,_,_,_,_⟩) rfl (.pointer (some ⟨b,off+(j:Int).toNat*23,none⟩)) wo (aJ (o:=⟨some 13,_,_,_,_,_⟩) 22 59 (.tmp 9) (.tmp 11) rfl b off l.length cap (j:Int) .i64 rfl rfl ⟨j0,j1⟩ 23 Tryz.underlying22 cP wo) ?_;rw [show off+(j:Int).toNat*23=off+j*23 by omega])) | ((with_reducible refine ag 14 ?_);(refine aa (o:=⟨some 14,_,_,_,_,_⟩) rfl (.agg (tC x q1 q2).toArray) wo (ai (o:=⟨some 14,_,_,_,_,_⟩) 59 (.tmp 13) rfl b (off+j*23) rfl (tC x q1 q2) _ wo HX.out.1 Tryz.underlying59 rfl hszt) ?_)) | ((with_reducible refine ag 6 ?_);((with_reducible refine bn (o1:=⟨some 6,_,_,_,_,_⟩) (o2:=⟨none,_,_,_,_,_⟩) rfl rfl 59 (.tmp 6) (.tmp 14) ?_ zcT (tC x q1 q2).toArray ?_ hszt2 ?_ honet ?_ ?_ ?_);rfl;kernel_rfl;exact hszzt;rfl;rfl;intro w8 hmm hbb;have H8:=ah (And.intro hmm hbb);clear hmm hbb;simp only [Act.put,List.setIfInBounds_toArray,List.set_cons_zero,List.set_cons_succ])) | ((with_reducible refine ag 16 ?_);(refine aa (o:=⟨some 16,_,_,_,_,_⟩) rfl (.agg (dC x.2 q1 q2).toArray) w8 (ai (o:=⟨some 16,_,_,_,_,_⟩) 26 (.tmp 15) rfl wo.heap.size (20) rfl (dC x.2 q1 q2) _ w8 (fN HX.out.2.1 H8.out.1) Tryz.underlying26 rfl (by kernel_rfl)) ?_)))
   have hat8:aO w8 w8.heap.size x.2 q1 q2:=HX.out.2.2.gF (HI.out.2.2.trans (Below.mono H8.out.2 HI.out.2.2.size))
   have hcok:=lN hat8.okn
   refine (ey w8 x.2 q1 q2 hat8 hbnd).mono ?_
   rintro e w9 ⟨uc,rfl,hoc,hb⟩
   obtain ⟨Ac,cc,rfl⟩:=hJ hoc
   dsimp only
   have h9:=H8.out.2.trans (Below.mono hb H8.out.2.size)
   obtain ⟨N,hN⟩:∃ N,N=(az x.2.2.1).length:=⟨_,rfl⟩
   rw [← hN] at hoc ⊢
   have hN9:(N:Int)≤1000000:=by have:=ef x.2.2.1 x.2.2.1.length;rw [List.take_length] at this;omega
   have H9:=ah (And.intro (H8.out.1.below hb H8.out.1.lt) (And.intro (ao HI.out.2.1 fun g _ hl9=>h9.block g hl9) (And.intro hoc (And.intro (HI.out.1.below h9 HI.out.1.lt) (HI.out.2.2.trans (Below.mono h9 HI.out.2.2.size))))))
   have HCO:=ah (And.intro hcok hN)
   have hol:(dX l c j).length≤j:=wy l c j
   have HZ9:=ah (And.intro H8.out.1.lt (And.intro HI.out.2.2.size hb.size))
   have HZ1:=ah (And.intro (show w1.heap.size≤w8.heap.size from by have:=H1.out.size;have:=HI.out.1.lt;have:=H8.out.1.lt;omega) (show w1.heap.size≤wo.heap.size from by have:=H1.out.size;have:=HI.out.1.lt;omega))
   clear hb h9 hoc hcok hN hat8
   go_wp2_with fail
   go_loopw [4,19] (fun x4 x19 wr=>∃ (k:Nat) (u:Value),k≤N∧u=x4∧x19=.int .i64 (k:Int)∧Blk wr wo.heap.size 59 (tC x q1 q2).toArray∧Blk wr w.heap.size 34 (bv c).toArray∧wr.ownsRow w8.heap.size 34 20 (.slice Ac N cc) N ((az x.2.2.1).flatMap bv)∧wr.ownsRow w1.heap.size 34 20 u ((dX l c j)++gN x c k).length (((dX l c j)++gN x c k).flatMap bv)∧(∀ g,u.ownBlock=some g→g<w8.heap.size∨w9.heap.size≤g)∧Below w.heap.size w wr∧w9.heap.size≤wr.heap.size) (fun _ x19 _=>N-(intOf x19).toNat)
   case atStart=>exact ⟨0,x4,by omega,rfl,rfl,H9.out.1,H9.out.2.2.2.1,H9.out.2.2.1,by rw [vm,List.append_nil];exact H9.out.2.1,(fun g hg=>.inl (Nat.lt_of_lt_of_le (aD HI.out.2.1 hg).2 H8.out.2.size)),H9.out.2.2.2.2,Nat.le_refl _⟩
   case round =>
    obtain ⟨wi,rfl⟩:∃ wi,wi=wr:=⟨_,rfl⟩
    obtain ⟨k,u4,hk,rfl,rfl,hbi,hbc,hoc,hou,hub,hbw,hsz9⟩:=hrel
    have HB:=ah (And.intro hbi (And.intro hbc (And.intro hoc (And.intro hou (And.intro hub (And.intro hbw hsz9))))))
    clear hbi hbc hoc hou hub hbw hsz9
    have k0:(0:Int)≤(k:Int):=by omega
    by_cases hk2:k<N
    ·have k1:(k:Int)<(N:Int):=by omega
     obtain ⟨z,hz⟩:∃ z,(az x.2.2.1)[k]?=some z:=⟨_,List.getElem?_eq_getElem (by rw [← HCO.out.2];exact hk2)⟩
     have hzo:=HCO.out.1 z (List.mem_of_getElem? hz)
     obtain ⟨g5,cap5,he5⟩:=du HB.out.2.2.1 (by omega)
     injection he5 with e51 _ e53
     subst e51 e53
     have hrz:wi.rangeAt g5 (k*20) (bv z):=gM HB.out.2.2.1 (k*20) 20 _ (lQ HCO.out.1 hz)
     have HRZ:=ah hrz
     have hszy2:=eR hzo
     have hszy:(Tryz.prog.info? 34).map (·.size)=some (bv z).length:=by simpa using hszy2
     have hszz:zcH.size=(bv z).toArray.size:=by rw [show (bv z).toArray.size=20 by rw [List.size_toArray,bvL];exact hzo];kernel_rfl
     have hone:(bv z).toArray.all (·.oneCell')=true:=all_oneCell_toArray (bv1 z)
     have hads:=xk (c:=c) hz
     have HADS:=ah hads
     have HZO:=ah (And.intro hzo hz)
     clear hz hzo hrz hads
     by_cases hzc:z=c
     ·have hd:=decide_eq_true hzc
      have HD:=ah hd
      rw [if_pos hzc] at HADS
      clear hd hzc
      have hhc:=HX.out.2.1
      go_wp2_with (first | ((with_reducible refine ag 21 ?_);(refine aa (o:=⟨some 21,_,_,_,_,_⟩) rfl (.pointer (some ⟨g5,k*20,none⟩)) wi (gV 27 34 (.tmp 17) (.tmp 19) rfl g5 N cc k rfl rfl hk2 20 Tryz.underlying27 ej wi) ?_)) | ((with_reducible refine ag 22 ?_);(refine aa (o:=⟨some 22,_,_,_,_,_⟩) rfl (.agg (bv z).toArray) wi (ai (o:=⟨some 22,_,_,_,_,_⟩) 34 (.tmp 21) rfl g5 (k*20) rfl (bv z) _ wi HRZ.out Tryz.underlying34 rfl hszy) ?_)) | ((with_reducible refine ag 8 ?_);((with_reducible refine bn (o1:=⟨some 8,_,_,_,_,_⟩) (o2:=⟨none,_,_,_,_,_⟩) rfl rfl 34 (.tmp 8) (.tmp 22) ?_ zcH (bv z).toArray ?_ hszy2 ?_ hone ?_ ?_ ?_);rfl;kernel_rfl;exact hszz;rfl;rfl;intro wb hmm hbb;have HBX:=ah (And.intro hmm hbb);clear hmm hbb;simp only [Act.put,List.setIfInBounds_toArray,List.set_cons_zero,List.set_cons_succ])) | ((with_reducible refine ag 23 ?_);(refine aa (o:=⟨some 23,_,_,_,_,_⟩) rfl (.agg ((bv z).toArray)) wb (au (o:=⟨some 23,_,_,_,_,_⟩) 34 (.tmp 8) rfl wi.heap.size rfl 34 _ _ wb HBX.out.1 Tryz.underlying34 rfl hszy2) ?_)) | ((with_reducible refine ag 24 ?_);(refine aa (o:=⟨some 24,_,_,_,_,_⟩) rfl (.agg ((bv c).toArray)) wb (au (o:=⟨some 24,_,_,_,_,_⟩) 34 (.tmp 3) rfl w.heap.size rfl 34 _ _ wb (HB.out.2.1.below HBX.out.2 HB.out.2.1.lt) Tryz.underlying34 rfl hszc) ?_)) | ((with_reducible refine ag 25 ?_);(refine aa (o:=⟨some 25,_,_,_,_,_⟩) rfl (.bool true) wb (bU (o:=⟨some 25,_,_,_,_,_⟩) .eql 34 (.tmp 23) (.tmp 24) _ rfl (bv z).toArray (bv c).toArray rfl rfl (by kernel_rfl) _ (fun W=>by have h:=dQ z c HZO.out.1 hc W;rw [HD.out] at h;exact h) wb) ?_)) | ((with_reducible refine ag 28 ?_);(refine aa (o:=⟨some 28,_,_,_,_,_⟩) rfl (.agg (bv x.1).toArray) wb (ai (o:=⟨some 28,_,_,_,_,_⟩) 34 (.tmp 27) rfl wo.heap.size (0) rfl (bv x.1) _ wb (fl HX.out.2.1 (HB.out.1.below HBX.out.2 HB.out.1.lt)) Tryz.underlying34 rfl hszx) ?_)) | ((with_reducible refine ag 29 ?_);(refine aL (o:=⟨some 29,_,_,_,_,_⟩) rfl 27 (.tmp 28) rfl 34 20 (.agg zcH) (.agg (bv x.1).toArray) rfl Tryz.underlying27 ej (by decide) (by decide) (fun w=>by kernel_rfl) (by rw [Value.cells,List.size_toArray,bvL];exact hhc) ?_);intro wc hn;have HC:=ah (And.intro (hn.src (cs:=bv x.1) (n:=20) (by rw [bvL];exact hxo) (bv1 x.1)) (And.intro (ao HB.out.2.2.2.1 fun g _ hl9=>(HBX.out.2.trans (Below.mono hn.below HBX.out.2.size)).block g hl9) (HBX.out.2.trans (Below.mono hn.below HBX.out.2.size))));clear hn;simp only [Act.put,List.setIfInBounds_toArray,List.set_cons_zero,List.set_cons_succ]) | (at_builtin;((with_reducible refine ag 30 ?_);refine aH (o:=⟨some 30,_,_,_,_,_⟩) rfl _ _ 27 rfl w1.heap.size 34 ih _ 20 20 Tryz.underlying27 HJ.out.1 HJ.out.2.1 HJ.out.2.2.1 HJ.out.2.2.2 rfl (by decide) _ (((dX l c j)++gN x c k).length) (((dX l c j)++gN x c k).flatMap bv) HC.out.2.1 (some ⟨wb.heap.size,0,none⟩) 1 1 (bv x.1) HC.out.1 ?hm1 ?hb1 ?hz1 rfl rfl ?_)))
      case hm1=>have:=uF x c k;(try rw [List.length_append]);simp only [maxLen];omega
      case hb1=>have:=uF x c k;(try rw [List.length_append]);omega
      case hz1=>have:=HB.out.2.2.2.2.2.2;have:=HZ9.out.2.2;have:=HZ9.out.1;have:=HC.out.2.2.size;have:=HZ1.out;omega
      intro u9 wd own9 gr9 hub9
      have h9:wd.ownsRow w1.heap.size 34 20 u9 ((dX l c j)++gN x c (k+1)).length (((dX l c j)++gN x c (k+1)).flatMap bv):=by rw [HADS.out.2];have e:=HADS.out.1;rw [e] at own9;simpa using own9
      have hwo:w1.heap.size≤wo.heap.size:=HZ1.out.2
      have hbi9:=HB.out.1.below HC.out.2.2 HB.out.1.lt
      have hbc9:=HB.out.2.1.below HC.out.2.2 HB.out.2.1.lt
      have hoc9:=ao HB.out.2.2.1 fun g _ hl9=>HC.out.2.2.block g hl9
      have r1:Blk wd wo.heap.size 59 (tC x q1 q2).toArray:=(gr9.block _ hbi9.lt (fun e=>ew HC.out.2.1 hbi9 (by decide) e.symm)).trans hbi9
      have r2:Blk wd w.heap.size 34 (bv c).toArray:=(gr9.block _ hbc9.lt (fun e=>by have:=(aD HC.out.2.1 e.symm).1;have:=H1.out.size;omega)).trans hbc9
      have r3:=ao hoc9 fun g hg hl9=>gr9.block g hl9 (fun e=>by have h1:=aD H9.out.2.2.1 hg;rcases HB.out.2.2.2.2.1 g e.symm with h2 | h2<;>omega)
      have r4:∀ g,u9.ownBlock=some g→g<w8.heap.size∨w9.heap.size≤g:=fun g hg=>by
       rcases hub9 with h1 | h1
       ·exact HB.out.2.2.2.2.1 g (by rw [← h1];exact hg)
       ·rw [h1] at hg
        have:=Option.some.inj hg
        have h2:=HB.out.2.2.2.2.2.2
        have h3:=HC.out.2.2.size
        have h4:=HBX.out.2.size
        exact .inr (by omega)
      have r5:Below w.heap.size w wd:=(HB.out.2.2.2.2.2.1.trans (Below.mono HC.out.2.2 HB.out.2.2.2.2.2.1.size)).grown gr9 (Nat.le_trans HB.out.2.2.2.2.2.1.size HC.out.2.2.size) (fun k9 hk9=>by have:=(aD HC.out.2.1 hk9).1;have:=H1.out.size;omega)
      have r6:w9.heap.size≤wd.heap.size:=Nat.le_trans HB.out.2.2.2.2.2.2 (Nat.le_trans HC.out.2.2.size gr9.size)
      have HG:=ah (And.intro r1 (And.intro r2 (And.intro r3 (And.intro h9 (And.intro r4 (And.intro r5 r6))))))
      clear own9 gr9 h9 hub9 r1 r2 r3 r4 r5 r6 hbi9 hbc9 hoc9
      go_wp2_with fail
      go_roundw
      case rel=>exact ⟨k+1,u9,by omega,rfl,by go_num,HG.out⟩
      case measure=>simp [intOf];omega
     ·have hd:=decide_eq_false hzc
      have HD:=ah hd
      rw [if_neg hzc] at HADS
      clear hd hzc
      go_wp2_with (first | ((with_reducible refine ag 21 ?_);(refine aa (o:=⟨some 21,_,_,_,_,_⟩) rfl (.pointer (some ⟨g5,k*20,none⟩)) wi (gV 27 34 (.tmp 17) (.tmp 19) rfl g5 N cc k rfl rfl hk2 20 Tryz.underlying27 ej wi) ?_)) | ((with_reducible refine ag 22 ?_);(refine aa (o:=⟨some 22,_,_,_,_,_⟩) rfl (.agg (bv z).toArray) wi (ai (o:=⟨some 22,_,_,_,_,_⟩) 34 (.tmp 21) rfl g5 (k*20) rfl (bv z) _ wi HRZ.out Tryz.underlying34 rfl hszy) ?_)) | ((with_reducible refine ag 8 ?_);((with_reducible refine bn (o1:=⟨some 8,_,_,_,_,_⟩) (o2:=⟨none,_,_,_,_,_⟩) rfl rfl 34 (.tmp 8) (.tmp 22) ?_ zcH (bv z).toArray ?_ hszy2 ?_ hone ?_ ?_ ?_);rfl;kernel_rfl;exact hszz;rfl;rfl;intro wb hmm hbb;have HBX:=ah (And.intro hmm hbb);clear hmm hbb;simp only [Act.put,List.setIfInBounds_toArray,List.set_cons_zero,List.set_cons_succ])) | ((with_reducible refine ag 23 ?_);(refine aa (o:=⟨some 23,_,_,_,_,_⟩) rfl (.agg ((bv z).toArray)) wb (au (o:=⟨some 23,_,_,_,_,_⟩) 34 (.tmp 8) rfl wi.heap.size rfl 34 _ _ wb HBX.out.1 Tryz.underlying34 rfl hszy2) ?_)) | ((with_reducible refine ag 24 ?_);(refine aa (o:=⟨some 24,_,_,_,_,_⟩) rfl (.agg ((bv c).toArray)) wb (au (o:=⟨some 24,_,_,_,_,_⟩) 34 (.tmp 3) rfl w.heap.size rfl 34 _ _ wb (HB.out.2.1.below HBX.out.2 HB.out.2.1.lt) Tryz.underlying34 rfl hszc) ?_)) | ((with_reducible refine ag 25 ?_);(refine aa (o:=⟨some 25,_,_,_,_,_⟩) rfl (.bool false) wb (bU (o:=⟨some 25,_,_,_,_,_⟩) .eql 34 (.tmp 23) (.tmp 24) _ rfl (bv z).toArray (bv c).toArray rfl rfl (by kernel_rfl) _ (fun W=>by have h:=dQ z c HZO.out.1 hc W;rw [HD.out] at h;exact h) wb) ?_)))
      go_roundw
      case rel=>exact ⟨k+1,u4,by omega,rfl,by go_num,HB.out.1.below HBX.out.2 HB.out.1.lt,HB.out.2.1.below HBX.out.2 HB.out.2.1.lt,ao HB.out.2.2.1 (fun g _ hl9=>HBX.out.2.block g hl9),by rw [HADS.out];exact ao HB.out.2.2.2.1 (fun g _ hl9=>HBX.out.2.block g hl9),HB.out.2.2.2.2.1,HB.out.2.2.2.2.2.1.trans (Below.mono HBX.out.2 HB.out.2.2.2.2.2.1.size),Nat.le_trans HB.out.2.2.2.2.2.2 HBX.out.2.size⟩
      case measure=>simp [intOf];omega
    ·obtain rfl:k=N:=by omega
     have hfin:(dX l c (j+1))=(dX l c j)++gN x c k:=by rw [HCO.out.2];exact sv HXX.out
     have HF:=ah hfin
     clear hfin
     go_wp2_with fail
     go_roundw
     case rel=>exact ⟨j+1,u4,by omega,rfl,by go_num,HB.out.2.1,by rw [HF.out];exact HB.out.2.2.2.1,HB.out.2.2.2.2.2.1⟩
     case measure=>simp [intOf];omega
  ·obtain rfl:j=l.length:=by omega
   have ho:=HI.out.2.1
   rw [td] at ho
   have HO:=ah ho
   clear ho
   go_wp2_with fail
   go_ret
   exact ⟨_,rfl,bS HO.out (fun g hg=>by have:=(aD HO.out hg).1;have:=H1.out.size;omega),HI.out.2.2⟩
end Go.Proofs.YtomnhnmciopiiaaGreat
end
section
namespace Go.Proofs.YtomnhnmciopiiaaGreat
open Go Go.RowKit Go.WideShapes Go.ChangeShapes
theorem jK {H:Type} {P:Program} {e:TypeId}:∀ {l:List (DataW H)} {d:DataW H},d∈l→∀ n∈d.weights P e,n∈DataW.weightsAll P e l
 | [],_,h,_,_=>by cases h
 | x :: l,d,h,n,hn=>by
  rw [DataW.weightsAll,List.mem_append]
  rcases List.mem_cons.1 h with rfl | h
  ·exact .inl hn
  ·exact .inr (jK h n hn)
structure Lay.fy {α:Type} (L:Lay α) (P:Program) (M:Nat) (sm:α→Prop):Prop where
 cells:P.cellsOf L.t=L.n
 op:∀ {H:Type} {enc:TypeId×Value→H} {w:World} {sp:Nat→Bool} {hd:Bool} {fuel:Nat} {cs:List Value} {y:DataW H×List MemPlace},DataW.trod enc P w 0 sp hd fuel L.t cs=some y→∃ x,L.At w w.heap.size cs x∧((∀ n∈y.1.weights P L.t,n≤M)→sm x)
structure iN.fy {α:Type} (F:iN α) (P:Program) (M:Nat) (sm:α→Prop):Prop where
 op:∀ {H:Type} {enc:TypeId×Value→H} {w:World} {sp:Nat→Bool} {hd:Bool} {fuel:Nat} {cs:List Value} {off:Nat},cs.length=off+F.n→∀ ys:List (DataW H×List MemPlace),ys.length=(F.shape off).length →
  (∀ (i:Nat) p,(F.shape off)[i]?=some p→DataW.trod enc P w 0 sp hd fuel p.1 ((cs.drop p.2).take (P.cellsOf p.1))=ys[i]?)→∃ x,F.At w w.heap.size (cs.drop off) x∧((∀ n∈DataW.weightsEach P ((F.shape off).map (·.1)) (ys.map (·.1)),n≤M)→sm x)
theorem Lay.dP.w {α:Type} {L:Lay α} {P:Program} (h:L.dP P) (M:Nat):L.fy P M fun _=>True where
 cells:=h.cells
 op:=fun hy=>by
  obtain ⟨x,hx⟩:=h.op hy
  exact ⟨x,hx,fun _=>trivial⟩
theorem fV {P:Program} {M:Nat}:iN.nil.fy P M fun _=>True where
 op:=fun {H enc w sp hd fuel cs off} h _ _ _=>⟨(),by
  have h:cs.length=off+0:=h
  show cs.drop off=[]
  rw [List.drop_eq_nil_iff]
  omega,fun _=>trivial⟩
theorem ch {P:Program} {M:Nat} {α β:Type} {L:Lay α} {F:iN β} {s1:α→Prop} {s2:β→Prop} (hL:L.fy P M s1) (hF:F.fy P M s2):(iN.cons L F).fy P M fun x=>s1 x.1∧s2 x.2 where
 op:=fun {H enc w sp hd fuel cs off} hl ys hys h=>by
  have hl:cs.length=off+(L.n+F.n):=hl
  have hys:ys.length=(F.shape (off+L.n)).length+1:=hys
  match ys,hys with
  | y :: ys,hys =>
   have h0:=h 0 (L.t,off) rfl
   obtain ⟨x1,h1,k1⟩:=hL.op h0
   obtain ⟨x2,h2,k2⟩:=hF.op (off:=off+L.n) (cs:=cs) (by omega) ys (by simpa using hys) (fun i p hp=>by
    have:=h (i+1) p (by rw [← hp];rfl)
    simpa using this)
   refine ⟨(x1,x2),⟨_,_,?_,h1,h2⟩,fun hw=>?_⟩
   ·rw [hL.cells,← List.drop_drop,List.take_append_drop]
   ·have hw:∀ n∈y.1.weights P L.t++DataW.weightsEach P ((F.shape (off+L.n)).map (·.1)) (ys.map (·.1)),n≤M:=hw
    exact ⟨k1 fun n hn=>hw n (List.mem_append_left _ hn),k2 fun n hn=>hw n (List.mem_append_right _ hn)⟩
theorem ee {P:Program} {M:Nat} {γ β:Type} {t:TypeId} {F:iN β} {f:γ→β} {fs:Array Field} {s:β→Prop} (mk:β→γ) (hmk:∀ b,f (mk b)=b) (hF:F.fy P M s) (ht:P.underlying t=some (.struct fs)) (hc:P.cellsOf t=F.n)
  (hs:fs.toList.map (fun g=>(g.type,g.offset))=F.shape 0):(Lay.struct t F f).fy P M fun x=>s (f x) where
 cells:=hc
 op:=fun {H enc w sp hd fuel cs y} h=>by
  obtain ⟨xs,n,_,hy,hl,hxl,hel⟩:=DataW.trod_struct ht h
  have hsl:(F.shape 0).length=fs.size:=by rw [← hs];simp
  obtain ⟨b,hb,hk⟩:=hF.op (H:=H) (enc:=enc) (w:=w) (sp:=sp) (hd:=hd) (fuel:=n) (cs:=cs) (off:=0) (by omega) xs (by omega) (fun i p hp=>by
   rw [← hs,List.getElem?_map] at hp
   cases e:fs.toList[i]? with
   | none=>rw [e] at hp;cases hp
   | some g =>
    rw [e] at hp
    injection hp with hp
    subst hp
    exact hel i g (by simpa using e))
  refine ⟨mk b,?_,fun hw=>?_⟩
  ·show F.At w w.heap.size cs (f (mk b))
   rw [hmk]
   simpa using hb
  ·rw [hmk]
   refine hk fun m hm=>hw m ?_
   rw [hy]
   show m∈DataW.weights P t (.agg (xs.map (·.1)))
   simp only [DataW.weights,ht]
   have e:fs.toList.map (·.type)=(F.shape 0).map (·.1):=by
    rw [← hs,List.map_map]
    rfl
   rw [e]
   exact hm
theorem im {P:Program} {M:Nat} {α:Type} {t:TypeId} {L:Lay α} {s:α→Prop} (hL:L.fy P M s) (hn:0<L.n) (ht:P.underlying t=some (.slice L.t)) (hc:P.cellsOf t=1):(Lay.slice t L).fy P M fun l=>l.length*P.bytesOf L.t≤M∧∀ x∈l,s x where
 cells:=hc
 op:=fun {H enc w sp hd fuel cs y} h=>by
  rcases Go.Deep.open_slice ht h with ⟨rfl,_⟩ | ⟨a,len,cap,m,n,D,Pl,rfl,_,hl,hm,hmm,hy,hi⟩
  ·exact ⟨[],⟨none,0,rfl,Nat.le_refl _,Nat.zero_le _,fun _=>rfl,fun h=>absurd h (by simp)⟩,fun _=>⟨by simp,fun x hx=>by cases hx⟩⟩
  ·rw [hL.cells] at hi
   have hml:len≤m:=by rw [hmm];split<;>omega
   have hw1:(∀ k∈y.1.weights P t,k≤M)→len*P.bytesOf L.t≤M∧∀ i,i<len→∀ k∈(D i).weights P L.t,k≤M:=by
    intro hw
    rw [hy] at hw
    simp only [DataW.weights,ht] at hw
    have h1:=hw _ (List.mem_cons_self ..)
    simp only [List.length_map,List.length_range] at h1
    refine ⟨Nat.le_trans (Nat.mul_le_mul_right _ (by omega)) h1,fun i hi k hk=>hw k (List.mem_cons_of_mem _ (List.mem_append_left _ (jK (d:=D i) ?_ k hk)))⟩
    exact List.mem_map.2 ⟨i,List.mem_range.2 hi,rfl⟩
   have hel:∀ i,i<len→∃ (x:α) (cs:List Value),cs.length=L.n∧(∀ k,k<L.n→w.cell? ((a.add (i*L.n)).add k)=cs[k]?)∧L.At w w.heap.size cs x∧((∀ k∈(D i).weights P L.t,k≤M)→s x):=by
    intro i hil
    obtain ⟨cs',hc',htr⟩:=hi i (by omega)
    obtain ⟨_,hcl,hat⟩:=World.cells?_some hc'
    obtain ⟨x,hx,hk⟩:=hL.op htr
    exact ⟨x,cs',hcl,hat,hx,hk⟩
   rcases Nat.eq_zero_or_pos len with rfl | hpos
   ·exact ⟨[],⟨some a,cap,rfl,Nat.zero_le _,hm,(fun h=>by cases h),fun h=>absurd h (by simp)⟩,fun _=>⟨by simp,fun x hx=>by cases hx⟩⟩
   obtain ⟨x0,_⟩:=hel 0 hpos
   obtain ⟨f,hf⟩:∃ f:Nat→α,∀ i,i<len→∃ cs:List Value,cs.length=L.n∧(∀ k,k<L.n→w.cell? ((a.add (i*L.n)).add k)=cs[k]?)∧L.At w w.heap.size cs (f i)∧((∀ k∈(D i).weights P L.t,k≤M)→s (f i)) :=
    ⟨fun i=>if h:i<len then Classical.choose (hel i h) else x0,fun i h=>by simp only [dif_pos h];exact Classical.choose_spec (hel i h)⟩
   clear hel
   have hll:((List.range len).map f).length=len:=by simp
   refine ⟨(List.range len).map f,⟨some a,cap,by rw [hll],by omega,hm,(fun h=>by cases h),fun _=>?_⟩,fun hw=>⟨by rw [hll];exact (hw1 hw).1,fun x hx=>?_⟩⟩
   ·obtain ⟨c0,q0,q1,_⟩:=hf 0 hpos
    have hcell:=q1 0 hn
    rw [List.getElem?_eq_getElem (by omega)] at hcell
    obtain ⟨b,off,sp'⟩:=a
    cases sp' with
    | some q =>
     have h2:w.cell? ⟨b,off,some q⟩=some c0[0]:=by simpa [Addr.add] using hcell
     rw [pF] at h2
     cases h2
    | none =>
     have h2:w.cell? ⟨b,off,none⟩=some c0[0]:=by simpa [Addr.add] using hcell
     refine ⟨b,off,rfl,World.block_lt_of_cell? w _ h2,fun j x hj=>?_⟩
     obtain ⟨hj1,hj2⟩:=List.getElem?_eq_some_iff.1 hj
     rw [hll] at hj1
     have hj3:f j=x:=by simpa using hj2
     obtain ⟨cs,k1,k2,k3,_⟩:=hf j hj1
     rw [hj3] at k3
     refine ⟨cs,fun k v hk=>?_,k3⟩
     have hkn:k<L.n:=by
      have:=(List.getElem?_eq_some_iff.1 hk).1
      omega
     have:=k2 k hkn
     rw [add_plain,add_plain,hk] at this
     exact this
   ·obtain ⟨i,hi2,rfl⟩:=List.mem_map.1 hx
    have hil:=List.mem_range.1 hi2
    obtain ⟨_,_,_,_,k4⟩:=hf i hil
    exact k4 ((hw1 hw).2 i hil)
end Go.Proofs.YtomnhnmciopiiaaGreat
end
