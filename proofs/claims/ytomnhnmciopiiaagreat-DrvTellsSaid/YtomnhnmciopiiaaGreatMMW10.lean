/- Part 10 of the texts of one proof. -/
import Derived.Test.YtomnhnmciopiiaaGreatMMW9
section
namespace Go.Proofs.YtomnhnmciopiiaaGreat
open Go Go.RowKit Go.Maps
set_option maxRecDepth 100000
attribute [local irreducible] wpList
def eC (b n d:Value):List Value:=[.slice none 0 0,.slice none 0 0,.slice none 0 0,.slice none 0 0,.slice none 0 0,b,.slice none 0 0,.slice none 0 0,.slice none 0 0,.slice none 0 0,.slice none 0 0,.slice none 0 0,.slice none 0 0,.slice none 0 0,.slice none 0 0,n,d,.slice none 0 0,.slice none 0 0,.slice none 0 0,.slice none 0 0]
theorem cL {w:World} {g:Nat} {b n d:Value} (i:Nat) (v:Value) (hv:(eC b n d)[i]?=some v) (h:w.rangeAt g 0 (eC b n d)):w.rangeAt g i [v]:=fun j u hu=>by
 cases j with
 | zero =>
  have h1:=h i v hv
  injection hu with hu
  rw [← hu]
  rwa [Nat.zero_add] at h1
 | succ j=>simp at hu
theorem Bd:(Tryz.prog.info? 24).map (fun i=>(i.zero,i.size,i.bytes))=some (some (.slice none 0 0),1,24):=by kernel_rfl
theorem BT:(Tryz.prog.info? 23).map (fun i=>(i.zero,i.size,i.bytes))=some (some (.slice none 0 0),1,24):=by kernel_rfl
theorem BP:(Tryz.prog.info? 53).map (fun i=>(i.zero,i.size,i.bytes))=some (some (.slice none 0 0),1,24):=by kernel_rfl
def b7 (B:Nat) (t:TypeId) (A:Option Addr) (c:Nat) (l:List Value):Ent:=aw B t 1 (.slice A l.length c) l.length (l.flatMap vb)
def ig (x:Value):Prop:=∃ A n c,x=.slice A n c
set_option maxHeartbeats 4000000 in
theorem oq (w0 w:World) (R:Ent) (g:Nat) (l:List Value) (A1:Option Addr) (c1:Nat) (ub ud x:Value) (hx1:ig x) (hl:l.length≤100000000) (hm:Mem w0 w [cC g 125 (eC ub (.slice A1 l.length c1) ud).toArray,b7 w0.heap.size 23 A1 c1 l,R]) :
  Calls Tryz.prog 136 #[.pointer (some ⟨g,0,none⟩),x] w fun e w'=>e=.returned (.tuple #[])∧∃ A2 c2,Mem w0 w' [cC g 125 (eC ub (.slice A2 (l++[x]).length c2) ud).toArray,b7 w0.heap.size 23 A2 c2 (l++[x]),R]:=by
 obtain ⟨Ax,nx,cx,rfl⟩:=hx1
 unfold b7 at hm ⊢
 go_enter Tryz.func136,Tryz.ntmps136
 refine rl ?_
 refine rv (v:=.pointer (some ⟨g,0,none⟩)) (by kernel_rfl) ?_
 refine rv (v:=.pointer (some ⟨g,15,none⟩)) (by kernel_rfl) ?_
 refine rv (xlc (range_cell (cL 15 _ rfl (Blk.range (Mem.blk hm 0 rfl)))) Tryz.underlying119) ?_
 refine aL (o:=⟨some 10,_,_,_,_,_⟩) rfl 119 (.tmp 9) rfl 23 1 (Value.slice none 0 0) (.slice Ax nx cx) rfl Tryz.underlying119 (by kernel_rfl) (by decide) (by decide) (fun w=>by kernel_rfl) rfl ?_
 intro w1 hn
 have H2:=Mem.bA hm hn
 clear hn
 refine rn ?_
 obtain ⟨inm23,iq23,ir23,is23,it23⟩:=info_parts BT
 refine aH (o:=⟨some 11,_,_,_,_,_⟩) rfl _ _ 119 rfl (w0.heap.size) 23 _ _ 1 24 Tryz.underlying119 iq23 ir23 is23 it23 rfl (by decide) (.slice A1 l.length c1) ((l).length) ((l).flatMap vb) (Mem.own H2 2 rfl) ((some ⟨w.heap.size,0,none⟩)) (1) (1) ([.slice Ax nx cx]) (bH (n:=1) (m:=1) (Mem.blk H2 0 rfl) rfl (fun u hu=>by rw [List.mem_singleton.1 hu];rfl)) ?hmt3 ?hbt3 ?hzt3 rfl rfl ?_
 case hmt3=>simp only [maxLen];omega
 case hbt3=>omega
 case hzt3=>exact (Mem.below H2).size
 intro u6 w4 ow9 gr10 hp11
 refine rn ?_
 have ow9:w4.ownsRow (w0.heap.size) 23 1 u6 (l++[(Value.slice Ax nx cx)]).length ((l++[(Value.slice Ax nx cx)]).flatMap vb):=by first | simpa using ow9 | simpa [vb] using ow9 | (simp at ow9 ⊢;exact ow9)
 obtain ⟨A7,c8,rfl⟩:=aP ow9
 have H5:=Mem.app H2 2 rfl ow9 gr10 hp11
 clear ow9 gr10 hp11
 refine rv (v:=.pointer (some ⟨g,0,none⟩)) (by kernel_rfl) ?_
 refine rv (v:=.pointer (some ⟨g,15,none⟩)) (by kernel_rfl) ?_
 refine bW (o:=⟨none,_,_,_,_,_⟩) rfl 119 (.tmp 13) (.tmp 11) rfl g (15) 125 (eC ub (.slice A1 l.length c1) ud).toArray (Mem.blk H5 1 rfl) (Nat.le_of_ble_eq_true rfl) (by kernel_rfl) (.slice A7 (l++[(Value.slice Ax nx cx)]).length c8) rfl rfl rfl ?_
 intro w12 hk hg hz
 have H13:=Mem.st (cs':=(eC ub (.slice A7 (l++[(Value.slice Ax nx cx)]).length c8) ud).toArray) H5 1 rfl hk hg
 clear hk hg hz
 refine rn ?_
 refine wpList_nil ?_
 refine bodyPost_end (results_none rfl _ _ _) rfl ?_
 exact ⟨rfl,_,_,(Mem.pick H13 [1,2,3] (by decide) rfl)⟩
theorem oa (w0 w:World) (L:List Ent) (g:Nat) (l:List Value) (A1:Option Addr) (c1:Nat) (ub ud x:Value) (hx1:ig x) (hl:l.length≤100000000) (hm:Mem w0 w (cC g 125 (eC ub (.slice A1 l.length c1) ud).toArray :: b7 w0.heap.size 23 A1 c1 l :: L)) :
  Calls Tryz.prog 136 #[.pointer (some ⟨g,0,none⟩),x] w fun e w'=>e=.returned (.tuple #[])∧∃ A2 c2,Mem w0 w' (cC g 125 (eC ub (.slice A2 (l++[x]).length c2) ud).toArray :: b7 w0.heap.size 23 A2 c2 (l++[x]) :: L):=by
 obtain ⟨hp,hok,hfar⟩:=Mem.pack [cC g 125 (eC ub (.slice A1 l.length c1) ud).toArray,b7 w0.heap.size 23 A1 c1 l] hm
 exact (oq w0 w _ g l A1 c1 ub ud x hx1 hl hp).mono fun e w' ⟨h1,A2,c2,h2⟩=>⟨h1,A2,c2,Mem.unpack [_,_] h2 hok hfar⟩
set_option maxHeartbeats 4000000 in
theorem qv (w0 w:World) (R:Ent) (g:Nat) (l:List Value) (A1:Option Addr) (c1:Nat) (un ud x:Value) (hx1:ig x) (hl:l.length≤100000000) (hm:Mem w0 w [cC g 125 (eC (.slice A1 l.length c1) un ud).toArray,b7 w0.heap.size 24 A1 c1 l,R]) :
  Calls Tryz.prog 137 #[.pointer (some ⟨g,0,none⟩),x] w fun e w'=>e=.returned (.tuple #[])∧∃ A2 c2,Mem w0 w' [cC g 125 (eC (.slice A2 (l++[x]).length c2) un ud).toArray,b7 w0.heap.size 24 A2 c2 (l++[x]),R]:=by
 obtain ⟨Ax,nx,cx,rfl⟩:=hx1
 unfold b7 at hm ⊢
 go_enter Tryz.func137,Tryz.ntmps137
 refine rl ?_
 refine rv (v:=.pointer (some ⟨g,0,none⟩)) (by kernel_rfl) ?_
 refine rv (v:=.pointer (some ⟨g,5,none⟩)) (by kernel_rfl) ?_
 refine rv (xlc (range_cell (cL 5 _ rfl (Blk.range (Mem.blk hm 0 rfl)))) Tryz.underlying95) ?_
 refine aL (o:=⟨some 10,_,_,_,_,_⟩) rfl 95 (.tmp 9) rfl 24 1 (Value.slice none 0 0) (.slice Ax nx cx) rfl Tryz.underlying95 (by kernel_rfl) (by decide) (by decide) (fun w=>by kernel_rfl) rfl ?_
 intro w1 hn
 have H2:=Mem.bA hm hn
 clear hn
 refine rn ?_
 obtain ⟨inm24,iq24,ir24,is24,it24⟩:=info_parts Bd
 refine aH (o:=⟨some 11,_,_,_,_,_⟩) rfl _ _ 95 rfl (w0.heap.size) 24 _ _ 1 24 Tryz.underlying95 iq24 ir24 is24 it24 rfl (by decide) (.slice A1 l.length c1) ((l).length) ((l).flatMap vb) (Mem.own H2 2 rfl) ((some ⟨w.heap.size,0,none⟩)) (1) (1) ([.slice Ax nx cx]) (bH (n:=1) (m:=1) (Mem.blk H2 0 rfl) rfl (fun u hu=>by rw [List.mem_singleton.1 hu];rfl)) ?hmt3 ?hbt3 ?hzt3 rfl rfl ?_
 case hmt3=>simp only [maxLen];omega
 case hbt3=>omega
 case hzt3=>exact (Mem.below H2).size
 intro u6 w4 ow9 gr10 hp11
 refine rn ?_
 have ow9:w4.ownsRow (w0.heap.size) 24 1 u6 (l++[(Value.slice Ax nx cx)]).length ((l++[(Value.slice Ax nx cx)]).flatMap vb):=by first | simpa using ow9 | simpa [vb] using ow9 | (simp at ow9 ⊢;exact ow9)
 obtain ⟨A7,c8,rfl⟩:=aP ow9
 have H5:=Mem.app H2 2 rfl ow9 gr10 hp11
 clear ow9 gr10 hp11
 refine rv (v:=.pointer (some ⟨g,0,none⟩)) (by kernel_rfl) ?_
 refine rv (v:=.pointer (some ⟨g,5,none⟩)) (by kernel_rfl) ?_
 refine bW (o:=⟨none,_,_,_,_,_⟩) rfl 95 (.tmp 13) (.tmp 11) rfl g (5) 125 (eC (.slice A1 l.length c1) un ud).toArray (Mem.blk H5 1 rfl) (Nat.le_of_ble_eq_true rfl) (by kernel_rfl) (.slice A7 (l++[(Value.slice Ax nx cx)]).length c8) rfl rfl rfl ?_
 intro w12 hk hg hz
 have H13:=Mem.st (cs':=(eC (.slice A7 (l++[(Value.slice Ax nx cx)]).length c8) un ud).toArray) H5 1 rfl hk hg
 clear hk hg hz
 refine rn ?_
 refine wpList_nil ?_
 refine bodyPost_end (results_none rfl _ _ _) rfl ?_
 exact ⟨rfl,_,_,(Mem.pick H13 [1,2,3] (by decide) rfl)⟩
theorem ot (w0 w:World) (L:List Ent) (g:Nat) (l:List Value) (A1:Option Addr) (c1:Nat) (un ud x:Value) (hx1:ig x) (hl:l.length≤100000000) (hm:Mem w0 w (cC g 125 (eC (.slice A1 l.length c1) un ud).toArray :: b7 w0.heap.size 24 A1 c1 l :: L)) :
  Calls Tryz.prog 137 #[.pointer (some ⟨g,0,none⟩),x] w fun e w'=>e=.returned (.tuple #[])∧∃ A2 c2,Mem w0 w' (cC g 125 (eC (.slice A2 (l++[x]).length c2) un ud).toArray :: b7 w0.heap.size 24 A2 c2 (l++[x]) :: L):=by
 obtain ⟨hp,hok,hfar⟩:=Mem.pack [cC g 125 (eC (.slice A1 l.length c1) un ud).toArray,b7 w0.heap.size 24 A1 c1 l] hm
 exact (qv w0 w _ g l A1 c1 un ud x hx1 hl hp).mono fun e w' ⟨h1,A2,c2,h2⟩=>⟨h1,A2,c2,Mem.unpack [_,_] h2 hok hfar⟩
end Go.Proofs.YtomnhnmciopiiaaGreat
end
section
namespace Go.Proofs.YtomnhnmciopiiaaGreat
open Go Go.RowKit Go.Maps
set_option maxRecDepth 100000
attribute [local irreducible] wpList
theorem ig.one {x:Value} (h:ig x):x.oneCell'=true:=by
 obtain ⟨_,_,_,rfl⟩:=h
 rfl
set_option maxHeartbeats 4000000 in
theorem tH (w0 w:World) (R:Ent) (g:Nat) (ns bs:List Value) (A1 A2:Option Addr) (c1 c2:Nat) (ud:Value) (d:Drv) (v1 v2:Value) (hv1:ig v1) (hv2:ig v2) (hn:ns.length≤100000000) (hb:bs.length≤100000000) (hm:Mem w0 w [cC g 125 (eC (.slice A2 bs.length c2) (.slice A1 ns.length c1) ud).toArray,b7 w0.heap.size 23 A1 c1 ns,b7 w0.heap.size 24 A2 c2 bs,R]) :
  Calls Tryz.prog 98 #[.pointer (some ⟨g,0,none⟩),.agg (dC d v1 v2).toArray] w fun e w'=>e=.returned (.tuple #[])∧∃ A3 c3 A4 c4,Mem w0 w' [cC g 125 (eC (.slice A4 (bs++[v2]).length c4) (.slice A3 (ns++[v1]).length c3) ud).toArray,b7 w0.heap.size 23 A3 c3 (ns++[v1]),b7 w0.heap.size 24 A4 c4 (bs++[v2]),R]:=by
 have ho1:=hv1.one
 have ho2:=hv2.one
 go_enter Tryz.func98,Tryz.ntmps98
 refine wp_seq_k (fun K1 hK1=>?_)
 refine rl ?_
 refine ay (o:=⟨some 3,_,_,_,_,_⟩) rfl 26 (.tmp 1) rfl (dC d v1 v2).toArray rfl ?_
 intro w2 hn
 have H3:=Mem.bA hm hn
 clear hn
 refine rn ?_
 refine nt (hK1 _ _ ?_)
 refine wp_seq_k (fun K4 hK4=>?_)
 refine rl ?_
 refine rv (v:=.pointer (some ⟨w.heap.size,1,none⟩)) (by kernel_rfl) ?_
 refine rv (xlc (range_cell (cG (Blk.range (Mem.blk H3 0 rfl)))) Tryz.underlying23) ?_
 refine an (by kernel_rfl) _ _ (by kernel_rfl) (oa w0 w2 _ g ns A1 c1 (.slice A2 bs.length c2) ud v1 hv1 (by omega) (Mem.pick H3 [1,2,0,3,4] (by decide) rfl)) ?_
 rintro e w8 ⟨rfl,A5,c6,hm7⟩
 refine ⟨_,rfl,rn ?_⟩
 have H9:=hm7
 refine nt (hK4 _ _ ?_)
 refine rl ?_
 refine rv (v:=.pointer (some ⟨w.heap.size,2,none⟩)) (by kernel_rfl) ?_
 refine rv (xlc (range_cell (js (Blk.range (Mem.blk H9 2 rfl)))) Tryz.underlying24) ?_
 refine an (by kernel_rfl) _ _ (by kernel_rfl) (ot w0 w8 _ g bs A2 c2 (.slice A5 (ns++[v1]).length c6) ud v2 hv2 (by omega) (Mem.pick H9 [0,3,1,2,4] (by decide) rfl)) ?_
 rintro e w14 ⟨rfl,A11,c12,hm13⟩
 refine ⟨_,rfl,rn ?_⟩
 have H15:=hm13
 refine wpList_nil ?_
 refine bodyPost_end (results_none rfl _ _ _) rfl ?_
 exact ⟨rfl,_,_,_,_,(Mem.pick H15 [0,2,1,4] (by decide) rfl)⟩
theorem q5 (w0 w:World) (L:List Ent) (g:Nat) (ns bs:List Value) (A1 A2:Option Addr) (c1 c2:Nat) (ud:Value) (d:Drv) (v1 v2:Value) (hv1:ig v1) (hv2:ig v2) (hn:ns.length≤100000000) (hb:bs.length≤100000000) (hm:Mem w0 w (cC g 125 (eC (.slice A2 bs.length c2) (.slice A1 ns.length c1) ud).toArray :: b7 w0.heap.size 23 A1 c1 ns :: b7 w0.heap.size 24 A2 c2 bs :: L)) :
  Calls Tryz.prog 98 #[.pointer (some ⟨g,0,none⟩),.agg (dC d v1 v2).toArray] w fun e w'=>e=.returned (.tuple #[])∧∃ A3 c3 A4 c4,Mem w0 w' (cC g 125 (eC (.slice A4 (bs++[v2]).length c4) (.slice A3 (ns++[v1]).length c3) ud).toArray :: b7 w0.heap.size 23 A3 c3 (ns++[v1]) :: b7 w0.heap.size 24 A4 c4 (bs++[v2]) :: L):=by
 obtain ⟨hp,hok,hfar⟩:=Mem.pack [cC g 125 (eC (.slice A2 bs.length c2) (.slice A1 ns.length c1) ud).toArray,b7 w0.heap.size 23 A1 c1 ns,b7 w0.heap.size 24 A2 c2 bs] hm
 exact (tH w0 w _ g ns bs A1 A2 c1 c2 ud d v1 v2 hv1 hv2 hn hb hp).mono fun e w' ⟨h1,A3,c3,A4,c4,h2⟩=>⟨h1,A3,c3,A4,c4,Mem.unpack [_,_,_] h2 hok hfar⟩
set_option maxHeartbeats 4000000 in
theorem sh (w0 w:World) (R:Ent) (g:Nat) (ns bs ds:List Value) (A1 A2 A3:Option Addr) (c1 c2 c3:Nat) (B:Nat) (os:List dD) (A:Option Addr) (c:Nat) (hR:∀ W,R.P W→W.ownsRow B 26 3 (.slice A os.length c) os.length (os.flatMap dV9)) (hsl:∀ p∈os,ig p.2.1∧ig p.2.2) (hos:os.length≤1000000) (hn:ns.length≤10000000) (hb:bs.length≤10000000) (hd:ds.length≤10000000) (hm:Mem w0 w [cC g 125 (eC (.slice A2 bs.length c2) (.slice A1 ns.length c1) (.slice A3 ds.length c3)).toArray,b7 w0.heap.size 23 A1 c1 ns,b7 w0.heap.size 24 A2 c2 bs,b7 w0.heap.size 53 A3 c3 ds,R]) :
  Calls Tryz.prog 70 #[.pointer (some ⟨g,0,none⟩),.slice A os.length c] w fun e w'=>e=.returned (.tuple #[])∧∃ A4 c4 A5 c5 A6 c6,Mem w0 w' [cC g 125 (eC (.slice A5 (bs++os.map (·.2.2)).length c5) (.slice A4 (ns++os.map (·.2.1)).length c4) (.slice A6 (ds++[Value.slice A os.length c]).length c6)).toArray,b7 w0.heap.size 23 A4 c4 (ns++os.map (·.2.1)),b7 w0.heap.size 24 A5 c5 (bs++os.map (·.2.2)),b7 w0.heap.size 53 A6 c6 (ds++[Value.slice A os.length c]),R]:=by
 have hR0:=hR w (Mem.get hm 4 rfl)
 go_enter Tryz.func70,Tryz.ntmps70
 refine wp_seq_k (fun K1 hK1=>?_)
 refine rl ?_
 refine rv (v:=.pointer (some ⟨g,0,none⟩)) (by kernel_rfl) ?_
 refine rv (v:=.pointer (some ⟨g,16,none⟩)) (by kernel_rfl) ?_
 refine rv (xlc (range_cell (cL 16 _ rfl (Blk.range (Mem.blk hm 0 rfl)))) Tryz.underlying55) ?_
 refine aL (o:=⟨some 11,_,_,_,_,_⟩) rfl 55 (.tmp 10) rfl 53 1 (Value.slice none 0 0) (.slice A os.length c) rfl Tryz.underlying55 (by kernel_rfl) (by decide) (by decide) (fun w=>by kernel_rfl) rfl ?_
 intro w2 hn
 have H3:=Mem.bA hm hn
 clear hn
 refine rn ?_
 obtain ⟨inm53,iq53,ir53,is53,it53⟩:=info_parts BP
 refine aH (o:=⟨some 12,_,_,_,_,_⟩) rfl _ _ 55 rfl (w0.heap.size) 53 _ _ 1 24 Tryz.underlying55 iq53 ir53 is53 it53 rfl (by decide) (.slice A3 ds.length c3) ((ds).length) ((ds).flatMap vb) (Mem.own H3 4 rfl) ((some ⟨w.heap.size,0,none⟩)) (1) (1) ([.slice A os.length c]) (bH (n:=1) (m:=1) (Mem.blk H3 0 rfl) rfl (fun u hu=>by rw [List.mem_singleton.1 hu];rfl)) ?hmt4 ?hbt4 ?hzt4 rfl rfl ?_
 case hmt4=>simp only [maxLen];omega
 case hbt4=>omega
 case hzt4=>exact (Mem.below H3).size
 intro u7 w5 ow10 gr11 hp12
 refine rn ?_
 have ow10:w5.ownsRow (w0.heap.size) 53 1 u7 (ds++[(Value.slice A os.length c)]).length ((ds++[(Value.slice A os.length c)]).flatMap vb):=by first | simpa using ow10 | simpa [vb] using ow10 | (simp at ow10 ⊢;exact ow10)
 obtain ⟨A8,c9,rfl⟩:=aP ow10
 have H6:=Mem.app H3 4 rfl ow10 gr11 hp12
 clear ow10 gr11 hp12
 refine rv (v:=.pointer (some ⟨g,0,none⟩)) (by kernel_rfl) ?_
 refine rv (v:=.pointer (some ⟨g,16,none⟩)) (by kernel_rfl) ?_
 refine bW (o:=⟨none,_,_,_,_,_⟩) rfl 55 (.tmp 14) (.tmp 12) rfl g (16) 125 (eC (.slice A2 bs.length c2) (.slice A1 ns.length c1) (.slice A3 ds.length c3)).toArray (Mem.blk H6 1 rfl) (Nat.le_of_ble_eq_true rfl) (by kernel_rfl) (.slice A8 (ds++[(Value.slice A os.length c)]).length c9) rfl rfl rfl ?_
 intro w13 hk hg hz
 have H14:=Mem.st (cs':=(eC (.slice A2 bs.length c2) (.slice A1 ns.length c1) (.slice A8 (ds++[(Value.slice A os.length c)]).length c9)).toArray) H6 1 rfl hk hg
 clear hk hg hz
 refine rn ?_
 refine nt (hK1 _ _ ?_)
 refine wp_seq_k (fun K15 hK15=>?_)
 refine rl ?_
 refine nt (hK15 _ _ ?_)
 refine wp_block ?_
 have H16:=Mem.pick H14 [1,2,3,4,5] (by decide) rfl
 go_loopw [4] (fun x4 wr=>∃ j:Nat,∃ ns9:List Value,∃ An:Option Addr,∃ cn:Nat,∃ bs9:List Value,∃ Ab:Option Addr,∃ cb:Nat,x4=.int .i64 (j:Int)∧(j≤os.length)∧(ns9=ns++(os.take j).map (·.2.1))∧(bs9=bs++(os.take j).map (·.2.2))∧Mem w0 wr [cC g 125 (eC (.slice Ab bs9.length cb) (.slice An ns9.length cn) (.slice A8 (ds++[(Value.slice A os.length c)]).length c9)).toArray,b7 w0.heap.size 23 An cn ns9,b7 w0.heap.size 24 Ab cb bs9,b7 w0.heap.size 53 A8 c9 (ds++[Value.slice A os.length c]),R]) (fun x4 _=>os.length-(intOf x4).toNat)
 case atStart=>exact ⟨0,ns,A1,c1,bs,A2,c2,rfl,by omega,(by simp),(by simp),H16⟩
 case round =>
  obtain ⟨wo17,rfl⟩:∃ wo17,wo17=wr:=⟨_,rfl⟩
  obtain ⟨j,ns9,An,cn,bs9,Ab,cb,rfl,hj,hns,hbs,H18⟩:=hrel
  have hn9:ns9.length≤ns.length+j:=by rw [hns,List.length_append,List.length_map,List.length_take];omega
  have hb9:bs9.length≤bs.length+j:=by rw [hbs,List.length_append,List.length_map,List.length_take];omega
  refine wp_seq_k (fun K20 hK20=>?_)
  refine wp_seq_k (fun K21 hK21=>?_)
  refine rl ?_
  by_cases p22:(j:Int)<((os.length:Nat):Int)
  ·refine rv (aB (decide_eq_true p22)) ?_
   refine nt (hK21 _ _ ?_)
   refine ct ?_
   refine ks (hK20 _ _ ?_)
   refine wp_seq_k (fun K23 hK23=>?_)
   refine wp_block ?_
   refine rl ?_
   obtain ⟨b24,rfl⟩:=(fun h0=>(aG hR0 h0).imp fun _ h9=>h9.1) (by omega)
   obtain ⟨p28,hx29⟩:∃ x,os[j]?=some x:=⟨_,List.getElem?_eq_getElem (by omega)⟩
   have sp30:=hsl _ (List.mem_of_getElem? hx29)
   refine rv (aT (s:=3) (j) Tryz.underlying53 (by kernel_rfl)) ?_
   refine rv (xld (dW (f:=dV9) (by decide) (hR _ (Mem.get H18 4 rfl)) (fun p hp=>rfl) hx29) Tryz.underlying26 (bJ p28.1.2 p28.2.1 p28.2.2)) ?_
   refine an (by kernel_rfl) _ _ (by kernel_rfl) (q5 w0 wo17 _ g ns9 bs9 An Ab cn cb _ p28.1.2 p28.2.1 p28.2.2 sp30.1 sp30.2 (by omega) (by omega) (Mem.pick H18 [0,1,2,3,4] (by decide) rfl)) ?_
   rintro e w36 ⟨rfl,A31,c32,A33,c34,hm35⟩
   refine ⟨_,rfl,rn ?_⟩
   have H37:=hm35
   refine wpList_nil ?_
   refine aq ?_
   refine ab (hK23 _ _ ?_)
   refine rl ?_
   refine rv (aR (((j+1:Nat):Int))) ?_
   refine wpList_nil ?_
   refine ab ?_
   show _∧_
   go_roundw
   case rel=>exact ⟨(j+1),(ns9++[p28.2.1]),A31,c32,(bs9++[p28.2.2]),A33,c34,rfl,by omega,(by rw [hns,List.append_assoc,← np hx29,List.map_append];rfl),(by rw [hbs,List.append_assoc,← np hx29,List.map_append];rfl),H37⟩
   case measure=>simp [intOf];omega
  ·have he39:=bF (l:=os) (j:=j) (by omega)
   refine rv (aB (decide_eq_false p22)) ?_
   refine nt (hK21 _ _ ?_)
   refine cf ?_
   refine wp_exit ?_
   refine aj ?_
   refine aj ?_
   refine ax ?_
   refine bodyPost_end (results_none rfl _ _ _) rfl ?_
   have hje:j=os.length:=by omega
   rw [hje,List.take_length] at hns hbs
   subst hns hbs
   exact ⟨rfl,_,_,_,_,_,_,H18⟩
end Go.Proofs.YtomnhnmciopiiaaGreat
end
section
namespace Go.Proofs.YtomnhnmciopiiaaGreat
open Go Go.RowKit
theorem tE:(Tryz.prog.info? 198).map (fun i=>(i.zero,i.size,i.bytes))=some (some (.slice none 0 0),1,24):=by kernel_rfl
set_option maxRecDepth 100000 in
set_option maxHeartbeats 1000000 in
theorem jQ (w:World):Calls Tryz.prog 99 #[.slice none 0 0] w fun e w'=>e=.returned (.bool true)∧Below w.heap.size w w':=by
 obtain ⟨i,hi,hz0,hz1,hz2⟩:=info_parts tE
 go_enter Tryz.func99,Tryz.ntmps99
 go_wp2_with fail
 refine wp_loop_once ?_
 go_wp2_with (at_make;refine wpList_make_row _ rfl _ _ 106 rfl 198 i (.slice none 0 0) Tryz.underlying106 hi hz0 hz1 rfl _ _ 0 rfl rfl ?e0 ?e1 ?_)
 case e0=>rw [hz2];omega
 case e1=>omega
 go_wp2_with fail
 refine wp_loop_once ?_
 go_wp2_with fail
 refine wp_loop_once ?_
 go_wp2_with fail
 refine wp_loop_once ?_
 go_wp2_with fail
 refine wp_loop_once ?_
 go_wp2_with fail
 go_ret
 exact ⟨rfl,(Below.refl _ _).alloc (Nat.le_refl _) _⟩
theorem ux:(Tryz.prog.info? 199).map (fun i=>(i.zero,i.size,i.bytes))=some (some (.slice none 0 0),1,24):=by kernel_rfl
set_option maxRecDepth 100000 in
set_option maxHeartbeats 1000000 in
theorem jR (w:World):Calls Tryz.prog 100 #[.slice none 0 0] w fun e w'=>e=.returned (.bool true)∧Below w.heap.size w w':=by
 obtain ⟨i,hi,hz0,hz1,hz2⟩:=info_parts ux
 go_enter Tryz.func100,Tryz.ntmps100
 go_wp2_with fail
 refine wp_loop_once ?_
 go_wp2_with (at_make;refine wpList_make_row _ rfl _ _ 107 rfl 199 i (.slice none 0 0) Tryz.underlying107 hi hz0 hz1 rfl _ _ 0 rfl rfl ?e0 ?e1 ?_)
 case e0=>rw [hz2];omega
 case e1=>omega
 go_wp2_with fail
 refine wp_loop_once ?_
 go_wp2_with fail
 refine wp_loop_once ?_
 go_wp2_with fail
 refine wp_loop_once ?_
 go_wp2_with fail
 refine wp_loop_once ?_
 go_wp2_with fail
 go_ret
 exact ⟨rfl,(Below.refl _ _).alloc (Nat.le_refl _) _⟩
theorem vW:(Tryz.prog.info? 79).map (fun i=>(i.zero,i.size,i.bytes))=some (some (.slice none 0 0),1,24):=by kernel_rfl
set_option maxRecDepth 100000 in
set_option maxHeartbeats 1000000 in
theorem kC (w:World):Calls Tryz.prog 101 #[.slice none 0 0] w fun e w'=>e=.returned (.bool true)∧Below w.heap.size w w':=by
 obtain ⟨i,hi,hz0,hz1,hz2⟩:=info_parts vW
 go_enter Tryz.func101,Tryz.ntmps101
 go_wp2_with fail
 refine wp_loop_once ?_
 go_wp2_with (at_make;refine wpList_make_row _ rfl _ _ 108 rfl 79 i (.slice none 0 0) Tryz.underlying108 hi hz0 hz1 rfl _ _ 0 rfl rfl ?e0 ?e1 ?_)
 case e0=>rw [hz2];omega
 case e1=>omega
 go_wp2_with fail
 refine wp_loop_once ?_
 go_wp2_with fail
 refine wp_loop_once ?_
 go_wp2_with fail
 refine wp_loop_once ?_
 go_wp2_with fail
 refine wp_loop_once ?_
 go_wp2_with fail
 go_ret
 exact ⟨rfl,(Below.refl _ _).alloc (Nat.le_refl _) _⟩
theorem s8:(Tryz.prog.info? 200).map (fun i=>(i.zero,i.size,i.bytes))=some (some (.slice none 0 0),1,24):=by kernel_rfl
set_option maxRecDepth 100000 in
set_option maxHeartbeats 1000000 in
theorem jO (w:World):Calls Tryz.prog 102 #[.slice none 0 0] w fun e w'=>e=.returned (.bool true)∧Below w.heap.size w w':=by
 obtain ⟨i,hi,hz0,hz1,hz2⟩:=info_parts s8
 go_enter Tryz.func102,Tryz.ntmps102
 go_wp2_with fail
 refine wp_loop_once ?_
 go_wp2_with (at_make;refine wpList_make_row _ rfl _ _ 109 rfl 200 i (.slice none 0 0) Tryz.underlying109 hi hz0 hz1 rfl _ _ 0 rfl rfl ?e0 ?e1 ?_)
 case e0=>rw [hz2];omega
 case e1=>omega
 go_wp2_with fail
 refine wp_loop_once ?_
 go_wp2_with fail
 refine wp_loop_once ?_
 go_wp2_with fail
 refine wp_loop_once ?_
 go_wp2_with fail
 refine wp_loop_once ?_
 go_wp2_with fail
 go_ret
 exact ⟨rfl,(Below.refl _ _).alloc (Nat.le_refl _) _⟩
theorem tN:(Tryz.prog.info? 60).map (fun i=>(i.zero,i.size,i.bytes))=some (some (.slice none 0 0),1,24):=by kernel_rfl
set_option maxRecDepth 100000 in
set_option maxHeartbeats 1000000 in
theorem jT (w:World):Calls Tryz.prog 103 #[.slice none 0 0] w fun e w'=>e=.returned (.bool true)∧Below w.heap.size w w':=by
 obtain ⟨i,hi,hz0,hz1,hz2⟩:=info_parts tN
 go_enter Tryz.func103,Tryz.ntmps103
 go_wp2_with fail
 refine wp_loop_once ?_
 go_wp2_with (at_make;refine wpList_make_row _ rfl _ _ 110 rfl 60 i (.slice none 0 0) Tryz.underlying110 hi hz0 hz1 rfl _ _ 0 rfl rfl ?e0 ?e1 ?_)
 case e0=>rw [hz2];omega
 case e1=>omega
 go_wp2_with fail
 refine wp_loop_once ?_
 go_wp2_with fail
 refine wp_loop_once ?_
 go_wp2_with fail
 refine wp_loop_once ?_
 go_wp2_with fail
 refine wp_loop_once ?_
 go_wp2_with fail
 go_ret
 exact ⟨rfl,(Below.refl _ _).alloc (Nat.le_refl _) _⟩
theorem rJ:(Tryz.prog.info? 133).map (fun i=>(i.zero,i.size,i.bytes))=some (some (.slice none 0 0),1,24):=by kernel_rfl
set_option maxRecDepth 100000 in
set_option maxHeartbeats 1000000 in
theorem jj (w:World):Calls Tryz.prog 105 #[.slice none 0 0] w fun e w'=>e=.returned (.bool true)∧Below w.heap.size w w':=by
 obtain ⟨i,hi,hz0,hz1,hz2⟩:=info_parts rJ
 go_enter Tryz.func105,Tryz.ntmps105
 go_wp2_with fail
 refine wp_loop_once ?_
 go_wp2_with (at_make;refine wpList_make_row _ rfl _ _ 111 rfl 133 i (.slice none 0 0) Tryz.underlying111 hi hz0 hz1 rfl _ _ 0 rfl rfl ?e0 ?e1 ?_)
 case e0=>rw [hz2];omega
 case e1=>omega
 go_wp2_with fail
 refine wp_loop_once ?_
 go_wp2_with fail
 refine wp_loop_once ?_
 go_wp2_with fail
 refine wp_loop_once ?_
 go_wp2_with fail
 refine wp_loop_once ?_
 go_wp2_with fail
 go_ret
 exact ⟨rfl,(Below.refl _ _).alloc (Nat.le_refl _) _⟩
theorem tT:(Tryz.prog.info? 72).map (fun i=>(i.zero,i.size,i.bytes))=some (some (.slice none 0 0),1,24):=by kernel_rfl
set_option maxRecDepth 100000 in
set_option maxHeartbeats 1000000 in
theorem ov (w:World):Calls Tryz.prog 106 #[.slice none 0 0] w fun e w'=>e=.returned (.bool true)∧Below w.heap.size w w':=by
 obtain ⟨i,hi,hz0,hz1,hz2⟩:=info_parts tT
 go_enter Tryz.func106,Tryz.ntmps106
 go_wp2_with fail
 refine wp_loop_once ?_
 go_wp2_with (at_make;refine wpList_make_row _ rfl _ _ 77 rfl 72 i (.slice none 0 0) Tryz.underlying77 hi hz0 hz1 rfl _ _ 0 rfl rfl ?e0 ?e1 ?_)
 case e0=>rw [hz2];omega
 case e1=>omega
 go_wp2_with fail
 refine wp_loop_once ?_
 go_wp2_with fail
 refine wp_loop_once ?_
 go_wp2_with fail
 refine wp_loop_once ?_
 go_wp2_with fail
 refine wp_loop_once ?_
 go_wp2_with fail
 go_ret
 exact ⟨rfl,(Below.refl _ _).alloc (Nat.le_refl _) _⟩
theorem vo:(Tryz.prog.info? 202).map (fun i=>(i.zero,i.size,i.bytes))=some (some (.slice none 0 0),1,24):=by kernel_rfl
set_option maxRecDepth 100000 in
set_option maxHeartbeats 1000000 in
theorem kI (w:World):Calls Tryz.prog 107 #[.slice none 0 0] w fun e w'=>e=.returned (.bool true)∧Below w.heap.size w w':=by
 obtain ⟨i,hi,hz0,hz1,hz2⟩:=info_parts vo
 go_enter Tryz.func107,Tryz.ntmps107
 go_wp2_with fail
 refine wp_loop_once ?_
 go_wp2_with (at_make;refine wpList_make_row _ rfl _ _ 112 rfl 202 i (.slice none 0 0) Tryz.underlying112 hi hz0 hz1 rfl _ _ 0 rfl rfl ?e0 ?e1 ?_)
 case e0=>rw [hz2];omega
 case e1=>omega
 go_wp2_with fail
 refine wp_loop_once ?_
 go_wp2_with fail
 refine wp_loop_once ?_
 go_wp2_with fail
 refine wp_loop_once ?_
 go_wp2_with fail
 refine wp_loop_once ?_
 go_wp2_with fail
 go_ret
 exact ⟨rfl,(Below.refl _ _).alloc (Nat.le_refl _) _⟩
theorem tA:(Tryz.prog.info? 210).map (fun i=>(i.zero,i.size,i.bytes))=some (some (.slice none 0 0),1,24):=by kernel_rfl
set_option maxRecDepth 100000 in
set_option maxHeartbeats 1000000 in
theorem jU (w:World):Calls Tryz.prog 108 #[.slice none 0 0] w fun e w'=>e=.returned (.bool true)∧Below w.heap.size w w':=by
 obtain ⟨i,hi,hz0,hz1,hz2⟩:=info_parts tA
 go_enter Tryz.func108,Tryz.ntmps108
 go_wp2_with fail
 refine wp_loop_once ?_
 go_wp2_with (at_make;refine wpList_make_row _ rfl _ _ 113 rfl 210 i (.slice none 0 0) Tryz.underlying113 hi hz0 hz1 rfl _ _ 0 rfl rfl ?e0 ?e1 ?_)
 case e0=>rw [hz2];omega
 case e1=>omega
 go_wp2_with fail
 refine wp_loop_once ?_
 go_wp2_with fail
 refine wp_loop_once ?_
 go_wp2_with fail
 refine wp_loop_once ?_
 go_wp2_with fail
 refine wp_loop_once ?_
 go_wp2_with fail
 go_ret
 exact ⟨rfl,(Below.refl _ _).alloc (Nat.le_refl _) _⟩
theorem sV:(Tryz.prog.info? 213).map (fun i=>(i.zero,i.size,i.bytes))=some (some (.slice none 0 0),1,24):=by kernel_rfl
set_option maxRecDepth 100000 in
set_option maxHeartbeats 1000000 in
theorem jL (w:World):Calls Tryz.prog 109 #[.slice none 0 0] w fun e w'=>e=.returned (.bool true)∧Below w.heap.size w w':=by
 obtain ⟨i,hi,hz0,hz1,hz2⟩:=info_parts sV
 go_enter Tryz.func109,Tryz.ntmps109
 go_wp2_with fail
 refine wp_loop_once ?_
 go_wp2_with (at_make;refine wpList_make_row _ rfl _ _ 114 rfl 213 i (.slice none 0 0) Tryz.underlying114 hi hz0 hz1 rfl _ _ 0 rfl rfl ?e0 ?e1 ?_)
 case e0=>rw [hz2];omega
 case e1=>omega
 go_wp2_with fail
 refine wp_loop_once ?_
 go_wp2_with fail
 refine wp_loop_once ?_
 go_wp2_with fail
 refine wp_loop_once ?_
 go_wp2_with fail
 refine wp_loop_once ?_
 go_wp2_with fail
 go_ret
 exact ⟨rfl,(Below.refl _ _).alloc (Nat.le_refl _) _⟩
theorem qP:(Tryz.prog.info? 218).map (fun i=>(i.zero,i.size,i.bytes))=some (some (.slice none 0 0),1,24):=by kernel_rfl
set_option maxRecDepth 100000 in
set_option maxHeartbeats 1000000 in
theorem iL (w:World):Calls Tryz.prog 110 #[.slice none 0 0] w fun e w'=>e=.returned (.bool true)∧Below w.heap.size w w':=by
 obtain ⟨i,hi,hz0,hz1,hz2⟩:=info_parts qP
 go_enter Tryz.func110,Tryz.ntmps110
 go_wp2_with fail
 refine wp_loop_once ?_
 go_wp2_with (at_make;refine wpList_make_row _ rfl _ _ 115 rfl 218 i (.slice none 0 0) Tryz.underlying115 hi hz0 hz1 rfl _ _ 0 rfl rfl ?e0 ?e1 ?_)
 case e0=>rw [hz2];omega
 case e1=>omega
 go_wp2_with fail
 refine wp_loop_once ?_
 go_wp2_with fail
 refine wp_loop_once ?_
 go_wp2_with fail
 refine wp_loop_once ?_
 go_wp2_with fail
 refine wp_loop_once ?_
 go_wp2_with fail
 go_ret
 exact ⟨rfl,(Below.refl _ _).alloc (Nat.le_refl _) _⟩
theorem wP:(Tryz.prog.info? 223).map (fun i=>(i.zero,i.size,i.bytes))=some (some (.slice none 0 0),1,24):=by kernel_rfl
set_option maxRecDepth 100000 in
set_option maxHeartbeats 1000000 in
theorem kU (w:World):Calls Tryz.prog 111 #[.slice none 0 0] w fun e w'=>e=.returned (.bool true)∧Below w.heap.size w w':=by
 obtain ⟨i,hi,hz0,hz1,hz2⟩:=info_parts wP
 go_enter Tryz.func111,Tryz.ntmps111
 go_wp2_with fail
 refine wp_loop_once ?_
 go_wp2_with (at_make;refine wpList_make_row _ rfl _ _ 116 rfl 223 i (.slice none 0 0) Tryz.underlying116 hi hz0 hz1 rfl _ _ 0 rfl rfl ?e0 ?e1 ?_)
 case e0=>rw [hz2];omega
 case e1=>omega
 go_wp2_with fail
 refine wp_loop_once ?_
 go_wp2_with fail
 refine wp_loop_once ?_
 go_wp2_with fail
 refine wp_loop_once ?_
 go_wp2_with fail
 refine wp_loop_once ?_
 go_wp2_with fail
 go_ret
 exact ⟨rfl,(Below.refl _ _).alloc (Nat.le_refl _) _⟩
theorem p3:(Tryz.prog.info? 227).map (fun i=>(i.zero,i.size,i.bytes))=some (some (.slice none 0 0),1,24):=by kernel_rfl
set_option maxRecDepth 100000 in
set_option maxHeartbeats 1000000 in
theorem iK (w:World):Calls Tryz.prog 112 #[.slice none 0 0] w fun e w'=>e=.returned (.bool true)∧Below w.heap.size w w':=by
 obtain ⟨i,hi,hz0,hz1,hz2⟩:=info_parts p3
 go_enter Tryz.func112,Tryz.ntmps112
 go_wp2_with fail
 refine wp_loop_once ?_
 go_wp2_with (at_make;refine wpList_make_row _ rfl _ _ 117 rfl 227 i (.slice none 0 0) Tryz.underlying117 hi hz0 hz1 rfl _ _ 0 rfl rfl ?e0 ?e1 ?_)
 case e0=>rw [hz2];omega
 case e1=>omega
 go_wp2_with fail
 refine wp_loop_once ?_
 go_wp2_with fail
 refine wp_loop_once ?_
 go_wp2_with fail
 refine wp_loop_once ?_
 go_wp2_with fail
 refine wp_loop_once ?_
 go_wp2_with fail
 go_ret
 exact ⟨rfl,(Below.refl _ _).alloc (Nat.le_refl _) _⟩
theorem ry:(Tryz.prog.info? 232).map (fun i=>(i.zero,i.size,i.bytes))=some (some (.slice none 0 0),1,24):=by kernel_rfl
set_option maxRecDepth 100000 in
set_option maxHeartbeats 1000000 in
theorem jk (w:World):Calls Tryz.prog 113 #[.slice none 0 0] w fun e w'=>e=.returned (.bool true)∧Below w.heap.size w w':=by
 obtain ⟨i,hi,hz0,hz1,hz2⟩:=info_parts ry
 go_enter Tryz.func113,Tryz.ntmps113
 go_wp2_with fail
 refine wp_loop_once ?_
 go_wp2_with (at_make;refine wpList_make_row _ rfl _ _ 118 rfl 232 i (.slice none 0 0) Tryz.underlying118 hi hz0 hz1 rfl _ _ 0 rfl rfl ?e0 ?e1 ?_)
 case e0=>rw [hz2];omega
 case e1=>omega
 go_wp2_with fail
 refine wp_loop_once ?_
 go_wp2_with fail
 refine wp_loop_once ?_
 go_wp2_with fail
 refine wp_loop_once ?_
 go_wp2_with fail
 refine wp_loop_once ?_
 go_wp2_with fail
 go_ret
 exact ⟨rfl,(Below.refl _ _).alloc (Nat.le_refl _) _⟩
theorem rN:(Tryz.prog.info? 23).map (fun i=>(i.zero,i.size,i.bytes))=some (some (.slice none 0 0),1,24):=by kernel_rfl
set_option maxRecDepth 100000 in
set_option maxHeartbeats 1000000 in
theorem nz (w:World):Calls Tryz.prog 114 #[.slice none 0 0] w fun e w'=>e=.returned (.bool true)∧Below w.heap.size w w':=by
 obtain ⟨i,hi,hz0,hz1,hz2⟩:=info_parts rN
 go_enter Tryz.func114,Tryz.ntmps114
 go_wp2_with fail
 refine wp_loop_once ?_
 go_wp2_with (at_make;refine wpList_make_row _ rfl _ _ 119 rfl 23 i (.slice none 0 0) Tryz.underlying119 hi hz0 hz1 rfl _ _ 0 rfl rfl ?e0 ?e1 ?_)
 case e0=>rw [hz2];omega
 case e1=>omega
 go_wp2_with fail
 refine wp_loop_once ?_
 go_wp2_with fail
 refine wp_loop_once ?_
 go_wp2_with fail
 refine wp_loop_once ?_
 go_wp2_with fail
 refine wp_loop_once ?_
 go_wp2_with fail
 go_ret
 exact ⟨rfl,(Below.refl _ _).alloc (Nat.le_refl _) _⟩
theorem wA:(Tryz.prog.info? 53).map (fun i=>(i.zero,i.size,i.bytes))=some (some (.slice none 0 0),1,24):=by kernel_rfl
set_option maxRecDepth 100000 in
set_option maxHeartbeats 1000000 in
theorem pW (w:World):Calls Tryz.prog 115 #[.slice none 0 0] w fun e w'=>e=.returned (.bool true)∧Below w.heap.size w w':=by
 obtain ⟨i,hi,hz0,hz1,hz2⟩:=info_parts wA
 go_enter Tryz.func115,Tryz.ntmps115
 go_wp2_with fail
 refine wp_loop_once ?_
 go_wp2_with (at_make;refine wpList_make_row _ rfl _ _ 55 rfl 53 i (.slice none 0 0) Tryz.underlying55 hi hz0 hz1 rfl _ _ 0 rfl rfl ?e0 ?e1 ?_)
 case e0=>rw [hz2];omega
 case e1=>omega
 go_wp2_with fail
 refine wp_loop_once ?_
 go_wp2_with fail
 refine wp_loop_once ?_
 go_wp2_with fail
 refine wp_loop_once ?_
 go_wp2_with fail
 refine wp_loop_once ?_
 go_wp2_with fail
 go_ret
 exact ⟨rfl,(Below.refl _ _).alloc (Nat.le_refl _) _⟩
theorem s9:(Tryz.prog.info? 237).map (fun i=>(i.zero,i.size,i.bytes))=some (some (.slice none 0 0),1,24):=by kernel_rfl
set_option maxRecDepth 100000 in
set_option maxHeartbeats 1000000 in
theorem jP (w:World):Calls Tryz.prog 116 #[.slice none 0 0] w fun e w'=>e=.returned (.bool true)∧Below w.heap.size w w':=by
 obtain ⟨i,hi,hz0,hz1,hz2⟩:=info_parts s9
 go_enter Tryz.func116,Tryz.ntmps116
 go_wp2_with fail
 refine wp_loop_once ?_
 go_wp2_with (at_make;refine wpList_make_row _ rfl _ _ 120 rfl 237 i (.slice none 0 0) Tryz.underlying120 hi hz0 hz1 rfl _ _ 0 rfl rfl ?e0 ?e1 ?_)
 case e0=>rw [hz2];omega
 case e1=>omega
 go_wp2_with fail
 refine wp_loop_once ?_
 go_wp2_with fail
 refine wp_loop_once ?_
 go_wp2_with fail
 refine wp_loop_once ?_
 go_wp2_with fail
 refine wp_loop_once ?_
 go_wp2_with fail
 go_ret
 exact ⟨rfl,(Below.refl _ _).alloc (Nat.le_refl _) _⟩
theorem rX:(Tryz.prog.info? 241).map (fun i=>(i.zero,i.size,i.bytes))=some (some (.slice none 0 0),1,24):=by kernel_rfl
set_option maxRecDepth 100000 in
set_option maxHeartbeats 1000000 in
theorem ja (w:World):Calls Tryz.prog 117 #[.slice none 0 0] w fun e w'=>e=.returned (.bool true)∧Below w.heap.size w w':=by
 obtain ⟨i,hi,hz0,hz1,hz2⟩:=info_parts rX
 go_enter Tryz.func117,Tryz.ntmps117
 go_wp2_with fail
 refine wp_loop_once ?_
 go_wp2_with (at_make;refine wpList_make_row _ rfl _ _ 121 rfl 241 i (.slice none 0 0) Tryz.underlying121 hi hz0 hz1 rfl _ _ 0 rfl rfl ?e0 ?e1 ?_)
 case e0=>rw [hz2];omega
 case e1=>omega
 go_wp2_with fail
 refine wp_loop_once ?_
 go_wp2_with fail
 refine wp_loop_once ?_
 go_wp2_with fail
 refine wp_loop_once ?_
 go_wp2_with fail
 refine wp_loop_once ?_
 go_wp2_with fail
 go_ret
 exact ⟨rfl,(Below.refl _ _).alloc (Nat.le_refl _) _⟩
theorem oy:(Tryz.prog.info? 246).map (fun i=>(i.zero,i.size,i.bytes))=some (some (.slice none 0 0),1,24):=by kernel_rfl
set_option maxRecDepth 100000 in
set_option maxHeartbeats 1000000 in
theorem gO (w:World):Calls Tryz.prog 118 #[.slice none 0 0] w fun e w'=>e=.returned (.bool true)∧Below w.heap.size w w':=by
 obtain ⟨i,hi,hz0,hz1,hz2⟩:=info_parts oy
 go_enter Tryz.func118,Tryz.ntmps118
 go_wp2_with fail
 refine wp_loop_once ?_
 go_wp2_with (at_make;refine wpList_make_row _ rfl _ _ 122 rfl 246 i (.slice none 0 0) Tryz.underlying122 hi hz0 hz1 rfl _ _ 0 rfl rfl ?e0 ?e1 ?_)
 case e0=>rw [hz2];omega
 case e1=>omega
 go_wp2_with fail
 refine wp_loop_once ?_
 go_wp2_with fail
 refine wp_loop_once ?_
 go_wp2_with fail
 refine wp_loop_once ?_
 go_wp2_with fail
 refine wp_loop_once ?_
 go_wp2_with fail
 go_ret
 exact ⟨rfl,(Below.refl _ _).alloc (Nat.le_refl _) _⟩
theorem qT:(Tryz.prog.info? 252).map (fun i=>(i.zero,i.size,i.bytes))=some (some (.slice none 0 0),1,24):=by kernel_rfl
set_option maxRecDepth 100000 in
set_option maxHeartbeats 1000000 in
theorem iJ (w:World):Calls Tryz.prog 119 #[.slice none 0 0] w fun e w'=>e=.returned (.bool true)∧Below w.heap.size w w':=by
 obtain ⟨i,hi,hz0,hz1,hz2⟩:=info_parts qT
 go_enter Tryz.func119,Tryz.ntmps119
 go_wp2_with fail
 refine wp_loop_once ?_
 go_wp2_with (at_make;refine wpList_make_row _ rfl _ _ 123 rfl 252 i (.slice none 0 0) Tryz.underlying123 hi hz0 hz1 rfl _ _ 0 rfl rfl ?e0 ?e1 ?_)
 case e0=>rw [hz2];omega
 case e1=>omega
 go_wp2_with fail
 refine wp_loop_once ?_
 go_wp2_with fail
 refine wp_loop_once ?_
 go_wp2_with fail
 refine wp_loop_once ?_
 go_wp2_with fail
 refine wp_loop_once ?_
 go_wp2_with fail
 go_ret
 exact ⟨rfl,(Below.refl _ _).alloc (Nat.le_refl _) _⟩
end Go.Proofs.YtomnhnmciopiiaaGreat
end
section
namespace Go.Proofs.YtomnhnmciopiiaaGreat
open Go Go.RowKit Go.Maps
set_option maxRecDepth 100000
attribute [local irreducible] wpList
theorem ti (w0 w:World) (L:List Ent) (mb:Nat) (ub:Nat→Value) (nb:Nat→Nat) (xb:Nat→List Value) (Ab:Option Addr) (cb:Nat) (hmb:mb≤1000000) (hnb:∀ i,i<mb→nb i≤1000000) (hm:Mem w0 w (Ent.all (List.range mb) (fun i=>ar w0.heap.size 5 1 (PS.self (ub i) (nb i) (xb i))) :: aw w0.heap.size 24 1 (.slice Ab mb cb) mb (((List.range mb).map ub).flatMap vb) :: L)) :
  Calls Tryz.prog 104 #[.slice Ab mb cb] w fun e w'=>e=.returned (.bool true)∧Mem w0 w' (aw w0.heap.size 24 1 (.slice Ab mb cb) mb (((List.range mb).map ub).flatMap vb) :: L):=by
 obtain ⟨hp,hok,hfar⟩:=Mem.pack [Ent.all (List.range mb) (fun i=>ar w0.heap.size 5 1 (PS.self (ub i) (nb i) (xb i))),aw w0.heap.size 24 1 (.slice Ab mb cb) mb (((List.range mb).map ub).flatMap vb)] hm
 exact (jN w0 w _ mb ub nb xb _ Ab cb hmb hnb hp).mono fun e w' ⟨h1,h2⟩=>⟨h1,Mem.unpack [aw w0.heap.size 24 1 (.slice Ab mb cb) mb (((List.range mb).map ub).flatMap vb)] h2 hok hfar⟩
theorem se (w0 w:World) (L:List Ent) (mn:Nat) (un:Nat→Value) (nn:Nat→Nat) (xn:Nat→List Value) (An:Option Addr) (cn:Nat) (hmn:mn≤1000000) (hnn:∀ i,i<mn→nn i≤1000000) (hm:Mem w0 w (Ent.all (List.range mn) (fun i=>ar w0.heap.size 87 43 (PS.self (un i) (nn i) (xn i))) :: aw w0.heap.size 23 1 (.slice An mn cn) mn (((List.range mn).map un).flatMap vb) :: L)) :
  Calls Tryz.prog 114 #[.slice An mn cn] w fun e w'=>e=.returned (.bool true)∧Mem w0 w' (aw w0.heap.size 23 1 (.slice An mn cn) mn (((List.range mn).map un).flatMap vb) :: L):=by
 obtain ⟨hp,hok,hfar⟩:=Mem.pack [Ent.all (List.range mn) (fun i=>ar w0.heap.size 87 43 (PS.self (un i) (nn i) (xn i))),aw w0.heap.size 23 1 (.slice An mn cn) mn (((List.range mn).map un).flatMap vb)] hm
 exact (nE w0 w _ mn un nn xn _ An cn hmn hnn hp).mono fun e w' ⟨h1,h2⟩=>⟨h1,Mem.unpack [aw w0.heap.size 23 1 (.slice An mn cn) mn (((List.range mn).map un).flatMap vb)] h2 hok hfar⟩
theorem vE (w0 w:World) (L:List Ent) (md:Nat) (ud:Nat→Value) (nd:Nat→Nat) (xd:Nat→List Value) (Ad:Option Addr) (cd:Nat) (hmd:md≤1000000) (hnd:∀ i,i<md→nd i≤1000000) (hm:Mem w0 w (Ent.all (List.range md) (fun i=>ar w0.heap.size 26 3 (PS.self (ud i) (nd i) (xd i))) :: aw w0.heap.size 53 1 (.slice Ad md cd) md (((List.range md).map ud).flatMap vb) :: L)) :
  Calls Tryz.prog 115 #[.slice Ad md cd] w fun e w'=>e=.returned (.bool true)∧Mem w0 w' (aw w0.heap.size 53 1 (.slice Ad md cd) md (((List.range md).map ud).flatMap vb) :: L):=by
 obtain ⟨hp,hok,hfar⟩:=Mem.pack [Ent.all (List.range md) (fun i=>ar w0.heap.size 26 3 (PS.self (ud i) (nd i) (xd i))),aw w0.heap.size 53 1 (.slice Ad md cd) md (((List.range md).map ud).flatMap vb)] hm
 exact (qu w0 w _ md ud nd xd _ Ad cd hmd hnd hp).mono fun e w' ⟨h1,h2⟩=>⟨h1,Mem.unpack [aw w0.heap.size 53 1 (.slice Ad md cd) md (((List.range md).map ud).flatMap vb)] h2 hok hfar⟩
set_option maxHeartbeats 40000000 in
theorem vk (w0 w:World) (R:Ent) (g:Nat) (mb:Nat) (ub:Nat→Value) (nb:Nat→Nat) (xb:Nat→List Value) (Ab:Option Addr) (cb:Nat) (hmb:mb≤1000000) (hnb:∀ i,i<mb→nb i≤1000000) (mn:Nat) (un:Nat→Value) (nn:Nat→Nat) (xn:Nat→List Value) (An:Option Addr) (cn:Nat) (hmn:mn≤1000000) (hnn:∀ i,i<mn→nn i≤1000000) (md:Nat) (ud:Nat→Value) (nd:Nat→Nat) (xd:Nat→List Value) (Ad:Option Addr) (cd:Nat) (hmd:md≤1000000) (hnd:∀ i,i<md→nd i≤1000000)
  (hm:Mem w0 w [Ent.all (List.range mb) (fun i=>ar w0.heap.size 5 1 (PS.self (ub i) (nb i) (xb i))),aw w0.heap.size 24 1 (.slice Ab mb cb) mb (((List.range mb).map ub).flatMap vb),Ent.all (List.range mn) (fun i=>ar w0.heap.size 87 43 (PS.self (un i) (nn i) (xn i))),aw w0.heap.size 23 1 (.slice An mn cn) mn (((List.range mn).map un).flatMap vb),Ent.all (List.range md) (fun i=>ar w0.heap.size 26 3 (PS.self (ud i) (nd i) (xd i))),aw w0.heap.size 53 1 (.slice Ad md cd) md (((List.range md).map ud).flatMap vb),cC g 125 (eC (.slice Ab mb cb) (.slice An mn cn) (.slice Ad md cd)).toArray,R]) :
  Calls Tryz.prog 71 #[.pointer (some ⟨g,0,none⟩)] w fun e w'=>e=.returned (.bool true)∧Mem w0 w' [R]:=by
 go_enter Tryz.func71,Tryz.ntmps71
 refine wp_seq_k (fun K1 hK1=>?_)
 refine rl ?_
 refine nt (hK1 _ _ ?_)
 refine wp_seq_k (fun K2 hK2=>?_)
 refine rl ?_
 refine rv (v:=.pointer (some ⟨g,0,none⟩)) (by kernel_rfl) ?_
 refine rv (v:=.pointer (some ⟨g,0,none⟩)) (by kernel_rfl) ?_
 refine rv (xlc (range_cell (cL 0 _ rfl (Blk.range (Mem.blk hm 6 rfl)))) Tryz.underlying106) ?_
 refine an (by kernel_rfl) _ _ (by kernel_rfl) (jQ w) ?_
 rintro e w3 ⟨rfl,hb5⟩
 refine ⟨_,rfl,rn ?_⟩
 have H4:=Mem.call hm hb5
 refine rn ?_
 refine rv (v:=.pointer (some ⟨g,0,none⟩)) (by kernel_rfl) ?_
 refine rv (v:=.pointer (some ⟨g,1,none⟩)) (by kernel_rfl) ?_
 refine rv (xlc (range_cell (cL 1 _ rfl (Blk.range (Mem.blk H4 6 rfl)))) Tryz.underlying107) ?_
 refine an (by kernel_rfl) _ _ (by kernel_rfl) (jR w3) ?_
 rintro e w6 ⟨rfl,hb8⟩
 refine ⟨_,rfl,rn ?_⟩
 have H7:=Mem.call H4 hb8
 refine rn ?_
 refine rv (v:=.pointer (some ⟨g,0,none⟩)) (by kernel_rfl) ?_
 refine rv (v:=.pointer (some ⟨g,2,none⟩)) (by kernel_rfl) ?_
 refine rv (xlc (range_cell (cL 2 _ rfl (Blk.range (Mem.blk H7 6 rfl)))) Tryz.underlying108) ?_
 refine an (by kernel_rfl) _ _ (by kernel_rfl) (kC w6) ?_
 rintro e w9 ⟨rfl,hb11⟩
 refine ⟨_,rfl,rn ?_⟩
 have H10:=Mem.call H7 hb11
 refine rn ?_
 refine rv (v:=.pointer (some ⟨g,0,none⟩)) (by kernel_rfl) ?_
 refine rv (v:=.pointer (some ⟨g,3,none⟩)) (by kernel_rfl) ?_
 refine rv (xlc (range_cell (cL 3 _ rfl (Blk.range (Mem.blk H10 6 rfl)))) Tryz.underlying109) ?_
 refine an (by kernel_rfl) _ _ (by kernel_rfl) (jO w9) ?_
 rintro e w12 ⟨rfl,hb14⟩
 refine ⟨_,rfl,rn ?_⟩
 have H13:=Mem.call H10 hb14
 refine rn ?_
 refine rv (v:=.pointer (some ⟨g,0,none⟩)) (by kernel_rfl) ?_
 refine rv (v:=.pointer (some ⟨g,4,none⟩)) (by kernel_rfl) ?_
 refine rv (xlc (range_cell (cL 4 _ rfl (Blk.range (Mem.blk H13 6 rfl)))) Tryz.underlying110) ?_
 refine an (by kernel_rfl) _ _ (by kernel_rfl) (jT w12) ?_
 rintro e w15 ⟨rfl,hb17⟩
 refine ⟨_,rfl,rn ?_⟩
 have H16:=Mem.call H13 hb17
 refine rn ?_
 refine rv (v:=.pointer (some ⟨g,0,none⟩)) (by kernel_rfl) ?_
 refine rv (v:=.pointer (some ⟨g,5,none⟩)) (by kernel_rfl) ?_
 refine rv (xlc (range_cell (cL 5 _ rfl (Blk.range (Mem.blk H16 6 rfl)))) Tryz.underlying95) ?_
 refine an (by kernel_rfl) _ _ (by kernel_rfl) (ti w0 w15 _ mb ub nb xb Ab cb hmb hnb (Mem.pick H16 [0,1,2,3,4,5,6,7] (by decide) rfl)) ?_
 rintro e w19 ⟨rfl,hm18⟩
 refine ⟨_,rfl,rn ?_⟩
 have H20:=hm18
 refine rn ?_
 refine rv (v:=.pointer (some ⟨g,0,none⟩)) (by kernel_rfl) ?_
 refine rv (v:=.pointer (some ⟨g,6,none⟩)) (by kernel_rfl) ?_
 refine rv (xlc (range_cell (cL 6 _ rfl (Blk.range (Mem.blk H20 5 rfl)))) Tryz.underlying111) ?_
 refine an (by kernel_rfl) _ _ (by kernel_rfl) (jj w19) ?_
 rintro e w22 ⟨rfl,hb24⟩
 refine ⟨_,rfl,rn ?_⟩
 have H23:=Mem.call H20 hb24
 refine rn ?_
 refine rv (v:=.pointer (some ⟨g,0,none⟩)) (by kernel_rfl) ?_
 refine rv (v:=.pointer (some ⟨g,7,none⟩)) (by kernel_rfl) ?_
 refine rv (xlc (range_cell (cL 7 _ rfl (Blk.range (Mem.blk H23 5 rfl)))) Tryz.underlying77) ?_
 refine an (by kernel_rfl) _ _ (by kernel_rfl) (ov w22) ?_
 rintro e w25 ⟨rfl,hb27⟩
 refine ⟨_,rfl,rn ?_⟩
 have H26:=Mem.call H23 hb27
 refine rn ?_
 refine rv (v:=.pointer (some ⟨g,0,none⟩)) (by kernel_rfl) ?_
 refine rv (v:=.pointer (some ⟨g,8,none⟩)) (by kernel_rfl) ?_
 refine rv (xlc (range_cell (cL 8 _ rfl (Blk.range (Mem.blk H26 5 rfl)))) Tryz.underlying112) ?_
 refine an (by kernel_rfl) _ _ (by kernel_rfl) (kI w25) ?_
 rintro e w28 ⟨rfl,hb30⟩
 refine ⟨_,rfl,rn ?_⟩
 have H29:=Mem.call H26 hb30
 refine rn ?_
 refine rv (v:=.pointer (some ⟨g,0,none⟩)) (by kernel_rfl) ?_
 refine rv (v:=.pointer (some ⟨g,9,none⟩)) (by kernel_rfl) ?_
 refine rv (xlc (range_cell (cL 9 _ rfl (Blk.range (Mem.blk H29 5 rfl)))) Tryz.underlying113) ?_
 refine an (by kernel_rfl) _ _ (by kernel_rfl) (jU w28) ?_
 rintro e w31 ⟨rfl,hb33⟩
 refine ⟨_,rfl,rn ?_⟩
 have H32:=Mem.call H29 hb33
 refine rn ?_
 refine rv (v:=.pointer (some ⟨g,0,none⟩)) (by kernel_rfl) ?_
 refine rv (v:=.pointer (some ⟨g,10,none⟩)) (by kernel_rfl) ?_
 refine rv (xlc (range_cell (cL 10 _ rfl (Blk.range (Mem.blk H32 5 rfl)))) Tryz.underlying114) ?_
 refine an (by kernel_rfl) _ _ (by kernel_rfl) (jL w31) ?_
 rintro e w34 ⟨rfl,hb36⟩
 refine ⟨_,rfl,rn ?_⟩
 have H35:=Mem.call H32 hb36
 refine rn ?_
 refine rv (v:=.pointer (some ⟨g,0,none⟩)) (by kernel_rfl) ?_
 refine rv (v:=.pointer (some ⟨g,11,none⟩)) (by kernel_rfl) ?_
 refine rv (xlc (range_cell (cL 11 _ rfl (Blk.range (Mem.blk H35 5 rfl)))) Tryz.underlying115) ?_
 refine an (by kernel_rfl) _ _ (by kernel_rfl) (iL w34) ?_
 rintro e w37 ⟨rfl,hb39⟩
 refine ⟨_,rfl,rn ?_⟩
 have H38:=Mem.call H35 hb39
 refine rn ?_
 refine rv (v:=.pointer (some ⟨g,0,none⟩)) (by kernel_rfl) ?_
 refine rv (v:=.pointer (some ⟨g,12,none⟩)) (by kernel_rfl) ?_
 refine rv (xlc (range_cell (cL 12 _ rfl (Blk.range (Mem.blk H38 5 rfl)))) Tryz.underlying116) ?_
 refine an (by kernel_rfl) _ _ (by kernel_rfl) (kU w37) ?_
 rintro e w40 ⟨rfl,hb42⟩
 refine ⟨_,rfl,rn ?_⟩
 have H41:=Mem.call H38 hb42
 refine rn ?_
 refine rv (v:=.pointer (some ⟨g,0,none⟩)) (by kernel_rfl) ?_
 refine rv (v:=.pointer (some ⟨g,13,none⟩)) (by kernel_rfl) ?_
 refine rv (xlc (range_cell (cL 13 _ rfl (Blk.range (Mem.blk H41 5 rfl)))) Tryz.underlying117) ?_
 refine an (by kernel_rfl) _ _ (by kernel_rfl) (iK w40) ?_
 rintro e w43 ⟨rfl,hb45⟩
 refine ⟨_,rfl,rn ?_⟩
 have H44:=Mem.call H41 hb45
 refine rn ?_
 refine rv (v:=.pointer (some ⟨g,0,none⟩)) (by kernel_rfl) ?_
 refine rv (v:=.pointer (some ⟨g,14,none⟩)) (by kernel_rfl) ?_
 refine rv (xlc (range_cell (cL 14 _ rfl (Blk.range (Mem.blk H44 5 rfl)))) Tryz.underlying118) ?_
 refine an (by kernel_rfl) _ _ (by kernel_rfl) (jk w43) ?_
 rintro e w46 ⟨rfl,hb48⟩
 refine ⟨_,rfl,rn ?_⟩
 have H47:=Mem.call H44 hb48
 refine rn ?_
 refine rv (v:=.pointer (some ⟨g,0,none⟩)) (by kernel_rfl) ?_
 refine rv (v:=.pointer (some ⟨g,15,none⟩)) (by kernel_rfl) ?_
 refine rv (xlc (range_cell (cL 15 _ rfl (Blk.range (Mem.blk H47 5 rfl)))) Tryz.underlying119) ?_
 refine an (by kernel_rfl) _ _ (by kernel_rfl) (se w0 w46 _ mn un nn xn An cn hmn hnn (Mem.pick H47 [1,2,0,3,4,5,6] (by decide) rfl)) ?_
 rintro e w50 ⟨rfl,hm49⟩
 refine ⟨_,rfl,rn ?_⟩
 have H51:=hm49
 refine rn ?_
 refine rv (v:=.pointer (some ⟨g,0,none⟩)) (by kernel_rfl) ?_
 refine rv (v:=.pointer (some ⟨g,16,none⟩)) (by kernel_rfl) ?_
 refine rv (xlc (range_cell (cL 16 _ rfl (Blk.range (Mem.blk H51 4 rfl)))) Tryz.underlying55) ?_
 refine an (by kernel_rfl) _ _ (by kernel_rfl) (vE w0 w50 _ md ud nd xd Ad cd hmd hnd (Mem.pick H51 [2,3,0,1,4,5] (by decide) rfl)) ?_
 rintro e w54 ⟨rfl,hm53⟩
 refine ⟨_,rfl,rn ?_⟩
 have H55:=hm53
 refine rn ?_
 refine rv (v:=.pointer (some ⟨g,0,none⟩)) (by kernel_rfl) ?_
 refine rv (v:=.pointer (some ⟨g,17,none⟩)) (by kernel_rfl) ?_
 refine rv (xlc (range_cell (cL 17 _ rfl (Blk.range (Mem.blk H55 3 rfl)))) Tryz.underlying120) ?_
 refine an (by kernel_rfl) _ _ (by kernel_rfl) (jP w54) ?_
 rintro e w57 ⟨rfl,hb59⟩
 refine ⟨_,rfl,rn ?_⟩
 have H58:=Mem.call H55 hb59
 refine rn ?_
 refine rv (v:=.pointer (some ⟨g,0,none⟩)) (by kernel_rfl) ?_
 refine rv (v:=.pointer (some ⟨g,18,none⟩)) (by kernel_rfl) ?_
 refine rv (xlc (range_cell (cL 18 _ rfl (Blk.range (Mem.blk H58 3 rfl)))) Tryz.underlying121) ?_
 refine an (by kernel_rfl) _ _ (by kernel_rfl) (ja w57) ?_
 rintro e w60 ⟨rfl,hb62⟩
 refine ⟨_,rfl,rn ?_⟩
 have H61:=Mem.call H58 hb62
 refine rn ?_
 refine rv (v:=.pointer (some ⟨g,0,none⟩)) (by kernel_rfl) ?_
 refine rv (v:=.pointer (some ⟨g,19,none⟩)) (by kernel_rfl) ?_
 refine rv (xlc (range_cell (cL 19 _ rfl (Blk.range (Mem.blk H61 3 rfl)))) Tryz.underlying122) ?_
 refine an (by kernel_rfl) _ _ (by kernel_rfl) (gO w60) ?_
 rintro e w63 ⟨rfl,hb65⟩
 refine ⟨_,rfl,rn ?_⟩
 have H64:=Mem.call H61 hb65
 refine rn ?_
 refine rv (v:=.pointer (some ⟨g,0,none⟩)) (by kernel_rfl) ?_
 refine rv (v:=.pointer (some ⟨g,20,none⟩)) (by kernel_rfl) ?_
 refine rv (xlc (range_cell (cL 20 _ rfl (Blk.range (Mem.blk H64 3 rfl)))) Tryz.underlying123) ?_
 refine an (by kernel_rfl) _ _ (by kernel_rfl) (iJ w63) ?_
 rintro e w66 ⟨rfl,hb68⟩
 refine ⟨_,rfl,rn ?_⟩
 have H67:=Mem.call H64 hb68
 refine rn ?_
 refine nt (hK2 _ _ ?_)
 refine wp_ret ?_
 refine bodyPost_ret (results_tmp rfl _ _ _) rfl ?_
 exact ⟨rfl,(Mem.pick H67 [4] (by decide) rfl)⟩
end Go.Proofs.YtomnhnmciopiiaaGreat
end
section
namespace Go.Proofs.YtomnhnmciopiiaaGreat
open Go Go.RowKit Go.Maps
set_option maxRecDepth 100000
theorem Mem.BN {α:Type} {w0 w:World} {L:List Ent} {l:List α} {f a b:α→Ent} (h:Mem w0 w (Ent.all l f :: L)) (ha:∀ x∈l,(a x).Ok) (hb:∀ x∈l,(b x).Ok) (hPa:∀ x∈l,(f x).P w→(a x).P w) (hPb:∀ x∈l,(f x).P w→(b x).P w)
  (hFa:∀ x∈l,∀ k,(a x).F k→(f x).F k) (hFb:∀ x∈l,∀ k,(b x).F k→(f x).F k) (hd:∀ x∈l,Far (a x).F (b x).F):Mem w0 w (Ent.all l a :: Ent.all l b :: L):=by
 have hp:=h.holds (Ent.all l f) (by simp)
 have hlo:=h.lo (Ent.all l f) (by simp)
 have hf:=List.pairwise_cons.1 h.far
 have hpa:∀ {c:α→Ent},(∀ x∈l,∀ k,(c x).F k→(f x).F k)→l.Pairwise fun x y=>Far (c x).F (c y).F:=fun {c} hc=>by
  refine List.Pairwise.imp_of_mem ?_ hp.2
  intro x y hx hy hxy k h1 h2
  exact hxy k (hc x hx k h1) (hc y hy k h2)
 have hfar:∀ x∈l,∀ y∈l,Far (a x).F (b y).F:=fun x hx y hy k h1 h2=>by
  obtain ⟨i,hi,rfl⟩:=List.getElem_of_mem hx
  obtain ⟨j,hj,rfl⟩:=List.getElem_of_mem hy
  by_cases hij:i=j
  ·subst hij
   exact hd _ hx k h1 h2
  ·have hpw:=List.pairwise_iff_getElem.1 hp.2
   rcases Nat.lt_or_ge i j with hlt | hge
   ·exact hpw i j hi hj hlt k (hFa _ hx k h1) (hFb _ hy k h2)
   ·exact hpw j i hj hi (by omega) k (hFb _ hy k h2) (hFa _ hx k h1)
 have h1:Mem w0 w (Ent.all l b :: L):=(h.drop 1).cons (Ent.nN hb) ⟨fun x hx=>hPb x hx (hp.1 x hx),hpa hFb⟩ fun k ⟨x,hx,hk⟩=>⟨(hlo k ⟨x,hx,hFb x hx k hk⟩).1,(hlo k ⟨x,hx,hFb x hx k hk⟩).2,fun y hy hyk=>hf.1 y hy k ⟨x,hx,hFb x hx k hk⟩ hyk⟩
 refine h1.cons (Ent.nN ha) ⟨fun x hx=>hPa x hx (hp.1 x hx),hpa hFa⟩ fun k ⟨x,hx,hk⟩=>⟨(hlo k ⟨x,hx,hFa x hx k hk⟩).1,(hlo k ⟨x,hx,hFa x hx k hk⟩).2,fun y hy hyk=>?_⟩
 rcases List.mem_cons.1 hy with rfl | hy
 ·obtain ⟨z,hz,hzk⟩:=hyk
  exact hfar x hx z hz k hk hzk
 ·exact hf.1 y hy k ⟨x,hx,hFa x hx k hk⟩ hyk
theorem Mem.rz {α:Type} {w0 w:World} {L:List Ent} {l:List α} {f a:α→Ent} (h:Mem w0 w (Ent.all l f :: L)) (ha:∀ x∈l,(a x).Ok) (hPa:∀ x∈l,(f x).P w→(∀ k,(f x).F k→w0.heap.size≤k)→(a x).P w) (hFa:∀ x∈l,∀ k,(a x).F k→(f x).F k):Mem w0 w (Ent.all l a :: L):=by
 have hp:=h.holds (Ent.all l f) (by simp)
 refine h.sq (e':=Ent.all l a) 0 rfl (Ent.nN ha) ⟨fun x hx=>hPa x hx (hp.1 x hx) fun k hk=>(h.lo (Ent.all l f) (by simp) k ⟨x,hx,hk⟩).1,?_⟩ fun k ⟨x,hx,hk⟩=>⟨x,hx,hFa x hx k hk⟩
 refine List.Pairwise.imp_of_mem ?_ hp.2
 intro x y hx hy hxy k h1 h2
 exact hxy k (hFa x hx k h1) (hFa y hy k h2)
theorem Ent.all_map {α β:Type} (l:List β) (h:β→α) (f:α→Ent):Ent.all (l.map h) f=Ent.all l fun y=>f (h y):=by
 unfold Ent.all
 congr 1
 ·funext b
  exact propext ⟨fun ⟨x,hx,hb⟩=>by obtain ⟨y,hy,rfl⟩:=List.mem_map.1 hx;exact ⟨y,hy,hb⟩,fun ⟨y,hy,hb⟩=>⟨h y,List.mem_map_of_mem hy,hb⟩⟩
 ·funext w
  refine propext (and_congr ⟨fun hx y hy=>hx (h y) (List.mem_map_of_mem hy),fun hx x hm=>by obtain ⟨y,hy,rfl⟩:=List.mem_map.1 hm;exact hx y hy⟩ ?_)
  rw [List.pairwise_map]
theorem mJ {α:Type} (d:α) (l:List α):(List.range l.length).map (fun i=>l.getD i d)=l:=by
 apply List.ext_getElem?
 intro i
 rw [List.getElem?_map]
 by_cases h:i<l.length
 ·rw [List.getElem?_range h,List.getElem?_eq_getElem h,Option.map_some,List.getD_eq_getElem?_getD,List.getElem?_eq_getElem h,Option.getD_some]
 ·rw [List.getElem?_eq_none (by simp;omega),List.getElem?_eq_none (by omega)]
  rfl
theorem Ent.o6 {α:Type} (d:α) (l:List α) (f:α→Ent):Ent.all l f=Ent.all (List.range l.length) fun i=>f (l.getD i d):=by
 rw [← Ent.all_map (List.range l.length) (fun i=>l.getD i d) f,mJ]
def eL:dD:=((dg,(⟨#[]⟩,[],[])),.slice none 0 0,.slice none 0 0)
theorem Mem.BV {w0 w:World} {L:List Ent} {B:Nat} {l:List dD} (h:Mem w0 w (Ent.all l (ix B) :: L)) :
  Mem w0 w (Ent.all (List.range l.length) (fun i=>ar w0.heap.size 5 1 (PS.self (l.getD i eL).2.2 (l.getD i eL).1.2.2.2.length ((l.getD i eL).1.2.2.2.flatMap ib))) ::
   Ent.all (List.range l.length) (fun i=>ar w0.heap.size 87 43 (PS.self (l.getD i eL).2.1 (l.getD i eL).1.2.2.1.length ((l.getD i eL).1.2.2.1.flatMap nC))) :: L):=by
 rw [← Ent.o6 eL l fun p=>ar w0.heap.size 5 1 (PS.self p.2.2 p.1.2.2.2.length (p.1.2.2.2.flatMap ib)),← Ent.o6 eL l fun p=>ar w0.heap.size 87 43 (PS.self p.2.1 p.1.2.2.1.length (p.1.2.2.1.flatMap nC))]
 have hp:=h.holds (Ent.all l (ix B)) (by simp)
 have hlo:=h.lo (Ent.all l (ix B)) (by simp)
 refine h.BN (fun x _=>gJ _ _ _ _) (fun x _=>gJ _ _ _ _) (fun x hx hP=>gZ (bS (show bx w B x.1.2 x.2.1 x.2.2 from hP).kL fun g hg=>(hlo g ⟨x,hx,.inr hg⟩).1)) (fun x hx hP=>gZ (bS (show bx w B x.1.2 x.2.1 x.2.2 from hP).oc fun g hg=>(hlo g ⟨x,hx,.inl hg⟩).1))
  (fun x _ k hk=>.inr (by rcases hk with hk | hk<;>exact hk)) (fun x _ k hk=>.inl (by rcases hk with hk | hk<;>exact hk)) fun x hx k h1 h2=>?_
 have hP:bx w B x.1.2 x.2.1 x.2.2:=hp.1 x hx
 have h1:x.2.2.ownBlock=some k:=by rcases h1 with h1 | h1<;>exact h1
 have h2:x.2.1.ownBlock=some k:=by rcases h2 with h2 | h2<;>exact h2
 rcases aU hP.kL with ⟨e,_⟩ | ⟨g,cap,cur,e,_,_,_,hb,_⟩
 ·rw [e] at h1
  cases h1
 ·rw [e] at h1
  injection h1 with h1
  subst h1
  exact ew hP.oc hb (by decide) h2
theorem Mem.zy {w0 w:World} {L:List Ent} {m:Nat} {B:Nat→Nat} {t:TypeId} {s:Nat} {u:Nat→Value} {n:Nat→Nat} {x:Nat→List Value} (h:Mem w0 w (Ent.all (List.range m) (fun k=>aw (B k) t s (u k) (n k) (x k)) :: L)) :
  Mem w0 w (Ent.all (List.range m) (fun k=>ar w0.heap.size t s (PS.self (u k) (n k) (x k))) :: L) :=
 h.rz (fun _ _=>gJ _ _ _ _) (fun k _ hP hlo=>gZ (bS (show w.ownsRow (B k) t s (u k) (n k) (x k) from hP) fun g hg=>hlo g hg)) fun k _ g hg=>by rcases hg with hg | hg<;>exact hg
end Go.Proofs.YtomnhnmciopiiaaGreat
end
section
namespace Go.Proofs.YtomnhnmciopiiaaGreat
open Go Go.RowKit Go.Maps
set_option maxRecDepth 100000
attribute [local irreducible] wpList
theorem ng (os:Nat→List dD) {k m:Nat} (h:k≤m):((List.range k).flatMap os).length≤((List.range m).flatMap os).length:=by
 obtain ⟨d,rfl⟩:∃ d,m=k+d:=⟨m-k,by omega⟩
 induction d with
 | zero=>exact Nat.le_refl _
 | succ d ih =>
  have h2:=ih (by omega)
  rw [← Nat.add_assoc,List.range_succ,List.flatMap_append,List.length_append]
  omega
theorem jA (os:Nat→List dD) (k:Nat):(List.range (k+1)).flatMap os=(List.range k).flatMap os++os k:=by
 rw [List.range_succ,List.flatMap_append,List.flatMap_singleton]
theorem pq (f:dD→Value) (l:List dD):l.map f=(List.range l.length).map fun i=>f (l.getD i eL):=by
 conv =>
  lhs
  rw [← mJ eL l]
 rw [List.map_map]
 rfl
theorem sw (u:Nat→Value) (k:Nat):(List.range (k+1)).map u=(List.range k).map u++[u k]:=by
 rw [List.range_succ,List.map_append]
 rfl
theorem sK {l:List dD} {i:Nat} (h:i<l.length):l.getD i eL∈l:=by
 rw [List.getD_eq_getElem?_getD,List.getElem?_eq_getElem h,Option.getD_some]
 exact List.getElem_mem h
set_option maxHeartbeats 40000000 in
theorem oA (w0 w:World) (R R2:Ent) (m:Nat) (u:Nat→Value) (os:Nat→List dD) (A:Option Addr) (c:Nat) (B4:Nat) (B:Nat→Nat) (hm9:m≤1000) (htot:((List.range m).flatMap os).length≤1000000)
  (hRl:∀ W,R.P W→W.ownsRow B4 53 1 (.slice A m c) m (((List.range m).map u).flatMap vb)) (hRo:∀ W,R.P W→∀ k,k<m→W.ownsRow (B k) 26 3 (u k) (os k).length ((os k).flatMap dV9))
  (hsl:∀ k,k<m→∀ p∈os k,ig p.2.1∧ig p.2.2) (hall:∀ p∈(List.range m).flatMap os,p.1.2.2.1.length≤1000000∧p.1.2.2.2.length≤1000000)
  (hconv:∀ (W:World) (K:List Ent),Mem w0 W (K++[R])→Mem w0 W (K++[Ent.all (List.range ((List.range m).flatMap os).length) (fun i=>ar w0.heap.size 5 1 (PS.self (((List.range m).flatMap os).getD i eL).2.2 (((List.range m).flatMap os).getD i eL).1.2.2.2.length ((((List.range m).flatMap os).getD i eL).1.2.2.2.flatMap ib))),Ent.all (List.range ((List.range m).flatMap os).length) (fun i=>ar w0.heap.size 87 43 (PS.self (((List.range m).flatMap os).getD i eL).2.1 (((List.range m).flatMap os).getD i eL).1.2.2.1.length ((((List.range m).flatMap os).getD i eL).1.2.2.1.flatMap nC))),Ent.all (List.range m) (fun k=>ar w0.heap.size 26 3 (PS.self (u k) (os k).length ((os k).flatMap dV9))),R2])) (hm:Mem w0 w [R]) :
  Calls Tryz.prog 24 #[.slice A m c] w fun e w'=>e=.returned (.bool true)∧Mem w0 w' [R2]:=by
 have hR8:=hm.holds R (by simp)
 have hR7:=hR8
 have hRl0:=hRl w hR8
 go_enter Tryz.func24,Tryz.ntmps24
 refine wp_seq_k (fun K1 hK1=>?_)
 refine rl ?_
 refine nt (hK1 _ _ ?_)
 refine wp_seq_k (fun K2 hK2=>?_)
 refine rl ?_
 refine rv (v:=.agg (eC (.slice none 0 0) (.slice none 0 0) (.slice none 0 0)).toArray) (by kernel_rfl) ?_
 refine ay (o:=⟨some 6,_,_,_,_,_⟩) rfl 125 (.tmp 5) rfl (eC (.slice none 0 0) (.slice none 0 0) (.slice none 0 0)).toArray rfl ?_
 intro w3 hn
 have H4:=Mem.bA hm hn
 clear hn
 refine rn ?_
 refine nt (hK2 _ _ ?_)
 refine wp_seq_k (fun K5 hK5=>?_)
 refine wp_seq_k (fun K6 hK6=>?_)
 refine rl ?_
 refine nt (hK6 _ _ ?_)
 refine wp_block ?_
 have H7:=Mem.dI H4 w0.heap.size 24 1
 have H8:=Mem.dI H7 w0.heap.size 23 1
 have H9:=Mem.dI H8 w0.heap.size 53 1
 obtain ⟨g,hg⟩:∃ g,g=w.heap.size:=⟨_,rfl⟩
 rw [← hg] at H9 ⊢
 have H10:=Mem.pick H9 [3,1,2,0,4] (by decide) rfl
 go_loopw [4] (fun x4 wr=>∃ k:Nat,∃ ns9:List Value,∃ An:Option Addr,∃ cn:Nat,∃ bs9:List Value,∃ Ab:Option Addr,∃ cb:Nat,∃ ds9:List Value,∃ Ad:Option Addr,∃ cd:Nat,x4=.int .i64 (k:Int)∧(k≤m)∧(ns9=((List.range k).flatMap os).map (·.2.1))∧(bs9=((List.range k).flatMap os).map (·.2.2))∧(ds9=(List.range k).map u)∧Mem w0 wr [cC g 125 (eC (.slice Ab bs9.length cb) (.slice An ns9.length cn) (.slice Ad ds9.length cd)).toArray,b7 w0.heap.size 23 An cn ns9,b7 w0.heap.size 24 Ab cb bs9,b7 w0.heap.size 53 Ad cd ds9,R]) (fun x4 _=>m-(intOf x4).toNat)
 case atStart=>exact ⟨0,([]:List Value),none,0,([]:List Value),none,0,([]:List Value),none,0,rfl,by omega,rfl,rfl,rfl,H10⟩
 case round =>
  obtain ⟨wo11,rfl⟩:∃ wo11,wo11=wr:=⟨_,rfl⟩
  obtain ⟨k,ns9,An,cn,bs9,Ab,cb,ds9,Ad,cd,rfl,hk,hns,hbs,hds,H12⟩:=hrel
  have hfl9:=ng os hk
  have hn9:ns9.length≤1000000:=by rw [hns,List.length_map];omega
  have hb9:bs9.length≤1000000:=by rw [hbs,List.length_map];omega
  have hd9:ds9.length≤1000000:=by rw [hds,List.length_map,List.length_range];omega
  have hR8:=hR7
  refine wp_seq_k (fun K14 hK14=>?_)
  refine wp_seq_k (fun K15 hK15=>?_)
  refine rl ?_
  by_cases p16:(k:Int)<(m:Int)
  ·refine rv (aB (decide_eq_true p16)) ?_
   refine nt (hK15 _ _ ?_)
   refine ct ?_
   refine ks (hK14 _ _ ?_)
   refine wp_seq_k (fun K17 hK17=>?_)
   refine wp_block ?_
   refine rl ?_
   obtain ⟨b18,rfl⟩:=(fun h0=>(aG hRl0 h0).imp fun _ h9=>h9.1) (by omega)
   obtain ⟨A22,c23,hu24⟩:=aP (hRo w hR8 k (by omega))
   refine rv (aT (s:=1) (k) Tryz.underlying55 (by kernel_rfl)) ?_
   refine rv (v:=.slice A22 (os k).length c23) (by rw [← hu24];exact exec_load_cell (o:=⟨some 17,_,_,_,_,_⟩) 53 (.tmp 16) rfl ⟨b18,k*1,none⟩ rfl _ _ wo11 Tryz.underlying53 rfl (range_cell (bw (hRl _ (Mem.get H12 4 rfl)) (by omega)))) ?_
   refine an (by kernel_rfl) _ _ (by kernel_rfl) (sh w0 wo11 R g ns9 bs9 ds9 An Ab Ad cn cb cd (B k) (os k) A22 c23 (fun W hW=>hu24▸hRo W hW k (by omega)) (hsl k (by omega)) (by have:=ng os (show k+1≤m by omega);rw [jA,List.length_append] at this;omega) (by omega) (by omega) (by omega) (Mem.pick H12 [0,1,2,3,4] (by decide) rfl)) ?_
   rintro e w32 ⟨rfl,A25,c26,A27,c28,A29,c30,hm31⟩
   refine ⟨_,rfl,rn ?_⟩
   have H33:=hm31
   refine wpList_nil ?_
   refine aq ?_
   refine ab (hK17 _ _ ?_)
   refine rl ?_
   refine rv (aR (((k+1:Nat):Int))) ?_
   refine wpList_nil ?_
   refine ab ?_
   show _∧_
   go_roundw
   case rel=>exact ⟨(k+1),(ns9++(os k).map (·.2.1)),A25,c26,(bs9++(os k).map (·.2.2)),A27,c28,(ds9++[Value.slice A22 (os k).length c23]),A29,c30,rfl,by omega,(by rw [hns,jA,List.map_append]),(by rw [hbs,jA,List.map_append]),(by rw [hds,sw,hu24]),H33⟩
   case measure=>simp [intOf];omega
  ·refine rv (aB (decide_eq_false p16)) ?_
   refine nt (hK15 _ _ ?_)
   refine cf ?_
   refine wp_exit ?_
   refine aj ?_
   refine aj ?_
   refine ax ?_
   refine ab (hK5 _ _ ?_)
   refine wp_seq_k (fun K35 hK35=>?_)
   refine rl ?_
   have hke:k=m:=by omega
   rw [hke] at hns hbs hds
   have hq9:=hconv _ [_,_,_,_] (Mem.pick H12 [0,1,2,3,4] (by decide) rfl)
   obtain ⟨all,hal⟩:∃ l,l=(List.range m).flatMap os:=⟨_,rfl⟩
   rw [← hal] at hns hbs hq9 hall htot
   unfold b7 at hq9
   have hnl9:ns9.length=all.length:=by rw [hns,List.length_map]
   have hbl9:bs9.length=all.length:=by rw [hbs,List.length_map]
   have hdl9:ds9.length=m:=by rw [hds,List.length_map,List.length_range]
   have hns2:=hns.trans (pq (·.2.1) all)
   have hbs2:=hbs.trans (pq (·.2.2) all)
   rw [hnl9,hbl9,hdl9] at hq9
   rw [hns2,hbs2,hds] at hq9
   refine an (by kernel_rfl) _ _ (by kernel_rfl) (vk w0 wo11 R2 g all.length (fun i=>(all.getD i eL).2.2) (fun i=>(all.getD i eL).1.2.2.2.length) (fun i=>(all.getD i eL).1.2.2.2.flatMap ib) Ab cb (by omega) (fun i hi=>(hall _ (sK hi)).2) all.length (fun i=>(all.getD i eL).2.1) (fun i=>(all.getD i eL).1.2.2.1.length) (fun i=>(all.getD i eL).1.2.2.1.flatMap nC) An cn (by omega) (fun i hi=>(hall _ (sK hi)).1) m u (fun k=>(os k).length) (fun k=>(os k).flatMap dV9) Ad cd (by omega) (fun k hk=>by have:=ng os (show k+1≤m by omega);rw [jA,List.length_append,← hal] at this;omega) (Mem.pick hq9 [4,2,5,1,6,3,0,7] (by decide) rfl)) ?_
   rintro e w37 ⟨rfl,hm36⟩
   refine ⟨_,rfl,rn ?_⟩
   have H38:=hm36
   refine rn ?_
   refine nt (hK35 _ _ ?_)
   refine wp_ret ?_
   refine bodyPost_ret (results_tmp rfl _ _ _) rfl ?_
   exact ⟨rfl,H38⟩
end Go.Proofs.YtomnhnmciopiiaaGreat
end
section
namespace Go.Proofs.YtomnhnmciopiiaaGreat
open Go Go.RowKit Go.Maps
set_option maxRecDepth 100000
theorem Mem.BW {α:Type} {w0 w:World} {L:List Ent} {f:α→Ent}:∀ {l l':List α},Mem w0 w (Ent.all l f :: Ent.all l' f :: L)→Mem w0 w (Ent.all (l++l') f :: L):=fun {l l'} h=>by
 have h2:=h.join
 have hp:=h.holds (Ent.all l f) (by simp)
 have hp':=h.holds (Ent.all l' f) (by simp)
 have hf:Far (Ent.all l f).F (Ent.all l' f).F:=(List.pairwise_cons.1 h.far).1 _ (by simp)
 refine h2.sq (e':=Ent.all (l++l') f) 0 rfl ?_ ⟨fun x hx=>?_,List.pairwise_append.2 ⟨hp.2,hp'.2,fun x hx y hy b h1 h3=>hf b ⟨x,hx,h1⟩ ⟨y,hy,h3⟩⟩⟩ fun b ⟨x,hx,hb⟩=>?_
 ·intro W W' hP hk
  have k1:=(h.ok (Ent.all l f) (by simp)) W W' ⟨fun x hx=>hP.1 x (List.mem_append_left _ hx),(List.pairwise_append.1 hP.2).1⟩ fun b ⟨x,hx,hb⟩=>hk b ⟨x,List.mem_append_left _ hx,hb⟩
  have k2:=(h.ok (Ent.all l' f) (by simp)) W W' ⟨fun x hx=>hP.1 x (List.mem_append_right _ hx),(List.pairwise_append.1 hP.2).2.1⟩ fun b ⟨x,hx,hb⟩=>hk b ⟨x,List.mem_append_right _ hx,hb⟩
  refine ⟨fun x hx=>?_,hP.2⟩
  rcases List.mem_append.1 hx with hx | hx
  ·exact k1.1 x hx
  ·exact k2.1 x hx
 ·rcases List.mem_append.1 hx with hx | hx
  ·exact hp.1 x hx
  ·exact hp'.1 x hx
 ·rcases List.mem_append.1 hx with hx | hx
  ·exact .inl ⟨x,hx,hb⟩
  ·exact .inr ⟨x,hx,hb⟩
theorem Mem.perm {w0 w:World} {L L':List Ent} (h:Mem w0 w L) (p:L.Perm L'):Mem w0 w L' :=
 ⟨h.below,fun e he=>h.ok e (p.mem_iff.2 he),fun e he=>h.holds e (p.mem_iff.2 he),fun e he b hf=>h.lo e (p.mem_iff.2 he) b hf,(p.pairwise_iff fun {_ _} hab=>Far.symm hab).1 h.far⟩
theorem Mem.swap {w0 w:World} {L:List Ent} {a b:Ent} (h:Mem w0 w (a :: b :: L)):Mem w0 w (b :: a :: L):=h.perm (List.Perm.swap _ _ _)
theorem Mem.y7 {w0 w:World} {L:List Ent} {B:Nat} {l:List dD} (h:Mem w0 w (Ent.all l (ix B) :: L)):Mem w0 w (Ent.all l (ix w0.heap.size) :: L) :=
 h.rz (fun _ _=>uR _ _) (fun x _ hP hlo=>bx.base (show bx w B x.1.2 x.2.1 x.2.2 from hP) fun b hb=>hlo b hb) fun _ _ _ hk=>hk
theorem bx.sls {w:World} {B:Nat} {d:Drv} {u1 u2:Value} (h:bx w B d u1 u2):ig u1∧ig u2:=by
 obtain ⟨A1,n1,c1,A2,n2,c2,rfl,rfl⟩:=h.form
 exact ⟨⟨_,_,_,rfl⟩,_,_,_,rfl⟩
end Go.Proofs.YtomnhnmciopiiaaGreat
end
section
namespace Go.Proofs.YtomnhnmciopiiaaGreat
open Go Go.RowKit Go.Maps
section
variable {K V:Type} {ek:K→Value} {ok:K→Prop} {ev:V→Value} {P:Program} {w0 w w':World} {L:List Ent}
def wK (ek:K→Value) (ok:K→Prop) (ev:V→Value) (g:Nat) (m:List (K×V)):Ent:=⟨fun b=>b=g,fun w=>bG ek ok ev w g m⟩
theorem uD (g:Nat) (m:List (K×V)):(wK ek ok ev g m).Ok:=fun _ _ h hk=>h.of_eq (hk g rfl h.lt)
theorem Mem.map {g:Nat} {m:List (K×V)} (h:Mem w0 w L) (i:Nat) (hi:L[i]?=some (wK ek ok ev g m)):bG ek ok ev w g m:=h.get i hi
structure xF (ek:K→Value) (ok:K→Prop) (ev:V→Value) (w w':World):Prop where
 map:bG ek ok ev w' w.heap.size []
 below:Below w.heap.size w w'
 size:w'.heap.size=w.heap.size+1
theorem Mem.Bj (h:Mem w0 w L) (hn:xF ek ok ev w w'):Mem w0 w' (wK ek ok ev w.heap.size [] :: L) :=
 h.new hn.below (uD _ _) hn.map fun b hf=>by have:=hn.size;have e:b=w.heap.size:=hf;omega
theorem Mem.Bv {g:Nat} {m m':List (K×V)} (h:Mem w0 w L) (i:Nat) (hi:L[i]?=some (wK ek ok ev g m)) (hm:bG ek ok ev w' g m') (ht:n4 w w' g):Mem w0 w' (L.set i (wK ek ok ev g m')) :=
 h.upd i hi ht.grown (fun _ hb=>(Option.some.inj hb).symm) (uD _ _) hm fun _ hf=>.inl hf
variable {ops:Array Oper} {rest:List Oper} {o:Oper} {a:Act} {Q:Exit→Act→World→Prop}
theorem mr (ek:K→Value) (ok:K→Prop) (ev:V→Value) (hg:o.guard=none) (t:TypeId) (ho:o.op=.makeMap t none) (h:∀ w',xF ek ok ev w w'→wpList P ops Q rest (a.put o.dst (.map (some w.heap.size))) w'):wpList P ops Q (o :: rest) a w:=by
 refine aa hg (.map (some w.heap.size)) (w.alloc (.map #[] 0)) ?_ (h _ ⟨jG w,(Below.refl _ w).alloc (Nat.le_refl _) _,by rw [size_alloc]⟩)
 unfold execOp
 simp only [ho]
 rfl
theorem oI [DecidableEq K] (hg:o.guard=none) (t:TypeId) (x y z:Operand) (ho:o.op=.mapUpdate t x y z) {k e:TypeId} (E:ka P k ek ok) {b:Nat} {m:List (K×V)} (hm:bG ek ok ev w b m) {key:K} (hk:ok key) (ht:P.underlying t=some (.map k e)) (v:V) (hx:a.eval x=.map (some b)) (hy:a.eval y=ek key) (hz:a.eval z=ev v)
  (h:∀ w',bG ek ok ev w' b (jI m key v)→n4 w w' b→wpList P ops Q rest (a.put o.dst undef) w'):wpList P ops Q (o :: rest) a w:=by
 obtain ⟨w',h1,h2,h3⟩:=hm.update E hk ht v
 refine wpList_plain hg fun K hK=>?_
 unfold Oper.wp execOp
 simp only [ho,hx,hy,hz,Sem.run_bind,h1,Result.andThen_ok,Sem.run_pure]
 exact hK _ _ (h w' h2 h3)
end
end Go.Proofs.YtomnhnmciopiiaaGreat
end
section
namespace Go.Proofs.YtomnhnmciopiiaaGreat
open Go Go.RowKit Go.Maps
set_option maxRecDepth 100000
theorem zg {w0 w:World} {L:List Ent} {B:Nat} {u:Value} {ls:List dD} (m:Mem w0 w L) (ho:w.ownsRow B 98 23 u ls.length (ls.flatMap tV)) (hlo:∀ p∈ls,okH p.1.1∧aO w0 w0.heap.size p.1.2 p.2.1 p.2.2):eM.At w w.heap.size [u] (ls.map (·.1)) :=
 nq (L:=qd) (f:=tV) (pr:=(·.1)) (by decide) ho _ (Nat.le_refl _) fun p hp=>dx.2 ⟨p.2.1,p.2.2,rfl,(hlo p hp).1,m.drv (hlo p hp).2⟩
theorem zB {w:World} {B C:Nat} {u:Value} {ls:List dD} (ho:w.ownsRow B 59 23 u ls.length (ls.flatMap tV)) (hle:∀ p∈ls,okH p.1.1∧cM w C p.1.2 p.2.1 p.2.2):bz.At w w.heap.size [u] (ls.map (·.1)) :=
 nq (L:=iY) (f:=tV) (pr:=(·.1)) (by decide) ho _ (Nat.le_refl _) fun p hp=>bT.2 ⟨p.2.1,p.2.2,rfl,(hle p hp).1,(hle p hp).2.at_ (Nat.le_refl _)⟩
end Go.Proofs.YtomnhnmciopiiaaGreat
end
section
namespace Go.Proofs.YtomnhnmciopiiaaGreat.Fre
open Go Go.RowKit
section
variable {P:Program} {ops:Array Oper} {L:fY} {w0:World} {rest:List Oper} {o:Oper} {a:Act} {Q:Act→Prop} {X:World→World→Prop}
end
end Go.Proofs.YtomnhnmciopiiaaGreat.Fre
namespace Go.Proofs.YtomnhnmciopiiaaGreat
open Go Go.RowKit Go.Maps
set_option maxRecDepth 100000
structure InP (W:World) (l:List Itm) (os:List dD) (A:Option Addr) (c:Nat):Prop where
 at_:bz.At W W.heap.size [.slice A l.length c] l
 eq:os.map (·.1)=l
 row:∃ B,W.ownsRow B 59 23 (.slice A os.length c) os.length (os.flatMap tV)
 each:∃ B,∀ p∈os,okH p.1.1∧cM W B p.1.2 p.2.1 p.2.2
theorem InP.below {W W':World} {l:List Itm} {os:List dD} {A:Option Addr} {c:Nat} (h:InP W l os A c) (hb:Below W.heap.size W W'):InP W' l os A c:=by
 obtain ⟨B,hr⟩:=h.row
 obtain ⟨B2,he⟩:=h.each
 exact ⟨Mem.lay ((Mem.start W).call hb) h.at_,h.eq,⟨B,ao hr fun g _ hl=>hb.block g hl⟩,B2,fun p hp=>⟨(he p hp).1,(he p hp).2.yi hb⟩⟩
end Go.Proofs.YtomnhnmciopiiaaGreat
end
section
namespace Go.Proofs.YtomnhnmciopiiaaGreat
open Go Go.RowKit Go.Maps
set_option maxRecDepth 100000
attribute [local irreducible] wpList
set_option maxHeartbeats 4000000 in
theorem sO (w:World) (l:List Itm) (v:Value) (h:bz.At w w.heap.size [v] l) (hl:∀ x∈l,x.2.2.1.length≤1000000∧x.2.2.2.length≤1000000) (hn:l.length≤1000000) :
  Calls Tryz.prog 29 #[v] w fun e w'=>∃ (u:Value) (os:List dD),e=.returned u∧os.map (·.1)=l∧(∀ p∈os,okH p.1.1)∧Mem w w' [aw w.heap.size 59 23 u os.length (os.flatMap tV),Ent.all os (ldV w.heap.size)]:=by
 obtain ⟨A,c,rfl,_,hcm,_,hA⟩:=ak h
 simp only [maxLen] at hcm
 have H0:=Mem.start w
 go_enter Tryz.func29,Tryz.ntmps29
 refine wp_seq_k (fun K1 hK1=>?_)
 refine rl ?_
 refine nt (hK1 _ _ ?_)
 refine wp_seq_k (fun K2 hK2=>?_)
 refine rl ?_
 refine nt (hK2 _ _ ?_)
 refine wp_seq_k (fun K3 hK3=>?_)
 refine wp_seq_k (fun K4 hK4=>?_)
 refine rl ?_
 refine nt (hK4 _ _ ?_)
 refine wp_block ?_
 have H5:=Mem.dI H0 w.heap.size 59 23
 have H6:=Mem.tk H5 (ldV w.heap.size)
 have H7:=Mem.pick H6 [1,0] (by decide) rfl
 go_loopw [3,4] (fun x3 x4 wr=>∃ k:Nat,∃ os:List dD,∃ A9:Option Addr,∃ c9:Nat,x3=.slice A9 os.length c9∧x4=.int .i64 (k:Int)∧(k≤l.length)∧(os.map (·.1)=l.take k)∧(∀ p∈os,okH p.1.1)∧Mem w wr [aw (w.heap.size) 59 23 (.slice A9 os.length c9) (os).length ((os).flatMap tV),Ent.all os (ldV w.heap.size)]) (fun x3 x4 _=>l.length-(intOf x4).toNat)
 case atStart=>exact ⟨0,([]),none,0,rfl,rfl,by omega,(by rfl),(fun _ h=>by cases h),H7⟩
 case round =>
  obtain ⟨wo8,rfl⟩:∃ wo8,wo8=wr:=⟨_,rfl⟩
  obtain ⟨k,os,A9,c9,rfl,rfl,hk,hos,hlo,H9⟩:=hrel
  have hol:os.length=k:=by have h9:=congrArg List.length hos;rw [List.length_map,List.length_take] at h9;omega
  refine wp_seq_k (fun K11 hK11=>?_)
  refine wp_seq_k (fun K12 hK12=>?_)
  refine rl ?_
  by_cases p13:(k:Int)<((l.length:Nat):Int)
  ·refine rv (aB (decide_eq_true p13)) ?_
   refine nt (hK12 _ _ ?_)
   refine ct ?_
   refine ks (hK11 _ _ ?_)
   refine wp_seq_k (fun K14 hK14=>?_)
   refine wp_block ?_
   obtain ⟨b15,o16,rfl,hlt18,hE17⟩:=hA (by omega)
   obtain ⟨x19,hx20⟩:∃ x,(l)[k]?=some x:=⟨_,List.getElem?_eq_getElem (by first | omega | (rw [List.length_map,List.length_range];omega))⟩
   have hd21:=av hx20
   obtain ⟨cs,hr22,ha23⟩:=hE17 (k) x19 hx20
   obtain ⟨v24,v25,rfl,xo26,xd27⟩:=bT.1 ha23
   obtain ⟨A28,c29,rfl,hlc29,hmc29,_,hA30⟩:=ak xd27.ins
   obtain ⟨A31,c32,rfl,hlc32,hmc32,_,hA33⟩:=ak xd27.rcp
   simp only [maxLen] at hmc29 hmc32
   refine Fre.cq (X:=Bel) 14 [(22,LdU wo8.heap.size x19.2),(23,AI wo8.heap.size x19),(24,xZ wo8.heap.size x19)] (by kernel_rfl) (by kernel_rfl) (by intro p hp;simp only [List.mem_cons,List.not_mem_nil,or_false] at hp;rcases hp with rfl | rfl | rfl;exact (BY _ _);exact (zN _ _);exact (zj _ _)) (by simp) (by simp) ?_
   simp only [List.take_succ_cons,List.take_zero,List.drop_succ_cons,List.drop_zero]
   refine Fre.rmd ?_
   refine Fre.mvv (fun _ _=>dw (k) Tryz.underlying22 cP) ?_
   refine Fre.mvv (v:=.pointer (some ⟨b15,o16+k*23,none⟩)) (fun _ _=>by kernel_rfl) ?_
   refine Fre.mvv (fun W9 hW9=>xld (cy (Mem.range (Mem.call H9 hW9) hr22 hlt18)) Tryz.underlying34 (cN xo26)) ?_
   refine Fre.mvv (fun _ _=>dw (k) Tryz.underlying22 cP) ?_
   refine Fre.mvv (v:=.pointer (some ⟨b15,o16+k*23+20,none⟩)) (fun _ _=>by kernel_rfl) ?_
   refine Fre.mvv (fun W9 hW9=>xld (cg xo26 (Mem.range (Mem.call H9 hW9) hr22 hlt18)) Tryz.underlying26 (bJ x19.2 (.slice A28 x19.2.2.1.length c29) (.slice A31 x19.2.2.2.length c32))) ?_
   refine Fre.fH 22 _ 11 #[.agg (dC x19.2 (.slice A28 x19.2.2.1.length c29) (.slice A31 x19.2.2.2.length c32)).toArray] (by kernel_rfl) (by kernel_rfl) rfl rfl (fun W=>by kernel_rfl) (fun W hW=>(ru W x19.2 _ _ (Mem.drv (Mem.call H9 hW) xd27) (hl _ (List.mem_of_getElem? hx20)).1 (hl _ (List.mem_of_getElem? hx20)).2).mono (fun e w' ⟨u1,u2,h1,h2⟩=>⟨_,h1,h2.below,(u1,u2),rfl,(show cM _ _ _ _ _ from h2.holds _ (.head _)).lower (Below.size hW)⟩)) ?_
   refine Fre.rmd ?_
   refine Fre.o7 22 _ 23 _ (by kernel_rfl) rfl (by kernel_rfl) rfl rfl (fun u W hW hu=>zq (o:=⟨some 23,_,_,_,_,_⟩) (.tmp 16) (.tmp 22) rfl wo8.heap.size xo26 rfl rfl hu) ?_
   refine Fre.rmd ?_
   refine Fre.o7 23 _ 24 _ (by kernel_rfl) rfl (by kernel_rfl) rfl rfl (fun u W hW hu=>vG (o:=⟨some 24,_,_,_,_,_⟩) (.tmp 23) rfl wo8.heap.size xo26 rfl hu (Below.size hW)) ?_
   refine Fre.rmd ?_
   intro w34 hx36
   dsimp only [Fre.ended,List.drop]
   rintro u7 _ u8 _ u9 ⟨r9,p9,rfl,hr9,hk9,hl9⟩
   simp only [Act.put,List.setIfInBounds_toArray,List.set_cons_zero,List.set_cons_succ]
   have H35:=Mem.new H9 hx36 (ur w.heap.size x19.2 p9.1 p9.2) (hl9.lower (Mem.below H9).size) (fun b hf=>yo hl9 hf)
   obtain ⟨inm59,iq59,ir59,is59,it59⟩:=info_parts vn
   refine aH (o:=⟨some 25,_,_,_,_,_⟩) rfl _ _ 22 rfl (w.heap.size) 59 _ _ 23 88 Tryz.underlying22 iq59 ir59 is59 it59 rfl (by decide) (.slice A9 os.length c9) ((os).length) ((os).flatMap tV) (Mem.own H35 1 rfl) ((some ⟨r9,0,none⟩)) (1) (1) (([(x19,p9)]).flatMap tV) (rB (f:=tV) (p:=(x19,p9)) (bH (n:=23) (m:=1) hk9 (dA xo26) (jh x19 hl9.iM.1 hl9.iM.2))) ?hmt37 ?hbt37 ?hzt37 rfl rfl ?_
   case hmt37=>simp only [maxLen];omega
   case hbt37=>omega
   case hzt37=>exact (Mem.below H35).size
   intro u40 w38 ow43 gr44 hp45
   refine rn ?_
   have ow43:w38.ownsRow (w.heap.size) 59 23 u40 (os++[(x19,p9)]).length ((os++[(x19,p9)]).flatMap tV):=by first | simpa using ow43 | simpa [tV] using ow43 | (simp at ow43 ⊢;exact ow43)
   obtain ⟨A41,c42,rfl⟩:=aP ow43
   have H39:=Mem.app H35 1 rfl ow43 gr44 hp45
   clear ow43 gr44 hp45
   refine rn ?_
   refine wpList_nil ?_
   refine aq ?_
   refine ab (hK14 _ _ ?_)
   refine rl ?_
   refine rv (aR (((k+1:Nat):Int))) ?_
   refine wpList_nil ?_
   have H46:=Mem.push (x:=(x19,p9)) (f:=ldV w.heap.size) (Mem.pick H39 [0,2,1] (by decide) rfl) (By _ _)
   have H47:=Mem.pick H46 [1,0] (by decide) rfl
   refine ab ?_
   show _∧_
   go_roundw
   case rel=>exact ⟨(k+1),((os++[(x19,p9)])),A41,c42,rfl,rfl,by omega,(pt hos hx20 rfl),(wu (P:=fun p:dD=>okH p.1.1) hlo xo26),H47⟩
   case measure=>simp [intOf];omega
  ·have he48:=bF (l:=l) (j:=k) (by omega)
   refine rv (aB (decide_eq_false p13)) ?_
   refine nt (hK12 _ _ ?_)
   refine cf ?_
   refine wp_exit ?_
   refine aj ?_
   refine aj ?_
   refine ax ?_
   refine ab (hK3 _ _ ?_)
   refine wp_seq_k (fun K49 hK49=>?_)
   refine rl ?_
   refine nt (hK49 _ _ ?_)
   refine wp_ret ?_
   refine bodyPost_ret (results_tmp rfl _ _ _) rfl ?_
   have hke:k=l.length:=by omega
   rw [hke,List.take_length] at hos
   exact ⟨_,os,rfl,hos,hlo,H9⟩
set_option maxHeartbeats 4000000 in
theorem tY (w:World) (l:List Itm) (v:Value) (h:bz.At w w.heap.size [v] l) (hn:l.length≤1000000) :
  Calls Tryz.prog 30 #[v] w fun e w'=>∃ (u:Value) (os:List dD),e=.returned u∧os.map (·.1)=l∧(∀ p∈os,okH p.1.1∧aO w w.heap.size p.1.2 p.2.1 p.2.2)∧Mem w w' [aw w.heap.size 98 23 u os.length (os.flatMap tV)]:=by
 obtain ⟨A,c,rfl,_,hcm,_,hA⟩:=ak h
 simp only [maxLen] at hcm
 have H0:=Mem.start w
 go_enter Tryz.func30,Tryz.ntmps30
 refine wp_seq_k (fun K1 hK1=>?_)
 refine rl ?_
 refine nt (hK1 _ _ ?_)
 refine wp_seq_k (fun K2 hK2=>?_)
 refine rl ?_
 refine nt (hK2 _ _ ?_)
 refine wp_seq_k (fun K3 hK3=>?_)
 refine wp_seq_k (fun K4 hK4=>?_)
 refine rl ?_
 refine nt (hK4 _ _ ?_)
 refine wp_block ?_
 have H5:=Mem.dI H0 w.heap.size 98 23
 go_loopw [3,4] (fun x3 x4 wr=>∃ k:Nat,∃ os:List dD,∃ A9:Option Addr,∃ c9:Nat,x3=.slice A9 os.length c9∧x4=.int .i64 (k:Int)∧(k≤l.length)∧(os.map (·.1)=l.take k)∧(∀ p∈os,okH p.1.1∧aO w w.heap.size p.1.2 p.2.1 p.2.2)∧Mem w wr [aw (w.heap.size) 98 23 (.slice A9 os.length c9) (os).length ((os).flatMap tV)]) (fun x3 x4 _=>l.length-(intOf x4).toNat)
 case atStart=>exact ⟨0,([]),none,0,rfl,rfl,by omega,(by rfl),(fun _ h=>by cases h),H5⟩
 case round =>
  obtain ⟨wo6,rfl⟩:∃ wo6,wo6=wr:=⟨_,rfl⟩
  obtain ⟨k,os,A9,c9,rfl,rfl,hk,hos,hlo,H7⟩:=hrel
  have hol:os.length=k:=by have h9:=congrArg List.length hos;rw [List.length_map,List.length_take] at h9;omega
  refine wp_seq_k (fun K9 hK9=>?_)
  refine wp_seq_k (fun K10 hK10=>?_)
  refine rl ?_
  by_cases p11:(k:Int)<((l.length:Nat):Int)
  ·refine rv (aB (decide_eq_true p11)) ?_
   refine nt (hK10 _ _ ?_)
   refine ct ?_
   refine ks (hK9 _ _ ?_)
   refine wp_seq_k (fun K12 hK12=>?_)
   refine wp_block ?_
   obtain ⟨b13,o14,rfl,hlt16,hE15⟩:=hA (by omega)
   obtain ⟨x17,hx18⟩:∃ x,(l)[k]?=some x:=⟨_,List.getElem?_eq_getElem (by first | omega | (rw [List.length_map,List.length_range];omega))⟩
   have hd19:=av hx18
   obtain ⟨cs,hr20,ha21⟩:=hE15 (k) x17 hx18
   obtain ⟨v22,v23,rfl,xo24,xd25⟩:=bT.1 ha21
   obtain ⟨A26,c27,rfl,hlc27,hmc27,_,hA28⟩:=ak xd25.ins
   obtain ⟨A29,c30,rfl,hlc30,hmc30,_,hA31⟩:=ak xd25.rcp
   simp only [maxLen] at hmc27 hmc30
   refine Fre.cq (X:=Bel) 13 [(23,xV wo6.heap.size x17 (.slice A26 x17.2.2.1.length c27) (.slice A29 x17.2.2.2.length c30))] (by kernel_rfl) (by kernel_rfl) (by intro p hp;simp only [List.mem_cons,List.not_mem_nil,or_false] at hp;subst hp;exact (xM _ _ _ _)) (by simp) (by simp) ?_
   simp only [List.take_succ_cons,List.take_zero,List.drop_succ_cons,List.drop_zero]
   refine Fre.rmd ?_
   refine Fre.mvv (fun _ _=>dw (k) Tryz.underlying22 cP) ?_
   refine Fre.mvv (v:=.pointer (some ⟨b13,o14+k*23,none⟩)) (fun _ _=>by kernel_rfl) ?_
   refine Fre.mvv (fun W9 hW9=>xld (cy (Mem.range (Mem.call H7 hW9) hr20 hlt16)) Tryz.underlying34 (cN xo24)) ?_
   refine Fre.mvv (fun _ _=>dw (k) Tryz.underlying22 cP) ?_
   refine Fre.mvv (v:=.pointer (some ⟨b13,o14+k*23+20,none⟩)) (fun _ _=>by kernel_rfl) ?_
   refine Fre.mvv (fun W9 hW9=>xld (cg xo24 (Mem.range (Mem.call H7 hW9) hr20 hlt16)) Tryz.underlying26 (bJ x17.2 (.slice A26 x17.2.2.1.length c27) (.slice A29 x17.2.2.2.length c30))) ?_
   refine Fre.mvv (fun W9 _=>vU (o:=⟨some 22,_,_,_,_,_⟩) (.tmp 16) (.tmp 21) rfl (c:=x17.1) (d:=x17.2) xo24 rfl rfl W9) ?_
   refine Fre.fX 23 _ (by kernel_rfl) (by kernel_rfl) rfl rfl (fun W9 hW9=>vY (o:=⟨some 23,_,_,_,_,_⟩) (.tmp 22) rfl _ xo24 rfl (Below.size hW9)) ?_
   refine Fre.rmd ?_
   intro w32 hx34
   dsimp only [Fre.ended,List.drop]
   rintro u9 ⟨r9,rfl,hr9,hk9⟩
   simp only [Act.put,List.setIfInBounds_toArray,List.set_cons_zero,List.set_cons_succ]
   have H33:=Mem.call H7 hx34
   obtain ⟨inm98,iq98,ir98,is98,it98⟩:=info_parts wq
   refine aH (o:=⟨some 24,_,_,_,_,_⟩) rfl _ _ 40 rfl (w.heap.size) 98 _ _ 23 88 Tryz.underlying40 iq98 ir98 is98 it98 rfl (by decide) (.slice A9 os.length c9) ((os).length) ((os).flatMap tV) (Mem.own H33 0 rfl) ((some ⟨r9,0,none⟩)) (1) (1) (([(x17,(Value.slice A26 x17.2.2.1.length c27),(Value.slice A29 x17.2.2.2.length c30))]).flatMap tV) (rB (f:=tV) (p:=(x17,(Value.slice A26 x17.2.2.1.length c27),(Value.slice A29 x17.2.2.2.length c30))) (bH (n:=23) (m:=1) hk9 (dA xo24) (Cg x17 rfl rfl))) ?hmt35 ?hbt35 ?hzt35 rfl rfl ?_
   case hmt35=>simp only [maxLen];omega
   case hbt35=>omega
   case hzt35=>exact (Mem.below H33).size
   intro u38 w36 ow41 gr42 hp43
   refine rn ?_
   have ow41:w36.ownsRow (w.heap.size) 98 23 u38 (os++[(x17,(Value.slice A26 x17.2.2.1.length c27),(Value.slice A29 x17.2.2.2.length c30))]).length ((os++[(x17,(Value.slice A26 x17.2.2.1.length c27),(Value.slice A29 x17.2.2.2.length c30))]).flatMap tV):=by first | simpa using ow41 | simpa [tV] using ow41 | (simp at ow41 ⊢;exact ow41)
   obtain ⟨A39,c40,rfl⟩:=aP ow41
   have H37:=Mem.app H33 0 rfl ow41 gr42 hp43
   clear ow41 gr42 hp43
   refine rn ?_
   refine wpList_nil ?_
   refine aq ?_
   refine ab (hK12 _ _ ?_)
   refine rl ?_
   refine rv (aR (((k+1:Nat):Int))) ?_
   refine wpList_nil ?_
   refine ab ?_
   show _∧_
   go_roundw
   case rel=>exact ⟨(k+1),((os++[(x17,(Value.slice A26 x17.2.2.1.length c27),(Value.slice A29 x17.2.2.2.length c30))])),A39,c40,rfl,rfl,by omega,(pt hos hx18 rfl),(ya hlo ⟨xo24,xd25⟩),H37⟩
   case measure=>simp [intOf];omega
  ·have he44:=bF (l:=l) (j:=k) (by omega)
   refine rv (aB (decide_eq_false p11)) ?_
   refine nt (hK10 _ _ ?_)
   refine cf ?_
   refine wp_exit ?_
   refine aj ?_
   refine aj ?_
   refine ax ?_
   refine ab (hK3 _ _ ?_)
   refine wp_seq_k (fun K45 hK45=>?_)
   refine rl ?_
   refine nt (hK45 _ _ ?_)
   refine wp_ret ?_
   refine bodyPost_ret (results_tmp rfl _ _ _) rfl ?_
   have hke:k=l.length:=by omega
   rw [hke,List.take_length] at hos
   exact ⟨_,os,rfl,hos,hlo,H7⟩
set_option maxHeartbeats 4000000 in
theorem sZ (w:World) (B B2:Nat) (ls:List dD) (A:Option Addr) (c:Nat) (ho:w.ownsRow B2 59 23 (.slice A ls.length c) ls.length (ls.flatMap tV)) (hle:∀ p∈ls,okH p.1.1∧cM w B p.1.2 p.2.1 p.2.2) (l:List Itm) (v:Value) (h:bz.At w w.heap.size [v] l) (hl:∀ x∈l,x.2.2.1.length≤1000000∧x.2.2.2.length≤1000000) (hls:ls.map (·.1)=l) (hn:l.length≤1000000) :
  Calls Tryz.prog 49 #[.slice A ls.length c,v] w fun e w'=>e=.returned (.bool true)∧Below w.heap.size w w':=by
 have hok:∀ p∈ls,okH p.1.1∧p.2.1.oneCell'=true∧p.2.2.oneCell'=true:=fun p hp=>⟨(hle p hp).1,((hle p hp).2.at_ (Nat.le_refl _)).iM⟩
 have hll:ls.length=l.length:=by rw [← hls,List.length_map]
 obtain ⟨A2,c2,rfl,_,hcm2,_,hA2⟩:=ak h
 simp only [maxLen] at hcm2
 have H0:=Mem.start w
 go_enter Tryz.func49,Tryz.ntmps49
 refine wp_seq_k (fun K1 hK1=>?_)
 refine rl ?_
 refine nt (hK1 _ _ ?_)
 refine wp_seq_k (fun K2 hK2=>?_)
 refine wp_seq_k (fun K3 hK3=>?_)
 refine rl ?_
 refine nt (hK3 _ _ ?_)
 refine wp_block ?_
 go_loopw [5] (fun x5 wr=>∃ j:Nat,x5=.int .i64 (j:Int)∧(j≤l.length)∧Mem w wr []) (fun x5 _=>l.length-(intOf x5).toNat)
 case atStart=>exact ⟨0,rfl,by omega,H0⟩
 case round =>
  obtain ⟨wo4,rfl⟩:∃ wo4,wo4=wr:=⟨_,rfl⟩
  obtain ⟨j,rfl,hj,H5⟩:=hrel
  refine wp_seq_k (fun K7 hK7=>?_)
  refine wp_seq_k (fun K8 hK8=>?_)
  refine rl ?_
  by_cases p9:(j:Int)<((l.length:Nat):Int)
  ·refine rv (aB (decide_eq_true p9)) ?_
   refine nt (hK8 _ _ ?_)
   refine ct ?_
   refine ks (hK7 _ _ ?_)
   refine wp_seq_k (fun K10 hK10=>?_)
   refine wp_block ?_
   refine wp_seq_k (fun K11 hK11=>?_)
   obtain ⟨b12,rfl,hlt15⟩:=aG ho (by omega)
   obtain ⟨p16,hx17⟩:∃ x,ls[j]?=some x:=⟨_,List.getElem?_eq_getElem (by omega)⟩
   have ok18:=hok _ (List.mem_of_getElem? hx17)
   obtain ⟨b19,o20,rfl,hlt22,hE21⟩:=hA2 (by omega)
   obtain ⟨x23,hx24⟩:∃ x,(l)[j]?=some x:=⟨_,List.getElem?_eq_getElem (by first | omega | (rw [List.length_map,List.length_range];omega))⟩
   have hd25:=av hx24
   obtain ⟨cs,hr26,ha27⟩:=hE21 (j) x23 hx24
   obtain ⟨v28,v29,rfl,xo30,xd31⟩:=bT.1 ha27
   obtain ⟨A32,c33,rfl,hlc33,hmc33,_,hA34⟩:=ak xd31.ins
   obtain ⟨A35,c36,rfl,hlc36,hmc36,_,hA37⟩:=ak xd31.rcp
   simp only [maxLen] at hmc33 hmc36
   have hxy:=As hls hx17 hx24
   refine Fre.aW (X:=Bel) [] (by kernel_rfl) (by kernel_rfl) (by simp) (by simp) (by simp) ?_
   refine Fre.rmd ?_
   refine Fre.mvv (fun _ _=>aT (j) Tryz.underlying22 cP) ?_
   refine Fre.mvv (v:=.pointer (some ⟨b12,j*23,none⟩)) (fun _ _=>by kernel_rfl) ?_
   refine Fre.mvv (fun W9 hW9=>xld (cy (Mem.range (Mem.call H5 hW9) (dW (f:=tV) (by decide) ho (fun p hp=>dA (x:=p.1) (hok p hp).1) hx17) (aD ho rfl).2)) Tryz.underlying34 (cN ok18.1)) ?_
   refine Fre.mvv (fun _ _=>dw (j) Tryz.underlying22 cP) ?_
   refine Fre.mvv (v:=.pointer (some ⟨b19,o20+j*23,none⟩)) (fun _ _=>by kernel_rfl) ?_
   refine Fre.mvv (fun W9 hW9=>xld (cy (Mem.range (Mem.call H5 hW9) hr26 hlt22)) Tryz.underlying34 (cN xo30)) ?_
   refine Fre.mvv (fun W9 _=>dL (o:=⟨some 22,_,_,_,_,_⟩) 34 34 (.tmp 16) (.tmp 21) rfl (bv p16.1.1).toArray (bv x23.1).toArray rfl rfl (by kernel_rfl) _ W9 (by have h9:=cU (p16.1.1) (x23.1) ok18.1 xo30 W9;rwa [show decide _=true from (decide_eq_true (congrArg (·.1) hxy))] at h9)) ?_
   refine Fre.mvv (fun _ _=>aT (j) Tryz.underlying22 cP) ?_
   refine Fre.mvv (v:=.pointer (some ⟨b12,j*23+20,none⟩)) (fun _ _=>by kernel_rfl) ?_
   refine Fre.mvv (fun W9 hW9=>xld (cg ok18.1 (Mem.range (Mem.call H5 hW9) (dW (f:=tV) (by decide) ho (fun p hp=>dA (x:=p.1) (hok p hp).1) hx17) (aD ho rfl).2)) Tryz.underlying26 (bJ p16.1.2 p16.2.1 p16.2.2)) ?_
   refine Fre.mvv (fun _ _=>dw (j) Tryz.underlying22 cP) ?_
   refine Fre.mvv (v:=.pointer (some ⟨b19,o20+j*23+20,none⟩)) (fun _ _=>by kernel_rfl) ?_
   refine Fre.mvv (fun W9 hW9=>xld (cg xo30 (Mem.range (Mem.call H5 hW9) hr26 hlt22)) Tryz.underlying26 (bJ x23.2 (.slice A32 x23.2.2.1.length c33) (.slice A35 x23.2.2.2.length c36))) ?_
   refine Fre.aA (.bool true) _ _ (by kernel_rfl) (by kernel_rfl) (by kernel_rfl) (fun W9=>by kernel_rfl) (fun W9 hW9=>wN W9 x23.2 p16.1.2 (congrArg (·.2) hxy) _ _ _ _ B ((hle _ (List.mem_of_getElem? hx17)).2.old (Mem.call H5 hW9)) (Mem.drv (Mem.call H5 hW9) xd31) (hl x23 (List.mem_of_getElem? hx24)).1 (hl x23 (List.mem_of_getElem? hx24)).2) ?_
   refine Fre.rmd ?_
   intro w38 hx40
   dsimp only [Fre.ended,List.drop]
   have H39:=Mem.call H5 hx40
   refine ab (hK11 _ _ ?_)
   refine cf ?_
   refine wp_skip ?_
   refine aq ?_
   refine ab (hK10 _ _ ?_)
   refine rl ?_
   refine rv (aR (((j+1:Nat):Int))) ?_
   refine wpList_nil ?_
   refine ab ?_
   show _∧_
   go_roundw
   case rel=>exact ⟨(j+1),rfl,by omega,H39⟩
   case measure=>simp [intOf];omega
  ·have he41:=bF (l:=l) (j:=j) (by omega)
   refine rv (aB (decide_eq_false p9)) ?_
   refine nt (hK8 _ _ ?_)
   refine cf ?_
   refine wp_exit ?_
   refine aj ?_
   refine aj ?_
   refine ax ?_
   refine ab (hK2 _ _ ?_)
   refine wp_seq_k (fun K42 hK42=>?_)
   refine rl ?_
   refine nt (hK42 _ _ ?_)
   refine wp_ret ?_
   refine bodyPost_ret (results_tmp rfl _ _ _) rfl ?_
   exact ⟨rfl,Mem.below H5⟩
end Go.Proofs.YtomnhnmciopiiaaGreat
end
section
namespace Go.Proofs.YtomnhnmciopiiaaGreat
open Go
theorem jm:∀ x:List UInt8,Op.bytesLess x x=false
 | []=>rfl
 | a :: x=>by
  have ih:=jm x
  simp [Op.bytesLess,ih]
theorem ke:∀ x y z:List UInt8,Op.bytesLess x y=true→Op.bytesLess y z=true→Op.bytesLess x z=true
 | [],[],_,h,_=>by simp [Op.bytesLess] at h
 | [],_ :: _,[],_,h=>by simp [Op.bytesLess] at h
 | [],_ :: _,_ :: _,_,_=>rfl
 | _ :: _,[],_,h,_=>by simp [Op.bytesLess] at h
 | _ :: _,_ :: _,[],_,h=>by simp [Op.bytesLess] at h
 | a :: x,b :: y,c :: z,h,k=>by
  have ih:=ke x y z
  simp only [Op.bytesLess,Bool.or_eq_true,decide_eq_true_eq,Bool.and_eq_true,beq_iff_eq] at h k ⊢
  rcases h with h | ⟨rfl,h⟩
  ·rcases k with k | ⟨rfl,k⟩
   ·exact .inl (UInt8.lt_trans h k)
   ·exact .inl h
  ·rcases k with k | ⟨rfl,k⟩
   ·exact .inl k
   ·exact .inr ⟨rfl,ih h k⟩
theorem qW (x y:List UInt8):Op.bytesLess x y=true∨x=y∨Op.bytesLess y x=true:=by
 have h:=il x y
 cases hx:Op.bytesLess x y with
 | true=>exact .inl rfl
 | false =>
  rw [hx] at h
  simp only [Bool.not_false,Bool.true_and] at h
  by_cases e:x=y
  ·exact .inr (.inl e)
  ·refine .inr (.inr ?_)
   rw [← h]
   simpa using e
def b4 (a b:Pth):Bool:=if a.1=b.1 then Op.bytesLess a.2.data.toList b.2.data.toList else Op.bytesLess a.1 b.1
theorem sU {x y:ByteArray} (h:x.data.toList=y.data.toList):x=y:=by
 cases x;cases y
 simp only [ByteArray.mk.injEq]
 exact Array.ext' h
theorem dT (a:Pth):b4 a a=false:=by simp [b4,jm]
theorem et {a b c:Pth} (h:b4 a b=true) (k:b4 b c=true):b4 a c=true:=by
 unfold b4 at h k ⊢
 by_cases e1:a.1=b.1
 ·rw [if_pos e1] at h
  by_cases e2:b.1=c.1
  ·rw [if_pos e2] at k
   rw [if_pos (e1.trans e2)]
   exact ke _ _ _ h k
  ·rw [if_neg e2] at k
   rw [if_neg (by rw [e1];exact e2),e1]
   exact k
 ·rw [if_neg e1] at h
  by_cases e2:b.1=c.1
  ·rw [if_pos e2] at k
   rw [if_neg (by rw [← e2];exact e1),← e2]
   exact h
  ·rw [if_neg e2] at k
   have h9:=ke _ _ _ h k
   have e3:¬ a.1=c.1:=fun e=>by rw [e,jm] at h9;cases h9
   rw [if_neg e3]
   exact h9
theorem gP (a b:Pth):b4 a b=true∨a=b∨b4 b a=true:=by
 unfold b4
 by_cases e:a.1=b.1
 ·rw [if_pos e,if_pos e.symm]
  rcases qW a.2.data.toList b.2.data.toList with h | h | h
  ·exact .inl h
  ·exact .inr (.inl (Prod.ext e (sU h)))
  ·exact .inr (.inr h)
 ·rw [if_neg e,if_neg (fun h=>e h.symm)]
  rcases qW a.1 b.1 with h | h | h
  ·exact .inl h
  ·exact absurd h e
  ·exact .inr (.inr h)
theorem jb {a b:Pth} (h:b4 a b=true):b4 b a=false:=by
 cases k:b4 b a with
 | false=>rfl
 | true=>have h9:=et h k;rw [dT] at h9;cases h9
def gD (l:List Pth):Prop:=l.Pairwise fun a b=>b4 a b=true
def mm (x:Pth):List Pth→List Pth
 | []=>[x]
 | y :: l=>if b4 x y then x :: y :: l else if x=y then y :: l else y :: mm x l
def bV (l:List Pth):List Pth:=l.foldr mm []
theorem oe (x:Pth):∀ (l:List Pth) (y:Pth),y∈mm x l↔y=x∨y∈l
 | [],y=>by simp [mm]
 | z :: l,y=>by
  unfold mm
  split
  ·simp
  ·split
   ·rename_i e
    subst e
    simp
   ·rw [List.mem_cons,oe x l y,List.mem_cons]
    constructor
    ·rintro (h | h | h)
     ·exact .inr (.inl h)
     ·exact .inl h
     ·exact .inr (.inr h)
    ·rintro (h | h | h)
     ·exact .inr (.inl h)
     ·exact .inl h
     ·exact .inr (.inr h)
theorem lY (x:Pth):∀ {l:List Pth},gD l→gD (mm x l)
 | [],_=>List.pairwise_singleton _ _
 | y :: l,h=>by
  have h':=List.pairwise_cons.1 h
  unfold mm
  split
  ·rename_i hx
   refine List.pairwise_cons.2 ⟨fun z hz=>?_,h⟩
   rcases List.mem_cons.1 hz with rfl | hz
   ·exact hx
   ·exact et hx (h'.1 z hz)
  ·rename_i hx
   split
   ·exact h
   ·rename_i hne
    refine List.pairwise_cons.2 ⟨fun z hz=>?_,lY x h'.2⟩
    rcases (oe x l z).1 hz with rfl | hz
    ·rcases gP z y with h1 | h1 | h1
     ·exact absurd h1 hx
     ·exact absurd h1 hne
     ·exact h1
    ·exact h'.1 z hz
theorem eO:∀ l:List Pth,gD (bV l)
 | []=>List.Pairwise.nil
 | x :: l=>lY x (eO l)
theorem ez:∀ (l:List Pth) (y:Pth),y∈bV l↔y∈l
 | [],y=>by simp [bV]
 | x :: l,y=>by
  show y∈mm x (bV l)↔_
  rw [oe,ez l y,List.mem_cons]
theorem mR:∀ {a b:List Pth},gD a→gD b→(∀ x,x∈a↔x∈b)→a=b
 | [],[],_,_,_=>rfl
 | [],y :: b,_,_,h=>absurd ((h y).2 (.head _)) (by simp)
 | x :: a,[],_,_,h=>absurd ((h x).1 (.head _)) (by simp)
 | x :: a,y :: b,ha,hb,h=>by
  have ha':=List.pairwise_cons.1 ha
  have hb':=List.pairwise_cons.1 hb
  have e:x=y:=by
   rcases List.mem_cons.1 ((h x).1 (.head _)) with e | h1
   ·exact e
   ·rcases List.mem_cons.1 ((h y).2 (.head _)) with e | h2
    ·exact e.symm
    ·have h3:=hb'.1 x h1
     have h4:=ha'.1 y h2
     rw [jb h3] at h4
     cases h4
  subst e
  have hnot:∀ {l:List Pth},(∀ z∈l,b4 x z=true)→x ∉ l:=fun hl hx=>by
   have h9:=hl x hx
   rw [dT] at h9
   cases h9
  rw [mR ha'.2 hb'.2 fun z=>?_]
  constructor
  ·intro hz
   rcases List.mem_cons.1 ((h z).1 (.tail _ hz)) with rfl | h1
   ·exact absurd hz (hnot ha'.1)
   ·exact h1
  ·intro hz
   rcases List.mem_cons.1 ((h z).2 (.tail _ hz)) with rfl | h1
   ·exact absurd hz (hnot hb'.1)
   ·exact h1
theorem qA {l:List Pth} (h:gD l):l.Nodup:=h.imp fun hab e=>by subst e;rw [dT] at hab;cases hab
theorem rQ {a l:List Pth} (h:gD a) (hm:∀ x,x∈a↔x∈l):a=bV l:=mR h (eO l) fun x=>(hm x).trans (ez l x).symm
theorem qX {a b:List Pth} (h:∀ x,x∈a↔x∈b):bV a=bV b:=rQ (eO a) fun x=>(ez a x).trans (h x)
theorem mi (x:Pth):∀ l:List Pth,(mm x l).length≤l.length+1
 | []=>by simp [mm]
 | y :: l=>by
  have:=mi x l
  unfold mm
  split
  ·simp
  ·split
   ·simp
   ·simp;omega
theorem ie:∀ l:List Pth,(bV l).length≤l.length
 | []=>by simp [bV]
 | x :: l=>by
  have h1:=ie l
  have h2:=mi x (bV l)
  show (mm x (bV l)).length≤_
  simp only [List.length_cons]
  omega
section
attribute [local instance] Classical.propDecidable
noncomputable def eA (l:List Pth):List Pth:=l.foldl (fun out x=>if x∈out then out else out++[x]) []
theorem kd (l:List Pth) (x:Pth):eA (l++[x])=if x∈eA l then eA l else eA l++[x]:=by
 unfold eA
 rw [List.foldl_append]
 rfl
theorem o5 (l:List Pth) (y:Pth):y∈eA l↔y∈l:=by
 have h:∀ (l out:List Pth),y∈l.foldl (fun out x=>if x∈out then out else out++[x]) out↔y∈out∨y∈l:=by
  intro l
  induction l with
  | nil=>intro out;simp
  | cons x l ih =>
   intro out
   rw [List.foldl_cons,ih]
   split
   ·rename_i hx
    constructor
    ·rintro (h | h)
     ·exact .inl h
     ·exact .inr (.tail _ h)
    ·rintro (h | h)
     ·exact .inl h
     ·rcases List.mem_cons.1 h with rfl | h
      ·exact .inl hx
      ·exact .inr h
   ·simp only [List.mem_append,List.mem_cons,List.not_mem_nil,or_false]
    constructor
    ·rintro ((h | h) | h)
     ·exact .inl h
     ·exact .inr (.inl h)
     ·exact .inr (.inr h)
    ·rintro (h | h | h)
     ·exact .inl (.inl h)
     ·exact .inl (.inr h)
     ·exact .inr h
 simpa [eA] using h l []
theorem lW (l:List Pth):(eA l).Nodup:=by
 have h:∀ (l out:List Pth),out.Nodup→(l.foldl (fun out x=>if x∈out then out else out++[x]) out).Nodup:=by
  intro l
  induction l with
  | nil=>intro out h;exact h
  | cons x l ih =>
   intro out ho
   rw [List.foldl_cons]
   apply ih
   split
   ·exact ho
   ·rename_i hx
    refine List.nodup_append.2 ⟨ho,by simp,?_⟩
    rintro a ha b hb rfl
    rw [List.mem_singleton.1 hb] at ha
    exact hx ha
 exact h l [] List.nodup_nil
end
def eZ (last:Option Pth) (x:Pth):Bool:=match last with | none=>true | some y=>b4 y x
def fU (best:Option Pth) (x:Pth):Bool:=match best with | none=>true | some b=>b4 x b
def gC (last:Option Pth):List Pth→Option Pth→Option Pth
 | [],best=>best
 | x :: l,best=>gC last l (if eZ last x&&fU best x then some x else best)
theorem iZ (last:Option Pth):∀ (l:List Pth) (best:Option Pth),(∀ b,best=some b→∀ y,last=some y→b4 y b=true) →
  (∀ b,gC last l best=some b→(b∈l∨best=some b)∧(∀ y,last=some y→b4 y b=true)∧(∀ x∈l,(∀ y,last=some y→b4 y x=true)→b4 x b=false)∧∀ x,best=some x→b4 x b=false) ∧
  (gC last l best=none→best=none∧∀ x∈l,¬ ∀ y,last=some y→b4 y x=true)
 | [],best,hb=>⟨fun b h=>⟨.inr h,hb b h,(fun x hx=>by cases hx),fun x hx=>by rw [show gC last [] best=best from rfl,hx] at h;rw [Option.some.inj h];exact dT _⟩,fun h=>⟨h,fun x hx=>by cases hx⟩⟩
 | x :: l,best,hb=>by
  have hab:eZ last x=true↔∀ y,last=some y→b4 y x=true:=by
   cases last with
   | none=>simp [eZ]
   | some y=>simp [eZ]
  unfold gC
  by_cases hc:(eZ last x&&fU best x)=true
  ·rw [if_pos hc]
   rw [Bool.and_eq_true,hab] at hc
   have ih:=iZ last l (some x) (fun b h=>by rw [← Option.some.inj h];exact hc.1)
   refine ⟨fun b h=>?_,fun h=>absurd (ih.2 h).1 (by simp)⟩
   obtain ⟨h1,h2,h3,h4⟩:=ih.1 b h
   refine ⟨?_,h2,fun z hz hz2=>?_,fun z hz=>?_⟩
   ·rcases h1 with h1 | h1
    ·exact .inl (.tail _ h1)
    ·exact .inl (by rw [Option.some.inj h1];exact .head _)
   ·rcases List.mem_cons.1 hz with rfl | hz
    ·exact h4 _ rfl
    ·exact h3 z hz hz2
   ·subst hz
    have hxz:b4 x z=true:=by simpa [fU] using hc.2
    cases hzb:b4 z b with
    | false=>rfl
    | true =>
     have h9:=h4 x rfl
     rw [et hxz hzb] at h9
     cases h9
  ·rw [if_neg hc]
   have ih:=iZ last l best hb
   rw [Bool.and_eq_true,hab] at hc
   refine ⟨fun b h=>?_,fun h=>?_⟩
   ·obtain ⟨h1,h2,h3,h4⟩:=ih.1 b h
    refine ⟨h1.imp_left (.tail _),h2,fun z hz hz2=>?_,h4⟩
    rcases List.mem_cons.1 hz with rfl | hz
    ·cases hbest:best with
     | none=>exact absurd ⟨hz2,by rw [hbest];rfl⟩ hc
     | some b0 =>
      have hzb0:b4 z b0=false:=by
       cases h8:b4 z b0 with
       | false=>rfl
       | true=>exact absurd ⟨hz2,by rw [hbest];exact h8⟩ hc
      cases h8:b4 z b with
      | false=>rfl
      | true =>
       have h7:=h4 b0 hbest
       rcases gP b b0 with h6 | h6 | h6
       ·rw [et h8 h6] at hzb0
        cases hzb0
       ·rw [h6,hzb0] at h8
        cases h8
       ·rw [h6] at h7
        cases h7
    ·exact h3 z hz hz2
   ·obtain ⟨h1,h2⟩:=ih.2 h
    refine ⟨h1,fun z hz=>?_⟩
    rcases List.mem_cons.1 hz with rfl | hz
    ·exact fun h9=>hc ⟨h9,by rw [h1];rfl⟩
    ·exact h2 z hz
theorem q8 {l out rest:List Pth} (h:bV l=out++rest):gC out.getLast? l none=rest.head?:=by
 have hr:gD (out++rest):=h▸eO l
 obtain ⟨hr1,hr2,hr3⟩:=List.pairwise_append.1 hr
 have hlast:∀ x∈l,(∀ y,out.getLast?=some y→b4 y x=true)↔x∈rest:=by
  intro x hx
  have hx2:x∈out++rest:=h▸(ez l x).2 hx
  constructor
  ·intro h9
   rcases List.mem_append.1 hx2 with h8 | h8
   ·exfalso
    have hne:out ≠ []:=List.ne_nil_of_mem h8
    have h7:=h9 _ (List.getLast?_eq_some_getLast hne)
    by_cases e:x=out.getLast hne
    ·rw [← e,dT] at h7
     cases h7
    ·have e2:=List.dropLast_concat_getLast hne
     have h6:x∈out.dropLast++[out.getLast hne]:=by rw [e2];exact h8
     rcases List.mem_append.1 h6 with h5 | h5
     ·have h4:gD (out.dropLast++[out.getLast hne]):=by rw [e2];exact hr1
      have h3:=(List.pairwise_append.1 h4).2.2 x h5 _ (List.mem_singleton.2 rfl)
      rw [jb h3] at h7
      cases h7
     ·exact e (List.mem_singleton.1 h5)
   ·exact h8
  ·intro h9 y hy
   exact hr3 y (List.mem_of_getLast? hy) x h9
 have hs:=iZ out.getLast? l none (fun b h=>by cases h)
 cases hb:gC out.getLast? l none with
 | none =>
  have h1:=(hs.2 hb).2
  cases rest with
  | nil=>rfl
  | cons x rest =>
   have hx:x∈l:=(ez l x).1 (h▸List.mem_append_right _ (.head _))
   exact absurd ((hlast x hx).2 (.head _)) (h1 x hx)
 | some b =>
  obtain ⟨h1,h2,h3,_⟩:=hs.1 b hb
  have hbl:b∈l:=h1.resolve_right (by simp)
  have hbr:=(hlast b hbl).1 h2
  cases rest with
  | nil=>cases hbr
  | cons x rest =>
   have hx:x∈l:=(ez l x).1 (h▸List.mem_append_right _ (.head _))
   rcases List.mem_cons.1 hbr with e | h9
   ·rw [e];rfl
   ·have h8:=(List.pairwise_cons.1 hr2).1 b h9
    have h7:=h3 x hx ((hlast x hx).2 (.head _))
    rw [h8] at h7
    cases h7
end Go.Proofs.YtomnhnmciopiiaaGreat
end
section
namespace Go.Proofs.YtomnhnmciopiiaaGreat
open Go.Shelf
def Tryz.oL:Go.Shelf.Ren:=⟨fun | 6=>122 | 15=>165 | 14=>164 | 28=>194 | 29=>195 | 20=>186 | 21=>187 | 22=>188 | 23=>189 | 24=>190 | 25=>191 | 26=>192 | 27=>193 | 46=>206 | 47=>207 | 48=>208 | 49=>209 | 50=>210 | 57=>217 | n=>n,fun | 22=>72 | 24=>83 | 25=>185 | 3=>3 | 39=>139 | 0=>0 | 53=>193 | 55=>188 | 4=>4 | 46=>297 | 45=>296 | 50=>177 | 5=>5 | 9=>9 | 66=>311 | 70=>315 | 76=>324 | 77=>325 | n=>n,fun | n=>n⟩
theorem Tryz.o4:Go.Proofs.SlLaysF0.n6 Tryz.prog Tryz.oL:={
 mixed:=by kernel_rfl
 f6:=⟨Tryz.f122.name,by decide,Tryz.func122.trans (congrArg some (by kernel_rfl))⟩
 f14:=⟨Tryz.f164.name,by decide,Tryz.func164.trans (congrArg some (by kernel_rfl))⟩
 f15:=Tryz.func165.trans (congrArg some (by kernel_rfl))
 f20:=⟨Tryz.f186.name,by decide,Tryz.func186.trans (congrArg some (by kernel_rfl))⟩
 f21:=⟨Tryz.f187.name,by decide,Tryz.func187.trans (congrArg some (by kernel_rfl))⟩
 f22:=⟨Tryz.f188.name,by decide,Tryz.func188.trans (congrArg some (by kernel_rfl))⟩
 f23:=⟨Tryz.f189.name,by decide,Tryz.func189.trans (congrArg some (by kernel_rfl))⟩
 f24:=⟨Tryz.f190.name,by decide,Tryz.func190.trans (congrArg some (by kernel_rfl))⟩
 f25:=⟨Tryz.f191.name,by decide,Tryz.func191.trans (congrArg some (by kernel_rfl))⟩
 f26:=⟨Tryz.f192.name,by decide,Tryz.func192.trans (congrArg some (by kernel_rfl))⟩
 f27:=⟨Tryz.f193.name,by decide,Tryz.func193.trans (congrArg some (by kernel_rfl))⟩
 f28:=Tryz.func194.trans (congrArg some (by kernel_rfl))
 f29:=Tryz.func195.trans (congrArg some (by kernel_rfl))
 f46:=⟨Tryz.f206.name,by decide,Tryz.func206.trans (congrArg some (by kernel_rfl))⟩
 f47:=Tryz.func207.trans (congrArg some (by kernel_rfl))
 f48:=Tryz.func208.trans (congrArg some (by kernel_rfl))
 f49:=⟨Tryz.f209.name,by decide,Tryz.func209.trans (congrArg some (by kernel_rfl))⟩
 f50:=⟨Tryz.f210.name,by decide,Tryz.func210.trans (congrArg some (by kernel_rfl))⟩
 f57:=⟨Tryz.f217.name,by decide,Tryz.func217.trans (congrArg some (by kernel_rfl))⟩
 t0:=Tryz.underlying0
 a0:=Tryz.isAgg0
 z0:=Tryz.sizeOf0
 v0:=Tryz.zeroValue0
 t3:=Tryz.underlying3
 a3:=Tryz.isAgg3
 z3:=Tryz.sizeOf3
 v3:=Tryz.zeroValue3
 t4:=Tryz.underlying4
 a4:=Tryz.isAgg4
 z4:=Tryz.sizeOf4
 v4:=Tryz.zeroValue4
 t5:=Tryz.underlying5
 a5:=Tryz.isAgg5
 z5:=Tryz.sizeOf5
 v5:=Tryz.zeroValue5
 t9:=Tryz.underlying9
 a9:=Tryz.isAgg9
 z9:=Tryz.sizeOf9
 v9:=Tryz.zeroValue9
 t22:=Tryz.underlying72
 a22:=Tryz.isAgg72
 z22:=Tryz.sizeOf72
 v22:=Tryz.zeroValue72
 t25:=Tryz.underlying185
 a25:=Tryz.isAgg185
 z25:=Tryz.sizeOf185
 v25:=Tryz.zeroValue185
 t39:=Tryz.underlying139
 a39:=Tryz.isAgg139
 z39:=Tryz.sizeOf139
 v39:=Tryz.zeroValue139
 t45:=Tryz.underlying296
 a45:=Tryz.isAgg296
 z45:=Tryz.sizeOf296
 v45:=Tryz.zeroValue296
 t46:=Tryz.underlying297
 a46:=Tryz.isAgg297
 z46:=Tryz.sizeOf297
 v46:=Tryz.zeroValue297
 t50:=Tryz.underlying177
 a50:=Tryz.isAgg177
 z50:=Tryz.sizeOf177
 v50:=Tryz.zeroValue177
 t53:=Tryz.underlying193
 a53:=Tryz.isAgg193
 z53:=Tryz.sizeOf193
 v53:=Tryz.zeroValue193
 t55:=Tryz.underlying188
 a55:=Tryz.isAgg188
 z55:=Tryz.sizeOf188
 v55:=Tryz.zeroValue188
 t66:=Tryz.underlying311
 a66:=Tryz.isAgg311
 z66:=Tryz.sizeOf311
 v66:=Tryz.zeroValue311
 t70:=Tryz.underlying315
 a70:=Tryz.isAgg315
 z70:=Tryz.sizeOf315
 v70:=Tryz.zeroValue315
 t76:=Tryz.underlying324
 a76:=Tryz.isAgg324
 z76:=Tryz.sizeOf324
 v76:=Tryz.zeroValue324
 t77:=Tryz.underlying325
 a77:=Tryz.isAgg325
 z77:=Tryz.sizeOf325
 v77:=Tryz.zeroValue325 }
end Go.Proofs.YtomnhnmciopiiaaGreat
end
section
namespace Go.Proofs.YtomnhnmciopiiaaGreat
open Go Go.RowKit
set_option maxRecDepth 100000
def mz (x y:List UInt8):Int:=Lib.compareBytes x y
def vu (x y:Pth):Int:=if x.1=y.1 then mz x.2.data.toList y.2.data.toList else mz x.1 y.1
theorem lL:∀ x y:List UInt8,decide (mz x y<0)=Op.bytesLess x y
 | [],[]=>rfl
 | [],_ :: _=>rfl
 | _ :: _,[]=>rfl
 | a :: x,b :: y=>by
  have ih:=lL x y
  unfold mz at ih ⊢
  unfold Lib.compareBytes Op.bytesLess
  by_cases h:a<b
  ·simp [h]
  ·rw [if_neg h]
   by_cases h2:b<a
   ·rw [if_pos h2]
    have hne:¬ a=b:=fun e=>by subst e;exact h h2
    simp [h,hne]
   ·rw [if_neg h2,ih]
    have e:a=b:=by
     apply UInt8.toNat_inj.1
     have k1:¬ a.toNat<b.toNat:=fun k=>h (UInt8.lt_iff_toNat_lt.2 k)
     have k2:¬ b.toNat<a.toNat:=fun k=>h2 (UInt8.lt_iff_toNat_lt.2 k)
     omega
    simp [e]
theorem uS:∀ x y:List UInt8,mz x y=if Op.bytesLess x y=true then -1 else if Op.bytesLess y x=true then 1 else 0
 | [],[]=>rfl
 | [],_ :: _=>rfl
 | _ :: _,[]=>rfl
 | a :: x,b :: y=>by
  have ih:=uS x y
  unfold mz at ih ⊢
  unfold Lib.compareBytes
  simp only [Op.bytesLess]
  by_cases h:a<b
  ·simp [h]
  ·by_cases h2:b<a
   ·have hne:¬ a=b:=fun e=>by subst e;exact h h2
    simp [h,h2,hne]
   ·have e:a=b:=by
     apply UInt8.toNat_inj.1
     have k1:¬ a.toNat<b.toNat:=fun k=>h (UInt8.lt_iff_toNat_lt.2 k)
     have k2:¬ b.toNat<a.toNat:=fun k=>h2 (UInt8.lt_iff_toNat_lt.2 k)
     omega
    subst e
    simp [h,ih]
theorem vQ (x y:Pth):decide (vu x y<0)=b4 x y:=by
 unfold vu b4
 split
 ·exact lL _ _
 ·exact lL _ _
theorem r0 (x:List UInt8):Lib.bytesOf (x.map fun b=>(b.toNat:Int))=x:=by
 unfold Lib.bytesOf
 rw [List.map_map]
 conv=>rhs;rw [← List.map_id x]
 refine List.map_congr_left fun b _=>?_
 simp
theorem pn {P:Program} (w:World) (x:List UInt8) (b off:Nat) (h:w.rangeAt b off (bv x)):(Extern.Bytes.loadBytes ⟨b,off,none⟩ x.length .empty).run P w=.ok ⟨x.toArray⟩ w:=by
 have hl:=Lib.run_loadBytesX (P:=P) w (x.map fun b=>(b.toNat:Int)) ⟨b,off,none⟩ .empty (fun j z hj=>by
  have e:(⟨b,off,none⟩:Addr).add j=⟨b,off+j,none⟩:=by unfold Addr.add;split<;>simp_all
  rw [e]
  refine h j _ ?_
  rw [List.getElem?_map] at hj
  cases hx:x[j]? with
  | none=>rw [hx] at hj;cases hj
  | some u =>
   rw [hx] at hj
   have hj:=Option.some.inj hj
   simp [bv,hx,← hj])
 rw [List.length_map,r0] at hl
 rw [hl]
 congr 1
 apply ByteArray.ext
 show (#[]:Array UInt8)++x.toArray=x.toArray
 simp
theorem kM {P:Program} (w:World) (x y:List UInt8) (b1 o1 c1 b2 o2 c2:Nat) (h1:w.rangeAt b1 o1 (bv x)) (h2:w.rangeAt b2 o2 (bv y)) :
  (Extern.BytealgCompare.compare #[.slice (some ⟨b1,o1,none⟩) x.length c1,.slice (some ⟨b2,o2,none⟩) y.length c2]).run P w=.ok (.int .i64 (mz x y)) w:=by
 change Sem.run P (do pure (goInt (Extern.BytealgCompare.cmp (← Extern.Bytes.bytesOf (.slice (some ⟨b1,o1,none⟩) x.length c1)) (← Extern.Bytes.bytesOf (.slice (some ⟨b2,o2,none⟩) y.length c2))))) w=_
 simp only [Extern.Bytes.bytesOf,Sem.run_bind,Sem.run_pure,Result.andThen,pn w x b1 o1 h1,pn w y b2 o2 h2]
 rw [Lib.cmp_eq]
 rfl
theorem lH (w:World) (x y:List UInt8) (b1 o1 c1 b2 o2 c2:Nat) (h1:w.rangeAt b1 o1 (bv x)) (h2:w.rangeAt b2 o2 (bv y)) :
  Calls Tryz.prog 167 #[.slice (some ⟨b1,o1,none⟩) x.length c1,.slice (some ⟨b2,o2,none⟩) y.length c2] w fun e w'=>e=.returned (.int .i64 (mz x y))∧w'=w:=by
 have hr:=kM (P:=Tryz.prog) w x y b1 o1 c1 b2 o2 c2 h1 h2
 generalize mz x y=r at hr ⊢
 go_enter Tryz.func167,Tryz.ntmps167
 go_wp2
 rw [run_callFunc_extern Tryz.func197 (by kernel_rfl) (by kernel_rfl) (by kernel_rfl) (e:=Extern.BytealgCompare.compare) (by kernel_rfl),hr]
 simp only [Result.andThen]
 rw [Oper.upon_value]
 go_wp2
 go_ret
 exact ⟨rfl,rfl⟩
theorem om (w:World) (x y:ByteArray) :
  Calls Tryz.prog 166 #[.string x,.string y] w fun e w'=>e=.returned (.int .i64 (mz x.data.toList y.data.toList))∧w'=w:=by
 have e1:mz x.data.toList y.data.toList=if Op.bytesLess x.toList y.toList=true then -1 else if Op.bytesLess y.toList x.toList=true then 1 else 0:=by
  rw [Lib.toList_data,Lib.toList_data]
  exact uS _ _
 rw [e1]
 have h3:=il x.toList y.toList
 clear e1
 go_enter Tryz.func166,Tryz.ntmps166
 cases hA:Op.bytesLess x.toList y.toList<;>cases hB:Op.bytesLess y.toList x.toList
 ·go_wp2
  all_goals first | (exfalso;simp_all;done) | (go_ret;simp_all;done)
 ·go_wp2
  all_goals first | (exfalso;simp_all;done) | (go_ret;simp_all;done)
 ·go_wp2
  all_goals first | (exfalso;simp_all;done) | (go_ret;simp_all;done)
 ·go_wp2
  all_goals first | (exfalso;simp_all;done) | (go_ret;simp_all;done)
def Drn (w w':World):Prop:=∃ n,w'=w.drewN n
instance:Fre.cV Drn where
 refl:=fun w=>⟨0,rfl⟩
 trans:=fun a b c ⟨n,h1⟩ ⟨m,h2⟩=>⟨n+m,by rw [h2,h1,World.drewN_drewN]⟩
 drew:=fun w=>⟨1,rfl⟩
attribute [local irreducible] wpList
set_option maxHeartbeats 4000000 in
theorem xw (x y:Pth) (hx:okP x) (hy:okP y) (W:World) :
  Calls Tryz.prog 123 #[.agg (pC x).toArray,.agg (pC y).toArray] W fun e w'=>e=.returned (.int .i64 (vu x y))∧∃ q os',w'=Go.Sort.grow (W.drewN q) os':=by
 obtain ⟨w1,hw1⟩:∃ w1,w1=W.alloc (.cells (pC x).toArray 83):=⟨_,rfl⟩
 obtain ⟨w2,hw2⟩:∃ w2,w2=w1.alloc (.cells (pC y).toArray 83):=⟨_,rfl⟩
 have n1:iS W w1 83 (pC x).toArray:=hw1▸cD _ _ _
 have n2:iS w1 w2 83 (pC y).toArray:=hw2▸cD _ _ _
 have b2:=n2.blk
 have b1:=n1.blk.below n2.below n1.blk.lt
 have fin:∃ q os',w2=Go.Sort.grow (W.drewN q) os':=⟨0,_,by rw [hw2,hw1,Go.Sort.alloc_eq_grow,Go.Sort.alloc_eq_grow,Go.Sort.grow_grow];rfl⟩
 go_enter Tryz.func123,Tryz.ntmps123
 refine wp_seq_k fun K1 h1=>?_
 refine rl ?_
 refine rvw (v:=.pointer (some ⟨W.heap.size,0,none⟩)) (w':=w1) (by rw [hw1];kernel_rfl) ?_
 refine rn ?_
 refine rvw (v:=.pointer (some ⟨w1.heap.size,0,none⟩)) (w':=w2) (by rw [hw2];kernel_rfl) ?_
 refine rn ?_
 refine nt (h1 _ _ ?_)
 refine wp_seq_k fun K2 h2=>?_
 refine wp_seq_k fun K3 h3=>?_
 refine rl ?_
 refine rv (v:=.pointer (some ⟨W.heap.size,0,none⟩)) (by kernel_rfl) ?_
 refine rv (xld (qa (Blk.range b1)) Tryz.underlying34 (by rw [bvL,hx.1];kernel_rfl)) ?_
 refine rv (v:=.pointer (some ⟨w1.heap.size,0,none⟩)) (by kernel_rfl) ?_
 refine rv (xld (qa (Blk.range b2)) Tryz.underlying34 (by rw [bvL,hy.1];kernel_rfl)) ?_
 by_cases p:x.1=y.1
 ·refine rv (Cf (cU x.1 y.1 hx.1 hy.1 w2) (decide_eq_true p)) ?_
  refine nt (h3 _ _ ?_)
  refine ct ?_
  refine wp_seq_k fun K4 h4=>?_
  refine rl ?_
  refine rv (v:=.pointer (some ⟨W.heap.size,20,none⟩)) (by kernel_rfl) ?_
  refine rv (xlc (range_cell (rM hx (Blk.range b1))) Tryz.underlying9) ?_
  refine rv (v:=.pointer (some ⟨w1.heap.size,20,none⟩)) (by kernel_rfl) ?_
  refine rv (xlc (range_cell (rM hy (Blk.range b2))) Tryz.underlying9) ?_
  refine an (by kernel_rfl) _ _ (by kernel_rfl) (om w2 x.2 y.2) ?_
  rintro e w7 ⟨rfl,rfl⟩
  refine ⟨_,rfl,rn ?_⟩
  refine nt (h4 _ _ ?_)
  refine wp_ret ?_
  simp only [Exit.then]
  refine bodyPost_ret (results_tmp rfl _ _ _) rfl ?_
  exact ⟨by unfold vu;rw [if_pos p];rfl,fin⟩
 ·refine rv (Cf (cU x.1 y.1 hx.1 hy.1 w2) (decide_eq_false p)) ?_
  refine nt (h3 _ _ ?_)
  refine cf ?_
  refine ks (h2 _ _ ?_)
  refine wp_seq_k fun K5 h5=>?_
  refine Fre.aW (X:=Drn) [] (by kernel_rfl) (by kernel_rfl) (by simp) (by simp) (by simp) ?_
  refine Fre.mvv (v:=.pointer (some ⟨W.heap.size,0,none⟩)) (fun _ _=>by kernel_rfl) ?_
  refine Fre.mvv (v:=.slice (some ⟨W.heap.size,0,none⟩) 20 20) (fun _ _=>by kernel_rfl) ?_
  refine Fre.mvv (v:=.pointer (some ⟨w1.heap.size,0,none⟩)) (fun _ _=>by kernel_rfl) ?_
  refine Fre.mvv (v:=.slice (some ⟨w1.heap.size,0,none⟩) 20 20) (fun _ _=>by kernel_rfl) ?_
  refine Fre.aA (.int .i64 (mz x.1 y.1)) 167 #[.slice (some ⟨W.heap.size,0,none⟩) 20 20,.slice (some ⟨w1.heap.size,0,none⟩) 20 20] (by kernel_rfl) (by kernel_rfl) (by kernel_rfl) (fun _=>by kernel_rfl) (fun W9 hW9=>?_) ?_
  ·obtain ⟨n,rfl⟩:=hW9
   have h9:=lH (w2.drewN n) x.1 y.1 W.heap.size 0 20 w1.heap.size 0 20 (qa (Blk.range (b1.drewN n))) (qa (Blk.range (b2.drewN n)))
   rw [hx.1,hy.1] at h9
   exact h9.mono fun e w' ⟨e1,e2⟩=>⟨e1,0,e2⟩
  refine Fre.rmd ?_
  rintro w9 ⟨n,rfl⟩
  dsimp only [Fre.ended,List.drop]
  refine ab (h5 _ _ ?_)
  refine wp_ret ?_
  refine bodyPost_ret (results_tmp rfl _ _ _) rfl ?_
  refine ⟨by unfold vu;rw [if_neg p];rfl,?_⟩
  obtain ⟨q,os,e⟩:=fin
  exact ⟨q+n,os,by rw [e];show Go.Sort.grow ((W.drewN q).drewN n) os=_;rw [World.drewN_drewN]⟩
end Go.Proofs.YtomnhnmciopiiaaGreat
end
section
namespace Go.Proofs.YtomnhnmciopiiaaGreat
open Go Go.RowKit
set_option maxRecDepth 100000
section
variable {α:Type} [Inhabited α] {enc:α→List Value} {k:Nat}
omit [Inhabited α] in
theorem oO (hk:∀ x,(enc x).length=k):∀ (l:List α) (j:Nat) (x:α) (i:Nat) (v:Value),l[j]?=some x→(enc x)[i]?=some v→(l.flatMap enc)[j*k+i]?=some v
 | [],j,x,i,v,h,_=>by simp at h
 | y :: l,0,x,i,v,h,hv=>by
  simp at h
  subst h
  have hi:=(List.getElem?_eq_some_iff.1 hv).1
  rw [List.flatMap_cons,Nat.zero_mul,Nat.zero_add,List.getElem?_append_left hi]
  exact hv
 | y :: l,j+1,x,i,v,h,hv=>by
  have ih:=oO hk l j x i v (by simpa using h) hv
  rw [List.flatMap_cons,List.getElem?_append_right (by rw [hk,Nat.add_mul];omega),hk]
  have e:(j+1)*k+i-k=j*k+i:=by rw [Nat.add_mul];omega
  rw [e]
  exact ih
theorem nS (hk:∀ x,(enc x).length=k) (d:Array α):(Go.Sort.flatK enc k d).toList=d.toList.flatMap enc:=by
 apply List.ext_getElem?
 intro t
 have hl:(d.toList.flatMap enc).length=d.size*k:=by
  rw [List.length_flatMap]
  have:∀ l:List α,(l.map fun x=>(enc x).length).sum=l.length*k:=by
   intro l
   induction l with
   | nil=>simp
   | cons x l ih=>rw [List.map_cons,List.sum_cons,ih,hk,List.length_cons,Nat.add_mul];omega
  rw [this,Array.length_toList]
 by_cases ht:t<d.size*k
 ·have h0:0<k:=by
   rcases Nat.eq_zero_or_pos k with h | h
   ·subst h;simp at ht
   ·exact h
  have hj:t / k<d.size:=(Nat.div_lt_iff_lt_mul h0).2 ht
  have hi:t % k<k:=Nat.mod_lt _ h0
  have e1:(Go.Sort.flatK enc k d)[t]! = (enc d[t / k]!)[t % k]!:=Go.Sort.get_flatK enc k d t ht
  have hs:t<(Go.Sort.flatK enc k d).size:=by rw [Go.Sort.size_flatK];exact ht
  rw [getElem!_pos (Go.Sort.flatK enc k d) t hs] at e1
  rw [Array.getElem?_toList,Array.getElem?_eq_getElem hs,e1]
  have hx:d.toList[t / k]?=some d[t / k]!:=by
   rw [Array.getElem?_toList,Array.getElem?_eq_getElem hj,getElem!_pos d (t / k) hj]
  have hv:(enc d[t / k]!)[t % k]?=some ((enc d[t / k]!)[t % k]!):=by
   have hlt:t % k<(enc d[t / k]!).length:=by rw [hk];exact hi
   rw [List.getElem?_eq_getElem hlt,getElem!_pos (enc d[t / k]!) (t % k) hlt]
  have h9:=oO hk d.toList (t / k) _ (t % k) _ hx hv
  rw [Nat.div_add_mod' t k] at h9
  exact h9.symm
 ·rw [List.getElem?_eq_none (l:=d.toList.flatMap enc) (by rw [hl];omega),List.getElem?_eq_none (by rw [Array.length_toList,Go.Sort.size_flatK];omega)]
theorem wm (hk:∀ x,(enc x).length=k) {w:World} {g:Nat} {t:TypeId} {cur:Array Value} (hb:Blk w g t cur) (d:Array α) (hc:cur.toList.take (d.size*k)=d.toList.flatMap enc):Go.Sort.HoldsK enc k w g 0 d:=by
 intro j hj
 rw [Go.Sort.size_flatK] at hj
 have hs:j<(Go.Sort.flatK enc k d).size:=by rw [Go.Sort.size_flatK];exact hj
 have e:(Go.Sort.flatK enc k d).toList[j]?=some ((Go.Sort.flatK enc k d)[j]!):=by
  rw [Array.getElem?_toList,Array.getElem?_eq_getElem hs,getElem!_pos (Go.Sort.flatK enc k d) j hs]
 rw [nS hk,← hc,List.getElem?_take_of_lt hj,Array.getElem?_toList] at e
 refine ⟨?_,?_⟩
 ·rw [Nat.zero_add,hb.cell,e]
  rfl
 ·rw [Nat.zero_add]
  exact hb.frozen j
theorem Ah (hk:∀ x,(enc x).length=k) {w:World} {g:Nat} {t:TypeId} {cur:Array Value} (hb:Blk w g t cur) (d:Array α) (n:Nat) (os:Array Obj) (hs:d.size*k≤cur.size) :
  ∃ cur',Blk (sortWorldK enc k w g 0 n d os) g t cur'∧cur'.size=cur.size∧cur'.toList.take (d.size*k)=d.toList.flatMap enc∧w.grownBy (sortWorldK enc k w g 0 n d os) (some g):=by
 have hF:(Go.Sort.flatK enc k d).size=d.size*k:=Go.Sort.size_flatK enc k d
 have hg:(w.heap.modify g (Go.Sort.onCells (Go.Sort.putCells id 0 (Go.Sort.flatK enc k d))))[g]?=some (.cells (Go.Sort.putCells id 0 (Go.Sort.flatK enc k d) cur) t (0,0)):=by
  rw [Array.getElem?_modify,if_pos rfl,(show w.heap[g]?=_ from hb)]
  rfl
 refine ⟨Go.Sort.putCells id 0 (Go.Sort.flatK enc k d) cur,?_,by simp [Go.Sort.putCells],?_,⟨rfl,rfl,rfl,?_,fun b hl hne=>?_⟩⟩
 ·show ((w.heap.modify g _)++os)[g]?=_
  rw [Array.getElem?_append_left (by rw [Array.size_modify];exact hb.lt)]
  exact hg
 ·rw [← nS hk]
  apply List.ext_getElem?
  intro j
  by_cases hj:j<d.size*k
  ·rw [List.getElem?_take_of_lt hj,Array.getElem?_toList,Array.getElem?_toList]
   unfold Go.Sort.putCells
   rw [Array.getElem?_mapIdx,Array.getElem?_eq_getElem (by omega:j<cur.size),Option.map_some,if_pos ⟨Nat.zero_le _,by omega⟩,Nat.sub_zero]
   rw [getElem!_pos (Go.Sort.flatK enc k d) j (by omega),Array.getElem?_eq_getElem (by omega)]
   rfl
  ·rw [List.getElem?_eq_none (by rw [List.length_take];omega),List.getElem?_eq_none (by rw [Array.length_toList];omega)]
 ·show w.heap.size≤((w.heap.modify g _)++os).size
  rw [Array.size_append,Array.size_modify]
  omega
 ·show ((w.heap.modify g _)++os)[b]?=_
  rw [Array.getElem?_append_left (by rw [Array.size_modify];exact hl),Array.getElem?_modify,if_neg (fun e=>hne (by rw [e]))]
end
end Go.Proofs.YtomnhnmciopiiaaGreat
end
