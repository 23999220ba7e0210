/- spencelaw18.DrvTells is true of every input, and leaves all as it was. No condition. -/
import Derived.Test.YtomnhnmciopiiaaGreatMMW11
section
namespace Go.Proofs.YtomnhnmciopiiaaGreat
open Go Go.RowKit Go.Maps
set_option maxRecDepth 100000
attribute [local irreducible] wpList
def eb (r:Value):List Value:=[.slice none 0 0,.slice none 0 0,.slice none 0 0,.slice none 0 0,.slice none 0 0,.slice none 0 0,.slice none 0 0,r,.slice none 0 0,.slice none 0 0,.slice none 0 0,.slice none 0 0,.slice none 0 0,.slice none 0 0,.slice none 0 0,.slice none 0 0,.slice none 0 0,.slice none 0 0,.slice none 0 0,.slice none 0 0,.slice none 0 0]
theorem aS {w:World} {g:Nat} {r:Value} (i:Nat) (v:Value) (hv:(eb r)[i]?=some v) (h:w.rangeAt g 0 (eb r)):w.rangeAt g i [v]:=fun j u hu=>by
 cases j with
 | zero =>
  have h1:=h i v hv
  injection hu with hu
  rw [← hu]
  rwa [Nat.zero_add] at h1
 | succ j=>simp at hu
theorem sx:(Tryz.prog.info? 72).map (fun i=>(i.zero,i.size,i.bytes))=some (some (.slice none 0 0),1,24):=by kernel_rfl
set_option maxRecDepth 100000 in
set_option maxHeartbeats 1000000 in
theorem oo (w:World):Calls Tryz.prog 104 #[.slice none 0 0] w fun e w'=>e=.returned (.bool true)∧Below w.heap.size w w':=by
 have hb:=jN w w ⟨fun _=>False,fun _=>True⟩ 0 (fun _=>.slice none 0 0) (fun _=>0) (fun _=>[]) w.heap.size none 0 (by omega) (fun i hi=>by omega) ?_
 ·exact hb.mono fun e w' ⟨h1,h2⟩=>⟨h1,h2.below⟩
 ·refine Mem.cons (Mem.cons (Mem.cons (Mem.start w) (fun _ _ _ _=>trivial) trivial (fun b hb=>hb.elim)) (eh _ _ _ _ _ _) (World.ownsRow_nil _ _ _ _) (fun b hb=>by cases hb)) ?_ ?_ ?_
  ·exact Ent.nN fun x hx=>by simp at hx
  ·exact ⟨fun x hx=>by simp at hx,List.Pairwise.nil⟩
  ·rintro b ⟨x,hx,_⟩
   simp at hx
set_option maxHeartbeats 4000000 in
theorem qJ (w0 w:World) (R:Ent) (g:Nat) (l:List Value) (A1:Option Addr) (c1:Nat) (x:Value) (hx1:ig x) (hl:l.length≤100000000) (hm:Mem w0 w [cC g 125 (eb (.slice A1 l.length c1)).toArray,b7 w0.heap.size 72 A1 c1 l,R]) :
  Calls Tryz.prog 81 #[.pointer (some ⟨g,0,none⟩),x] w fun e w'=>e=.returned (.tuple #[])∧∃ A2 c2,Mem w0 w' [cC g 125 (eb (.slice A2 (l++[x]).length c2)).toArray,b7 w0.heap.size 72 A2 c2 (l++[x]),R]:=by
 obtain ⟨Ax,nx,cx,rfl⟩:=hx1
 unfold b7 at hm ⊢
 go_enter Tryz.func81,Tryz.ntmps81
 refine rl ?_
 refine rv (v:=.pointer (some ⟨g,0,none⟩)) (by kernel_rfl) ?_
 refine rv (v:=.pointer (some ⟨g,7,none⟩)) (by kernel_rfl) ?_
 refine rv (xlc (range_cell (aS 7 _ rfl (Blk.range (Mem.blk hm 0 rfl)))) Tryz.underlying77) ?_
 refine aL (o:=⟨some 10,_,_,_,_,_⟩) rfl 77 (.tmp 9) rfl 72 1 (Value.slice none 0 0) (.slice Ax nx cx) rfl Tryz.underlying77 (by kernel_rfl) (by decide) (by decide) (fun w=>by kernel_rfl) rfl ?_
 intro w1 hn
 have H2:=Mem.bA hm hn
 clear hn
 refine rn ?_
 obtain ⟨inm72,iq72,ir72,is72,it72⟩:=info_parts sx
 refine aH (o:=⟨some 11,_,_,_,_,_⟩) rfl _ _ 77 rfl (w0.heap.size) 72 _ _ 1 24 Tryz.underlying77 iq72 ir72 is72 it72 rfl (by decide) (.slice A1 l.length c1) ((l).length) ((l).flatMap vb) (Mem.own H2 2 rfl) ((some ⟨w.heap.size,0,none⟩)) (1) (1) ([.slice Ax nx cx]) (bH (n:=1) (m:=1) (Mem.blk H2 0 rfl) rfl (fun u hu=>by rw [List.mem_singleton.1 hu];rfl)) ?hmt3 ?hbt3 ?hzt3 rfl rfl ?_
 case hmt3=>simp only [maxLen];omega
 case hbt3=>omega
 case hzt3=>exact (Mem.below H2).size
 intro u6 w4 ow9 gr10 hp11
 refine rn ?_
 have ow9:w4.ownsRow (w0.heap.size) 72 1 u6 (l++[(Value.slice Ax nx cx)]).length ((l++[(Value.slice Ax nx cx)]).flatMap vb):=by first | simpa using ow9 | simpa [vb] using ow9 | (simp at ow9 ⊢;exact ow9)
 obtain ⟨A7,c8,rfl⟩:=aP ow9
 have H5:=Mem.app H2 2 rfl ow9 gr10 hp11
 clear ow9 gr10 hp11
 refine rv (v:=.pointer (some ⟨g,0,none⟩)) (by kernel_rfl) ?_
 refine rv (v:=.pointer (some ⟨g,7,none⟩)) (by kernel_rfl) ?_
 refine bW (o:=⟨none,_,_,_,_,_⟩) rfl 77 (.tmp 13) (.tmp 11) rfl g (7) 125 (eb (.slice A1 l.length c1)).toArray (Mem.blk H5 1 rfl) (Nat.le_of_ble_eq_true rfl) (by kernel_rfl) (.slice A7 (l++[(Value.slice Ax nx cx)]).length c8) rfl rfl rfl ?_
 intro w12 hk hg hz
 have H13:=Mem.st (cs':=(eb (.slice A7 (l++[(Value.slice Ax nx cx)]).length c8)).toArray) H5 1 rfl hk hg
 clear hk hg hz
 refine rn ?_
 refine wpList_nil ?_
 refine bodyPost_end (results_none rfl _ _ _) rfl ?_
 exact ⟨rfl,_,_,(Mem.pick H13 [1,2,3] (by decide) rfl)⟩
theorem tm (w0 w:World) (L:List Ent) (m:Nat) (u:Nat→Value) (n:Nat→Nat) (x:Nat→List Value) (A:Option Addr) (c:Nat) (hm9:m≤1000000) (hn9:∀ i,i<m→n i≤1000000) (hm:Mem w0 w (Ent.all (List.range m) (fun i=>ar w0.heap.size 83 21 (PS.self (u i) (n i) (x i))) :: aw w0.heap.size 72 1 (.slice A m c) m (((List.range m).map u).flatMap vb) :: L)) :
  Calls Tryz.prog 106 #[.slice A m c] w fun e w'=>e=.returned (.bool true)∧Mem w0 w' (aw w0.heap.size 72 1 (.slice A m c) m (((List.range m).map u).flatMap vb) :: L):=by
 obtain ⟨hp,hok,hfar⟩:=Mem.pack [Ent.all (List.range m) (fun i=>ar w0.heap.size 83 21 (PS.self (u i) (n i) (x i))),aw w0.heap.size 72 1 (.slice A m c) m (((List.range m).map u).flatMap vb)] hm
 exact (oD w0 w _ m u n x _ A c hm9 hn9 hp).mono fun e w' ⟨h1,h2⟩=>⟨h1,Mem.unpack [aw w0.heap.size 72 1 (.slice A m c) m (((List.range m).map u).flatMap vb)] h2 hok hfar⟩
set_option maxHeartbeats 40000000 in
theorem mY (w0 w:World) (R:Ent) (g:Nat) (m:Nat) (u:Nat→Value) (n:Nat→Nat) (x:Nat→List Value) (A:Option Addr) (c:Nat) (hm9:m≤1000000) (hn9:∀ i,i<m→n i≤1000000)
  (hm:Mem w0 w [Ent.all (List.range m) (fun i=>ar w0.heap.size 83 21 (PS.self (u i) (n i) (x i))),aw w0.heap.size 72 1 (.slice A m c) m (((List.range m).map u).flatMap vb),cC g 125 (eb (.slice A m c)).toArray,R]) :
  Calls Tryz.prog 71 #[.pointer (some ⟨g,0,none⟩)] w fun e w'=>e=.returned (.bool true)∧Mem w0 w' [R]:=by
 go_enter Tryz.func71,Tryz.ntmps71
 refine wp_seq_k (fun K1 hK1=>?_)
 refine rl ?_
 refine nt (hK1 _ _ ?_)
 refine wp_seq_k (fun K2 hK2=>?_)
 refine rl ?_
 refine rv (v:=.pointer (some ⟨g,0,none⟩)) (by kernel_rfl) ?_
 refine rv (v:=.pointer (some ⟨g,0,none⟩)) (by kernel_rfl) ?_
 refine rv (xlc (range_cell (aS 0 _ rfl (Blk.range (Mem.blk hm 2 rfl)))) Tryz.underlying106) ?_
 refine an (by kernel_rfl) _ _ (by kernel_rfl) (jQ w) ?_
 rintro e w3 ⟨rfl,hb5⟩
 refine ⟨_,rfl,rn ?_⟩
 have H4:=Mem.call hm hb5
 refine rn ?_
 refine rv (v:=.pointer (some ⟨g,0,none⟩)) (by kernel_rfl) ?_
 refine rv (v:=.pointer (some ⟨g,1,none⟩)) (by kernel_rfl) ?_
 refine rv (xlc (range_cell (aS 1 _ rfl (Blk.range (Mem.blk H4 2 rfl)))) Tryz.underlying107) ?_
 refine an (by kernel_rfl) _ _ (by kernel_rfl) (jR w3) ?_
 rintro e w6 ⟨rfl,hb8⟩
 refine ⟨_,rfl,rn ?_⟩
 have H7:=Mem.call H4 hb8
 refine rn ?_
 refine rv (v:=.pointer (some ⟨g,0,none⟩)) (by kernel_rfl) ?_
 refine rv (v:=.pointer (some ⟨g,2,none⟩)) (by kernel_rfl) ?_
 refine rv (xlc (range_cell (aS 2 _ rfl (Blk.range (Mem.blk H7 2 rfl)))) Tryz.underlying108) ?_
 refine an (by kernel_rfl) _ _ (by kernel_rfl) (kC w6) ?_
 rintro e w9 ⟨rfl,hb11⟩
 refine ⟨_,rfl,rn ?_⟩
 have H10:=Mem.call H7 hb11
 refine rn ?_
 refine rv (v:=.pointer (some ⟨g,0,none⟩)) (by kernel_rfl) ?_
 refine rv (v:=.pointer (some ⟨g,3,none⟩)) (by kernel_rfl) ?_
 refine rv (xlc (range_cell (aS 3 _ rfl (Blk.range (Mem.blk H10 2 rfl)))) Tryz.underlying109) ?_
 refine an (by kernel_rfl) _ _ (by kernel_rfl) (jO w9) ?_
 rintro e w12 ⟨rfl,hb14⟩
 refine ⟨_,rfl,rn ?_⟩
 have H13:=Mem.call H10 hb14
 refine rn ?_
 refine rv (v:=.pointer (some ⟨g,0,none⟩)) (by kernel_rfl) ?_
 refine rv (v:=.pointer (some ⟨g,4,none⟩)) (by kernel_rfl) ?_
 refine rv (xlc (range_cell (aS 4 _ rfl (Blk.range (Mem.blk H13 2 rfl)))) Tryz.underlying110) ?_
 refine an (by kernel_rfl) _ _ (by kernel_rfl) (jT w12) ?_
 rintro e w15 ⟨rfl,hb17⟩
 refine ⟨_,rfl,rn ?_⟩
 have H16:=Mem.call H13 hb17
 refine rn ?_
 refine rv (v:=.pointer (some ⟨g,0,none⟩)) (by kernel_rfl) ?_
 refine rv (v:=.pointer (some ⟨g,5,none⟩)) (by kernel_rfl) ?_
 refine rv (xlc (range_cell (aS 5 _ rfl (Blk.range (Mem.blk H16 2 rfl)))) Tryz.underlying95) ?_
 refine an (by kernel_rfl) _ _ (by kernel_rfl) (oo w15) ?_
 rintro e w18 ⟨rfl,hb20⟩
 refine ⟨_,rfl,rn ?_⟩
 have H19:=Mem.call H16 hb20
 refine rn ?_
 refine rv (v:=.pointer (some ⟨g,0,none⟩)) (by kernel_rfl) ?_
 refine rv (v:=.pointer (some ⟨g,6,none⟩)) (by kernel_rfl) ?_
 refine rv (xlc (range_cell (aS 6 _ rfl (Blk.range (Mem.blk H19 2 rfl)))) Tryz.underlying111) ?_
 refine an (by kernel_rfl) _ _ (by kernel_rfl) (jj w18) ?_
 rintro e w21 ⟨rfl,hb23⟩
 refine ⟨_,rfl,rn ?_⟩
 have H22:=Mem.call H19 hb23
 refine rn ?_
 refine rv (v:=.pointer (some ⟨g,0,none⟩)) (by kernel_rfl) ?_
 refine rv (v:=.pointer (some ⟨g,7,none⟩)) (by kernel_rfl) ?_
 refine rv (xlc (range_cell (aS 7 _ rfl (Blk.range (Mem.blk H22 2 rfl)))) Tryz.underlying77) ?_
 refine an (by kernel_rfl) _ _ (by kernel_rfl) (tm w0 w21 _ m u n x A c hm9 hn9 (Mem.pick H22 [0,1,2,3] (by decide) rfl)) ?_
 rintro e w25 ⟨rfl,hm24⟩
 refine ⟨_,rfl,rn ?_⟩
 have H26:=hm24
 refine rn ?_
 refine rv (v:=.pointer (some ⟨g,0,none⟩)) (by kernel_rfl) ?_
 refine rv (v:=.pointer (some ⟨g,8,none⟩)) (by kernel_rfl) ?_
 refine rv (xlc (range_cell (aS 8 _ rfl (Blk.range (Mem.blk H26 1 rfl)))) Tryz.underlying112) ?_
 refine an (by kernel_rfl) _ _ (by kernel_rfl) (kI w25) ?_
 rintro e w28 ⟨rfl,hb30⟩
 refine ⟨_,rfl,rn ?_⟩
 have H29:=Mem.call H26 hb30
 refine rn ?_
 refine rv (v:=.pointer (some ⟨g,0,none⟩)) (by kernel_rfl) ?_
 refine rv (v:=.pointer (some ⟨g,9,none⟩)) (by kernel_rfl) ?_
 refine rv (xlc (range_cell (aS 9 _ rfl (Blk.range (Mem.blk H29 1 rfl)))) Tryz.underlying113) ?_
 refine an (by kernel_rfl) _ _ (by kernel_rfl) (jU w28) ?_
 rintro e w31 ⟨rfl,hb33⟩
 refine ⟨_,rfl,rn ?_⟩
 have H32:=Mem.call H29 hb33
 refine rn ?_
 refine rv (v:=.pointer (some ⟨g,0,none⟩)) (by kernel_rfl) ?_
 refine rv (v:=.pointer (some ⟨g,10,none⟩)) (by kernel_rfl) ?_
 refine rv (xlc (range_cell (aS 10 _ rfl (Blk.range (Mem.blk H32 1 rfl)))) Tryz.underlying114) ?_
 refine an (by kernel_rfl) _ _ (by kernel_rfl) (jL w31) ?_
 rintro e w34 ⟨rfl,hb36⟩
 refine ⟨_,rfl,rn ?_⟩
 have H35:=Mem.call H32 hb36
 refine rn ?_
 refine rv (v:=.pointer (some ⟨g,0,none⟩)) (by kernel_rfl) ?_
 refine rv (v:=.pointer (some ⟨g,11,none⟩)) (by kernel_rfl) ?_
 refine rv (xlc (range_cell (aS 11 _ rfl (Blk.range (Mem.blk H35 1 rfl)))) Tryz.underlying115) ?_
 refine an (by kernel_rfl) _ _ (by kernel_rfl) (iL w34) ?_
 rintro e w37 ⟨rfl,hb39⟩
 refine ⟨_,rfl,rn ?_⟩
 have H38:=Mem.call H35 hb39
 refine rn ?_
 refine rv (v:=.pointer (some ⟨g,0,none⟩)) (by kernel_rfl) ?_
 refine rv (v:=.pointer (some ⟨g,12,none⟩)) (by kernel_rfl) ?_
 refine rv (xlc (range_cell (aS 12 _ rfl (Blk.range (Mem.blk H38 1 rfl)))) Tryz.underlying116) ?_
 refine an (by kernel_rfl) _ _ (by kernel_rfl) (kU w37) ?_
 rintro e w40 ⟨rfl,hb42⟩
 refine ⟨_,rfl,rn ?_⟩
 have H41:=Mem.call H38 hb42
 refine rn ?_
 refine rv (v:=.pointer (some ⟨g,0,none⟩)) (by kernel_rfl) ?_
 refine rv (v:=.pointer (some ⟨g,13,none⟩)) (by kernel_rfl) ?_
 refine rv (xlc (range_cell (aS 13 _ rfl (Blk.range (Mem.blk H41 1 rfl)))) Tryz.underlying117) ?_
 refine an (by kernel_rfl) _ _ (by kernel_rfl) (iK w40) ?_
 rintro e w43 ⟨rfl,hb45⟩
 refine ⟨_,rfl,rn ?_⟩
 have H44:=Mem.call H41 hb45
 refine rn ?_
 refine rv (v:=.pointer (some ⟨g,0,none⟩)) (by kernel_rfl) ?_
 refine rv (v:=.pointer (some ⟨g,14,none⟩)) (by kernel_rfl) ?_
 refine rv (xlc (range_cell (aS 14 _ rfl (Blk.range (Mem.blk H44 1 rfl)))) Tryz.underlying118) ?_
 refine an (by kernel_rfl) _ _ (by kernel_rfl) (jk w43) ?_
 rintro e w46 ⟨rfl,hb48⟩
 refine ⟨_,rfl,rn ?_⟩
 have H47:=Mem.call H44 hb48
 refine rn ?_
 refine rv (v:=.pointer (some ⟨g,0,none⟩)) (by kernel_rfl) ?_
 refine rv (v:=.pointer (some ⟨g,15,none⟩)) (by kernel_rfl) ?_
 refine rv (xlc (range_cell (aS 15 _ rfl (Blk.range (Mem.blk H47 1 rfl)))) Tryz.underlying119) ?_
 refine an (by kernel_rfl) _ _ (by kernel_rfl) (nz w46) ?_
 rintro e w49 ⟨rfl,hb51⟩
 refine ⟨_,rfl,rn ?_⟩
 have H50:=Mem.call H47 hb51
 refine rn ?_
 refine rv (v:=.pointer (some ⟨g,0,none⟩)) (by kernel_rfl) ?_
 refine rv (v:=.pointer (some ⟨g,16,none⟩)) (by kernel_rfl) ?_
 refine rv (xlc (range_cell (aS 16 _ rfl (Blk.range (Mem.blk H50 1 rfl)))) Tryz.underlying55) ?_
 refine an (by kernel_rfl) _ _ (by kernel_rfl) (pW w49) ?_
 rintro e w52 ⟨rfl,hb54⟩
 refine ⟨_,rfl,rn ?_⟩
 have H53:=Mem.call H50 hb54
 refine rn ?_
 refine rv (v:=.pointer (some ⟨g,0,none⟩)) (by kernel_rfl) ?_
 refine rv (v:=.pointer (some ⟨g,17,none⟩)) (by kernel_rfl) ?_
 refine rv (xlc (range_cell (aS 17 _ rfl (Blk.range (Mem.blk H53 1 rfl)))) Tryz.underlying120) ?_
 refine an (by kernel_rfl) _ _ (by kernel_rfl) (jP w52) ?_
 rintro e w55 ⟨rfl,hb57⟩
 refine ⟨_,rfl,rn ?_⟩
 have H56:=Mem.call H53 hb57
 refine rn ?_
 refine rv (v:=.pointer (some ⟨g,0,none⟩)) (by kernel_rfl) ?_
 refine rv (v:=.pointer (some ⟨g,18,none⟩)) (by kernel_rfl) ?_
 refine rv (xlc (range_cell (aS 18 _ rfl (Blk.range (Mem.blk H56 1 rfl)))) Tryz.underlying121) ?_
 refine an (by kernel_rfl) _ _ (by kernel_rfl) (ja w55) ?_
 rintro e w58 ⟨rfl,hb60⟩
 refine ⟨_,rfl,rn ?_⟩
 have H59:=Mem.call H56 hb60
 refine rn ?_
 refine rv (v:=.pointer (some ⟨g,0,none⟩)) (by kernel_rfl) ?_
 refine rv (v:=.pointer (some ⟨g,19,none⟩)) (by kernel_rfl) ?_
 refine rv (xlc (range_cell (aS 19 _ rfl (Blk.range (Mem.blk H59 1 rfl)))) Tryz.underlying122) ?_
 refine an (by kernel_rfl) _ _ (by kernel_rfl) (gO w58) ?_
 rintro e w61 ⟨rfl,hb63⟩
 refine ⟨_,rfl,rn ?_⟩
 have H62:=Mem.call H59 hb63
 refine rn ?_
 refine rv (v:=.pointer (some ⟨g,0,none⟩)) (by kernel_rfl) ?_
 refine rv (v:=.pointer (some ⟨g,20,none⟩)) (by kernel_rfl) ?_
 refine rv (xlc (range_cell (aS 20 _ rfl (Blk.range (Mem.blk H62 1 rfl)))) Tryz.underlying123) ?_
 refine an (by kernel_rfl) _ _ (by kernel_rfl) (iJ w61) ?_
 rintro e w64 ⟨rfl,hb66⟩
 refine ⟨_,rfl,rn ?_⟩
 have H65:=Mem.call H62 hb66
 refine rn ?_
 refine nt (hK2 _ _ ?_)
 refine wp_ret ?_
 refine bodyPost_ret (results_tmp rfl _ _ _) rfl ?_
 exact ⟨rfl,(Mem.pick H65 [2] (by decide) rfl)⟩
theorem qD (u:Nat→Value) (k:Nat):(List.range (k+1)).map u=(List.range k).map u++[u k]:=by
 rw [List.range_succ,List.map_append]
 rfl
set_option maxHeartbeats 40000000 in
theorem nI (w0 w:World) (R:Ent) (B4:Nat) (m:Nat) (u:Nat→Value) (n:Nat→Nat) (x:Nat→List Value) (A:Option Addr) (c:Nat) (hm9:m≤1000) (hn9:∀ i,i<m→n i≤1000000) (hsl:∀ k,k<m→∃ A c,u k=.slice A (n k) c)
  (hm:Mem w0 w [Ent.all (List.range m) (fun i=>ar w0.heap.size 83 21 (PS.self (u i) (n i) (x i))),aw B4 72 1 (.slice A m c) m (((List.range m).map u).flatMap vb),R]) :
  Calls Tryz.prog 48 #[.slice A m c] w fun e w'=>e=.returned (.bool true)∧Mem w0 w' [R]:=by
 have hRl0:=Mem.own hm 1 rfl
 go_enter Tryz.func48,Tryz.ntmps48
 refine wp_seq_k (fun K1 hK1=>?_)
 refine rl ?_
 refine nt (hK1 _ _ ?_)
 refine wp_seq_k (fun K2 hK2=>?_)
 refine rl ?_
 refine rv (v:=.agg (eb (.slice none 0 0)).toArray) (by kernel_rfl) ?_
 refine ay (o:=⟨some 6,_,_,_,_,_⟩) rfl 125 (.tmp 5) rfl (eb (.slice none 0 0)).toArray rfl ?_
 intro w3 hn
 have H4:=Mem.bA hm hn
 clear hn
 refine rn ?_
 refine nt (hK2 _ _ ?_)
 refine wp_seq_k (fun K5 hK5=>?_)
 refine wp_seq_k (fun K6 hK6=>?_)
 refine rl ?_
 refine nt (hK6 _ _ ?_)
 refine wp_block ?_
 have H7:=Mem.dI H4 w0.heap.size 72 1
 obtain ⟨g,hg⟩:∃ g,g=w.heap.size:=⟨_,rfl⟩
 rw [← hg] at H7 ⊢
 have H8:=Mem.pick H7 [1,0,2,3,4] (by decide) rfl
 go_loopw [4] (fun x4 wr=>∃ k:Nat,∃ ps9:List Value,∃ Ap:Option Addr,∃ cp:Nat,x4=.int .i64 (k:Int)∧(k≤m)∧(ps9=(List.range k).map u)∧Mem w0 wr [cC g 125 (eb (.slice Ap ps9.length cp)).toArray,b7 w0.heap.size 72 Ap cp ps9,Ent.all (List.range m) (fun i=>ar w0.heap.size 83 21 (PS.self (u i) (n i) (x i))),aw B4 72 1 (.slice A m c) m (((List.range m).map u).flatMap vb),R]) (fun x4 _=>m-(intOf x4).toNat)
 case atStart=>exact ⟨0,([]:List Value),none,0,rfl,by omega,rfl,H8⟩
 case round =>
  obtain ⟨wo9,rfl⟩:∃ wo9,wo9=wr:=⟨_,rfl⟩
  obtain ⟨k,ps9,Ap,cp,rfl,hk,hps,H10⟩:=hrel
  have hp9:ps9.length≤1000000:=by rw [hps,List.length_map,List.length_range];omega
  refine wp_seq_k (fun K12 hK12=>?_)
  refine wp_seq_k (fun K13 hK13=>?_)
  refine rl ?_
  by_cases p14:(k:Int)<(m:Int)
  ·refine rv (aB (decide_eq_true p14)) ?_
   refine nt (hK13 _ _ ?_)
   refine ct ?_
   refine ks (hK12 _ _ ?_)
   refine wp_seq_k (fun K15 hK15=>?_)
   refine wp_block ?_
   refine rl ?_
   obtain ⟨b16,rfl⟩:=(fun h0=>(aG hRl0 h0).imp fun _ h9=>h9.1) (by omega)
   obtain ⟨A20,c21,hu22⟩:=hsl k (by omega)
   refine rv (aT (s:=1) (k) Tryz.underlying77 (by kernel_rfl)) ?_
   refine rv (v:=.slice A20 (n k) c21) (by rw [← hu22];exact exec_load_cell (o:=⟨some 17,_,_,_,_,_⟩) 72 (.tmp 16) rfl ⟨b16,k*1,none⟩ rfl _ _ wo9 Tryz.underlying72 rfl (range_cell (bw (Mem.own H10 3 rfl) (by omega)))) ?_
   obtain ⟨hp26,hok27,hfar28⟩:=Mem.pack [_,_] (Mem.pick H10 [0,1,2,3,4] (by decide) rfl)
   refine an (by kernel_rfl) _ _ (by kernel_rfl) (qJ w0 wo9 _ g ps9 Ap cp (.slice A20 (n k) c21) ⟨_,_,_,rfl⟩ (by omega) hp26) ?_
   rintro e w29 ⟨rfl,A23,c24,hm25⟩
   refine ⟨_,rfl,rn ?_⟩
   have H30:=Mem.unpack [_,_] hm25 hok27 hfar28
   refine wpList_nil ?_
   refine aq ?_
   refine ab (hK15 _ _ ?_)
   refine rl ?_
   refine rv (aR (((k+1:Nat):Int))) ?_
   refine wpList_nil ?_
   refine ab ?_
   show _∧_
   go_roundw
   case rel=>exact ⟨(k+1),(ps9++[Value.slice A20 (n k) c21]),A23,c24,rfl,by omega,(by rw [hps,qD,hu22]),H30⟩
   case measure=>simp [intOf];omega
  ·refine rv (aB (decide_eq_false p14)) ?_
   refine nt (hK13 _ _ ?_)
   refine cf ?_
   refine wp_exit ?_
   refine aj ?_
   refine aj ?_
   refine ax ?_
   refine ab (hK5 _ _ ?_)
   refine wp_seq_k (fun K32 hK32=>?_)
   refine rl ?_
   have hke:k=m:=by omega
   rw [hke] at hps
   have hpl:ps9.length=m:=by rw [hps,List.length_map,List.length_range]
   have hq9:=(Mem.pick H10 [2,1,0,4] (by decide) rfl)
   unfold b7 at hq9
   rw [hpl,hps] at hq9
   refine an (by kernel_rfl) _ _ (by kernel_rfl) (mY w0 wo9 R g m u n x Ap cp (by omega) hn9 hq9) ?_
   rintro e w34 ⟨rfl,hm33⟩
   refine ⟨_,rfl,rn ?_⟩
   have H35:=hm33
   refine rn ?_
   refine nt (hK32 _ _ ?_)
   refine wp_ret ?_
   refine bodyPost_ret (results_tmp rfl _ _ _) rfl ?_
   exact ⟨rfl,H35⟩
end Go.Proofs.YtomnhnmciopiiaaGreat
end
section
namespace Go.Proofs.YtomnhnmciopiiaaGreat
open Go Go.RowKit Go.Maps
set_option maxRecDepth 100000
attribute [local irreducible] wpList
theorem ki (x:Itm) (l:List Itm) (c:Hsh):Dr.cu ((x :: l).map itP) c=if c∈az x.2.2.1 then x.1 :: Dr.cu (l.map itP) c else Dr.cu (l.map itP) c:=by
 have e:=rA (itP x) (l.map itP) c
 by_cases h:c∈az x.2.2.1
 ·rw [if_pos h];exact e.trans (if_pos h)
 ·rw [if_neg h];exact e.trans (if_neg h)
theorem lF (c:Hsh):Dr.cu (([]:List Itm).map itP) c=[]:=rfl
set_option maxHeartbeats 4000000 in
theorem tB (w:World) (l:List Itm) (v:Value) (h:eM.At w w.heap.size [v] l) (hl:∀ x∈l,x.2.2.1.length≤1000000) (hlen:l.length≤1000000) (c:Hsh) (hc:okH c) (us:List Hsh) (hb:Dr.cu (l.map itP) c=us) :
  Calls Tryz.prog 42 #[v,.agg (bv c).toArray] w fun e w'=>∃ A cap,e=.returned (.slice A us.length cap)∧Mem w w' [aw w.heap.size 34 20 (.slice A us.length cap) us.length (us.flatMap bv)]:=by
 obtain ⟨A0,cap,rfl,_,hcm,_,hA⟩:=ak h
 simp only [maxLen] at hcm
 have H0:=Mem.start w
 go_enter Tryz.func42,Tryz.ntmps42
 refine wp_seq_k (fun K1 hK1=>?_)
 refine rl ?_
 refine ay (o:=⟨some 3,_,_,_,_,_⟩) rfl 34 (.tmp 1) rfl (bv c).toArray rfl ?_
 intro w2 hn
 have H3:=Mem.bA H0 hn
 clear hn
 refine rn ?_
 refine nt (hK1 _ _ ?_)
 refine wp_seq_k (fun K4 hK4=>?_)
 refine rl ?_
 refine nt (hK4 _ _ ?_)
 refine wp_seq_k (fun K5 hK5=>?_)
 refine wp_seq_k (fun K6 hK6=>?_)
 refine rl ?_
 refine nt (hK6 _ _ ?_)
 refine wp_block ?_
 have H0r:=Mem.dI H3 w.heap.size 34 20
 go_loopw [5,6] (fun x5 x6 wr=>∃ j:Nat,∃ kn:List Hsh,∃ A:Option Addr,∃ c9:Nat,x5=.slice A kn.length c9∧x6=.int .i64 (j:Int)∧(j≤l.length)∧(kn.length≤j)∧(∀ z∈kn,okH z)∧(kn++Dr.cu ((l.drop j).map itP) c=us)∧Mem w wr [aw (w.heap.size) 34 20 (.slice A kn.length c9) (kn).length ((kn).flatMap bv),cC (w.heap.size) 34 (bv c).toArray]) (fun x5 x6 _=>l.length-(intOf x6).toNat)
 case atStart=>exact ⟨0,([]),none,0,rfl,rfl,by omega,(by simp),(fun _ h=>by cases h),hb,H0r⟩
 case round =>
  obtain ⟨wo7,rfl⟩:∃ wo7,wo7=wr:=⟨_,rfl⟩
  obtain ⟨j,kn,A,c9,rfl,rfl,hj,hkl,hall,HEQ,H8⟩:=hrel
  refine wp_seq_k (fun K10 hK10=>?_)
  refine wp_seq_k (fun K11 hK11=>?_)
  refine rl ?_
  by_cases p12:(j:Int)<((l.length:Nat):Int)
  ·refine rv (aB (decide_eq_true p12)) ?_
   refine nt (hK11 _ _ ?_)
   refine ct ?_
   refine ks (hK10 _ _ ?_)
   refine wp_seq_k (fun K13 hK13=>?_)
   refine wp_block ?_
   refine wp_seq_k (fun K14 hK14=>?_)
   obtain ⟨b15,o16,rfl,hlt18,hE17⟩:=hA (by omega)
   obtain ⟨x19,hx20⟩:∃ x,(l)[j]?=some x:=⟨_,List.getElem?_eq_getElem (by first | omega | (rw [List.length_map,List.length_range];omega))⟩
   have hd21:=av hx20
   obtain ⟨cs,hr22,ha23⟩:=hE17 (j) x19 hx20
   obtain ⟨v24,v25,rfl,xo26,xd27⟩:=dx.1 ha23
   obtain ⟨A28,c29,rfl,hlc29,hmc29,_,hA30⟩:=ak xd27.ins
   obtain ⟨A31,c32,rfl,hlc32,hmc32,_,hA33⟩:=ak xd27.rcp
   simp only [maxLen] at hmc29 hmc32
   have hcs:(az x19.2.2.1).length≤1000000:=by have h1:=ef x19.2.2.1 x19.2.2.1.length;rw [List.take_length] at h1;have h2:=hl _ (List.mem_of_getElem? hx20);omega
   obtain ⟨bu,hbu⟩:∃ b,decide (c∈(az x19.2.2.1))=b:=⟨_,rfl⟩
   refine Fre.aW (X:=Bel) [(18,zm wo7 (fun u=>aw (wo7.heap.size) 34 20 u (az x19.2.2.1).length ((az x19.2.2.1).flatMap bv)))] (by kernel_rfl) (by kernel_rfl) (by intro p hp;simp only [List.mem_cons,List.not_mem_nil,or_false] at hp;subst hp;exact (yg _ fun u=>eh _ _ _ _ _ _)) (by simp) (by simp) ?_
   refine Fre.rmd ?_
   refine Fre.mvv (fun _ _=>dw (j) Tryz.underlying40 cX) ?_
   refine Fre.mvv (v:=.pointer (some ⟨b15,o16+j*23+20,none⟩)) (fun _ _=>by kernel_rfl) ?_
   refine Fre.mvv (fun W9 hW9=>xld (cg xo26 (Mem.range (Mem.call H8 hW9) hr22 hlt18)) Tryz.underlying26 (bJ x19.2 (.slice A28 x19.2.2.1.length c29) (.slice A31 x19.2.2.2.length c32))) ?_
   refine Fre.fH 18 _ _ _ (by kernel_rfl) (by kernel_rfl) rfl rfl (fun W9=>by kernel_rfl) (fun W9 hW9=>yz (eK W9 x19.2 _ _ (Mem.drv (Mem.call H8 hW9) xd27) (hl _ (List.mem_of_getElem? hx20))) hW9) ?_
   refine Fre.rmd ?_
   refine Fre.mvv (fun W9 hW9=>xld (Blk.range (Mem.blk (Mem.call H8 hW9) 1 rfl)) Tryz.underlying34 (cN hc)) ?_
   refine Fre.e5 18 _ (.bool bu) _ (fun u=>#[u,.agg (bv c).toArray]) (by kernel_rfl) rfl (by kernel_rfl) (by kernel_rfl) (fun u W9=>by kernel_rfl) (fun u W9 hW9 hu=>fq W9 ((az x19.2.2.1)) _ (iX hu.1 (fJ xd27)) c hc bu hbu) ?_
   refine Fre.rmd ?_
   cases bu
   ·have hq38:=of_decide_eq_false hbu
    intro w39 hx41
    dsimp only [Fre.ended,List.drop]
    intro u42 hu43
    simp only [Act.put,List.setIfInBounds_toArray,List.set_cons_zero,List.set_cons_succ]
    obtain ⟨A45,c46,rfl⟩:=aP hu43.1
    have H40:=Mem.new H8 hx41 (eh _ _ _ _ _ _) hu43.1 hu43.2
    refine ab (hK14 _ _ ?_)
    refine cf ?_
    refine wp_skip ?_
    refine aq ?_
    refine ab (hK13 _ _ ?_)
    refine rl ?_
    refine rv (aR (((j+1:Nat):Int))) ?_
    refine wpList_nil ?_
    have H47:=Mem.pick H40 [1,2] (by decide) rfl
    refine ab ?_
    show _∧_
    go_roundw
    case rel=>exact ⟨(j+1),kn,A,c9,rfl,rfl,by omega,(by first | omega | (simp only [List.length_append,List.length_singleton];omega)),hall,(by have h:=HEQ;simp only [ki,hd21,hq38,↓reduceIte] at h;simpa only [List.append_assoc,List.cons_append,List.nil_append] using h),H47⟩
    case measure=>simp [intOf];omega
   ·have hq48:=of_decide_eq_true hbu
    intro w49 hx51
    dsimp only [Fre.ended,List.drop]
    intro u52 hu53
    simp only [Act.put,List.setIfInBounds_toArray,List.set_cons_zero,List.set_cons_succ]
    obtain ⟨A55,c56,rfl⟩:=aP hu53.1
    have H50:=Mem.new H8 hx51 (eh _ _ _ _ _ _) hu53.1 hu53.2
    refine ab (hK14 _ _ ?_)
    refine ct ?_
    refine rl ?_
    refine rv (dw (j) Tryz.underlying40 cX) ?_
    refine rv (v:=.pointer (some ⟨b15,o16+j*23,none⟩)) (by kernel_rfl) ?_
    refine rv (xld (cy (Mem.range H50 hr22 hlt18)) Tryz.underlying34 (cN xo26)) ?_
    refine aL (o:=⟨some 27,_,_,_,_,_⟩) rfl 27 (.tmp 26) rfl 34 20 (.agg zcH) (.agg (bv x19.1).toArray) rfl Tryz.underlying27 cJ (by decide) (by decide) (fun w=>by kernel_rfl) (by rw [Value.cells,List.size_toArray,bvL];exact xo26) ?_
    intro w57 hn
    have H58:=Mem.bA H50 hn
    clear hn
    refine rn ?_
    obtain ⟨inm34,iq34,ir34,is34,it34⟩:=info_parts dJ
    refine aH (o:=⟨some 28,_,_,_,_,_⟩) rfl _ _ 27 rfl (w.heap.size) 34 _ _ 20 20 Tryz.underlying27 iq34 ir34 is34 it34 rfl (by decide) (.slice A kn.length c9) ((kn).length) ((kn).flatMap bv) (Mem.own H58 2 rfl) ((some ⟨w49.heap.size,0,none⟩)) (1) (1) (bv x19.1) (bH (n:=20) (m:=1) (Mem.blk H58 0 rfl) (by rw [bvL];exact xo26) (bv1 _)) ?hmt59 ?hbt59 ?hzt59 rfl rfl ?_
    case hmt59=>simp only [maxLen];omega
    case hbt59=>omega
    case hzt59=>exact (Mem.below H58).size
    intro u62 w60 ow65 gr66 hp67
    refine rn ?_
    have ow65:w60.ownsRow (w.heap.size) 34 20 u62 (kn++[x19.1]).length ((kn++[x19.1]).flatMap bv):=by first | simpa using ow65 | (simp at ow65 ⊢;exact ow65)
    obtain ⟨A63,c64,rfl⟩:=aP ow65
    have H61:=Mem.app H58 2 rfl ow65 gr66 hp67
    clear ow65 gr66 hp67
    refine rn ?_
    refine wpList_nil ?_
    refine aq ?_
    refine ab (hK13 _ _ ?_)
    refine rl ?_
    refine rv (aR (((j+1:Nat):Int))) ?_
    refine wpList_nil ?_
    have H68:=Mem.pick H61 [2,3] (by decide) rfl
    refine ab ?_
    show _∧_
    go_roundw
    case rel=>exact ⟨(j+1),((kn++[x19.1])),A63,c64,rfl,rfl,by omega,(by first | omega | (simp only [List.length_append,List.length_singleton];omega)),(q9 hall xo26),(by have h:=HEQ;simp only [ki,hd21,hq48,↓reduceIte] at h;simpa only [List.append_assoc,List.cons_append,List.nil_append] using h),H68⟩
    case measure=>simp [intOf];omega
  ·have he69:=bF (l:=l) (j:=j) (by omega)
   refine rv (aB (decide_eq_false p12)) ?_
   refine nt (hK11 _ _ ?_)
   refine cf ?_
   refine wp_exit ?_
   refine aj ?_
   refine aj ?_
   refine ax ?_
   refine ab (hK5 _ _ ?_)
   refine wp_seq_k (fun K70 hK70=>?_)
   refine rl ?_
   refine nt (hK70 _ _ ?_)
   refine wp_ret ?_
   refine bodyPost_ret (results_tmp rfl _ _ _) rfl ?_
   have h:=HEQ
   simp only [lF,List.append_nil,he69] at h
   subst h
   exact ⟨_,_,rfl,(Mem.pick H8 [0] (by decide) rfl)⟩
end Go.Proofs.YtomnhnmciopiiaaGreat
end
section
namespace Go.Proofs.YtomnhnmciopiiaaGreat
open Go Go.RowKit
def lst (n m:Nat):Array Bool:=((List.range n).map fun j=>m.testBit j).toArray
theorem nG (n m j:Nat) (d:Bool):(lst n m).getD j d=if j<n then m.testBit j else d:=by
 unfold lst
 rw [Array.getD_eq_getD_getElem?,List.getElem?_toArray,List.getElem?_map]
 by_cases h:j<n
 ·rw [List.getElem?_range h,if_pos h]
  rfl
 ·rw [List.getElem?_eq_none (by simp;omega),if_neg h]
  rfl
theorem y4 (n:Nat):lst n 0=Array.replicate n false:=by
 unfold lst
 apply Array.ext_getElem?
 intro j
 rw [List.getElem?_toArray,List.getElem?_map,Array.getElem?_replicate]
 by_cases h:j<n
 ·rw [List.getElem?_range h,if_pos h]
  simp
 ·rw [List.getElem?_eq_none (by simp;omega),if_neg h]
  rfl
theorem uJ (n m i:Nat):(lst n m).setIfInBounds i true=lst n (m ||| 1 <<< i):=by
 unfold lst
 apply Array.ext_getElem?
 intro j
 rw [List.setIfInBounds_toArray,List.getElem?_toArray,List.getElem?_toArray,List.getElem?_set,List.getElem?_map,List.getElem?_map]
 by_cases h:j<n
 ·rw [List.getElem?_range h]
  simp only [Option.map_some,List.length_map,List.length_range]
  by_cases hij:i=j
  ·subst hij
   rw [if_pos rfl,if_pos h,Nat.testBit_or,Nat.testBit_shiftLeft]
   simp
  ·rw [if_neg hij,Nat.testBit_or,Nat.testBit_shiftLeft]
   have:(decide (j ≥ i)&&Nat.testBit 1 (j-i))=false:=by
    by_cases hji:i≤j
    ·have:j-i ≠ 0:=by omega
     obtain ⟨k,hk⟩:=Nat.exists_eq_succ_of_ne_zero this
     rw [hk]
     simp [Nat.testBit_succ]
    ·simp [hji]
   rw [this,Bool.or_false]
 ·rw [List.getElem?_eq_none (l:=List.range n) (by simp;omega)]
  simp only [Option.map_none,List.length_map,List.length_range]
  by_cases hij:i=j
  ·subst hij
   rw [if_pos rfl,if_neg h]
  ·rw [if_neg hij]
def rj (ops:Array Oper) (m i:Nat):Bool:=!m.testBit i&&((ops[i]?).map (·.after.all fun e=>!Region.binds .any e||(decide (e.on<ops.size)&&m.testBit e.on))).getD false
theorem pR (ops:Array Oper) (m:Nat):Region.ready .any ops (lst ops.size m)=(List.range ops.size).filter (rj ops m):=by
 unfold Region.ready
 refine List.filter_congr fun i hi=>?_
 have hi:=List.mem_range.1 hi
 unfold rj
 rw [nG,if_pos hi]
 congr 2
 congr 1
 funext o
 congr 1
 funext e
 rw [nG]
 congr 1
 by_cases h:e.on<ops.size
 ·rw [if_pos h]
  simp [h]
 ·rw [if_neg h]
  simp [h]
def zA (ops:Array Oper) (m i:Nat):Bool:=match ops[i]? with
 | none=>false
 | some oi=>(List.range ops.size).all fun j=>j == i||m.testBit j||match ops[j]? with
   | some oj=>oj.after.any (fun e=>Region.binds .any e&&e.on == i)||oi.apart ops oj
   | none=>true
theorem xy {ops:Array Oper} {m i:Nat} (h:zA ops m i=true):Region.free .any ops (lst ops.size m) i=true:=by
 unfold zA at h
 unfold Region.free
 cases e:ops[i]? with
 | none=>rw [e] at h;cases h
 | some oi =>
  rw [e] at h
  simp only at h ⊢
  rw [List.all_eq_true] at h ⊢
  intro j hj
  rw [nG,if_pos (List.mem_range.1 hj)]
  exact h j hj
section
variable {P:Program} {ops:Array Oper} {Q:Exit→Act→World→Prop} {w0:World} {L:List Ent} {fuel:Nat} {m:Nat} {a:Act} {w:World}
def HD (P:Program) (ops:Array Oper) (Q:Exit→Act→World→Prop) (w0:World) (L:List Ent) (fuel:Nat) (m:Nat) (a:Act) (w:World):Prop :=
 (∀ d v c (a:Act) w,Q (.panic c) (a.put d v) w→Q (.panic c) a w)→Region.noSelect ops=true→wpAnyH P .any ops Q (fun W=>Mem w0 W L) fuel (lst ops.size m) a w
theorem nr {id:Nat} (n:Nat) (hn:ops.size=n) (hm:P.follows .mixedOrders=true) (hQ:∀ d v c (a:Act) w,Q (.panic c) (a.put d v) w→Q (.panic c) a w) (hs:Region.noSelect ops=true) (hS:Mem w0 w L)
  (h:∀ w1,Below w.heap.size w w1→Mem w0 w1 L→HD P ops Q w0 L n 0 a w1):(Code.region id ops true).wp P Q a w:=by
 have hb:Below w.heap.size w w.drew:=(Below.refl _ w).drew
 refine wp_region_held (S:=fun W=>Mem w0 W L) hm ?_
 have h2:=h w.drew hb (hS.call hb) hQ hs
 rw [← hn,y4] at h2
 exact h2
theorem Aa {ops:Array Oper} {m i:Nat} {o:Oper} (hi:ops[i]?=some o) (hr:rj ops m i=true):(Region.ready .any ops (lst ops.size m)).contains i=true:=by
 rw [pR,List.contains_iff_mem]
 exact List.mem_filter.2 ⟨List.mem_range.2 (Array.getElem?_eq_some_iff.1 hi).1,hr⟩
theorem tj {ops:Array Oper} {i:Nat} {o:Oper} {rest:List Oper} (h:ops.toList.drop i=o :: rest):ops[i]?=some o:=by
 have h2:(ops.toList.drop i)[0]?=some o:=by rw [h];rfl
 rw [List.getElem?_drop] at h2
 rw [← Array.getElem?_toList]
 exact h2
theorem aE (i m':Nat) (o:Oper) (v:Value) {rest:List Oper} (hi9:ops.toList.drop i=o :: rest) (hf:(zA ops m i&&rj ops m i&&Region.wanted o (yielded ops a.tmps)&&(m ||| 1 <<< i) == m')=true)
  (hx:∀ W9,Mem w0 W9 L→(execOp a.eval o).run P W9=.ok (.value v) W9) (hS:Mem w0 w L) (h:HD P ops Q w0 L fuel m' (a.put o.dst v) w):HD P ops Q w0 L (fuel+1) m a w:=by
 have hi:=tj hi9
 simp only [Bool.and_eq_true,beq_iff_eq] at hf
 intro hQ hs
 refine wpAnyH_take hi hs (xy hf.1.1.1) (Aa hi hf.1.1.2) (fun c a w=>hQ o.dst v c a w) (.inl ⟨hf.1.2,hx⟩) hS ?_
 rw [uJ,hf.2]
 exact h hQ hs
theorem xH {i m':Nat} {o:Oper} (hi:ops[i]?=some o) (hf:((List.range ops.size).filter (rj ops m) == [i]&&Region.wanted o (yielded ops a.tmps)&&(m ||| 1 <<< i) == m')=true)
  (h:(∀ d v c (a:Act) w,Q (.panic c) (a.put d v) w→Q (.panic c) a w)→Region.noSelect ops=true→Oper.wp P o a w (fun a' w'=>Mem w0 w' L∧wpAnyH P .any ops Q (fun W=>Mem w0 W L) fuel (lst ops.size m') a' w') Q):HD P ops Q w0 L (fuel+1) m a w:=by
 simp only [Bool.and_eq_true,beq_iff_eq] at hf
 intro hQ hs
 refine wpAnyH_all ((pR ops m).trans hf.1.1) (by simp) fun j hj=>?_
 rw [List.mem_singleton.1 hj,uJ,hf.2]
 unfold wpOp
 simp only [hi,hf.1.2,if_true]
 exact .inl (h hQ hs)
theorem cW (i m':Nat) (o:Oper) {rest:List Oper} (hi9:ops.toList.drop i=o :: rest) (hf:((List.range ops.size).filter (rj ops m) == [i]&&Region.wanted o (yielded ops a.tmps)&&(m ||| 1 <<< i) == m')=true) (f:FuncId) (args:Array Value) (hrun:(execOp a.eval o).run P w=.ok (.enter f args) w)
  {R:Ending→World→Prop} (hc:Calls P f args w R) (h:∀ e w',R e w'→∃ v,e=.returned v∧Mem w0 w' L∧HD P ops Q w0 L fuel m' (a.put o.dst v) w'):HD P ops Q w0 L (fuel+1) m a w:=by
 refine xH (tj hi9) hf fun hQ hs=>?_
 unfold Oper.wp
 rw [hrun,Oper.upon_enter]
 refine hc.mono fun e w' he=>?_
 obtain ⟨v,rfl,h1,h2⟩:=h e w' he
 exact ⟨h1,h2 hQ hs⟩
theorem AD (i m':Nat) (o:Oper) (v:Value) (w':World) {rest:List Oper} (hi9:ops.toList.drop i=o :: rest) (hf:((List.range ops.size).filter (rj ops m) == [i]&&Region.wanted o (yielded ops a.tmps)&&(m ||| 1 <<< i) == m')=true) (hrun:(execOp a.eval o).run P w=.ok (.value v) w')
  (hS:Mem w0 w' L) (h:HD P ops Q w0 L fuel m' (a.put o.dst v) w'):HD P ops Q w0 L (fuel+1) m a w:=by
 refine xH (tj hi9) hf fun hQ hs=>?_
 unfold Oper.wp
 rw [hrun]
 exact ⟨hS,h hQ hs⟩
theorem qR (hr:(List.range ops.size).all (fun i=>m.testBit i)=true) (h:Q .normal a w):HD P ops Q w0 L fuel m a w:=fun _ _=>wpAnyH_done (by
 rw [pR,List.filter_eq_nil_iff]
 intro i hi
 have:=List.all_eq_true.1 hr i hi
 simp [rj,this]) h fuel
end
theorem yc {ρ:Operand→Value} {o:Oper} (t r:TypeId) (x y:Operand) (ho:o.op=.binOp .neq t x y r) (b:Bool) (hx:ρ x=.bool b) (hy:ρ y=.bool b) (W:World) (ht:t=4:=by rfl):(execOp ρ o).run Tryz.prog W=.ok (.value (.bool false)) W:=by
 subst ht
 unfold execOp
 simp only [ho,hx,hy]
 cases b<;>kernel_rfl
end Go.Proofs.YtomnhnmciopiiaaGreat
end
section
namespace Go.Proofs.YtomnhnmciopiiaaGreat
open Go Go.RowKit Go.Maps
set_option maxRecDepth 100000
theorem kD {P:Program} {ops:Array Oper} {rest:List Oper} {o:Oper} {a:Act} {w:World} {Q:Exit→Act→World→Prop} (hg:Region.wanted o (yielded ops a.tmps)=true) (t:TypeId) (x:Operand) (ho:o.op=.buildSlice t 1 #[(0,x)]) (e n:Nat) (z v:Value) (hx:a.eval x=v) (ht:P.underlying t=some (.slice e)) (hs:(P.info? e).map (·.size)=some n) (hn:0<n) (h24:n≤16777216) (hz:∀ w,(zeroValue e).run P w=.ok z w) (hv:v.cells.size=n)
  (h:∀ w',iS w w' e v.cells→wpList P ops Q rest (a.put o.dst (.slice (some ⟨w.heap.size,0,none⟩) 1 1)) w'):wpList P ops Q (o :: rest) a w :=
 aF hg _ _ (bM t x ho hx ht hs hn h24 hz hv w) (h _ (cD w e v.cells))
theorem AV (w:World) (l:List Itm) (v:Value) (h:bz.At w w.heap.size [v] l) (hl:∀ x∈l,x.2.2.1.length≤1000000∧x.2.2.2.length≤1000000) (hn:l.length≤1000000) :
  Calls Tryz.prog 29 #[v] w fun e w'=>∃ os A c,e=.returned (.slice A l.length c)∧Below w.heap.size w w'∧InP w' l os A c:=by
 refine (sO w l v h hl hn).mono fun e w' ⟨u,os,h1,h2,h3,h4⟩=>?_
 obtain ⟨A,c,rfl⟩:=aP (h4.own 0 rfl)
 have hlen:l.length=os.length:=by rw [← h2,List.length_map]
 have hle:∀ p∈os,okH p.1.1∧cM w' w.heap.size p.1.2 p.2.1 p.2.2:=fun p hp=>⟨h3 p hp,(h4.get (e:=Ent.all os (ldV w.heap.size)) 1 rfl).1 p hp⟩
 refine ⟨os,A,c,by rw [hlen];exact h1,h4.below,?_,h2,⟨_,h4.own 0 rfl⟩,_,hle⟩
 rw [hlen]
 have h9:=zB (h4.own 0 rfl) hle
 rw [h2] at h9
 exact h9
theorem Az (w:World) (l:List Itm) (v:Value) (h:bz.At w w.heap.size [v] l) (hn:l.length≤1000000) :
  Calls Tryz.prog 30 #[v] w fun e w'=>∃ u,e=.returned u∧Below w.heap.size w w'∧eM.At w' w'.heap.size [u] l:=by
 refine (tY w l v h hn).mono fun e w' ⟨u,os,h1,h2,h3,h4⟩=>⟨u,h1,h4.below,?_⟩
 have h9:=zg h4 (h4.own 0 rfl) h3
 rw [h2] at h9
 exact h9
theorem vd (w:World) (l:List Itm) (os:List dD) (A:Option Addr) (c:Nat) (hin:InP w l os A c) (v:Value) (h:bz.At w w.heap.size [v] l) (hl:∀ x∈l,x.2.2.1.length≤1000000∧x.2.2.2.length≤1000000) (hn:l.length≤1000000) :
  Calls Tryz.prog 49 #[.slice A l.length c,v] w fun e w'=>e=.returned (.bool true)∧Below w.heap.size w w':=by
 have e:l.length=os.length:=by rw [← hin.eq,List.length_map]
 obtain ⟨B,hr⟩:=hin.row
 obtain ⟨B2,he⟩:=hin.each
 rw [e]
 exact sZ w B2 B os A c hr he l v h hl hin.eq hn
theorem qf {w w':World} {t:TypeId} {s n:Nat} {u:Value} {xs:List Value} (ho:w'.ownsRow w.heap.size t s u n xs) (hb:Below w.heap.size w w'):Mem w w' [aw w.heap.size t s u n xs] :=
 (Mem.start w).new hb (eh _ _ _ _ _ _) ho fun _ hf=>aD ho hf
theorem AM (w:World) (l:List Itm) (A:Option Addr) (cap:Nat) (h:bz.At w w.heap.size [.slice A l.length cap] l) (hl:∀ x∈l,jY x.2) (b:Bool) (hb:gH l=b) :
  Calls Tryz.prog 27 #[.slice A l.length cap] w fun e w'=>e=.returned (.bool b)∧Below w.heap.size w w':=hb▸vV w l A cap h hl
theorem y8 (w:World) (l:List Itm) (v:Value) (h:bz.At w w.heap.size [v] l) (c:Hsh) (hc:okH c) (hl:∀ x∈l,x.2.2.1.length≤1000000∧x.2.2.2.length≤1000000) (d:Drv) (hd:findD l c=d) (b:Bool) (hb:(db l c).isSome=b) :
  Calls Tryz.prog 31 #[v,.agg (bv c).toArray] w fun e w'=>∃ u1 u2,e=.returned (.tuple #[.agg (dC d u1 u2).toArray,.bool b])∧Mem w w' [ix w.heap.size ((c,d),u1,u2)]:=by
 subst hd hb
 refine (yP w l v h c hc hl).mono fun e w' ⟨u1,u2,h1,h2,h3⟩=>⟨u1,u2,h1,?_⟩
 exact (Mem.start w).new h3 (uR _ _) h2 fun _ hf=>AU h2 hf
theorem AE (w:World) (l:List Itm) (A:Option Addr) (cap:Nat) (h:bz.At w w.heap.size [.slice A l.length cap] l) (hl:∀ x∈l,x.2.2.1.length≤1000000) (hlen:l.length≤1000000) (c:Hsh) (hc:okH c) (ns:List Hsh) (hns:cA l c=ns) (ne:Int) (hne:dB l c=ne) :
  Calls Tryz.prog 33 #[.slice A l.length cap,.agg (bv c).toArray] w fun e w'=>∃ A2 c2,e=.returned (.tuple #[.slice A2 ns.length c2,.int .i64 ne])∧Mem w w' [aw w.heap.size 34 20 (.slice A2 ns.length c2) ns.length (ns.flatMap bv)]:=by
 subst hns hne
 refine (pb w l A cap h hl hlen c hc).mono fun e w' ⟨u,h1,h2,h3⟩=>?_
 obtain ⟨A2,c2,rfl⟩:=aP h2
 exact ⟨A2,c2,h1,qf h2 h3⟩
theorem xz (w:World) (l:List Itm) (v:Value) (h:eM.At w w.heap.size [v] l) (hl:∀ x∈l,x.2.2.1.length≤1000000) (hlen:l.length≤1000000) (c:Hsh) (hc:okH c) (ns:List Hsh) (hns:cA l c=ns) (ne:Int) (hne:dB l c=ne) :
  Calls Tryz.prog 34 #[v,.agg (bv c).toArray] w fun e w'=>∃ A2 c2,e=.returned (.tuple #[.slice A2 ns.length c2,.int .i64 ne])∧Mem w w' [aw w.heap.size 34 20 (.slice A2 ns.length c2) ns.length (ns.flatMap bv)]:=by
 subst hns hne
 exact uf w l v h hl hlen c hc
theorem AL (w:World) (l:List Itm) (A:Option Addr) (cap:Nat) (h:bz.At w w.heap.size [.slice A l.length cap] l) (hl:∀ x∈l,x.2.2.1.length≤1000000) (b:Bool) (hb:Dr.bL (l.map itP)=b) :
  Calls Tryz.prog 35 #[.slice A l.length cap] w fun e w'=>e=.returned (.bool b)∧Below w.heap.size w w':=hb▸vq w l A cap h hl
theorem AW (w:World) (l:List Itm) (A:Option Addr) (cap:Nat) (h:bz.At w w.heap.size [.slice A l.length cap] l) (hl:∀ x∈l,x.2.2.1.length≤1000000) (hlen:l.length≤1000000) (c:Hsh) (hc:okH c) (n:Nat) (hd:dR l c=n) :
  Calls Tryz.prog 39 #[.slice A l.length cap,.agg (bv c).toArray] w fun e w'=>e=.returned (.int .i64 (n:Int))∧Below w.heap.size w w':=hd▸oR w l A cap h hl hlen c hc
theorem xr {l:List Itm} {c:Hsh} {n:Nat} (hl:∀ x∈l,x.2.2.1.length≤n∧x.2.2.2.length≤n) {d:Drv} (hd:findD l c=d):d.2.1.length≤n∧d.2.2.length≤n:=by
 rw [← hd]
 unfold findD
 cases e:l.find? fun x=>decide (x.1=c) with
 | none=>exact ⟨Nat.zero_le _,Nat.zero_le _⟩
 | some x=>exact hl x (List.mem_of_find?_eq_some e)
theorem AJ (w:World) (l:List Itm) (A:Option Addr) (cap:Nat) (h:bz.At w w.heap.size [.slice A l.length cap] l) (hl:∀ x∈l,x.2.2.1.length≤1000000) (hlen:l.length≤1000000) (c:Hsh) (hc:okH c) (us:List Hsh) (hu:Dr.cu (l.map itP) c=us) :
  Calls Tryz.prog 41 #[.slice A l.length cap,.agg (bv c).toArray] w fun e w'=>∃ A2 c2,e=.returned (.slice A2 us.length c2)∧Mem w w' [aw w.heap.size 34 20 (.slice A2 us.length c2) us.length (us.flatMap bv)]:=by
 subst hu
 refine (wZ w l A cap h hl hlen c hc).mono fun e w' ⟨u,h1,h2,h3⟩=>?_
 obtain ⟨A2,c2,rfl⟩:=aP h2
 exact ⟨A2,c2,h1,qf h2 h3⟩
theorem wB (w:World) (d:Drv) (v1 v2:Value) (h:aO w w.heap.size d v1 v2) (hl:d.2.1.length≤1000000) (cs:List Hsh) (hc:az d.2.1=cs) :
  Calls Tryz.prog 46 #[.agg (dC d v1 v2).toArray] w fun e w'=>∃ A2 c2,e=.returned (.slice A2 cs.length c2)∧Mem w w' [aw w.heap.size 34 20 (.slice A2 cs.length c2) cs.length (cs.flatMap bv)]:=by
 subst hc
 refine (ey w d v1 v2 h hl).mono fun e w' ⟨u,h1,h2,h3⟩=>?_
 obtain ⟨A2,c2,rfl⟩:=aP h2
 exact ⟨A2,c2,h1,qf h2 h3⟩
theorem tf (w:World) (d:Drv) (v1 v2:Value) (h:aO w w.heap.size d v1 v2) (hl:d.2.1.length≤1000000) (cs:List Hsh) (hc:az d.2.1=cs) :
  Calls Tryz.prog 47 #[.agg (dC d v1 v2).toArray] w fun e w'=>∃ A2 c2,e=.returned (.slice A2 cs.length c2)∧Mem w w' [aw w.heap.size 34 20 (.slice A2 cs.length c2) cs.length (cs.flatMap bv)]:=by
 subst hc
 exact eK w d v1 v2 h hl
theorem pL (w:World) (d:Drv) (v1 v2:Value) (h:aO w w.heap.size d v1 v2) (hn:d.2.1.length≤1000000) (ps:List Pth) (hp:bV (eB d.2.1)=ps) :
  Calls Tryz.prog 43 #[.agg (dC d v1 v2).toArray] w fun e w'=>∃ B A c,e=.returned (.slice A ps.length c)∧Mem w w' [aw B 83 21 (.slice A ps.length c) ps.length (ps.flatMap pC)]:=hp▸q6 w d v1 v2 h hn
theorem tc (w:World) (d:Drv) (v1 v2:Value) (h:aO w w.heap.size d v1 v2) (hn:d.2.1.length≤1000000) (ps:List Pth) (hp:bV (eB d.2.1)=ps) :
  Calls Tryz.prog 45 #[.agg (dC d v1 v2).toArray] w fun e w'=>∃ B A c,e=.returned (.slice A ps.length c)∧Mem w w' [aw B 83 21 (.slice A ps.length c) ps.length (ps.flatMap pC)]:=hp▸qC w d v1 v2 h hn
theorem j6 (w:World) (B1 B2:Nat) (l:List Hsh) (u v:Value) (h:w.ownsRow B1 34 20 u l.length (l.flatMap bv)) (h2:w.ownsRow B2 34 20 v l.length (l.flatMap bv)) (hok:∀ x∈l,okH x) (hn:l.length≤1000000) :
  Calls Tryz.prog 38 #[u,v] w fun e w'=>e=.returned (.bool true)∧Below w.heap.size w w' :=
 tL w l l u v (di (by decide) h _ (Nat.le_refl _) fun x hx=>dt.2 ⟨rfl,hok x hx⟩) (di (by decide) h2 _ (Nat.le_refl _) fun x hx=>dt.2 ⟨rfl,hok x hx⟩) rfl hn
theorem tK (w:World) (B1 B2:Nat) (l:List Pth) (u v:Value) (h:w.ownsRow B1 83 21 u l.length (l.flatMap pC)) (h2:w.ownsRow B2 83 21 v l.length (l.flatMap pC)) (hok:∀ x∈l,okP x) (hn:l.length≤1000000) :
  Calls Tryz.prog 44 #[u,v] w fun e w'=>e=.returned (.bool true)∧Below w.heap.size w w' :=
 sN w l l u v (di (by decide) h _ (Nat.le_refl _) fun x hx=>cF.2 ⟨rfl,hok x hx⟩) (di (by decide) h2 _ (Nat.le_refl _) fun x hx=>cF.2 ⟨rfl,hok x hx⟩) rfl hn
def two {α:Type} (a b:α):Nat→α
 | 0=>a
 | _=>b
theorem Mem.Cd {α:Type} {w0 w:World} {L:List Ent} {f:α→Ent} {a b:α} (h:Mem w0 w (f a :: f b :: L)):Mem w0 w (Ent.all [a,b] f :: L):=by
 have ha:=h.ok (f a) (by simp)
 have hb:=h.ok (f b) (by simp)
 have h1:=Mem.push (f:=f) (l:=[]) (x:=a) (Mem.tk h f).swap ha
 exact Mem.push (f:=f) (l:=[a]) (x:=b) h1.swap hb
theorem vN (w0 w:World) (L:List Ent) (n1 n2:Nat) (x1 x2:List Value) (A1 A2:Option Addr) (c1 c2 C1 C2 B4 g:Nat) (hn1:n1≤1000000) (hn2:n2≤1000000)
  (hm:Mem w0 w (aw B4 72 1 (.slice (some ⟨g,0,none⟩) 2 2) 2 ([Value.slice A1 n1 c1,Value.slice A2 n2 c2].flatMap vb) :: aw C1 83 21 (.slice A1 n1 c1) n1 x1 :: aw C2 83 21 (.slice A2 n2 c2) n2 x2 :: L)) :
  Calls Tryz.prog 48 #[.slice (some ⟨g,0,none⟩) 2 2] w fun e w'=>e=.returned (.bool true)∧Mem w0 w' L:=by
 have h1:=hm.swap.perm (List.Perm.cons _ (List.Perm.swap _ _ _))
 have h2:Mem w0 w (Ent.all (List.range 2) (fun k=>aw (two C1 C2 k) 83 21 (two (Value.slice A1 n1 c1) (.slice A2 n2 c2) k) (two n1 n2 k) (two x1 x2 k)) :: _):=Mem.Cd (f:=fun k=>aw (two C1 C2 k) 83 21 (two (Value.slice A1 n1 c1) (.slice A2 n2 c2) k) (two n1 n2 k) (two x1 x2 k)) (a:=0) (b:=1) h1
 have h3:=h2.zy
 obtain ⟨hp,hok,hfar⟩:=Mem.pack [_,_] h3
 refine (nI w0 w (kV L) B4 2 (two (Value.slice A1 n1 c1) (.slice A2 n2 c2)) (two n1 n2) (two x1 x2) _ 2 (by omega) (fun i hi=>?_) (fun k hk=>?_) hp).mono fun e w' ⟨k1,k2⟩=>⟨k1,Mem.unpack [] k2 hok hfar⟩
 ·match i,hi with
  | 0,_=>exact hn1
  | 1,_=>exact hn2
 ·match k,hk with
  | 0,_=>exact ⟨_,_,rfl⟩
  | 1,_=>exact ⟨_,_,rfl⟩
theorem zQ (l1 l2:List dD):(List.range 2).flatMap (two l1 l2)=l1++l2:=by
 show l1++(l2++[])=_
 rw [List.append_nil]
theorem zr {w0 W:World} {T:List Ent} {l1 l2:List dD} {u1 u2:Value} {C1 C2 B1 B2:Nat}
  (h:Mem w0 W (aw C1 26 3 u1 l1.length (l1.flatMap dV9) :: aw C2 26 3 u2 l2.length (l2.flatMap dV9) :: Ent.all l1 (ix B1) :: Ent.all l2 (ix B2) :: T)) :
  Mem w0 W (Ent.all (List.range (l1++l2).length) (fun i=>ar w0.heap.size 5 1 (PS.self ((l1++l2).getD i eL).2.2 ((l1++l2).getD i eL).1.2.2.2.length (((l1++l2).getD i eL).1.2.2.2.flatMap ib))) ::
   Ent.all (List.range (l1++l2).length) (fun i=>ar w0.heap.size 87 43 (PS.self ((l1++l2).getD i eL).2.1 ((l1++l2).getD i eL).1.2.2.1.length (((l1++l2).getD i eL).1.2.2.1.flatMap nC))) ::
   Ent.all (List.range 2) (fun k=>ar w0.heap.size 26 3 (PS.self (two u1 u2 k) (two l1 l2 k).length ((two l1 l2 k).flatMap dV9))) :: T):=by
 have h2:Mem w0 W (Ent.all (List.range 2) (fun k=>aw (two C1 C2 k) 26 3 (two u1 u2 k) (two l1 l2 k).length ((two l1 l2 k).flatMap dV9)) :: _):=Mem.Cd (f:=fun k=>aw (two C1 C2 k) 26 3 (two u1 u2 k) (two l1 l2 k).length ((two l1 l2 k).flatMap dV9)) (a:=0) (b:=1) h
 have h3:=h2.zy
 have h4:=h3.perm (List.perm_append_comm_assoc [_] [Ent.all l1 (ix B1),Ent.all l2 (ix B2)] T)
 have h5:=(Mem.swap (Mem.y7 (Mem.swap (Mem.y7 h4)))).BW
 exact h5.BV
theorem pP (w0 w:World) (L:List Ent) (l1 l2:List dD) (u1 u2:Value) (C1 C2 B1 B2:Nat) (B4 g:Nat)
  (hm:Mem w0 w (aw B4 53 1 (.slice (some ⟨g,0,none⟩) 2 2) 2 ([u1,u2].flatMap vb) :: aw C1 26 3 u1 l1.length (l1.flatMap dV9) :: aw C2 26 3 u2 l2.length (l2.flatMap dV9) :: Ent.all l1 (ix B1) :: Ent.all l2 (ix B2) :: L))
  (htot:(l1++l2).length≤1000000) (hall:∀ p∈l1++l2,p.1.2.2.1.length≤1000000∧p.1.2.2.2.length≤1000000) :
  Calls Tryz.prog 24 #[.slice (some ⟨g,0,none⟩) 2 2] w fun e w'=>e=.returned (.bool true)∧Mem w0 w' L:=by
 have hL:=hm.drop 5
 obtain ⟨hp,hok,hfar⟩:=Mem.pack [] hm
 have hsl:∀ p∈l1++l2,ig p.2.1∧ig p.2.2:=fun p hp9=>by
  have d1:=(hm.get (e:=Ent.all l1 (ix B1)) 3 rfl).1
  have d2:=(hm.get (e:=Ent.all l2 (ix B2)) 4 rfl).1
  rcases List.mem_append.1 hp9 with hp9 | hp9
  ·exact bx.sls (d1 p hp9)
  ·exact bx.sls (d2 p hp9)
 have e9:=zQ l1 l2
 refine (oA w0 w _ (kV L) 2 (two u1 u2) (two l1 l2) (some ⟨g,0,none⟩) 2 B4 (two C1 C2) (by omega) (by rw [e9];exact htot) (fun W hW=>?_) (fun W hW k hk=>?_) (fun k hk p hp9=>?_) (by rw [e9];exact hall) (fun W K hK=>?_) hp).mono fun e w' ⟨h1,h2⟩=>⟨h1,Mem.unpack [] h2 (fun e he=>hL.ok e he) hL.far⟩
 ·exact hW _ (.head _)
 ·match k,hk with
  | 0,_=>exact hW _ (.tail _ (.head _))
  | 1,_=>exact hW _ (.tail _ (.tail _ (.head _)))
 ·refine hsl p ?_
  match k,hk with
  | 0,_=>exact List.mem_append_left _ hp9
  | 1,_=>exact List.mem_append_right _ hp9
 ·rw [e9]
  have k1:=(Mem.unpack K hK hok hfar).perm List.perm_append_comm
  have k2:=zr (k1.drop 1)
  have k3:=k2.perm (List.perm_append_comm_assoc [_,_,_] L K)
  have k4:=k3.perm (List.perm_append_comm (l₁:=L))
  have k5:=(Mem.pack _ k4).1
  have k6:=k5.perm ((List.perm_append_comm (l₁:=[_,_,_]) (l₂:=K)).append_right [kV L])
  rw [List.append_assoc] at k6
  exact k6
theorem Mem.B7 {α:Type} {w0 w:World} {L:List Ent} {f:α→Ent} {a:α} (h:Mem w0 w (f a :: L)):Mem w0 w (Ent.all [a] f :: L) :=
 Mem.push (f:=f) (l:=[]) (x:=a) (Mem.tk h f).swap (h.ok (f a) (by simp))
theorem qL (w0 w:World) (p1 p2:dD) (u1 u2:Value) (C1 C2 B1 B2 B4 g:Nat)
  (hm:Mem w0 w [aw B4 53 1 (.slice (some ⟨g,0,none⟩) 2 2) 2 ([u1,u2].flatMap vb),aw C1 26 3 u1 [p1].length ([p1].flatMap dV9),aw C2 26 3 u2 [p2].length ([p2].flatMap dV9),ix B1 p1,ix B2 p2])
  (h1:p1.1.2.2.1.length≤1000000∧p1.1.2.2.2.length≤1000000) (h2:p2.1.2.2.1.length≤1000000∧p2.1.2.2.2.length≤1000000) :
  Calls Tryz.prog 24 #[.slice (some ⟨g,0,none⟩) 2 2] w fun e w'=>e=.returned (.bool true)∧Mem w0 w' []:=by
 have k1:=Mem.B7 (f:=ix B1) (a:=p1) (Mem.pick hm [3,4,0,1,2] (by decide) rfl)
 have k2:=Mem.B7 (f:=ix B2) (a:=p2) (Mem.pick k1 [1,0,2,3,4] (by decide) rfl)
 refine pP w0 w [] [p1] [p2] u1 u2 C1 C2 B1 B2 B4 g (Mem.pick k2 [2,3,4,1,0] (by decide) rfl) (by simp) fun p hp=>?_
 rcases List.mem_cons.1 hp with rfl | hp
 ·exact h1
 ·rw [List.mem_singleton.1 hp]
  exact h2
end Go.Proofs.YtomnhnmciopiiaaGreat
end
section
namespace Go.Proofs.YtomnhnmciopiiaaGreat
open Go Go.RowKit
theorem uC (w:World):Calls Tryz.prog 28 #[] w fun e w'=>e=.returned (.bool true)∧Below w.heap.size w w':=xh w
end Go.Proofs.YtomnhnmciopiiaaGreat
end
section
namespace Go.Proofs.YtomnhnmciopiiaaGreat
open Go Go.RowKit Go.Maps
set_option maxRecDepth 100000
attribute [local irreducible] wpList
theorem tS {w:World} {B:Nat} {d:Drv} {v1 v2:Value} (h:aO w B d v1 v2) {ps:List Pth} (hp:bV (eB d.2.1)=ps):(∀ p∈ps,okP p)∧ps.length≤d.2.1.length:=by
 subst hp
 exact ⟨fun p hp=>tq (mI h.ins) p ((ez _ _).1 hp),Nat.le_trans (ie _) (pT _)⟩
theorem sY {w:World} {B:Nat} {d:Drv} {v1 v2:Value} (h:aO w B d v1 v2) {cs:List Hsh} (hp:az d.2.1=cs):(∀ p∈cs,okH p)∧cs.length≤d.2.1.length:=by
 subst hp
 exact ⟨lN (mI h.ins),zZ _⟩
set_option maxHeartbeats 40000000 in
theorem qe (w:World) (l:List Itm) (A:Option Addr) (cap:Nat) (h:bz.At w w.heap.size [.slice A l.length cap] l) (hlight:∀ x∈l,jY x.2) (c:Hsh) (hc:okH c) :
  Calls Tryz.prog 5 #[.slice A l.length cap,.agg (bv c).toArray] w fun e w'=>e=.returned (.bool true)∧Below w.heap.size w w':=by
 have H0:=Mem.start w
 go_enter Tryz.func5,Tryz.ntmps5
 refine wp_seq_k (fun K1 hK1=>?_)
 refine rl ?_
 refine ay (o:=⟨some 3,_,_,_,_,_⟩) rfl 34 (.tmp 1) rfl (bv c).toArray rfl ?_
 intro w2 hn
 have H3:=Mem.bA H0 hn
 clear hn
 refine rn ?_
 refine nt (hK1 _ _ ?_)
 refine wp_seq_k (fun K4 hK4=>?_)
 refine wp_seq_k (fun K5 hK5=>?_)
 refine rl ?_
 obtain ⟨bg,hbg⟩:∃ b,gH l=b:=⟨_,rfl⟩
 refine an (by kernel_rfl) _ _ (by kernel_rfl) (AM w2 l A cap (Mem.lay H3 h) hlight bg hbg) ?_
 rintro e w6 ⟨rfl,hb8⟩
 refine ⟨_,rfl,rn ?_⟩
 have H7:=Mem.call H3 hb8
 cases bg
 ·have hsm:=sg hbg
  have hn:l.length≤1000000:=by have:=hsm.1;omega
  have hl:∀ x∈l,x.2.2.1.length≤1000000∧x.2.2.2.length≤1000000:=fun x hx=>(by have h1:=hsm.2 x hx;omega)
  have hl1:∀ x∈l,x.2.2.1.length≤1000000:=fun x hx=>(hl x hx).1
  have hok:=zY h
  obtain ⟨d,hd⟩:∃ d,findD l c=d:=⟨_,rfl⟩
  have hdl:=xr hl hd
  obtain ⟨bf,hbf⟩:∃ b,(db l c).isSome=b:=⟨_,rfl⟩
  obtain ⟨br,hbr⟩:∃ b,Dr.bL (l.map itP)=b:=⟨_,rfl⟩
  obtain ⟨us,hus⟩:∃ u,Dr.cu (l.map itP) c=u:=⟨_,rfl⟩
  obtain ⟨ns,hns⟩:∃ u,cA l c=u:=⟨_,rfl⟩
  obtain ⟨ne,hne⟩:∃ u,dB l c=u:=⟨_,rfl⟩
  obtain ⟨dp,hdp⟩:∃ u,dR l c=u:=⟨_,rfl⟩
  have hnso:(∀ z∈ns,okH z)∧ns.length≤1000000:=by rw [← hns];exact ⟨vC hok c,Nat.le_trans (tM c) hn⟩
  have huso:(∀ z∈us,okH z)∧us.length≤1000000:=by rw [← hus];exact ⟨wQ hok c,Nat.le_trans (oT _ _) (by rw [List.length_map];exact hn)⟩
  refine nt (hK5 _ _ ?_)
  refine cf ?_
  refine ks (hK4 _ _ ?_)
  refine wp_seq_k (fun K9 hK9=>?_)
  refine rl ?_
  refine an (by kernel_rfl) _ _ (by kernel_rfl) (AV w6 l _ (Mem.lay H7 h) hl hn) ?_
  rintro e w10 ⟨os,A3,c3,rfl,hb12,hin⟩
  refine ⟨_,rfl,rn ?_⟩
  have H11:=Mem.call H7 hb12
  have hbel:=Mem.below H11
  have h:=Mem.lay H11 h
  have hb_s3:=Mem.blk H11 0 rfl
  obtain ⟨g_s3,hg_s3⟩:∃ g,g=w.heap.size:=⟨_,rfl⟩
  rw [← hg_s3] at hb_s3 ⊢
  have H13:=Mem.start w10
  refine rn ?_
  refine an (by kernel_rfl) _ _ (by kernel_rfl) (Az w10 l _ (Mem.lay H13 h) hn) ?_
  rintro e w14 ⟨u,rfl,hb16,hr⟩
  refine ⟨_,rfl,rn ?_⟩
  have H15:=Mem.call H13 hb16
  have h:=Mem.lay H15 h
  have hb_s3:=Blk.below hb_s3 (Mem.below H15) (Blk.lt hb_s3)
  have hin:=InP.below hin (Mem.below H15)
  have hbel:=hbel.trans (Below.mono (Mem.below H15) hbel.size)
  have H17:=Mem.start w14
  have h_0:=h
  have hin_0:=hin
  have hr_0:=hr
  have hbel_0:=hbel
  refine rn ?_
  refine nt (hK9 _ _ ?_)
  refine wp_seq_k (fun K18 hK18=>?_)
  refine rl ?_
  refine rv (xld (Mem.range H17 (Blk.range hb_s3) (Blk.lt hb_s3)) Tryz.underlying34 (cN hc)) ?_
  refine an (by kernel_rfl) _ _ (by kernel_rfl) (y8 w14 l _ (Mem.lay H17 hin.at_) c hc hl d hd bf hbf) ?_
  rintro e w20 ⟨u1_19,u2_19,rfl,hm_19⟩
  refine ⟨_,rfl,rn ?_⟩
  have H21:=Mem.seq H17 hm_19
  have hx_19:=bx.at_ (hm_19.holds _ (.head _)) (Nat.le_refl _)
  change aO _ _ d u1_19 u2_19 at hx_19
  obtain ⟨q1_19,q2_19⟩:=hx_19.iM
  have h:=Mem.lay H21 h
  have hb_s3:=Blk.below hb_s3 (Mem.below H21) (Blk.lt hb_s3)
  have hin:=InP.below hin (Mem.below H21)
  have hbel:=hbel.trans (Below.mono (Mem.below H21) hbel.size)
  have hr:=Mem.lay H21 hr
  have H23:=Mem.start w20
  refine rn ?_
  refine aC (o:=⟨some 7,_,_,_,_,_⟩) rfl 26 zcD (by kernel_rfl) ?_
  intro w24 hn
  have H25:=Mem.bA H23 hn
  clear hn
  refine rn ?_
  refine al (o:=⟨none,_,_,_,_,_⟩) rfl 26 (.tmp 7) (.tmp 31) rfl w20.heap.size zcD (dC d u1_19 u2_19).toArray 26 (Mem.blk H25 0 rfl) (dF d u1_19 u2_19) (dk fP (dF d u1_19 u2_19)) (ll d q1_19 q2_19) rfl rfl ?_
  intro w26 hk hg
  have H27:=Mem.st H25 0 rfl hk hg
  clear hk hg
  refine rn ?_
  refine nt (hK18 _ _ ?_)
  refine wp_seq_k (fun K28 hK28=>?_)
  refine rl ?_
  refine rv (xld (Mem.range H27 (Blk.range hb_s3) (Blk.lt hb_s3)) Tryz.underlying34 (cN hc)) ?_
  refine an (by kernel_rfl) _ _ (by kernel_rfl) (y8 w26 l _ (Mem.lay H27 hin.at_) c hc hl d hd bf hbf) ?_
  rintro e w30 ⟨u1_29,u2_29,rfl,hm_29⟩
  refine ⟨_,rfl,rn ?_⟩
  have H31:=Mem.seq H27 hm_29
  have hx_29:=bx.at_ (hm_29.holds _ (.head _)) (Nat.le_refl _)
  change aO _ _ d u1_29 u2_29 at hx_29
  obtain ⟨q1_29,q2_29⟩:=hx_29.iM
  have h:=Mem.lay H31 h
  have hb_s3:=Blk.below hb_s3 (Mem.below H31) (Blk.lt hb_s3)
  have hin:=InP.below hin (Mem.below H31)
  have hbel:=hbel.trans (Below.mono (Mem.below H31) hbel.size)
  have hr:=Mem.lay H31 hr
  have hx_19:=Mem.drv H31 hx_19
  have hb_s7:=Mem.blk H31 1 rfl
  obtain ⟨g_s7,hg_s7⟩:∃ g,g=w20.heap.size:=⟨_,rfl⟩
  rw [← hg_s7] at hb_s7 ⊢
  have H33:=Mem.start w30
  refine rn ?_
  refine aC (o:=⟨some 9,_,_,_,_,_⟩) rfl 26 zcD (by kernel_rfl) ?_
  intro w34 hn
  have H35:=Mem.bA H33 hn
  clear hn
  refine rn ?_
  refine al (o:=⟨none,_,_,_,_,_⟩) rfl 26 (.tmp 9) (.tmp 37) rfl w30.heap.size zcD (dC d u1_29 u2_29).toArray 26 (Mem.blk H35 0 rfl) (dF d u1_29 u2_29) (dk fP (dF d u1_29 u2_29)) (ll d q1_29 q2_29) rfl rfl ?_
  intro w36 hk hg
  have H37:=Mem.st H35 0 rfl hk hg
  clear hk hg
  refine rn ?_
  refine nt (hK28 _ _ ?_)
  refine wp_seq_k (fun K38 hK38=>?_)
  refine rl ?_
  refine rv (xld (Mem.range H37 (Blk.range hb_s3) (Blk.lt hb_s3)) Tryz.underlying34 (cN hc)) ?_
  refine an (by kernel_rfl) _ _ (by kernel_rfl) (vf w36 l _ (Mem.lay H37 hr) c hc d hd bf hbf) ?_
  rintro e w40 ⟨u1_39,u2_39,rfl,hx_39,hb_39⟩
  refine ⟨_,rfl,rn ?_⟩
  have H41:=Mem.call H37 hb_39
  have hx_39:=Mem.drv ((Mem.start w36).call hb_39) hx_39
  obtain ⟨q1_39,q2_39⟩:=hx_39.iM
  have h:=Mem.lay H41 h
  have hb_s3:=Blk.below hb_s3 (Mem.below H41) (Blk.lt hb_s3)
  have hin:=InP.below hin (Mem.below H41)
  have hbel:=hbel.trans (Below.mono (Mem.below H41) hbel.size)
  have hr:=Mem.lay H41 hr
  have hx_19:=Mem.drv H41 hx_19
  have hb_s7:=Blk.below hb_s7 (Mem.below H41) (Blk.lt hb_s7)
  have hx_29:=Mem.drv H41 hx_29
  have hb_s9:=Mem.blk H41 0 rfl
  obtain ⟨g_s9,hg_s9⟩:∃ g,g=w30.heap.size:=⟨_,rfl⟩
  rw [← hg_s9] at hb_s9 ⊢
  have H43:=Mem.start w40
  refine rn ?_
  refine aC (o:=⟨some 11,_,_,_,_,_⟩) rfl 26 zcD (by kernel_rfl) ?_
  intro w44 hn
  have H45:=Mem.bA H43 hn
  clear hn
  refine rn ?_
  refine al (o:=⟨none,_,_,_,_,_⟩) rfl 26 (.tmp 11) (.tmp 43) rfl w40.heap.size zcD (dC d u1_39 u2_39).toArray 26 (Mem.blk H45 0 rfl) (dF d u1_39 u2_39) (dk fP (dF d u1_39 u2_39)) (ll d q1_39 q2_39) rfl rfl ?_
  intro w46 hk hg
  have H47:=Mem.st H45 0 rfl hk hg
  clear hk hg
  refine rn ?_
  refine nt (hK38 _ _ ?_)
  refine wp_seq_k (fun K48 hK48=>?_)
  refine rl ?_
  refine rv (xld (Mem.range H47 (Blk.range hb_s3) (Blk.lt hb_s3)) Tryz.underlying34 (cN hc)) ?_
  refine an (by kernel_rfl) _ _ (by kernel_rfl) (AE w46 l A3 c3 (Mem.lay H47 hin.at_) hl1 hn c hc ns hns ne hne) ?_
  rintro e w50 ⟨A_49,c_49,rfl,hm_49⟩
  refine ⟨_,rfl,rn ?_⟩
  have H51:=Mem.seq H47 hm_49
  have ho_49:=hm_49.own 0 rfl
  have h:=Mem.lay H51 h
  have hb_s3:=Blk.below hb_s3 (Mem.below H51) (Blk.lt hb_s3)
  have hin:=InP.below hin (Mem.below H51)
  have hbel:=hbel.trans (Below.mono (Mem.below H51) hbel.size)
  have hr:=Mem.lay H51 hr
  have hx_19:=Mem.drv H51 hx_19
  have hb_s7:=Blk.below hb_s7 (Mem.below H51) (Blk.lt hb_s7)
  have hx_29:=Mem.drv H51 hx_29
  have hb_s9:=Blk.below hb_s9 (Mem.below H51) (Blk.lt hb_s9)
  have hx_39:=Mem.drv H51 hx_39
  have hb_s11:=Mem.blk H51 1 rfl
  obtain ⟨g_s11,hg_s11⟩:∃ g,g=w40.heap.size:=⟨_,rfl⟩
  rw [← hg_s11] at hb_s11 ⊢
  have H53:=Mem.start w50
  refine rn ?_
  refine nt (hK48 _ _ ?_)
  refine wp_seq_k (fun K54 hK54=>?_)
  refine rl ?_
  refine rv (xld (Mem.range H53 (Blk.range hb_s3) (Blk.lt hb_s3)) Tryz.underlying34 (cN hc)) ?_
  refine an (by kernel_rfl) _ _ (by kernel_rfl) (xz w50 l _ (Mem.lay H53 hr) hl1 hn c hc ns hns ne hne) ?_
  rintro e w56 ⟨A_55,c_55,rfl,hm_55⟩
  refine ⟨_,rfl,rn ?_⟩
  have H57:=Mem.seq H53 hm_55
  have ho_55:=hm_55.own 0 rfl
  have h:=Mem.lay H57 h
  have hb_s3:=Blk.below hb_s3 (Mem.below H57) (Blk.lt hb_s3)
  have hin:=InP.below hin (Mem.below H57)
  have hbel:=hbel.trans (Below.mono (Mem.below H57) hbel.size)
  have hr:=Mem.lay H57 hr
  have hx_19:=Mem.drv H57 hx_19
  have hb_s7:=Blk.below hb_s7 (Mem.below H57) (Blk.lt hb_s7)
  have hx_29:=Mem.drv H57 hx_29
  have hb_s9:=Blk.below hb_s9 (Mem.below H57) (Blk.lt hb_s9)
  have hx_39:=Mem.drv H57 hx_39
  have hb_s11:=Blk.below hb_s11 (Mem.below H57) (Blk.lt hb_s11)
  have ho_49:=ao ho_49 fun g _ hl=>(Mem.below H57).block g hl
  have H59:=Mem.start w56
  refine rn ?_
  refine nt (hK54 _ _ ?_)
  refine wp_seq_k (fun K60 hK60=>?_)
  refine wp_seq_k (fun K61 hK61=>?_)
  have HS62:=Mem.pick H59 [] (by decide) rfl
  refine nr 46 rfl (by kernel_rfl) (fun d _ _ _ _ h=>by cases d<;>exact h) (by kernel_rfl) HS62 ?_
  intro w63 hb66 HS65
  have H64:=Mem.call H59 hb66
  clear HS62
  refine aE 0 1 _ (.slice A3 l.length c3) rfl (by kernel_rfl) (fun W9 hW9=>(aZ (o:=⟨some 57,_,_,_,_,_⟩) (.tmp 5) rfl _ rfl W9)) HS65 ?_
  simp only [List.setIfInBounds_toArray,Act.put,List.set_cons_zero,List.set_cons_succ]
  refine aE 2 5 _ (u) rfl (by kernel_rfl) (fun W9 hW9=>(aZ (o:=⟨some 59,_,_,_,_,_⟩) (.tmp 6) rfl _ rfl W9)) HS65 ?_
  simp only [List.setIfInBounds_toArray,Act.put,List.set_cons_zero,List.set_cons_succ]
  refine cW 1 7 _ rfl (by kernel_rfl) _ _ (by kernel_rfl) (AL w63 l A3 c3 (Mem.lay H64 hin.at_) hl1 br hbr) ?_
  rintro e w67 ⟨rfl,hb70⟩
  have H68:=Mem.call H64 hb70
  have HS69:=Mem.pick H68 [] (by decide) rfl
  clear HS65
  refine ⟨_,rfl,HS69,?_⟩
  simp only [List.setIfInBounds_toArray,Act.put,List.set_cons_zero,List.set_cons_succ]
  refine cW 3 15 _ rfl (by kernel_rfl) _ _ (by kernel_rfl) (kb w67 l _ (Mem.lay H68 hr) hl1 hn br hbr) ?_
  rintro e w71 ⟨rfl,hb74⟩
  have H72:=Mem.call H68 hb74
  have HS73:=Mem.pick H72 [] (by decide) rfl
  clear HS69
  refine ⟨_,rfl,HS73,?_⟩
  simp only [List.setIfInBounds_toArray,Act.put,List.set_cons_zero,List.set_cons_succ]
  refine aE 4 31 _ (.bool false) rfl (by kernel_rfl) (fun W9 hW9=>(yc (o:=⟨some 61,_,_,_,_,_⟩) 4 4 (.tmp 58) (.tmp 60) rfl br rfl rfl W9)) HS73 ?_
  simp only [List.setIfInBounds_toArray,Act.put,List.set_cons_zero,List.set_cons_succ]
  refine aE 5 63 _ (.bool false) rfl (by kernel_rfl) (fun W9 hW9=>(aZ (o:=⟨some 62,_,_,_,_,_⟩) (.tmp 61) rfl _ rfl W9)) HS73 ?_
  simp only [List.setIfInBounds_toArray,Act.put,List.set_cons_zero,List.set_cons_succ]
  refine aE 6 127 _ (.bool bf) rfl (by kernel_rfl) (fun W9 hW9=>(aZ (o:=⟨some 63,_,_,_,_,_⟩) (.tmp 8) rfl _ rfl W9)) HS73 ?_
  simp only [List.setIfInBounds_toArray,Act.put,List.set_cons_zero,List.set_cons_succ]
  refine aE 7 255 _ (.bool bf) rfl (by kernel_rfl) (fun W9 hW9=>(aZ (o:=⟨some 64,_,_,_,_,_⟩) (.tmp 12) rfl _ rfl W9)) HS73 ?_
  simp only [List.setIfInBounds_toArray,Act.put,List.set_cons_zero,List.set_cons_succ]
  refine aE 8 511 _ (.bool false) rfl (by kernel_rfl) (fun W9 hW9=>(yc (o:=⟨some 65,_,_,_,_,_⟩) 4 4 (.tmp 63) (.tmp 64) rfl bf rfl rfl W9)) HS73 ?_
  simp only [List.setIfInBounds_toArray,Act.put,List.set_cons_zero,List.set_cons_succ]
  refine aE 9 1023 _ (.bool false) rfl (by kernel_rfl) (fun W9 hW9=>(fj (o:=⟨some 66,_,_,_,_,_⟩) (.tmp 62) (.const (.bool true)) (.tmp 65) rfl false rfl _ rfl W9)) HS73 ?_
  simp only [List.setIfInBounds_toArray,Act.put,List.set_cons_zero,List.set_cons_succ]
  refine aE 10 2047 _ (.bool false) rfl (by kernel_rfl) (fun W9 hW9=>(aZ (o:=⟨some 67,_,_,_,_,_⟩) (.tmp 66) rfl _ rfl W9)) HS73 ?_
  simp only [List.setIfInBounds_toArray,Act.put,List.set_cons_zero,List.set_cons_succ]
  refine aE 11 4095 _ (.agg (dC d u1_19 u2_19).toArray) rfl (by kernel_rfl) (fun W9 hW9=>(ai (o:=⟨some 68,_,_,_,_,_⟩) 26 (.tmp 7) rfl g_s7 (0) rfl (dC d u1_19 u2_19) _ W9 (Mem.range hW9 (Blk.range hb_s7) (Blk.lt hb_s7)) Tryz.underlying26 rfl (bJ d u1_19 u2_19))) HS73 ?_
  simp only [List.setIfInBounds_toArray,Act.put,List.set_cons_zero,List.set_cons_succ]
  refine aE 12 8191 _ (.agg (dC d u1_39 u2_39).toArray) rfl (by kernel_rfl) (fun W9 hW9=>(ai (o:=⟨some 69,_,_,_,_,_⟩) 26 (.tmp 11) rfl g_s11 (0) rfl (dC d u1_39 u2_39) _ W9 (Mem.range hW9 (Blk.range hb_s11) (Blk.lt hb_s11)) Tryz.underlying26 rfl (bJ d u1_39 u2_39))) HS73 ?_
  simp only [List.setIfInBounds_toArray,Act.put,List.set_cons_zero,List.set_cons_succ]
  refine cW 13 16383 _ rfl (by kernel_rfl) _ _ (by kernel_rfl) (Af w71 d d _ _ _ _ (Mem.drv H72 hx_19) (Mem.drv H72 hx_39) true (decide_eq_true rfl)) ?_
  rintro e w75 ⟨rfl,hb78⟩
  have H76:=Mem.call H72 hb78
  have HS77:=Mem.pick H76 [] (by decide) rfl
  clear HS73
  refine ⟨_,rfl,HS77,?_⟩
  simp only [List.setIfInBounds_toArray,Act.put,List.set_cons_zero,List.set_cons_succ]
  refine aE 14 32767 _ (.bool false) rfl (by kernel_rfl) (fun W9 hW9=>(by kernel_rfl)) HS77 ?_
  simp only [List.setIfInBounds_toArray,Act.put,List.set_cons_zero,List.set_cons_succ]
  refine aE 15 65535 _ (.bool false) rfl (by kernel_rfl) (fun W9 hW9=>(fj (o:=⟨some 72,_,_,_,_,_⟩) (.tmp 67) (.const (.bool true)) (.tmp 71) rfl false rfl _ rfl W9)) HS77 ?_
  simp only [List.setIfInBounds_toArray,Act.put,List.set_cons_zero,List.set_cons_succ]
  refine aE 16 131071 _ (.bool false) rfl (by kernel_rfl) (fun W9 hW9=>(aZ (o:=⟨some 73,_,_,_,_,_⟩) (.tmp 72) rfl _ rfl W9)) HS77 ?_
  simp only [List.setIfInBounds_toArray,Act.put,List.set_cons_zero,List.set_cons_succ]
  refine aE 17 262143 _ (.int .i64 (ne)) rfl (by kernel_rfl) (fun W9 hW9=>(aZ (o:=⟨some 74,_,_,_,_,_⟩) (.tmp 14) rfl _ rfl W9)) HS77 ?_
  simp only [List.setIfInBounds_toArray,Act.put,List.set_cons_zero,List.set_cons_succ]
  refine aE 18 524287 _ (.int .i64 (ne)) rfl (by kernel_rfl) (fun W9 hW9=>(aZ (o:=⟨some 75,_,_,_,_,_⟩) (.tmp 16) rfl _ rfl W9)) HS77 ?_
  simp only [List.setIfInBounds_toArray,Act.put,List.set_cons_zero,List.set_cons_succ]
  refine aE 19 1048575 _ (.bool false) rfl (by kernel_rfl) (fun W9 hW9=>(uw (o:=⟨some 76,_,_,_,_,_⟩) 35 35 (.tmp 74) (.tmp 75) rfl .i64 (ne) (ne) rfl rfl _ (decide_eq_true rfl) W9)) HS77 ?_
  simp only [List.setIfInBounds_toArray,Act.put,List.set_cons_zero,List.set_cons_succ]
  refine aE 20 2097151 _ (.bool false) rfl (by kernel_rfl) (fun W9 hW9=>(fj (o:=⟨some 77,_,_,_,_,_⟩) (.tmp 73) (.const (.bool true)) (.tmp 76) rfl false rfl _ rfl W9)) HS77 ?_
  simp only [List.setIfInBounds_toArray,Act.put,List.set_cons_zero,List.set_cons_succ]
  refine aE 21 4194303 _ (.bool false) rfl (by kernel_rfl) (fun W9 hW9=>(aZ (o:=⟨some 78,_,_,_,_,_⟩) (.tmp 77) rfl _ rfl W9)) HS77 ?_
  simp only [List.setIfInBounds_toArray,Act.put,List.set_cons_zero,List.set_cons_succ]
  refine aE 22 8388607 _ (.slice A_49 ns.length c_49) rfl (by kernel_rfl) (fun W9 hW9=>(aZ (o:=⟨some 79,_,_,_,_,_⟩) (.tmp 13) rfl _ rfl W9)) HS77 ?_
  simp only [List.setIfInBounds_toArray,Act.put,List.set_cons_zero,List.set_cons_succ]
  refine aE 23 16777215 _ (.slice A_55 ns.length c_55) rfl (by kernel_rfl) (fun W9 hW9=>(aZ (o:=⟨some 80,_,_,_,_,_⟩) (.tmp 15) rfl _ rfl W9)) HS77 ?_
  simp only [List.setIfInBounds_toArray,Act.put,List.set_cons_zero,List.set_cons_succ]
  refine cW 24 33554431 _ rfl (by kernel_rfl) _ _ (by kernel_rfl) (j6 w75 _ _ ns _ _ (ao ho_49 fun g _ hl=>(Mem.below H76).block g hl) (ao ho_55 fun g _ hl=>(Mem.below H76).block g hl) hnso.1 hnso.2) ?_
  rintro e w79 ⟨rfl,hb82⟩
  have H80:=Mem.call H76 hb82
  have HS81:=Mem.pick H80 [] (by decide) rfl
  clear HS77
  refine ⟨_,rfl,HS81,?_⟩
  simp only [List.setIfInBounds_toArray,Act.put,List.set_cons_zero,List.set_cons_succ]
  refine aE 25 67108863 _ (.bool false) rfl (by kernel_rfl) (fun W9 hW9=>(by kernel_rfl)) HS81 ?_
  simp only [List.setIfInBounds_toArray,Act.put,List.set_cons_zero,List.set_cons_succ]
  refine aE 26 134217727 _ (.bool false) rfl (by kernel_rfl) (fun W9 hW9=>(fj (o:=⟨some 83,_,_,_,_,_⟩) (.tmp 78) (.const (.bool true)) (.tmp 82) rfl false rfl _ rfl W9)) HS81 ?_
  simp only [List.setIfInBounds_toArray,Act.put,List.set_cons_zero,List.set_cons_succ]
  refine aE 27 268435455 _ (.bool false) rfl (by kernel_rfl) (fun W9 hW9=>(aZ (o:=⟨some 84,_,_,_,_,_⟩) (.tmp 83) rfl _ rfl W9)) HS81 ?_
  simp only [List.setIfInBounds_toArray,Act.put,List.set_cons_zero,List.set_cons_succ]
  refine aE 28 536870911 _ (.slice A3 l.length c3) rfl (by kernel_rfl) (fun W9 hW9=>(aZ (o:=⟨some 85,_,_,_,_,_⟩) (.tmp 5) rfl _ rfl W9)) HS81 ?_
  simp only [List.setIfInBounds_toArray,Act.put,List.set_cons_zero,List.set_cons_succ]
  refine aE 29 1073741823 _ (.agg (bv c).toArray) rfl (by kernel_rfl) (fun W9 hW9=>(ai (o:=⟨some 86,_,_,_,_,_⟩) 34 (.tmp 3) rfl g_s3 (0) rfl (bv c) _ W9 (Mem.range hW9 (Blk.range hb_s3) (Blk.lt hb_s3)) Tryz.underlying34 rfl (cN hc))) HS81 ?_
  simp only [List.setIfInBounds_toArray,Act.put,List.set_cons_zero,List.set_cons_succ]
  refine aE 31 3221225471 _ (u) rfl (by kernel_rfl) (fun W9 hW9=>(aZ (o:=⟨some 88,_,_,_,_,_⟩) (.tmp 6) rfl _ rfl W9)) HS81 ?_
  simp only [List.setIfInBounds_toArray,Act.put,List.set_cons_zero,List.set_cons_succ]
  refine aE 32 7516192767 _ (.agg (bv c).toArray) rfl (by kernel_rfl) (fun W9 hW9=>(ai (o:=⟨some 89,_,_,_,_,_⟩) 34 (.tmp 3) rfl g_s3 (0) rfl (bv c) _ W9 (Mem.range hW9 (Blk.range hb_s3) (Blk.lt hb_s3)) Tryz.underlying34 rfl (cN hc))) HS81 ?_
  simp only [List.setIfInBounds_toArray,Act.put,List.set_cons_zero,List.set_cons_succ]
  refine cW 30 8589934591 _ rfl (by kernel_rfl) _ _ (by kernel_rfl) (AW w79 l A3 c3 (Mem.lay H80 hin.at_) hl1 hn c hc dp hdp) ?_
  rintro e w83 ⟨rfl,hb86⟩
  have H84:=Mem.call H80 hb86
  have HS85:=Mem.pick H84 [] (by decide) rfl
  clear HS81
  refine ⟨_,rfl,HS85,?_⟩
  simp only [List.setIfInBounds_toArray,Act.put,List.set_cons_zero,List.set_cons_succ]
  refine cW 33 17179869183 _ rfl (by kernel_rfl) _ _ (by kernel_rfl) (tU w83 l _ (Mem.lay H84 hr) hl1 hn c hc dp hdp) ?_
  rintro e w87 ⟨rfl,hb90⟩
  have H88:=Mem.call H84 hb90
  have HS89:=Mem.pick H88 [] (by decide) rfl
  clear HS85
  refine ⟨_,rfl,HS89,?_⟩
  simp only [List.setIfInBounds_toArray,Act.put,List.set_cons_zero,List.set_cons_succ]
  refine aE 34 34359738367 _ (.bool false) rfl (by kernel_rfl) (fun W9 hW9=>(uw (o:=⟨some 91,_,_,_,_,_⟩) 3 3 (.tmp 87) (.tmp 90) rfl .i64 ((dp:Int)) ((dp:Int)) rfl rfl _ (decide_eq_true rfl) W9)) HS89 ?_
  simp only [List.setIfInBounds_toArray,Act.put,List.set_cons_zero,List.set_cons_succ]
  refine aE 35 68719476735 _ (.bool false) rfl (by kernel_rfl) (fun W9 hW9=>(fj (o:=⟨some 92,_,_,_,_,_⟩) (.tmp 84) (.const (.bool true)) (.tmp 91) rfl false rfl _ rfl W9)) HS89 ?_
  simp only [List.setIfInBounds_toArray,Act.put,List.set_cons_zero,List.set_cons_succ]
  refine aE 36 137438953471 _ (.bool false) rfl (by kernel_rfl) (fun W9 hW9=>(aZ (o:=⟨some 93,_,_,_,_,_⟩) (.tmp 92) rfl _ rfl W9)) HS89 ?_
  simp only [List.setIfInBounds_toArray,Act.put,List.set_cons_zero,List.set_cons_succ]
  refine aE 37 274877906943 _ (.slice A3 l.length c3) rfl (by kernel_rfl) (fun W9 hW9=>(aZ (o:=⟨some 94,_,_,_,_,_⟩) (.tmp 5) rfl _ rfl W9)) HS89 ?_
  simp only [List.setIfInBounds_toArray,Act.put,List.set_cons_zero,List.set_cons_succ]
  refine aE 38 549755813887 _ (.agg (bv c).toArray) rfl (by kernel_rfl) (fun W9 hW9=>(ai (o:=⟨some 95,_,_,_,_,_⟩) 34 (.tmp 3) rfl g_s3 (0) rfl (bv c) _ W9 (Mem.range hW9 (Blk.range hb_s3) (Blk.lt hb_s3)) Tryz.underlying34 rfl (cN hc))) HS89 ?_
  simp only [List.setIfInBounds_toArray,Act.put,List.set_cons_zero,List.set_cons_succ]
  refine aE 40 1649267441663 _ (u) rfl (by kernel_rfl) (fun W9 hW9=>(aZ (o:=⟨some 97,_,_,_,_,_⟩) (.tmp 6) rfl _ rfl W9)) HS89 ?_
  simp only [List.setIfInBounds_toArray,Act.put,List.set_cons_zero,List.set_cons_succ]
  refine aE 41 3848290697215 _ (.agg (bv c).toArray) rfl (by kernel_rfl) (fun W9 hW9=>(ai (o:=⟨some 98,_,_,_,_,_⟩) 34 (.tmp 3) rfl g_s3 (0) rfl (bv c) _ W9 (Mem.range hW9 (Blk.range hb_s3) (Blk.lt hb_s3)) Tryz.underlying34 rfl (cN hc))) HS89 ?_
  simp only [List.setIfInBounds_toArray,Act.put,List.set_cons_zero,List.set_cons_succ]
  refine cW 39 4398046511103 _ rfl (by kernel_rfl) _ _ (by kernel_rfl) (AJ w87 l A3 c3 (Mem.lay H88 hin.at_) hl1 hn c hc us hus) ?_
  rintro e w92 ⟨A_91,c_91,rfl,hm_91⟩
  have H93:=Mem.seq H88 hm_91
  have HS94:=Mem.pick H93 [] (by decide) rfl
  clear HS89
  refine ⟨_,rfl,HS94,?_⟩
  simp only [List.setIfInBounds_toArray,Act.put,List.set_cons_zero,List.set_cons_succ]
  refine cW 42 8796093022207 _ rfl (by kernel_rfl) _ _ (by kernel_rfl) (tB w92 l _ (Mem.lay H93 hr) hl1 hn c hc us hus) ?_
  rintro e w97 ⟨A_96,c_96,rfl,hm_96⟩
  have H98:=Mem.seq H93 hm_96
  have HS99:=Mem.pick H98 [] (by decide) rfl
  clear HS94
  refine ⟨_,rfl,HS99,?_⟩
  simp only [List.setIfInBounds_toArray,Act.put,List.set_cons_zero,List.set_cons_succ]
  refine cW 43 17592186044415 _ rfl (by kernel_rfl) _ _ (by kernel_rfl) (j6 w97 _ _ us _ _ (Mem.own H98 1 rfl) (Mem.own H98 0 rfl) huso.1 huso.2) ?_
  rintro e w101 ⟨rfl,hb104⟩
  have H102:=Mem.call H98 hb104
  have HS103:=Mem.pick H102 [] (by decide) rfl
  clear HS99
  refine ⟨_,rfl,HS103,?_⟩
  simp only [List.setIfInBounds_toArray,Act.put,List.set_cons_zero,List.set_cons_succ]
  refine aE 44 35184372088831 _ (.bool false) rfl (by kernel_rfl) (fun W9 hW9=>(by kernel_rfl)) HS103 ?_
  simp only [List.setIfInBounds_toArray,Act.put,List.set_cons_zero,List.set_cons_succ]
  refine aE 45 70368744177663 _ (.bool false) rfl (by kernel_rfl) (fun W9 hW9=>(fj (o:=⟨some 102,_,_,_,_,_⟩) (.tmp 93) (.const (.bool true)) (.tmp 101) rfl false rfl _ rfl W9)) HS103 ?_
  simp only [List.setIfInBounds_toArray,Act.put,List.set_cons_zero,List.set_cons_succ]
  refine qR (by kernel_rfl) ?_
  refine ab (hK61 _ _ ?_)
  refine cf ?_
  refine ks (hK60 _ _ ?_)
  refine wp_seq_k (fun K105 hK105=>?_)
  refine wp_seq_k (fun K106 hK106=>?_)
  refine rl ?_
  refine nt (hK106 _ _ ?_)
  refine wp_block ?_
  have h:=Mem.lay H102 h
  have hb_s3:=Blk.below hb_s3 (Mem.below H102) (Blk.lt hb_s3)
  have hin:=InP.below hin (Mem.below H102)
  have hbel:=hbel.trans (Below.mono (Mem.below H102) hbel.size)
  have hr:=Mem.lay H102 hr
  have hx_19:=Mem.drv H102 hx_19
  have hb_s7:=Blk.below hb_s7 (Mem.below H102) (Blk.lt hb_s7)
  have hx_29:=Mem.drv H102 hx_29
  have hb_s9:=Blk.below hb_s9 (Mem.below H102) (Blk.lt hb_s9)
  have hx_39:=Mem.drv H102 hx_39
  have hb_s11:=Blk.below hb_s11 (Mem.below H102) (Blk.lt hb_s11)
  have ho_49:=ao ho_49 fun g _ hl=>(Mem.below H102).block g hl
  have ho_55:=ao ho_55 fun g _ hl=>(Mem.below H102).block g hl
  have H107:=Mem.start w101
  obtain ⟨_,_,ekk,ht108,hmht108,_,hA⟩:=ak h
  injection ekk with ek1 _ ek3
  subst ek1 ek3
  simp only [maxLen] at hmht108
  obtain ⟨_,_,ekk,ht109,hmht109,_,hA3⟩:=ak hin.at_
  injection ekk with ek1 _ ek3
  subst ek1 ek3
  simp only [maxLen] at hmht109
  go_loopw [17] (fun x17 wr=>∃ i:Nat,x17=.int .i64 (i:Int)∧(i≤l.length)∧Mem w101 wr []) (fun x17 _=>l.length-(intOf x17).toNat)
  case atStart=>exact ⟨0,rfl,by omega,H107⟩
  case round =>
   obtain ⟨wo110,rfl⟩:∃ wo110,wo110=wr:=⟨_,rfl⟩
   obtain ⟨i,rfl,hi,H111⟩:=hrel
   refine wp_seq_k (fun K113 hK113=>?_)
   refine wp_seq_k (fun K114 hK114=>?_)
   refine rl ?_
   by_cases p115:(i:Int)<((l.length:Nat):Int)
   ·refine rv (aB (decide_eq_true p115)) ?_
    refine nt (hK114 _ _ ?_)
    refine ct ?_
    refine ks (hK113 _ _ ?_)
    refine wp_seq_k (fun K116 hK116=>?_)
    refine wp_block ?_
    refine wp_seq_k (fun K117 hK117=>?_)
    have HS118:=Mem.pick H111 [] (by decide) rfl
    refine nr 14 rfl (by kernel_rfl) (fun d _ _ _ _ h=>by cases d<;>exact h) (by kernel_rfl) HS118 ?_
    intro w119 hb122 HS121
    have H120:=Mem.call H111 hb122
    clear HS118
    refine aE 0 1 _ (.slice A3 l.length c3) rfl (by kernel_rfl) (fun W9 hW9=>(aZ (o:=⟨some 109,_,_,_,_,_⟩) (.tmp 5) rfl _ rfl W9)) HS121 ?_
    simp only [List.setIfInBounds_toArray,Act.put,List.set_cons_zero,List.set_cons_succ]
    refine aE 1 3 _ (.int .i64 (i:Int)) rfl (by kernel_rfl) (fun W9 hW9=>(aZ (o:=⟨some 110,_,_,_,_,_⟩) (.tmp 17) rfl _ rfl W9)) HS121 ?_
    simp only [List.setIfInBounds_toArray,Act.put,List.set_cons_zero,List.set_cons_succ]
    obtain ⟨b123,o124,rfl,hlt126,hE125⟩:=hA3 (by omega)
    obtain ⟨x127,hx128⟩:∃ x,(l)[i]?=some x:=⟨_,List.getElem?_eq_getElem (by first | omega | (rw [List.length_map,List.length_range];omega))⟩
    have hd129:=av hx128
    obtain ⟨cs,hr130,ha131⟩:=hE125 (i) x127 hx128
    obtain ⟨v132,v133,rfl,xo134,xd135⟩:=bT.1 ha131
    obtain ⟨A136,c137,rfl,hlc137,hmc137,_,hA138⟩:=ak xd135.ins
    obtain ⟨A139,c140,rfl,hlc140,hmc140,_,hA141⟩:=ak xd135.rcp
    simp only [maxLen] at hmc137 hmc140
    refine aE 2 7 _ (.pointer (some ⟨b123,o124+i*23,none⟩)) rfl (by kernel_rfl) (fun W9 hW9=>(aV (o:=⟨some 111,_,_,_,_,_⟩) 22 59 (.tmp 109) (.tmp 110) rfl b123 o124 (l.length) c3 (i) rfl rfl (by omega) 23 Tryz.underlying22 cP W9)) HS121 ?_
    simp only [List.setIfInBounds_toArray,Act.put,List.set_cons_zero,List.set_cons_succ]
    refine aE 3 15 _ (.pointer (some ⟨b123,o124+i*23+20,none⟩)) rfl (by kernel_rfl) (fun W9 hW9=>(by kernel_rfl)) HS121 ?_
    simp only [List.setIfInBounds_toArray,Act.put,List.set_cons_zero,List.set_cons_succ]
    refine aE 4 31 _ (.agg (dC x127.2 (.slice A136 x127.2.2.1.length c137) (.slice A139 x127.2.2.2.length c140)).toArray) rfl (by kernel_rfl) (fun W9 hW9=>(ai (o:=⟨some 113,_,_,_,_,_⟩) 26 (.tmp 112) rfl b123 (o124+i*23+20) rfl (dC x127.2 (.slice A136 x127.2.2.1.length c137) (.slice A139 x127.2.2.2.length c140)) _ W9 (cg xo134 (Mem.range hW9 hr130 hlt126)) Tryz.underlying26 rfl (bJ x127.2 (.slice A136 x127.2.2.1.length c137) (.slice A139 x127.2.2.2.length c140)))) HS121 ?_
    simp only [List.setIfInBounds_toArray,Act.put,List.set_cons_zero,List.set_cons_succ]
    refine aE 6 95 _ (.slice (some ⟨b123,o124,none⟩) l.length c3) rfl (by kernel_rfl) (fun W9 hW9=>(aZ (o:=⟨some 115,_,_,_,_,_⟩) (.tmp 5) rfl _ rfl W9)) HS121 ?_
    simp only [List.setIfInBounds_toArray,Act.put,List.set_cons_zero,List.set_cons_succ]
    refine aE 7 223 _ (.int .i64 (i:Int)) rfl (by kernel_rfl) (fun W9 hW9=>(aZ (o:=⟨some 116,_,_,_,_,_⟩) (.tmp 17) rfl _ rfl W9)) HS121 ?_
    simp only [List.setIfInBounds_toArray,Act.put,List.set_cons_zero,List.set_cons_succ]
    refine aE 8 479 _ (.pointer (some ⟨b123,o124+i*23,none⟩)) rfl (by kernel_rfl) (fun W9 hW9=>(aV (o:=⟨some 117,_,_,_,_,_⟩) 22 59 (.tmp 115) (.tmp 116) rfl b123 o124 (l.length) c3 (i) rfl rfl (by omega) 23 Tryz.underlying22 cP W9)) HS121 ?_
    simp only [List.setIfInBounds_toArray,Act.put,List.set_cons_zero,List.set_cons_succ]
    refine aE 9 991 _ (.pointer (some ⟨b123,o124+i*23+20,none⟩)) rfl (by kernel_rfl) (fun W9 hW9=>(by kernel_rfl)) HS121 ?_
    simp only [List.setIfInBounds_toArray,Act.put,List.set_cons_zero,List.set_cons_succ]
    refine aE 10 2015 _ (.agg (dC x127.2 (.slice A136 x127.2.2.1.length c137) (.slice A139 x127.2.2.2.length c140)).toArray) rfl (by kernel_rfl) (fun W9 hW9=>(ai (o:=⟨some 119,_,_,_,_,_⟩) 26 (.tmp 118) rfl b123 (o124+i*23+20) rfl (dC x127.2 (.slice A136 x127.2.2.1.length c137) (.slice A139 x127.2.2.2.length c140)) _ W9 (cg xo134 (Mem.range hW9 hr130 hlt126)) Tryz.underlying26 rfl (bJ x127.2 (.slice A136 x127.2.2.1.length c137) (.slice A139 x127.2.2.2.length c140)))) HS121 ?_
    simp only [List.setIfInBounds_toArray,Act.put,List.set_cons_zero,List.set_cons_succ]
    obtain ⟨ps,hps⟩:∃ p,bV (eB x127.2.2.1)=p:=⟨_,rfl⟩
    obtain ⟨cs9,hcs9⟩:∃ p,az x127.2.2.1=p:=⟨_,rfl⟩
    have hld:=(hl _ (List.mem_of_getElem? hx128)).1
    have hpso:=tS xd135 hps
    have hcso:=sY xd135 hcs9
    have hpsn:ps.length≤1000000:=Nat.le_trans hpso.2 hld
    have hcsn:cs9.length≤1000000:=Nat.le_trans hcso.2 hld
    refine cW 5 2047 _ rfl (by kernel_rfl) _ _ (by kernel_rfl) (pL w119 x127.2 _ _ (Mem.drv H120 xd135) hld ps hps) ?_
    rintro e w143 ⟨B_142,A_142,c_142,rfl,hm_142⟩
    have H144:=Mem.seq H120 hm_142
    have HS145:=Mem.pick H144 [] (by decide) rfl
    clear HS121
    refine ⟨_,rfl,HS145,?_⟩
    simp only [List.setIfInBounds_toArray,Act.put,List.set_cons_zero,List.set_cons_succ]
    refine cW 11 4095 _ rfl (by kernel_rfl) _ _ (by kernel_rfl) (pL w143 x127.2 _ _ (Mem.drv H144 xd135) hld ps hps) ?_
    rintro e w148 ⟨B_147,A_147,c_147,rfl,hm_147⟩
    have H149:=Mem.seq H144 hm_147
    have HS150:=Mem.pick H149 [] (by decide) rfl
    clear HS145
    refine ⟨_,rfl,HS150,?_⟩
    simp only [List.setIfInBounds_toArray,Act.put,List.set_cons_zero,List.set_cons_succ]
    refine aE 12 8191 _ (.slice A_142 ps.length c_142) rfl (by kernel_rfl) (fun W9 hW9=>(lJ (o:=⟨some 18,_,_,_,_,_⟩) (.tmp 114) rfl _ rfl W9)) HS150 ?_
    simp only [List.setIfInBounds_toArray,Act.put,List.set_cons_zero,List.set_cons_succ]
    refine aE 13 16383 _ (.slice A_147 ps.length c_147) rfl (by kernel_rfl) (fun W9 hW9=>(lJ (o:=⟨some 19,_,_,_,_,_⟩) (.tmp 120) rfl _ rfl W9)) HS150 ?_
    simp only [List.setIfInBounds_toArray,Act.put,List.set_cons_zero,List.set_cons_succ]
    refine qR (by kernel_rfl) ?_
    refine ab (hK117 _ _ ?_)
    refine wp_seq_k (fun K152 hK152=>?_)
    have HS153:=Mem.pick H149 [] (by decide) rfl
    refine nr 32 rfl (by kernel_rfl) (fun d _ _ _ _ h=>by cases d<;>exact h) (by kernel_rfl) HS153 ?_
    intro w154 hb157 HS156
    have H155:=Mem.call H149 hb157
    clear HS153
    refine aE 0 1 _ (.slice A_142 ps.length c_142) rfl (by kernel_rfl) (fun W9 hW9=>(aZ (o:=⟨some 121,_,_,_,_,_⟩) (.tmp 18) rfl _ rfl W9)) HS156 ?_
    simp only [List.setIfInBounds_toArray,Act.put,List.set_cons_zero,List.set_cons_succ]
    refine aE 1 3 _ (.slice A l.length cap) rfl (by kernel_rfl) (fun W9 hW9=>(aZ (o:=⟨some 122,_,_,_,_,_⟩) (.tmp 0) rfl _ rfl W9)) HS156 ?_
    simp only [List.setIfInBounds_toArray,Act.put,List.set_cons_zero,List.set_cons_succ]
    refine aE 2 7 _ (.int .i64 (i:Int)) rfl (by kernel_rfl) (fun W9 hW9=>(aZ (o:=⟨some 123,_,_,_,_,_⟩) (.tmp 17) rfl _ rfl W9)) HS156 ?_
    simp only [List.setIfInBounds_toArray,Act.put,List.set_cons_zero,List.set_cons_succ]
    obtain ⟨b158,o159,rfl,hlt161,hE160⟩:=hA (by omega)
    obtain ⟨x162,hx163⟩:∃ x,(l)[i]?=some x:=⟨_,List.getElem?_eq_getElem (by first | omega | (rw [List.length_map,List.length_range];omega))⟩
    have hd164:=av hx163
    obtain ⟨cs,hr165,ha166⟩:=hE160 (i) x162 hx163
    obtain ⟨v167,v168,rfl,xo169,xd170⟩:=bT.1 ha166
    obtain ⟨A171,c172,rfl,hlc172,hmc172,_,hA173⟩:=ak xd170.ins
    obtain ⟨A174,c175,rfl,hlc175,hmc175,_,hA176⟩:=ak xd170.rcp
    simp only [maxLen] at hmc172 hmc175
    refine aE 3 15 _ (.pointer (some ⟨b158,o159+i*23,none⟩)) rfl (by kernel_rfl) (fun W9 hW9=>(aV (o:=⟨some 124,_,_,_,_,_⟩) 22 59 (.tmp 122) (.tmp 123) rfl b158 o159 (l.length) cap (i) rfl rfl (by omega) 23 Tryz.underlying22 cP W9)) HS156 ?_
    simp only [List.setIfInBounds_toArray,Act.put,List.set_cons_zero,List.set_cons_succ]
    refine aE 4 31 _ (.pointer (some ⟨b158,o159+i*23+20,none⟩)) rfl (by kernel_rfl) (fun W9 hW9=>(by kernel_rfl)) HS156 ?_
    simp only [List.setIfInBounds_toArray,Act.put,List.set_cons_zero,List.set_cons_succ]
    refine aE 5 63 _ (.agg (dC x162.2 (.slice A171 x162.2.2.1.length c172) (.slice A174 x162.2.2.2.length c175)).toArray) rfl (by kernel_rfl) (fun W9 hW9=>(ai (o:=⟨some 126,_,_,_,_,_⟩) 26 (.tmp 125) rfl b158 (o159+i*23+20) rfl (dC x162.2 (.slice A171 x162.2.2.1.length c172) (.slice A174 x162.2.2.2.length c175)) _ W9 (cg xo169 (Mem.range hW9 hr165 hlt161)) Tryz.underlying26 rfl (bJ x162.2 (.slice A171 x162.2.2.1.length c172) (.slice A174 x162.2.2.2.length c175)))) HS156 ?_
    simp only [List.setIfInBounds_toArray,Act.put,List.set_cons_zero,List.set_cons_succ]
    have h12:x162=x127:=Option.some.inj (hx163.symm.trans hx128)
    refine cW 6 127 _ rfl (by kernel_rfl) _ _ (by kernel_rfl) (tc w154 x162.2 _ _ (Mem.drv H155 xd170) (by rw [h12];exact hld) ps (by rw [h12];exact hps)) ?_
    rintro e w178 ⟨B_177,A_177,c_177,rfl,hm_177⟩
    have H179:=Mem.seq H155 hm_177
    have HS180:=Mem.pick H179 [] (by decide) rfl
    clear HS156
    refine ⟨_,rfl,HS180,?_⟩
    simp only [List.setIfInBounds_toArray,Act.put,List.set_cons_zero,List.set_cons_succ]
    refine cW 7 255 _ rfl (by kernel_rfl) _ _ (by kernel_rfl) (tK w178 _ _ ps _ _ (Mem.own H179 2 rfl) (Mem.own H179 0 rfl) hpso.1 hpsn) ?_
    rintro e w182 ⟨rfl,hb185⟩
    have H183:=Mem.call H179 hb185
    have HS184:=Mem.pick H183 [] (by decide) rfl
    clear HS180
    refine ⟨_,rfl,HS184,?_⟩
    simp only [List.setIfInBounds_toArray,Act.put,List.set_cons_zero,List.set_cons_succ]
    refine aE 8 511 _ (.bool false) rfl (by kernel_rfl) (fun W9 hW9=>(by kernel_rfl)) HS184 ?_
    simp only [List.setIfInBounds_toArray,Act.put,List.set_cons_zero,List.set_cons_succ]
    refine aE 9 1023 _ (.bool false) rfl (by kernel_rfl) (fun W9 hW9=>(aZ (o:=⟨some 130,_,_,_,_,_⟩) (.tmp 129) rfl _ rfl W9)) HS184 ?_
    simp only [List.setIfInBounds_toArray,Act.put,List.set_cons_zero,List.set_cons_succ]
    refine aE 10 2047 _ (.slice (some ⟨b123,o124,none⟩) l.length c3) rfl (by kernel_rfl) (fun W9 hW9=>(aZ (o:=⟨some 131,_,_,_,_,_⟩) (.tmp 5) rfl _ rfl W9)) HS184 ?_
    simp only [List.setIfInBounds_toArray,Act.put,List.set_cons_zero,List.set_cons_succ]
    refine aE 11 4095 _ (.int .i64 (i:Int)) rfl (by kernel_rfl) (fun W9 hW9=>(aZ (o:=⟨some 132,_,_,_,_,_⟩) (.tmp 17) rfl _ rfl W9)) HS184 ?_
    simp only [List.setIfInBounds_toArray,Act.put,List.set_cons_zero,List.set_cons_succ]
    refine aE 12 8191 _ (.pointer (some ⟨b123,o124+i*23,none⟩)) rfl (by kernel_rfl) (fun W9 hW9=>(aV (o:=⟨some 133,_,_,_,_,_⟩) 22 59 (.tmp 131) (.tmp 132) rfl b123 o124 (l.length) c3 (i) rfl rfl (by omega) 23 Tryz.underlying22 cP W9)) HS184 ?_
    simp only [List.setIfInBounds_toArray,Act.put,List.set_cons_zero,List.set_cons_succ]
    refine aE 13 16383 _ (.pointer (some ⟨b123,o124+i*23+20,none⟩)) rfl (by kernel_rfl) (fun W9 hW9=>(by kernel_rfl)) HS184 ?_
    simp only [List.setIfInBounds_toArray,Act.put,List.set_cons_zero,List.set_cons_succ]
    refine aE 14 32767 _ (.agg (dC x127.2 (.slice A136 x127.2.2.1.length c137) (.slice A139 x127.2.2.2.length c140)).toArray) rfl (by kernel_rfl) (fun W9 hW9=>(ai (o:=⟨some 135,_,_,_,_,_⟩) 26 (.tmp 134) rfl b123 (o124+i*23+20) rfl (dC x127.2 (.slice A136 x127.2.2.1.length c137) (.slice A139 x127.2.2.2.length c140)) _ W9 (cg xo134 (Mem.range hW9 hr130 hlt126)) Tryz.underlying26 rfl (bJ x127.2 (.slice A136 x127.2.2.1.length c137) (.slice A139 x127.2.2.2.length c140)))) HS184 ?_
    simp only [List.setIfInBounds_toArray,Act.put,List.set_cons_zero,List.set_cons_succ]
    refine aE 16 98303 _ (.slice (some ⟨b158,o159,none⟩) l.length cap) rfl (by kernel_rfl) (fun W9 hW9=>(aZ (o:=⟨some 137,_,_,_,_,_⟩) (.tmp 0) rfl _ rfl W9)) HS184 ?_
    simp only [List.setIfInBounds_toArray,Act.put,List.set_cons_zero,List.set_cons_succ]
    refine aE 17 229375 _ (.int .i64 (i:Int)) rfl (by kernel_rfl) (fun W9 hW9=>(aZ (o:=⟨some 138,_,_,_,_,_⟩) (.tmp 17) rfl _ rfl W9)) HS184 ?_
    simp only [List.setIfInBounds_toArray,Act.put,List.set_cons_zero,List.set_cons_succ]
    refine aE 18 491519 _ (.pointer (some ⟨b158,o159+i*23,none⟩)) rfl (by kernel_rfl) (fun W9 hW9=>(aV (o:=⟨some 139,_,_,_,_,_⟩) 22 59 (.tmp 137) (.tmp 138) rfl b158 o159 (l.length) cap (i) rfl rfl (by omega) 23 Tryz.underlying22 cP W9)) HS184 ?_
    simp only [List.setIfInBounds_toArray,Act.put,List.set_cons_zero,List.set_cons_succ]
    refine aE 19 1015807 _ (.pointer (some ⟨b158,o159+i*23+20,none⟩)) rfl (by kernel_rfl) (fun W9 hW9=>(by kernel_rfl)) HS184 ?_
    simp only [List.setIfInBounds_toArray,Act.put,List.set_cons_zero,List.set_cons_succ]
    refine aE 20 2064383 _ (.agg (dC x162.2 (.slice A171 x162.2.2.1.length c172) (.slice A174 x162.2.2.2.length c175)).toArray) rfl (by kernel_rfl) (fun W9 hW9=>(ai (o:=⟨some 141,_,_,_,_,_⟩) 26 (.tmp 140) rfl b158 (o159+i*23+20) rfl (dC x162.2 (.slice A171 x162.2.2.1.length c172) (.slice A174 x162.2.2.2.length c175)) _ W9 (cg xo169 (Mem.range hW9 hr165 hlt161)) Tryz.underlying26 rfl (bJ x162.2 (.slice A171 x162.2.2.1.length c172) (.slice A174 x162.2.2.2.length c175)))) HS184 ?_
    simp only [List.setIfInBounds_toArray,Act.put,List.set_cons_zero,List.set_cons_succ]
    refine cW 15 2097151 _ rfl (by kernel_rfl) _ _ (by kernel_rfl) (wB w182 x127.2 _ _ (Mem.drv H183 xd135) hld cs9 hcs9) ?_
    rintro e w187 ⟨A_186,c_186,rfl,hm_186⟩
    have H188:=Mem.seq H183 hm_186
    have HS189:=Mem.pick H188 [] (by decide) rfl
    clear HS184
    refine ⟨_,rfl,HS189,?_⟩
    simp only [List.setIfInBounds_toArray,Act.put,List.set_cons_zero,List.set_cons_succ]
    refine cW 21 4194303 _ rfl (by kernel_rfl) _ _ (by kernel_rfl) (tf w187 x162.2 _ _ (Mem.drv H188 xd170) (by rw [h12];exact hld) cs9 (by rw [h12];exact hcs9)) ?_
    rintro e w192 ⟨A_191,c_191,rfl,hm_191⟩
    have H193:=Mem.seq H188 hm_191
    have HS194:=Mem.pick H193 [] (by decide) rfl
    clear HS189
    refine ⟨_,rfl,HS194,?_⟩
    simp only [List.setIfInBounds_toArray,Act.put,List.set_cons_zero,List.set_cons_succ]
    refine cW 22 8388607 _ rfl (by kernel_rfl) _ _ (by kernel_rfl) (j6 w192 _ _ cs9 _ _ (Mem.own H193 1 rfl) (Mem.own H193 0 rfl) hcso.1 hcsn) ?_
    rintro e w196 ⟨rfl,hb199⟩
    have H197:=Mem.call H193 hb199
    have HS198:=Mem.pick H197 [] (by decide) rfl
    clear HS194
    refine ⟨_,rfl,HS198,?_⟩
    simp only [List.setIfInBounds_toArray,Act.put,List.set_cons_zero,List.set_cons_succ]
    refine aE 23 16777215 _ (.bool false) rfl (by kernel_rfl) (fun W9 hW9=>(by kernel_rfl)) HS198 ?_
    simp only [List.setIfInBounds_toArray,Act.put,List.set_cons_zero,List.set_cons_succ]
    refine aE 24 33554431 _ (.bool false) rfl (by kernel_rfl) (fun W9 hW9=>(fj (o:=⟨some 145,_,_,_,_,_⟩) (.tmp 130) (.const (.bool true)) (.tmp 144) rfl false rfl _ rfl W9)) HS198 ?_
    simp only [List.setIfInBounds_toArray,Act.put,List.set_cons_zero,List.set_cons_succ]
    refine aE 25 67108863 _ (.bool false) rfl (by kernel_rfl) (fun W9 hW9=>(aZ (o:=⟨some 146,_,_,_,_,_⟩) (.tmp 145) rfl _ rfl W9)) HS198 ?_
    simp only [List.setIfInBounds_toArray,Act.put,List.set_cons_zero,List.set_cons_succ]
    refine aE 26 134217727 _ (.slice A_142 ps.length c_142) rfl (by kernel_rfl) (fun W9 hW9=>(aZ (o:=⟨some 147,_,_,_,_,_⟩) (.tmp 18) rfl _ rfl W9)) HS198 ?_
    simp only [List.setIfInBounds_toArray,Act.put,List.set_cons_zero,List.set_cons_succ]
    refine aE 27 268435455 _ (.slice A_147 ps.length c_147) rfl (by kernel_rfl) (fun W9 hW9=>(aZ (o:=⟨some 148,_,_,_,_,_⟩) (.tmp 19) rfl _ rfl W9)) HS198 ?_
    simp only [List.setIfInBounds_toArray,Act.put,List.set_cons_zero,List.set_cons_succ]
    obtain ⟨w200,hw8⟩:∃ w8,w8=w196.alloc (.cells #[Value.slice A_142 ps.length c_142,Value.slice A_147 ps.length c_147] 72):=⟨_,rfl⟩
    have hn8:iS w196 w200 72 #[Value.slice A_142 ps.length c_142,Value.slice A_147 ps.length c_147]:=hw8▸cD _ _ _
    have H201:=Mem.bA H197 hn8
    have H202:=Mem.kZ H201 0 rfl (f:=vb) (l:=[Value.slice A_142 ps.length c_142,Value.slice A_147 ps.length c_147]) (B:=w101.heap.size) (t:=72) (s:=1) (cap:=2) rfl rfl rfl (by decide)
    have HS203:=Mem.pick H202 [] (by decide) rfl
    clear HS198
    refine AD 28 536870911 _ (.slice (some ⟨w196.heap.size,0,none⟩) 2 2) w200 rfl (by kernel_rfl) (by rw [hw8];kernel_rfl) HS203 ?_
    clear hw8 hn8
    simp only [List.setIfInBounds_toArray,Act.put,List.set_cons_zero,List.set_cons_succ]
    refine cW 29 1073741823 _ rfl (by kernel_rfl) _ _ (by kernel_rfl) (vN w101 w200 [] ps.length ps.length _ _ _ _ _ _ _ _ _ _ hpsn hpsn (Mem.pick H202 [0,5,4] (by decide) rfl)) ?_
    rintro e w205 ⟨rfl,hm204⟩
    have H206:=hm204
    have HS207:=Mem.pick H206 [] (by decide) rfl
    clear HS203
    refine ⟨_,rfl,HS207,?_⟩
    simp only [List.setIfInBounds_toArray,Act.put,List.set_cons_zero,List.set_cons_succ]
    refine aE 30 2147483647 _ (.bool false) rfl (by kernel_rfl) (fun W9 hW9=>(by kernel_rfl)) HS207 ?_
    simp only [List.setIfInBounds_toArray,Act.put,List.set_cons_zero,List.set_cons_succ]
    refine aE 31 4294967295 _ (.bool false) rfl (by kernel_rfl) (fun W9 hW9=>(fj (o:=⟨some 152,_,_,_,_,_⟩) (.tmp 146) (.const (.bool true)) (.tmp 151) rfl false rfl _ rfl W9)) HS207 ?_
    simp only [List.setIfInBounds_toArray,Act.put,List.set_cons_zero,List.set_cons_succ]
    refine qR (by kernel_rfl) ?_
    refine ab (hK152 _ _ ?_)
    refine cf ?_
    refine wp_skip ?_
    refine aq ?_
    refine ab (hK116 _ _ ?_)
    refine rl ?_
    refine rv (aR (((i+1:Nat):Int))) ?_
    refine wpList_nil ?_
    refine ab ?_
    show _∧_
    go_roundw
    case rel=>exact ⟨(i+1),rfl,by omega,H206⟩
    case measure=>simp [intOf];omega
   ·have he209:=bF (l:=l) (j:=i) (by omega)
    refine rv (aB (decide_eq_false p115)) ?_
    refine nt (hK114 _ _ ?_)
    refine cf ?_
    refine wp_exit ?_
    refine aj ?_
    refine aj ?_
    refine ax ?_
    refine ab (hK105 _ _ ?_)
    refine wp_seq_k (fun K210 hK210=>?_)
    refine rl ?_
    refine an (by kernel_rfl) _ _ (by kernel_rfl) (vd wo110 l os A3 c3 (InP.below hin (Mem.below H111)) _ (Mem.lay H111 h) hl hn) ?_
    rintro e w211 ⟨rfl,hb213⟩
    refine ⟨_,rfl,rn ?_⟩
    have H212:=Mem.call H111 hb213
    refine rn ?_
    refine rv (xld (Mem.range H212 (Blk.range hb_s7) (Blk.lt hb_s7)) Tryz.underlying26 (bJ d u1_19 u2_19)) ?_
    refine kD (o:=⟨some 158,_,_,_,_,_⟩) (by kernel_rfl) 53 (.tmp 157) rfl 26 3 (.agg zcD) (.agg (dC d u1_19 u2_19).toArray) rfl Tryz.underlying53 (by kernel_rfl) (by decide) (by decide) (fun w=>by kernel_rfl) rfl ?_
    intro w214 hn
    have H215:=Mem.bA H212 hn
    clear hn
    refine rn ?_
    have H216:=Mem.kZ H215 0 rfl (f:=dV9) (l:=[((c,d),u1_19,u2_19)]) (B:=w101.heap.size) (t:=26) (s:=3) (cap:=1) rfl rfl rfl (by decide)
    refine rv (xld (Mem.range H216 (Blk.range hb_s9) (Blk.lt hb_s9)) Tryz.underlying26 (bJ d u1_29 u2_29)) ?_
    refine kD (o:=⟨some 160,_,_,_,_,_⟩) (by kernel_rfl) 53 (.tmp 159) rfl 26 3 (.agg zcD) (.agg (dC d u1_29 u2_29).toArray) rfl Tryz.underlying53 (by kernel_rfl) (by decide) (by decide) (fun w=>by kernel_rfl) rfl ?_
    intro w217 hn
    have H218:=Mem.bA H216 hn
    clear hn
    refine rn ?_
    have H219:=Mem.kZ H218 0 rfl (f:=dV9) (l:=[((c,d),u1_29,u2_29)]) (B:=w101.heap.size) (t:=26) (s:=3) (cap:=1) rfl rfl rfl (by decide)
    obtain ⟨w220,hw8⟩:∃ w8,w8=w217.alloc (.cells #[Value.slice (some ⟨w211.heap.size,0,none⟩) 1 1,Value.slice (some ⟨w214.heap.size,0,none⟩) 1 1] 53):=⟨_,rfl⟩
    have hn8:iS w217 w220 53 #[Value.slice (some ⟨w211.heap.size,0,none⟩) 1 1,Value.slice (some ⟨w214.heap.size,0,none⟩) 1 1]:=hw8▸cD _ _ _
    have H221:=Mem.bA H219 hn8
    have H222:=Mem.kZ H221 0 rfl (f:=vb) (l:=[Value.slice (some ⟨w211.heap.size,0,none⟩) 1 1,Value.slice (some ⟨w214.heap.size,0,none⟩) 1 1]) (B:=w101.heap.size) (t:=53) (s:=1) (cap:=2) rfl rfl rfl (by decide)
    refine aF (by kernel_rfl) (.slice (some ⟨w217.heap.size,0,none⟩) 2 2) w220 (by rw [hw8];kernel_rfl) ?_
    clear hw8 hn8
    refine rn ?_
    have HJ223:=(Mem.seq (Mem.seq (Mem.seq (Mem.seq (Mem.seq (Mem.seq H21 H31) H41) H51) H57) H102) H222)
    refine an (by kernel_rfl) _ _ (by kernel_rfl) (qL w14 w220 ((c,d),u1_19,u2_19) ((c,d),u1_29,u2_29) _ _ _ _ _ _ _ _ (Mem.pick HJ223 [0,2,1,11,9] (by decide) rfl) hdl hdl) ?_
    rintro e w225 ⟨rfl,hm224⟩
    refine ⟨_,rfl,rn ?_⟩
    have H226:=hm224
    have h:=Mem.lay H226 h_0
    have hin:=InP.below hin_0 (Mem.below H226)
    have hr:=Mem.lay H226 hr_0
    have hbel:=hbel_0.trans (Below.mono (Mem.below H226) hbel_0.size)
    have H228:=Mem.start w225
    refine rn ?_
    refine an (by kernel_rfl) _ _ (by kernel_rfl) (vd w225 l os A3 c3 (InP.below hin (Mem.below H228)) _ (Mem.lay H228 h) hl hn) ?_
    rintro e w229 ⟨rfl,hb231⟩
    refine ⟨_,rfl,rn ?_⟩
    have H230:=Mem.call H228 hb231
    refine rn ?_
    refine an (by kernel_rfl) _ _ (by kernel_rfl) (uC w229) ?_
    rintro e w232 ⟨rfl,hb234⟩
    refine ⟨_,rfl,rn ?_⟩
    have H233:=Mem.call H230 hb234
    refine rn ?_
    refine nt (hK210 _ _ ?_)
    refine wp_ret ?_
    refine bodyPost_ret (results_tmp rfl _ _ _) rfl ?_
    exact ⟨rfl,hbel.trans (Below.mono (Mem.below H233) hbel.size)⟩
 ·refine nt (hK5 _ _ ?_)
  refine ct ?_
  refine wp_seq_k (fun K235 hK235=>?_)
  refine rl ?_
  refine an (by kernel_rfl) _ _ (by kernel_rfl) (uC w6) ?_
  rintro e w236 ⟨rfl,hb238⟩
  refine ⟨_,rfl,rn ?_⟩
  have H237:=Mem.call H7 hb238
  refine rn ?_
  refine nt (hK235 _ _ ?_)
  refine wp_ret ?_
  simp only [Exit.then]
  refine bodyPost_ret (results_tmp rfl _ _ _) rfl ?_
  exact ⟨rfl,Mem.below H237⟩
end Go.Proofs.YtomnhnmciopiiaaGreat
end
section
namespace Go.Proofs.YtomnhnmciopiiaaGreat
open Go Go.ChangeShapes Go.WideShapes Go.ChangeAt Go.RowKit
set_option maxRecDepth 100000
theorem my (os:Os) (started:os.Started) (H:Type) (enc:TypeId×Value→H) :
  ReturnsInHanded {} Tryz.checked os 5 .any (Rows.drvTellsSpec.pre6 enc Tryz.prog Tryz.f5 Rows.drvTellsRow.domain false) (Rows.drvTellsSpec.post enc Tryz.prog Tryz.f5 false true false false):=by
 refine returnsInHanded_of_change_sized (C:=Tryz.checked) Tryz.B8 started (by kernel_rfl) Tryz.func5
  (ChangeSpec.witness6 (enc:=enc) (C:=Tryz.checked) false ⟨#[],#[.slice none 0 0,.agg zcH],[]⟩ 8 (by kernel_rfl) (by kernel_rfl) (by kernel_rfl) (by kernel_rfl)) ?_
 intro W base args ds gs before hval0 hW _ hsz0 _
 have hval:∀ (j:Nat) t v,Tryz.f5.params[j]?=some t→args[j]?=some v→Value.okWide Tryz.prog W .any base t v:=hval0
 have hsz:(DataW.weightsEach Tryz.prog (Tryz.f5.params.toList++[]) (ds++gs)).all (·≤reachBytes)=true:=hsz0
 have hW':=hW
 obtain ⟨p,q,hA0,hV,rfl,hfz,hnd⟩:=hW
 have hA:DataW.TrodAll enc Tryz.prog W 0 (fun _=>true) true Tryz.f5.params.toList args.toList ds p:=hA0
 rw [Tryz.params5] at hA hval hsz
 obtain ⟨v0,v1,d0,d1,p0,p1,rfl,rfl,rfl,h0,h1⟩:=trodAll_two hA
 obtain ⟨rfl,rfl⟩:=trodVars_none hV
 have hs0:∀ n∈d0.weights Tryz.prog 22,n≤reachBytes:=fun n hn=>by
  have h:=List.all_eq_true.1 hsz n (DataW.weights_mem_each (j:=0) (t:=22) (d:=d0) rfl rfl n hn)
  simpa using h
 obtain ⟨l,A,cap,rfl,hat,hl⟩:=sT (hval 0 22 v0 rfl rfl) h0 hs0
 obtain ⟨c,rfl,hc⟩:=wM (hval 1 34 v1 rfl rfl) h1
 have fin:∀ e W',e=Ending.returned (.bool true)∧Below W.heap.size W W'→∃ x,e=.returned x∧Rows.drvTellsSpec.post enc Tryz.prog Tryz.f5 false true false false W #[.slice A l.length cap,.agg (bv c).toArray] x W':=by
  rintro e W' ⟨rfl,hb⟩
  exact ⟨_,rfl,AO laidOut hW' rfl rfl (by kernel_rfl) Tryz.underlying4 (by kernel_rfl) hb⟩
 exact (qe W l A cap hat hl c hc).mono fin
theorem drvTells_holds:Rows.DrvTellsSaid :=
 OpenClaim.holds_of_wide 5 Tryz.f5 rfl rfl rfl rfl rfl rfl rfl ⟨rfl,rfl,rfl,rfl,rfl⟩ rfl rfl rfl rfl rfl (by kernel_rfl) Tryz.func5 (by kernel_rfl)
  (of_decide_eq_true (by kernel_rfl)) (by unfold Func.isWrapper;first | (rw [if_pos (by decide +kernel)];kernel_rfl) | (rw [if_neg (by decide +kernel)];exact ⟨rfl,rfl⟩))
  (fun os started H enc _=>my os started H enc)
#print axioms drvTells_holds
end Go.Proofs.YtomnhnmciopiiaaGreat
end
