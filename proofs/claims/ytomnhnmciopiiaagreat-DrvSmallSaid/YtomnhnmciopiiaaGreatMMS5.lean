/- Part 5 of the texts of one proof. -/
import Derived.Test.YtomnhnmciopiiaaGreatMMS4
import Derived.Test.YtomnhnmciopiiaaGreatRows
set_option maxRecDepth 100000
set_option linter.unusedVariables false
set_option linter.unusedSimpArgs false
set_option maxHeartbeats 40000000
open Go.Act renaming put → xad
open And renaming intro → xae
open Go.RowKit.Below renaming block → xbw, mono → xam, refl → xaq
open Go.IntWalk renaming i64_in → xaS
open List renaming append_nil → xaT, drop → xas, drop_succ_cons → xaH, drop_zero → xaQ, getElem?_eq_getElem → xaj, getElem?_eq_some_iff → xah, getElem?_map → xaD, getElem?_of_mem → xaO, length_append → xap, length_cons → xaE, length_map → xat, length_set → xa6, length_take → xaJ, mem_append → xau, mem_append_left → xa1, mem_cons → xax, mem_map → xav, mem_of_getElem? → xak, mem_of_mem_drop → xbZ, mem_singleton → xan, nodup_append → xbq, pairwise_append → xa7, pairwise_cons → xa2, pairwise_iff_getElem → xaV, replicate → xar, setIfInBounds_toArray → xaa, set_cons_succ → xab, set_cons_zero → xac, size_toArray → xal, take_add_one → xaz, take_length → xaB, take_succ_cons → xaI, take_zero → xaR
open Nat renaming le_refl → xai, le_trans → xay, lt_of_lt_of_le → xa3
open Option renaming bind_some → xbv
open Option.some renaming inj → xao
open Go.Region renaming wanted → xaw
open UInt8 renaming ofNat → xaX
open Go.Value renaming bool → xbs, slice → xag, string → xaY
open Go.World renaming block_lt_of_cell? → xbk, cell?_of_block → xaU, ownsRow_nil → xaW
section
namespace Go.Proofs.YtomnhnmciopiiaaGreat
open Go Go.RowKit Go.Maps
theorem eY {w w':World} {v:Value} {l:List Itm} (h:bB.At w w.heap.size [v] l) (hb:Below w.heap.size w w'):bB.At w' w'.heap.size [v] l :=
 bB.dV (bB.alike h fun b hb9=>hb.block b hb9) hb.size
theorem pD {H:Type}:∀ (l:List H) (b:List Bool) (k:Nat) (x:H) (v:Bool),l[k]?=some x→b[k]?=some v→Dr.dj (l.take (k+1)) (b.take (k+1))=Dr.dj (l.take k) (b.take k)++(if v=true then [x] else [])
 | y :: l,u :: b,0,x,v,h1,h2=>by
  injection h1 with h1
  injection h2 with h2
  subst h1 h2
  cases u<;>rfl
 | y :: l,u :: b,k+1,x,v,h1,h2=>by
  have ih:=pD l b k x v (by simpa using h1) (by simpa using h2)
  show Dr.dj (y :: l.take (k+1)) (u :: b.take (k+1))=Dr.dj (y :: l.take k) (u :: b.take k)++_
  cases u
  ·exact ih
  ·exact congrArg (y :: ·) ih
 | [],_,k,x,v,h1,_=>by simp at h1
 | _ :: _,[],k,x,v,_,h2=>by simp at h2
def dE (l:List Itm) (c:Hsh):Int:=if Dr.bR (l.map itP)=true then (if (aX (de l) c).isSome=true then 0 else 5) else 2
def cA (l:List Itm) (c:Hsh):List Hsh:=if Dr.bR (l.map itP)=true then (if (aX (de l) c).isSome=true then Dr.bW (l.map itP) c else []) else []
theorem gP {l:List Itm} {c:Hsh} (h:(aX (de l) c).isSome=true):c∈Dr.css (l.map itP):=by rw [← jx];exact mem_keys.2 h
theorem pk {l:List Itm} {c:Hsh} (h:(aX (de l) c).isSome=false):c ∉ Dr.css (l.map itP):=fun hm=>by
 rw [← jx] at hm
 rw [mem_keys.1 hm] at h
 cases h
theorem wE {l:List (Dr.It Hsh)} {c:Hsh}:Dr.bW l c=Dr.dj (Dr.css l) (Dr.bY l (fT l c)):=rfl
theorem Bo {l:List Itm} {k:Nat} {x:Itm} (h:l[k]?=some x):(Dr.css (l.map itP))[k]?=some x.1:=by
 unfold Dr.css
 rw [xaD,xaD,h]
 rfl
theorem zM (l:List Itm):(Dr.css (l.map itP)).length=l.length:=by simp [Dr.css]
theorem wR (w:World) (l:List Itm) (A:Option Addr) (cap:Nat) (h:bB.At w w.heap.size [.slice A l.length cap] l) (hl:∀ x∈l,x.2.2.1.length≤1000000) :
  Calls Tryz.prog 35 #[.slice A l.length cap] w fun e w'=>e=.returned (.bool (Dr.bR (l.map itP)))∧Below w.heap.size w w':=by
 go_enter Tryz.func35,Tryz.ntmps35
 go_wp2_with fail
 refine (lP w l A cap h hl).mono ?_
 rintro e w2 ⟨mb,rfl,_,hb⟩
 dsimp only
 have H2:=ah hb
 clear hb
 go_wp2_with (first | ((with_reducible refine ag 3 ?_);(refine bq rfl 129 #[.map none,.slice none 0 0] (by kernel_rfl) ?_);intro w3 hn;have H3:=ah hn;clear hn;simp only [xad,xaa,xac,xab]) | ((with_reducible refine bI 3 8 ?_);(with_reducible refine ar rfl 129 (.tmp 3) (.tmp 8) rfl w2.heap.size #[.map none,.slice none 0 0] #[.map (some mb),.slice A l.length cap] 129 H3.out.blk ?_ ?_ ?_ ?_ ?_ ?_);kernel_rfl;rfl;kernel_rfl;rfl;rfl;intro w4 hk4 hg4;have H4:=ah (H2.out.trans (xam (H3.out.below.grown hg4 (by have:=H3.out.size;omega) (fun b hb=>(by have:=xao hb;omega))) H2.out.size));clear hk4 hg4;simp only [xad]))
 go_ret
 exact ⟨rfl,H4.out⟩
theorem qH {H:Type}:∀ (l:List H) (b:List Bool) (j:Nat),(Dr.dj (l.take j) (b.take j)).length≤j
 | _,_,0=>by simp [Dr.dj]
 | [],_,j+1=>by simp [Dr.dj]
 | x :: l,[],j+1=>by simp [Dr.dj]
 | x :: l,true :: b,j+1=>by
  have:=qH l b j
  show (x :: Dr.dj (l.take j) (b.take j)).length≤_
  rw [xaE]
  omega
 | x :: l,false :: b,j+1=>by
  have:=qH l b j
  show (Dr.dj (l.take j) (b.take j)).length≤_
  omega
theorem cr {x:Itm} {v1 v2:Value} {w:World} {b o:Nat} (h:w.rangeAt b o (tC x v1 v2)):w.rangeAt b o (bv x.1):=cz (c2:=dC x.2 v1 v2) (by simpa [tC] using h)
theorem py (w:World) (l:List Itm) (A:Option Addr) (cap:Nat) (h:bB.At w w.heap.size [.slice A l.length cap] l) (hl:∀ x∈l,x.2.2.1.length≤1000000) (hlen:l.length≤1000000) (c:Hsh) (hc:okH c) :
  Calls Tryz.prog 33 #[.slice A l.length cap,.agg (bv c).toArray] w fun e w'=>∃ u,e=.returned (.tuple #[u,.int .i64 (dE l c)])∧w'.ownsRow w.heap.size 34 20 u (cA l c).length ((cA l c).flatMap bv)∧Below w.heap.size w w':=by
 obtain ⟨ih,hih,hq0,hq1,hq2⟩:=info_parts dM
 have HJ:=ah (xae hih (xae hq0 (xae hq1 hq2)))
 clear hih hq0 hq1 hq2
 obtain ⟨A',cap',e,hcl,hcm9,_,hA⟩:=ak h
 injection e with e1 e2 e3
 subst e1 e3
 have k9:(l.length:Int)≤9223372036854775807:=by omega
 have hszc:=eX hc
 have HA:=ah hA
 clear hA hcl hcm9 e2
 go_enter Tryz.func33,Tryz.ntmps33
 go_wp2_with (first | ((with_reducible refine ag 3 ?_);(refine aW rfl 34 (.tmp 1) rfl (bv c).toArray rfl ?_);intro w1 hn;have H1:=ah hn;clear hn;simp only [xad,xaa,xac,xab]))
 refine (lP w1 l A cap (eY h H1.out.below) hl).mono ?_
 rintro e w2 ⟨mb,rfl,hmap,hb⟩
 dsimp only
 have H2:=ah (xae (H1.out.blk.below hb H1.out.blk.lt) (xae (H1.out.below.trans (xam hb H1.out.below.size)) hmap))
 clear hb hmap
 cases hR:Dr.bR (l.map itP)
 ·have HE:Hid (dE l c=2∧cA l c=[]):=ah (by unfold dE cA;rw [hR];exact ⟨rfl,rfl⟩)
  clear hR
  go_wp2_with (first | ((with_reducible refine ag 6 ?_);(refine bq rfl 129 #[.map none,.slice none 0 0] (by kernel_rfl) ?_);intro w3 hn;have H3:=ah hn;clear hn;simp only [xad,xaa,xac,xab]) | ((with_reducible refine bI 6 13 ?_);(with_reducible refine ar rfl 129 (.tmp 6) (.tmp 13) rfl w2.heap.size #[.map none,.slice none 0 0] #[.map (some mb),.slice A l.length cap] 129 H3.out.blk ?_ ?_ ?_ ?_ ?_ ?_);kernel_rfl;rfl;kernel_rfl;rfl;rfl;intro w4 hk4 hg4;have h24:=H3.out.below.grown hg4 (by have:=H3.out.size;omega) (fun b hb=>(by have:=xao hb;omega));have H4:=ah (xae hk4 (xae (H2.out.1.below h24 H2.out.1.lt) (xae (H2.out.2.1.trans (xam h24 H2.out.2.1.size)) h24)));clear hk4 hg4 h24;simp only [xad]))
  refine bodyPost_ret (v:=.tuple #[.slice none 0 0,.int .i64 2]) (by simp [results,Tryz.results33,go_sem]) rfl ?_
  refine ⟨_,by rw [HE.out.1],?_,H4.out.2.2.1⟩
  rw [HE.out.2]
  exact xaW _ _ _ _
 ·have HRT:=ah hR
  have hmk:=(H2.out.2.2 hR).2
  have HMK:=ah hmk
  clear hR hmk
  have hhc:=hc
  go_wp2_with (first | ((with_reducible refine ag 6 ?_);(refine bq rfl 129 #[.map none,.slice none 0 0] (by kernel_rfl) ?_);intro w3 hn;have H3:=ah hn;clear hn;simp only [xad,xaa,xac,xab]) | ((with_reducible refine bI 6 13 ?_);(with_reducible refine ar rfl 129 (.tmp 6) (.tmp 13) rfl w2.heap.size #[.map none,.slice none 0 0] #[.map (some mb),.slice A l.length cap] 129 H3.out.blk ?_ ?_ ?_ ?_ ?_ ?_);kernel_rfl;rfl;kernel_rfl;rfl;rfl;intro w4 hk4 hg4;have h24:=H3.out.below.grown hg4 (by have:=H3.out.size;omega) (fun b hb=>(by have:=xao hb;omega));have H4:=ah (xae hk4 (xae (H2.out.1.below h24 H2.out.1.lt) (xae (H2.out.2.1.trans (xam h24 H2.out.2.1.size)) h24)));clear hk4 hg4 h24;simp only [xad]) | ((with_reducible refine ag 18 ?_);(refine aa rfl (.map (some mb)) w4 (exec_load_cell 127 (.tmp 17) rfl ⟨w2.heap.size,0,none⟩ rfl _ _ w4 Tryz.underlying127 rfl (show w4.cell? ⟨w2.heap.size,0,none⟩=some (.map (some mb)) from H4.out.1.cell 0)) ?_)) | ((with_reducible refine ag 19 ?_);(refine aa rfl (.agg ((bv c).toArray)) w4 (av 34 (.tmp 3) rfl w.heap.size rfl 34 _ _ w4 H4.out.2.1 Tryz.underlying34 rfl hszc) ?_)) | ((with_reducible refine ag 20 ?_);(refine aG rfl 27 (.tmp 19) rfl 34 20 (.agg zcH) (.agg (bv c).toArray) rfl Tryz.underlying27 ei (by decide) (by decide) (fun w=>by kernel_rfl) (by rw [Value.cells,xal,bvL];exact hhc) ?_);intro w5 hn;have H5:=ah hn;clear hn;simp only [xad,xaa,xac,xab]))
  have hm5:bH hV okH evN w5 mb (de l):=HMK.out.below (H4.out.2.2.2.trans (xam H5.out.below H4.out.2.2.2.size)) HMK.out.lt
  have hone5:pQ c (.slice (some ⟨w4.heap.size,0,none⟩) 1 1) w5:=⟨_,rfl,H5.out.blk⟩
  have hat5:=hone5.at_ hc
  have HM5:=ah hm5
  clear hm5 hone5
  refine (hJ w5 mb (de l) HM5.out [c] _ hat5).mono ?_
  rintro e w6 ⟨rfl,hb⟩
  rw [kt]
  dsimp only
  have h46:=H5.out.below.trans (xam hb H5.out.below.size)
  have H6:=ah (xae (H4.out.1.below h46 H4.out.1.lt) (xae (H4.out.2.1.below h46 H4.out.2.1.lt) (xae (H4.out.2.2.1.trans (xam h46 H4.out.2.2.1.size)) (HM5.out.below hb HM5.out.lt))))
  clear hb h46 hat5
  cases hK:(aX (de l) c).isSome
  ·have HE:Hid (dE l c=5∧cA l c=[]):=ah (by unfold dE cA;rw [HRT.out,hK];exact ⟨rfl,rfl⟩)
   clear hK
   go_wp2_with fail
   refine bodyPost_ret (v:=.tuple #[.slice none 0 0,.int .i64 5]) (by simp [results,Tryz.results33,go_sem]) rfl ?_
   refine ⟨_,by rw [HE.out.1],?_,H6.out.2.2.1⟩
   rw [HE.out.2]
   exact xaW _ _ _ _
  ·have HE:Hid (dE l c=0∧cA l c=Dr.bW (l.map itP) c):=ah (by unfold dE cA;rw [HRT.out,hK];exact ⟨rfl,rfl⟩)
   have HCM:=ah (gP hK)
   clear hK
   go_wp2_with (first | ((with_reducible refine ag 23 ?_);(refine aa rfl (.agg (#[.map (some mb),.slice A l.length cap])) w6 (av 129 (.tmp 6) rfl w2.heap.size rfl 129 _ _ w6 H6.out.1 Tryz.underlying129 rfl (by kernel_rfl)) ?_)) | ((with_reducible refine ag 24 ?_);(refine aa rfl (.agg ((bv c).toArray)) w6 (av 34 (.tmp 3) rfl w.heap.size rfl 34 _ _ w6 H6.out.2.1 Tryz.underlying34 rfl hszc) ?_)))
   refine (tx w6 l mb A cap (eY h H6.out.2.2.1) hl hlen ((Dr.dQ _).1 HRT.out) H6.out.2.2.2 c hc HCM.out).mono ?_
   rintro e w7 ⟨gn,rfl,hkn,hgn,hb⟩
   dsimp only
   have hnl:(Dr.bY (l.map itP) (fT (l.map itP) c)).length=l.length:=by rw [Dr.cT,xat]
   have H7:=ah (xae hkn (xae (H6.out.2.2.1.trans (xam hb H6.out.2.2.1.size)) (xay H6.out.2.2.1.size hgn)))
   have HNL:=ah hnl
   clear hkn hgn hb hnl
   go_wp2_with fail
   go_loopw [4,27] (fun x4 x27 wr=>∃ (j:Nat) (u:Value),j≤l.length∧u=x4∧x27=.int .i64 (j:Int)∧Blk wr gn 4 ((Dr.bY (l.map itP) (fT (l.map itP) c)).map xbs).toArray∧wr.ownsRow w.heap.size 34 20 u (Dr.dj ((Dr.css (l.map itP)).take j) ((Dr.bY (l.map itP) (fT (l.map itP) c)).take j)).length ((Dr.dj ((Dr.css (l.map itP)).take j) ((Dr.bY (l.map itP) (fT (l.map itP) c)).take j)).flatMap bv)∧Below w.heap.size w wr) (fun _ x27 _=>l.length-(intOf x27).toNat)
   case atStart=>exact ⟨0,_,by omega,rfl,rfl,H7.out.1,xaW _ _ _ _,H7.out.2.1⟩
   case round =>
    obtain ⟨wo,rfl⟩:∃ wo,wo=wr:=⟨_,rfl⟩
    obtain ⟨j,x4,hj,rfl,rfl,hk,hown,hbw⟩:=hrel
    have HI:=ah (xae hk (xae hown hbw))
    clear hk hown hbw
    have j0:(0:Int)≤(j:Int):=by omega
    by_cases hj2:j<l.length
    ·have j1:(j:Int)<(l.length:Int):=by omega
     obtain ⟨x,hx⟩:∃ x,l[j]?=some x:=⟨_,xaj hj2⟩
     obtain ⟨b,off,rfl,hlb,hE⟩:=HA.out (by omega)
     obtain ⟨cs,hr,hatx⟩:=hE j x hx
     obtain ⟨q1,q2,rfl,hxo,hxd⟩:=bP.1 hatx
     obtain ⟨B1,k1,rfl,_⟩:=ak hxd.ins
     obtain ⟨B2,k2,rfl,_⟩:=ak hxd.rcp
     obtain ⟨q1,hq1⟩:∃ q1,q1=xag B1 x.2.2.1.length k1:=⟨_,rfl⟩
     obtain ⟨q2,hq2⟩:∃ q2,q2=xag B2 x.2.2.2.length k2:=⟨_,rfl⟩
     have hone1:q1.oneCell'=true∧q2.oneCell'=true:=by rw [hq1,hq2];exact ⟨rfl,rfl⟩
     rw [← hq1,← hq2] at hr hatx
     rw [← hq1,← hq2] at hxd
     have hbnd:=hl x (xak hx)
     have HX:=ah (xae (a7 hr (HI.out.2.2.block b (by omega))) (xae hxo hxd))
     have HXX:=ah hx
     have hszt2:(Tryz.prog.info? 59).map (·.size)=some (tC x q1 q2).toArray.size:=by rw [show (tC x q1 q2).toArray.size=23 by rw [xal];exact dh hxo];kernel_rfl
     have hszt:(Tryz.prog.info? 59).map (·.size)=some (tC x q1 q2).length:=by simpa using hszt2
     have hszzt:zcT.size=(tC x q1 q2).toArray.size:=by rw [show (tC x q1 q2).toArray.size=23 by rw [xal];exact dh hxo];kernel_rfl
     have honet:(tC x q1 q2).toArray.all (·.oneCell')=true:=all_oneCell_toArray (iD x hone1.1 hone1.2)
     have hszx:(Tryz.prog.info? 34).map (·.size)=some (bv x.1).length:=by have:=eX hxo;simpa using this
     have hszx2:=eX hxo
     clear hx hE hr hatx hxd hq1 hq2
     have hhc:=hxo
     obtain ⟨v,hv⟩:∃ v,(Dr.bY (l.map itP) (fT (l.map itP) c))[j]?=some v:=⟨_,xaj (by rw [HNL.out];exact hj2)⟩
     have hsn:=pD _ _ j x.1 v (Bo HXX.out) hv
     have hcv:=mR HI.out.1 hv
     have HSN:=ah hsn
     have HCV:=ah hcv
     have hol:(Dr.dj ((Dr.css (l.map itP)).take j) ((Dr.bY (l.map itP) (fT (l.map itP) c)).take j)).length≤j:=qH _ _ j
     clear hsn hcv hv
     cases v
     ·go_wp2_with (first | ((with_reducible refine ag 30 ?_);(refine aa rfl (.pointer (some ⟨gn,j,none⟩)) wo (eU 133 4 (.tmp 25) (.tmp 27) rfl gn l.length l.length j rfl rfl hj2 Tryz.underlying133 (by kernel_rfl) wo) ?_)) | ((with_reducible refine ag 31 ?_);(refine aa rfl (.bool false) wo (exec_load_cell 4 (.tmp 30) rfl ⟨gn,j,none⟩ rfl _ _ wo Tryz.underlying4 rfl (show wo.cell? ⟨gn,j,none⟩=some (.bool false) from HCV.out)) ?_)))
      go_roundw
      case rel=>exact ⟨j+1,x4,by omega,rfl,by go_num,HI.out.1,by rw [HSN.out];simpa using HI.out.2.1,HI.out.2.2⟩
      case measure=>simp [intOf];omega
     ·go_wp2_with (first | ((with_reducible refine ag 30 ?_);(refine aa rfl (.pointer (some ⟨gn,j,none⟩)) wo (eU 133 4 (.tmp 25) (.tmp 27) rfl gn l.length l.length j rfl rfl hj2 Tryz.underlying133 (by kernel_rfl) wo) ?_)) | ((with_reducible refine ag 31 ?_);(refine aa rfl (.bool true) wo (exec_load_cell 4 (.tmp 30) rfl ⟨gn,j,none⟩ rfl _ _ wo Tryz.underlying4 rfl (show wo.cell? ⟨gn,j,none⟩=some (.bool true) from HCV.out)) ?_)) | ((with_reducible refine ag 36 ?_);(refine aa rfl (.pointer (some ⟨b,off+(j:Int).toNat*23,none⟩)) wo (aH 22 59 (.tmp 34) (.tmp 35) rfl b off l.length cap (j:Int) .i64 rfl rfl ⟨j0,j1⟩ 23 Tryz.underlying22 cI wo) ?_;rw [show off+(j:Int).toNat*23=off+j*23 by omega])) | ((with_reducible refine ag 38 ?_);(refine aa rfl (.agg (bv x.1).toArray) wo (aj 34 (.tmp 37) rfl b (off+j*23) rfl (bv x.1) _ wo (cr HX.out.1) Tryz.underlying34 rfl hszx) ?_)) | ((with_reducible refine ag 39 ?_);(refine aG rfl 27 (.tmp 38) rfl 34 20 (.agg zcH) (.agg (bv x.1).toArray) rfl Tryz.underlying27 ei (by decide) (by decide) (fun w=>by kernel_rfl) (by rw [Value.cells,xal,bvL];exact hhc) ?_);intro w8 hn;have H8:=ah hn;have h8:=ah (xae (hn.src (cs:=bv x.1) (n:=20) (by rw [bvL];exact hxo) (bv1 x.1)) (an HI.out.2.1 fun g _ hl9=>hn.below.block g hl9));clear hn;simp only [xad,xaa,xac,xab]) | (at_builtin;((with_reducible refine ag 40 ?_);refine aD rfl _ _ 27 rfl w.heap.size 34 ih _ 20 20 Tryz.underlying27 HJ.out.1 HJ.out.2.1 HJ.out.2.2.1 HJ.out.2.2.2 rfl (by decide) _ ((Dr.dj ((Dr.css (l.map itP)).take j) ((Dr.bY (l.map itP) (fT (l.map itP) c)).take j)).length) ((Dr.dj ((Dr.css (l.map itP)).take j) ((Dr.bY (l.map itP) (fT (l.map itP) c)).take j)).flatMap bv) h8.out.2 (some ⟨wo.heap.size,0,none⟩) 1 1 (bv x.1) h8.out.1 ?hm1 ?hb1 ?hz1 rfl rfl ?_)))
      case hm1=>simp only [maxLen];omega
      case hb1=>omega
      case hz1=>have:=HI.out.2.2.size;have:=H8.out.below.size;omega
      intro u9 w9 own9 gr9 _
      have h9:w9.ownsRow w.heap.size 34 20 u9 (Dr.dj ((Dr.css (l.map itP)).take (j+1)) ((Dr.bY (l.map itP) (fT (l.map itP) c)).take (j+1))).length ((Dr.dj ((Dr.css (l.map itP)).take (j+1)) ((Dr.bY (l.map itP) (fT (l.map itP) c)).take (j+1))).flatMap bv):=by rw [HSN.out];simpa using own9
      have hkb:Blk w9 gn 4 ((Dr.bY (l.map itP) (fT (l.map itP) c)).map xbs).toArray:=(gr9.block _ (by have:=HI.out.1.lt;have:=H8.out.below.size;omega) (fun e=>ew h8.out.2 (HI.out.1.below H8.out.below HI.out.1.lt) (by decide) e.symm)).trans (HI.out.1.below H8.out.below HI.out.1.lt)
      have hb9:Below w.heap.size w w9:=(HI.out.2.2.trans (xam H8.out.below HI.out.2.2.size)).grown gr9 (by have:=HI.out.2.2.size;have:=H8.out.below.size;omega) (fun k hk=>(aB h8.out.2 hk).1)
      have H9:=ah (xae hkb (xae h9 hb9))
      clear own9 gr9 h9 hkb hb9
      go_wp2_with fail
      go_roundw
      case rel=>exact ⟨j+1,u9,by omega,rfl,by go_num,H9.out.1,H9.out.2.1,H9.out.2.2⟩
      case measure=>simp [intOf];omega
    ·obtain rfl:j=l.length:=by omega
     have ho:=HI.out.2.1
     rw [List.take_of_length_le (by rw [zM];exact xai _),List.take_of_length_le (by rw [HNL.out];exact xai _),← wE] at ho
     have HO:=ah ho
     clear ho
     obtain ⟨u9,hu9⟩:∃ u9,u9=x4:=⟨_,rfl⟩
     go_wp2_with fail
     refine bodyPost_ret (v:=.tuple #[x4,.int .i64 0]) (by simp [results,Tryz.results33,go_sem]) rfl ?_
     refine ⟨_,by rw [HE.out.1],?_,HI.out.2.2⟩
     rw [HE.out.2]
     exact HO.out
end Go.Proofs.YtomnhnmciopiiaaGreat
end
section
namespace Go.Proofs.YtomnhnmciopiiaaGreat
open Go Go.RowKit Go.Maps
def dI (l:List Itm) (c:Hsh):Nat:=if Dr.bR (l.map itP)=true then (if (aX (de l) c).isSome=true then Dr.cE (l.map itP) c else 0) else 0
theorem nK (l:List Nat) (x:Nat):Dr.maxOf (l++[x])=max (Dr.maxOf l) x:=by
 unfold Dr.maxOf
 rw [List.foldl_append]
 rfl
theorem jf {l:List Nat} {b:Nat} (h:∀ x∈l,x≤b):Dr.maxOf l≤b:=by
 unfold Dr.maxOf
 have key:∀ (l:List Nat) (a:Nat),a≤b→(∀ x∈l,x≤b)→l.foldl max a≤b:=by
  intro l
  induction l with
  | nil=>intro a ha _;exact ha
  | cons x l ih =>
   intro a ha hx
   exact ih _ (Nat.max_le.2 ⟨ha,hx x (List.mem_cons_self ..)⟩) fun y hy=>hx y (List.mem_cons_of_mem _ hy)
 exact key l 0 (Nat.zero_le _) h
theorem vo {H:Type} [DecidableEq H] (l:List (Dr.It H)) (x:Dr.It H) (h:H):Dr.jG (l++[x]) (fun _=>0) h=if h=x.cls then Dr.maxOf (x.ins.map (Dr.jG l fun _=>0))+1 else Dr.jG l (fun _=>0) h:=by
 rw [Dr.mV]
 rfl
def qT (l:List Itm) (j:Nat) (dm:List (Hsh×Nat)):Prop:=∀ h,(aX dm h).getD 0=Dr.jG ((l.take j).map itP) (fun _=>0) h∧(aX dm h).getD 0≤j
theorem xK (l:List Itm):qT l 0 []:=fun h=>⟨rfl,xai _⟩
theorem xJ {l:List Itm} {j:Nat} {dm:List (Hsh×Nat)} {x:Itm} (h:qT l j dm) (hx:l[j]?=some x):qT l (j+1) (jH dm x.1 (Dr.maxOf ((az x.2.2.1).map fun c=>(aX dm c).getD 0)+1)):=fun c=>by
 have e:(l.take (j+1)).map itP=(l.take j).map itP++[itP x]:=by rw [xaz,hx];simp
 have em:((az x.2.2.1).map fun c=>(aX dm c).getD 0)=(az x.2.2.1).map (Dr.jG ((l.take j).map itP) fun _=>0):=List.map_congr_left fun d _=>(h d).1
 rw [wq,e,vo]
 by_cases hc:c=x.1
 ·rw [if_pos hc,if_pos (show c=(itP x).cls from hc),em]
  refine ⟨rfl,?_⟩
  show Dr.maxOf _+1≤j+1
  have:Dr.maxOf ((az x.2.2.1).map (Dr.jG ((l.take j).map itP) fun _=>0))≤j:=jf fun y hy=>by
   obtain ⟨d,_,rfl⟩:=xav.1 hy
   rw [← (h d).1]
   exact (h d).2
  omega
 ·rw [if_neg hc,if_neg (show ¬ c=(itP x).cls from hc)]
  exact ⟨(h c).1,xay (h c).2 (Nat.le_succ _)⟩
theorem zO {l:List Itm} {j:Nat} {dm:List (Hsh×Nat)} (h:qT l j dm) (ks:List Hsh):Dr.maxOf (ks.map fun c=>(aX dm c).getD 0)≤j:=jf fun y hy=>by
 obtain ⟨d,_,rfl⟩:=xav.1 hy
 exact (h d).2
theorem vq {l:List Itm} {c:Hsh}:Dr.cE (l.map itP) c=Dr.jG ((l.take (fT (l.map itP) c+1)).map itP) (fun _=>0) c:=by
 rw [List.map_take]
 rfl
theorem rO {w:World} {mb:Nat} {m:List (Hsh×Nat)} (hm:bH hV okH evN w mb m) {c:Hsh} (hc:okH c) {ρ:Operand→Value} {o:Oper} (x y:Operand) (ho:o.op=.lookup 99 x y false) (hx:ρ x=.map (some mb)) (hy:ρ y=.agg (bv c).toArray) :
  (execOp ρ o).run Tryz.prog w=.ok (.value (.int .i64 (((aX m c).getD 0:Nat):Int))) w:=by
 have h:=dJ (P:=Tryz.prog) (o:=o) (ρ:=ρ) 99 x y false ho (.map (some mb)) (.agg (bv c).toArray) _ hx hy (hm.look dz hc Tryz.underlying99 (pM w))
 have e:((aX m c).map evN).getD (.int .i64 0)=.int .i64 (((aX m c).getD 0:Nat):Int):=by cases aX m c<;>rfl
 rw [e] at h
 exact h
theorem oJ {P:Program} {ops:Array Oper} {rest:List Oper} {o:Oper} {a:Act} {w:World} {Q:Exit→Act→World→Prop} (hw:xaw o (yielded ops a.tmps)=true) (t:TypeId) (x:Operand) (ho:o.op=.buildSlice t 1 #[(0,x)]) (e n:Nat) (z v:Value) (hx:a.eval x=v) (ht:P.underlying t=some (.slice e)) (hs:(P.info? e).map (·.size)=some n) (hn:0<n) (h24:n≤16777216) (hz:∀ w,(zeroValue e).run P w=.ok z w) (hv:v.cells.size=n)
  (h:∀ w',hI w w' e v.cells→wpList P ops Q rest (a.put o.dst (.slice (some ⟨w.heap.size,0,none⟩) 1 1)) w'):wpList P ops Q (o :: rest) a w :=
 aC hw _ _ (bO t x ho hx ht hs hn h24 hz hv w) (h _ (cF w e v.cells))
theorem sj {P:Program} (t e s:Nat) (ht:P.underlying t=some (.slice e)) (hs:(P.info? e).map (·.size)=some s) (A:Option Addr) (len cap n:Nat) (hn:n≤cap) (w:World) :
  (Instr.sliceAt t (.slice A len cap) none (some (.int .i64 (n:Int))) none).run P w=.ok (.slice A n cap) w:=by
 have e2:P.elem t=e:=by simp [Program.elem,ht]
 rw [run_sliceAt_slice w t _ _ _ _ (by rw [e2];exact ht)]
 have h:=run_slice_h (P:=P) w t A len cap (by rw [e2];exact ht) .i64 (n:Int) (by omega) (by omega)
 rw [h,e2]
 cases hi:P.info? e with
 | none=>simp [hi] at hs
 | some i =>
  have h1:i.size=s:=by simpa [hi] using hs
  have e0:A.map (fun a=>a.add 0)=A:=by cases A<;>simp [Addr.add]
  simp [sizeOf,typeInfo,hi,h1,sliced,e0]
theorem qb {P:Program} {ρ:Operand→Value} {o:Oper} (t e s:Nat) (x y:Operand) (ho:o.op=.slice t x none (some y) none) (A:Option Addr) (len cap n:Nat) (hx:ρ x=.slice A len cap) (hy:ρ y=.int .i64 (n:Int)) (ht:P.underlying t=some (.slice e)) (hs:(P.info? e).map (·.size)=some s) (hn:n≤cap) (w:World) :
  (execOp ρ o).run P w=.ok (.value (.slice A n cap)) w:=by
 refine ie t x none (some y) none ho _ (fun W=>?_) w
 rw [hx,Option.map_some,hy]
 exact sj t e s ht hs A len cap n hn W
theorem oU (w:World) (l:List Itm) (A:Option Addr) (cap:Nat) (h:bB.At w w.heap.size [.slice A l.length cap] l) (hl:∀ x∈l,x.2.2.1.length≤1000000) (hlen:l.length≤1000000) (c:Hsh) (hc:okH c) :
  Calls Tryz.prog 39 #[.slice A l.length cap,.agg (bv c).toArray] w fun e w'=>e=.returned (.int .i64 (dI l c:Int))∧Below w.heap.size w w':=by
 obtain ⟨A',cap',e,hcl,hcm9,_,hA⟩:=ak h
 injection e with e1 e2 e3
 subst e1 e3
 have k9:(l.length:Int)≤9223372036854775807:=by omega
 have hszc:=eX hc
 have HCL:=ah hcl
 have HA:=ah hA
 have hmm:=@run_makeMap Tryz.prog
 clear hA hcl hcm9 e2
 go_enter Tryz.func39,Tryz.ntmps39
 go_wp2_with (first | ((with_reducible refine ag 3 ?_);(refine aW rfl 34 (.tmp 1) rfl (bv c).toArray rfl ?_);intro w1 hn;have H1:=ah hn;clear hn;simp only [xad,xaa,xac,xab]))
 refine (lP w1 l A cap (eY h H1.out.below) hl).mono ?_
 rintro e w2 ⟨mb,rfl,hmap,hb⟩
 dsimp only
 have H2:=ah (xae (H1.out.blk.below hb H1.out.blk.lt) (xae (H1.out.below.trans (xam hb H1.out.below.size)) hmap))
 clear hb hmap
 cases hR:Dr.bR (l.map itP)
 ·have HE:Hid (dI l c=0):=ah (by unfold dI;rw [hR];rfl)
  clear hR hmm
  go_wp2_with (first | ((with_reducible refine ag 5 ?_);(refine bq rfl 129 #[.map none,.slice none 0 0] (by kernel_rfl) ?_);intro w3 hn;have H3:=ah hn;clear hn;simp only [xad,xaa,xac,xab]) | ((with_reducible refine bI 5 16 ?_);(with_reducible refine ar rfl 129 (.tmp 5) (.tmp 16) rfl w2.heap.size #[.map none,.slice none 0 0] #[.map (some mb),.slice A l.length cap] 129 H3.out.blk ?_ ?_ ?_ ?_ ?_ ?_);kernel_rfl;rfl;kernel_rfl;rfl;rfl;intro w4 hk4 hg4;have h24:=H3.out.below.grown hg4 (by have:=H3.out.size;omega) (fun b hb=>(by have:=xao hb;omega));have H4:=ah (xae hk4 (xae (H2.out.1.below h24 H2.out.1.lt) (xae (H2.out.2.1.trans (xam h24 H2.out.2.1.size)) h24)));clear hk4 hg4 h24;simp only [xad]))
  go_ret
  exact ⟨by rw [HE.out];rfl,H4.out.2.2.1⟩
 ·have HRT:=ah hR
  have hmk:=(H2.out.2.2 hR).2
  have HMK2:=ah hmk
  clear hR hmk
  go_wp2_with (first | ((with_reducible refine ag 5 ?_);(refine bq rfl 129 #[.map none,.slice none 0 0] (by kernel_rfl) ?_);intro w3 hn;have H3:=ah hn;clear hn;simp only [xad,xaa,xac,xab]) | ((with_reducible refine bI 5 16 ?_);(with_reducible refine ar rfl 129 (.tmp 5) (.tmp 16) rfl w2.heap.size #[.map none,.slice none 0 0] #[.map (some mb),.slice A l.length cap] 129 H3.out.blk ?_ ?_ ?_ ?_ ?_ ?_);kernel_rfl;rfl;kernel_rfl;rfl;rfl;intro w4 hk4 hg4;have h24:=H3.out.below.grown hg4 (by have:=H3.out.size;omega) (fun b hb=>(by have:=xao hb;omega));have H4:=ah (xae hk4 (xae (H2.out.1.below h24 H2.out.1.lt) (xae (H2.out.2.1.trans (xam h24 H2.out.2.1.size)) h24)));clear hk4 hg4 h24;simp only [xad]) | ((with_reducible refine ag 22 ?_);(refine aC (by kernel_rfl) (.map (some mb)) w4 (exec_load_cell 127 (.tmp 21) rfl ⟨w2.heap.size,0,none⟩ rfl _ _ w4 Tryz.underlying127 rfl (show w4.cell? ⟨w2.heap.size,0,none⟩=some (.map (some mb)) from H4.out.1.cell 0)) ?_)) | ((with_reducible refine ag 23 ?_);(refine aC (by kernel_rfl) (.agg ((bv c).toArray)) w4 (av 34 (.tmp 3) rfl w.heap.size rfl 34 _ _ w4 H4.out.2.1 Tryz.underlying34 rfl hszc) ?_)) | ((with_reducible refine ag 24 ?_);(refine oJ (by kernel_rfl) 27 (.tmp 23) rfl 34 20 (.agg zcH) (.agg (bv c).toArray) rfl Tryz.underlying27 ei (by decide) (by decide) (fun w=>by kernel_rfl) (by rw [Value.cells,xal,bvL];exact hc) ?_);intro w5 hn;have H5:=ah hn;clear hn;simp only [xad,xaa,xac,xab]))
  have hm5:bH hV okH evN w5 mb (de l):=HMK2.out.below (H4.out.2.2.2.trans (xam H5.out.below H4.out.2.2.2.size)) HMK2.out.lt
  have hone5:pQ c (.slice (some ⟨w4.heap.size,0,none⟩) 1 1) w5:=⟨_,rfl,H5.out.blk⟩
  have hat5:=hone5.at_ hc
  have HM5:=ah hm5
  clear hm5 hone5
  refine (hJ w5 mb (de l) HM5.out [c] _ hat5).mono ?_
  rintro e w6 ⟨rfl,hb⟩
  rw [kt]
  dsimp only
  have h46:=H5.out.below.trans (xam hb H5.out.below.size)
  have H6:=ah (xae (H4.out.1.below h46 H4.out.1.lt) (xae (H4.out.2.1.below h46 H4.out.2.1.lt) (xae (H4.out.2.2.1.trans (xam h46 H4.out.2.2.1.size)) h46)))
  have HMK:=ah (HM5.out.below hb HM5.out.lt)
  clear hb h46 hat5
  cases hK:(aX (de l) c).isSome
  ·have HE:Hid (dI l c=0):=ah (by unfold dI;rw [HRT.out,hK];rfl)
   clear hK hmm
   go_wp2_with fail
   go_ret
   exact ⟨by rw [HE.out];rfl,H6.out.2.2.1⟩
  ·have HE:Hid (dI l c=Dr.cE (l.map itP) c):=ah (by unfold dI;rw [HRT.out,hK];rfl)
   have HCM:=ah (gP hK)
   clear hK
   have hget:=nA ((Dr.dQ _).1 HRT.out) HCM.out
   have hm9:=qK HCM.out
   obtain ⟨m,hm⟩:∃ m,m=fT (l.map itP) c:=⟨_,rfl⟩
   rw [xat] at hm9
   rw [← hm] at hget hm9
   have HM:=ah (xae hm hget)
   clear hm hget
   have HD0:Hid (bH hV okH evN (w6.alloc (.map #[] 0)) w6.heap.size ([]:List (Hsh×Nat))∧Below w6.heap.size w6 (w6.alloc (.map #[] 0))):=ah ⟨jz w6,(xaq _ w6).alloc (xai _) _⟩
   have hmcap:m+1≤cap:=by have:=HCL.out;omega
   go_wp2_with (first | ((with_reducible refine ag 28 ?_);(refine aa rfl (.map (some w6.heap.size)) (w6.alloc (.map #[] 0)) (by kernel_rfl) ?_);(generalize hw7:w6.alloc (.map #[] 0)=w7 at HD0 ⊢);have H7:=ah (xae (H6.out.1.below HD0.out.2 H6.out.1.lt) (xae (H6.out.2.1.below HD0.out.2 H6.out.2.1.lt) (xae (H6.out.2.2.1.trans (xam HD0.out.2 H6.out.2.2.1.size)) (HMK.out.below HD0.out.2 HMK.out.lt))));clear hw7;simp only [xad,xaa,xac,xab]) | ((with_reducible refine ag 31 ?_);(refine aa rfl (.map (some mb)) w7 (exec_load_cell 127 (.tmp 30) rfl ⟨w2.heap.size,0,none⟩ rfl _ _ w7 Tryz.underlying127 rfl (show w7.cell? ⟨w2.heap.size,0,none⟩=some (.map (some mb)) from H7.out.1.cell 0)) ?_)) | ((with_reducible refine ag 32 ?_);(refine aa rfl (.agg ((bv c).toArray)) w7 (av 34 (.tmp 3) rfl w.heap.size rfl 34 _ _ w7 H7.out.2.1 Tryz.underlying34 rfl hszc) ?_)) | ((with_reducible refine ag 33 ?_);(refine aa rfl (.int .i64 (m:Int)) w7 (mB H7.out.2.2.2 hc HM.out.2 (.tmp 31) (.tmp 32) rfl rfl rfl) ?_)) | ((with_reducible refine ag 35 ?_);(refine aa rfl (.slice A (m+1) cap) w7 (qb 22 59 23 (.tmp 29) (.tmp 34) rfl A l.length cap (m+1) rfl (by show Value.int .i64 ((m:Int)+1)=_;rfl) Tryz.underlying22 cI hmcap w7) ?_)))
   obtain ⟨dmb,hdmb⟩:∃ dmb,dmb=w6.heap.size:=⟨_,rfl⟩
   rw [← hdmb] at HD0 ⊢
   have HB6:=ah (show w.heap.size≤dmb by rw [hdmb];exact H6.out.2.2.1.size)
   have HKC:=ah (show w.heap.size<dmb by rw [hdmb];exact H6.out.2.1.lt)
   clear hdmb hmm
   go_loopw [37] (fun x37 wr=>∃ (j:Nat) (dm:List (Hsh×Nat)),j≤m+1∧x37=.int .i64 (j:Int)∧bH hV okH evN wr dmb dm∧qT l j dm∧Blk wr w.heap.size 34 (bv c).toArray∧Below w.heap.size w wr) (fun x37 _=>m+1-(intOf x37).toNat)
   case atStart=>exact ⟨0,[],by omega,rfl,HD0.out.1,xK l,H7.out.2.1,H7.out.2.2.1⟩
   case round =>
    obtain ⟨wo,rfl⟩:∃ wo,wo=wr:=⟨_,rfl⟩
    obtain ⟨j,dm,hj,rfl,hdm,hok,hkc,hbw⟩:=hrel
    have HI:=ah (xae hdm (xae hok (xae hkc hbw)))
    clear hdm hok hkc hbw
    have j0:(0:Int)≤(j:Int):=by omega
    by_cases hj3:j<m+1
    ·have hj2:j<l.length:=by omega
     have j1:(j:Int)<(l.length:Int):=by omega
     obtain ⟨x,hx⟩:∃ x,l[j]?=some x:=⟨_,xaj hj2⟩
     obtain ⟨b,off,rfl,hlb,hE⟩:=HA.out (by omega)
     obtain ⟨cs,hr,hatx⟩:=hE j x hx
     obtain ⟨q1,q2,rfl,hxo,hxd⟩:=bP.1 hatx
     obtain ⟨B1,k1,rfl,_⟩:=ak hxd.ins
     obtain ⟨B2,k2,rfl,_⟩:=ak hxd.rcp
     obtain ⟨q1,hq1⟩:∃ q1,q1=xag B1 x.2.2.1.length k1:=⟨_,rfl⟩
     obtain ⟨q2,hq2⟩:∃ q2,q2=xag B2 x.2.2.2.length k2:=⟨_,rfl⟩
     have hone1:q1.oneCell'=true∧q2.oneCell'=true:=by rw [hq1,hq2];exact ⟨rfl,rfl⟩
     rw [← hq1,← hq2] at hr hatx
     rw [← hq1,← hq2] at hxd
     have hbnd:=hl x (xak hx)
     have HX:=ah (xae (a7 hr (HI.out.2.2.2.block b (by omega))) (xae hxo hxd))
     have HXX:=ah hx
     have hszt2:(Tryz.prog.info? 59).map (·.size)=some (tC x q1 q2).toArray.size:=by rw [show (tC x q1 q2).toArray.size=23 by rw [xal];exact dh hxo];kernel_rfl
     have hszt:(Tryz.prog.info? 59).map (·.size)=some (tC x q1 q2).length:=by simpa using hszt2
     have hszzt:zcT.size=(tC x q1 q2).toArray.size:=by rw [show (tC x q1 q2).toArray.size=23 by rw [xal];exact dh hxo];kernel_rfl
     have honet:(tC x q1 q2).toArray.all (·.oneCell')=true:=all_oneCell_toArray (iD x hone1.1 hone1.2)
     have hszx:(Tryz.prog.info? 34).map (·.size)=some (bv x.1).length:=by have:=eX hxo;simpa using this
     have hszx2:=eX hxo
     clear hx hE hr hatx hxd hq1 hq2
     have j2:(j:Int)<((m+1:Nat):Int):=by omega
     go_wp2_with (first | ((with_reducible refine ag 39 ?_);(refine aa rfl (.pointer (some ⟨b,off+(j:Int).toNat*23,none⟩)) wo (aH 22 59 (.tmp 35) (.tmp 37) rfl b off (m+1) cap (j:Int) .i64 rfl rfl ⟨j0,j2⟩ 23 Tryz.underlying22 cI wo) ?_;rw [show off+(j:Int).toNat*23=off+j*23 by omega])) | ((with_reducible refine ag 40 ?_);(refine aa rfl (.agg (tC x q1 q2).toArray) wo (aj 59 (.tmp 39) rfl b (off+j*23) rfl (tC x q1 q2) _ wo HX.out.1 Tryz.underlying59 rfl hszt) ?_)) | ((with_reducible refine ag 9 ?_);((with_reducible refine bD (o1:=⟨some 9,_,_,_,_,_⟩) (o2:=⟨none,_,_,_,_,_⟩) rfl rfl 59 (.tmp 9) (.tmp 40) ?_ zcT (tC x q1 q2).toArray ?_ hszt2 ?_ honet ?_ ?_ ?_);rfl;kernel_rfl;exact hszzt;rfl;rfl;intro w8 hmm hbb;have H8:=ah (xae hmm hbb);clear hmm hbb;simp only [xad,xaa,xac,xab])) | ((with_reducible refine ag 42 ?_);(refine aa rfl (.agg (dC x.2 q1 q2).toArray) w8 (aj 26 (.tmp 41) rfl wo.heap.size (20) rfl (dC x.2 q1 q2) _ w8 (fL HX.out.2.1 H8.out.1) Tryz.underlying26 rfl (by kernel_rfl)) ?_)))
     have hat8:aK w8 w8.heap.size x.2 q1 q2:=HX.out.2.2.gA (HI.out.2.2.2.trans (xam H8.out.2 HI.out.2.2.2.size))
     have hcok:=ll hat8.okn
     refine (eo w8 x.2 q1 q2 hat8 hbnd).mono ?_
     rintro e w9 ⟨uc,rfl,hoc,hb⟩
     obtain ⟨Ac,cc,rfl⟩:=gU hoc
     dsimp only
     have h9:=H8.out.2.trans (xam hb H8.out.2.size)
     obtain ⟨N,hN⟩:∃ N,N=(az x.2.2.1).length:=⟨_,rfl⟩
     rw [← hN] at hoc ⊢
     have hN9:(N:Int)≤1000000:=by have:=dZ x.2.2.1 x.2.2.1.length;rw [xaB] at this;omega
     have H9:=ah (xae (H8.out.1.below hb H8.out.1.lt) (xae (HI.out.1.below h9 HI.out.1.lt) (xae hoc (xae (HI.out.2.2.1.below h9 HI.out.2.2.1.lt) (HI.out.2.2.2.trans (xam h9 HI.out.2.2.2.size))))))
     have HCO:=ah (xae hcok hN)
     have HZ9:=ah (xay HI.out.2.2.2.size H8.out.2.size)
     have hwo8:=H8.out.1.lt
     clear hb h9 hoc hcok hN hat8
     go_wp2_with fail
     go_loopw [10,45] (fun x10 x45 wr=>∃ (k:Nat),k≤N∧x10=.int .i64 (Dr.maxOf (((az x.2.2.1).take k).map fun c=>(aX dm c).getD 0):Int)∧x45=.int .i64 (k:Int)∧Below w9.heap.size w9 wr) (fun _ x45 _=>N-(intOf x45).toNat)
     case atStart=>exact ⟨0,by omega,rfl,rfl,xaq _ _⟩
     case round =>
      obtain ⟨wi,rfl⟩:∃ wi,wi=wr:=⟨_,rfl⟩
      obtain ⟨k,hk,rfl,rfl,hb⟩:=hrel
      have HB:=ah hb
      clear hb
      have k0:(0:Int)≤(k:Int):=by omega
      by_cases hk2:k<N
      ·have k1:(k:Int)<(N:Int):=by omega
       obtain ⟨z,hz⟩:∃ z,(az x.2.2.1)[k]?=some z:=⟨_,xaj (by rw [← HCO.out.2];exact hk2)⟩
       have hzo:=HCO.out.1 z (xak hz)
       have hown9:=an H9.out.2.2.1 fun g _ hl9=>HB.out.block g hl9
       obtain ⟨g5,cap5,he5⟩:=cN hown9 (by omega)
       injection he5 with e51 _ e53
       subst e51 e53
       have hrz:wi.rangeAt g5 (k*20) (bv z):=gV hown9 (k*20) 20 _ (ly HCO.out.1 hz)
       have HRZ:=ah hrz
       have hszy2:=eX hzo
       have hszy:(Tryz.prog.info? 34).map (·.size)=some (bv z).length:=by simpa using hszy2
       have hszz:zcH.size=(bv z).toArray.size:=by rw [show (bv z).toArray.size=20 by rw [xal,bvL];exact hzo];kernel_rfl
       have hone:(bv z).toArray.all (·.oneCell')=true:=all_oneCell_toArray (bv1 z)
       have hsn:Dr.maxOf (((az x.2.2.1).take (k+1)).map fun c=>(aX dm c).getD 0)=max (Dr.maxOf (((az x.2.2.1).take k).map fun c=>(aX dm c).getD 0)) ((aX dm z).getD 0):=by rw [xaz,hz,List.map_append];exact nK _ _
       have HSN:=ah hsn
       obtain ⟨v,hv⟩:∃ v,v=(aX dm z).getD 0:=⟨_,rfl⟩
       obtain ⟨mo,hmo⟩:∃ mo,mo=Dr.maxOf (((az x.2.2.1).take k).map fun c=>(aX dm c).getD 0):=⟨_,rfl⟩
       rw [← hmo]
       have hva:=fun W (hm9:bH hV okH evN W dmb dm) ρ o (a b:Operand) h1 h2 h3=>rO (w:=W) hm9 hzo (ρ:=ρ) (o:=o) a b h1 h2 h3
       rw [← hv] at hva
       have HVA:=ah hva
       have HZ:=ah (xae hzo (xae hv hmo))
       clear hz hzo hrz hown9 hsn hv hmo hva
       by_cases hmx:(mo:Int)<(v:Int)
       ·go_wp2_with (first | ((with_reducible refine ag 47 ?_);(refine aa rfl (.pointer (some ⟨g5,k*20,none⟩)) wi (gJ 27 34 (.tmp 43) (.tmp 45) rfl g5 N cc k rfl rfl hk2 20 Tryz.underlying27 ei wi) ?_)) | ((with_reducible refine ag 48 ?_);(refine aa rfl (.agg (bv z).toArray) wi (aj 34 (.tmp 47) rfl g5 (k*20) rfl (bv z) _ wi HRZ.out Tryz.underlying34 rfl hszy) ?_)) | ((with_reducible refine ag 12 ?_);((with_reducible refine bD (o1:=⟨some 12,_,_,_,_,_⟩) (o2:=⟨none,_,_,_,_,_⟩) rfl rfl 34 (.tmp 12) (.tmp 48) ?_ zcH (bv z).toArray ?_ hszy2 ?_ hone ?_ ?_ ?_);rfl;kernel_rfl;exact hszz;rfl;rfl;intro wb hmm hbb;have HBX:=ah (xae hmm hbb);clear hmm hbb;simp only [xad,xaa,xac,xab])) | ((with_reducible refine ag 51 ?_);(refine aa rfl (.agg ((bv z).toArray)) wb (av 34 (.tmp 12) rfl wi.heap.size rfl 34 _ _ wb HBX.out.1 Tryz.underlying34 rfl hszy2) ?_)) | ((with_reducible refine ag 52 ?_);(refine aa rfl (.int .i64 (v:Int)) wb (HVA.out wb ((H9.out.2.1.below HB.out H9.out.2.1.lt).below HBX.out.2 (H9.out.2.1.below HB.out H9.out.2.1.lt).lt) _ _ (.tmp 50) (.tmp 51) rfl rfl rfl) ?_)))
        go_roundw
        case rel=>exact ⟨k+1,by omega,by (rw [HSN.out,← HZ.out.2.2,← HZ.out.2.1];congr 1;omega),by go_num,HB.out.trans (xam HBX.out.2 HB.out.size)⟩
        case measure=>simp [intOf];omega
       ·go_wp2_with (first | ((with_reducible refine ag 47 ?_);(refine aa rfl (.pointer (some ⟨g5,k*20,none⟩)) wi (gJ 27 34 (.tmp 43) (.tmp 45) rfl g5 N cc k rfl rfl hk2 20 Tryz.underlying27 ei wi) ?_)) | ((with_reducible refine ag 48 ?_);(refine aa rfl (.agg (bv z).toArray) wi (aj 34 (.tmp 47) rfl g5 (k*20) rfl (bv z) _ wi HRZ.out Tryz.underlying34 rfl hszy) ?_)) | ((with_reducible refine ag 12 ?_);((with_reducible refine bD (o1:=⟨some 12,_,_,_,_,_⟩) (o2:=⟨none,_,_,_,_,_⟩) rfl rfl 34 (.tmp 12) (.tmp 48) ?_ zcH (bv z).toArray ?_ hszy2 ?_ hone ?_ ?_ ?_);rfl;kernel_rfl;exact hszz;rfl;rfl;intro wb hmm hbb;have HBX:=ah (xae hmm hbb);clear hmm hbb;simp only [xad,xaa,xac,xab])) | ((with_reducible refine ag 51 ?_);(refine aa rfl (.agg ((bv z).toArray)) wb (av 34 (.tmp 12) rfl wi.heap.size rfl 34 _ _ wb HBX.out.1 Tryz.underlying34 rfl hszy2) ?_)) | ((with_reducible refine ag 52 ?_);(refine aa rfl (.int .i64 (v:Int)) wb (HVA.out wb ((H9.out.2.1.below HB.out H9.out.2.1.lt).below HBX.out.2 (H9.out.2.1.below HB.out H9.out.2.1.lt).lt) _ _ (.tmp 50) (.tmp 51) rfl rfl rfl) ?_)))
        go_roundw
        case rel=>exact ⟨k+1,by omega,by (rw [HSN.out,← HZ.out.2.2,← HZ.out.2.1];congr 1;omega),by go_num,HB.out.trans (xam HBX.out.2 HB.out.size)⟩
        case measure=>simp [intOf];omega
      ·obtain rfl:k=N:=by omega
       have htk:(az x.2.2.1).take k=az x.2.2.1:=by rw [HCO.out.2,xaB]
       obtain ⟨mo,hmo⟩:∃ mo,mo=Dr.maxOf ((az x.2.2.1).map fun c=>(aX dm c).getD 0):=⟨_,rfl⟩
       rw [htk,← hmo]
       have hmo9:(mo:Int)≤1000000:=by have h9:=zO HI.out.2.1 (az x.2.2.1);omega
       have hds:=xJ HI.out.2.1 HXX.out
       rw [← hmo] at hds
       have HDS:=ah hds
       have hm9:=H9.out.2.1.below HB.out H9.out.2.1.lt
       obtain ⟨w10,r1,r2,r3⟩:=bH.update hm9 dz HX.out.2.1 Tryz.underlying99 (mo+1)
       have HU:=ah (xae r1 (xae r2 r3))
       clear r1 r2 r3 htk hmo hds hm9
       go_wp2_with (first | ((with_reducible refine ag 57 ?_);(refine aa rfl (.agg (bv x.1).toArray) wi (aj 34 (.tmp 56) rfl wo.heap.size (0) rfl (bv x.1) _ wi (fh HX.out.2.1 (H9.out.1.below HB.out H9.out.1.lt)) Tryz.underlying34 rfl hszx) ?_)) | (refine ff rfl 99 (.tmp 55) (.tmp 57) (.tmp 59) rfl (.map (some dmb)) (.agg (bv x.1).toArray) (evN (mo+1)) rfl rfl rfl HU.out.1 ?_))
       go_roundw
       case rel=>exact ⟨j+1,_,by omega,by go_num,HU.out.2.1,HDS.out,(HU.out.2.2.2.1 _ (by have:=H9.out.2.1.lt;have:=HB6.out;have:=HKC.out;omega)).trans (H9.out.2.2.2.1.below HB.out H9.out.2.2.2.1.lt),(H9.out.2.2.2.2.trans (xam HB.out H9.out.2.2.2.2.size)).grown HU.out.2.2.grown (xay H9.out.2.2.2.2.size HB.out.size) (fun k9 e9=>by have:=xao e9;have:=HB6.out;omega)⟩
       case measure=>simp [intOf];omega
    ·obtain rfl:j=m+1:=by omega
     have hfin:(aX dm c).getD 0=Dr.cE (l.map itP) c:=by rw [vq,← HM.out.1];exact (HI.out.2.1 c).1
     have HF:=ah hfin
     clear hfin
     go_wp2_with (first | ((with_reducible refine ag 62 ?_);(refine aa rfl (.agg ((bv c).toArray)) wo (av 34 (.tmp 3) rfl w.heap.size rfl 34 _ _ wo HI.out.2.2.1 Tryz.underlying34 rfl hszc) ?_)) | ((with_reducible refine ag 63 ?_);(refine aa rfl (.int .i64 (((aX dm c).getD 0:Nat):Int)) wo (rO HI.out.1 hc (.tmp 61) (.tmp 62) rfl rfl rfl) ?_)))
     go_ret
     exact ⟨by rw [HE.out,← HF.out];rfl,HI.out.2.2.2⟩
end Go.Proofs.YtomnhnmciopiiaaGreat
end
section
namespace Go.Proofs.YtomnhnmciopiiaaGreat
open Go Go.RowKit Go.Maps
theorem sx {H:Type} [DecidableEq H] (l:List (Dr.It H)) (x:Dr.It H) (c:H):Dr.cy (l++[x]) c=Dr.cy l c++(if c∈x.ins then [x.cls] else []):=by
 unfold Dr.cy
 rw [List.filter_append,List.map_append]
 congr 1
 by_cases h:c∈x.ins
 ·simp [h]
 ·simp [h]
theorem pL {H:Type} [DecidableEq H] (l:List (Dr.It H)) (c:H):(Dr.cy l c).length≤l.length:=by
 unfold Dr.cy
 rw [xat]
 exact List.length_filter_le _ _
theorem zw (l:List Itm) (c:Hsh) (j:Nat):(Dr.cy ((l.take j).map itP) c).length≤j:=by
 refine xay (pL _ _) ?_
 rw [xat,xaJ]
 omega
theorem um {l:List Itm} {j:Nat} {x:Itm} {c:Hsh} (h:l[j]?=some x):Dr.cy ((l.take (j+1)).map itP) c=Dr.cy ((l.take j).map itP) c++(if c∈az x.2.2.1 then [x.1] else []):=by
 rw [xaz,h]
 have e:(l.take j++(some x).toList).map itP=(l.take j).map itP++[itP x]:=by simp
 rw [e,sx]
 congr 1
 by_cases hm:c∈az x.2.2.1
 ·rw [if_pos hm,if_pos (show c∈(itP x).ins from hm)]
  rfl
 ·rw [if_neg hm,if_neg (show ¬ c∈(itP x).ins from hm)]
def dX (l:List Itm) (c:Hsh) (j:Nat):List Hsh:=Dr.cy ((l.take j).map itP) c
theorem xl (l:List Itm) (c:Hsh) (j:Nat):(dX l c j).length≤j:=zw l c j
theorem uk (l:List Itm) (c:Hsh):dX l c l.length=Dr.cy (l.map itP) c:=by unfold dX;rw [xaB]
def gH (x:Itm) (c:Hsh) (k:Nat):List Hsh:=if c∈(az x.2.2.1).take k then [x.1] else []
theorem vd (x:Itm) (c:Hsh):gH x c 0=[]:=by simp [gH]
theorem uu (x:Itm) (c:Hsh) (k:Nat):(gH x c k).length≤1:=by
 unfold gH
 split<;>simp
theorem xA {x:Itm} {c:Hsh}:gH x c (az x.2.2.1).length=if c∈az x.2.2.1 then [x.1] else []:=by
 unfold gH
 rw [xaB]
theorem sy {l:List Itm} {j:Nat} {x:Itm} {c:Hsh} (h:l[j]?=some x):dX l c (j+1)=dX l c j++gH x c (az x.2.2.1).length:=by rw [xA];exact um h
theorem oS:∀ (l:List Nam) (out:List Hsh),out.Nodup→(l.foldl (fun out x=>if x.2.2.2=true∧x.2.2.1 ∉ out then out++[x.2.2.1] else out) out).Nodup
 | [],out,h=>h
 | x :: l,out,h=>by
  refine oS l _ ?_
  dsimp only
  split
  ·rename_i hc
   rw [xbq]
   exact ⟨h,by simp,fun a ha b hb e=>hc.2 (by rw [xan.1 hb] at e;exact e▸ha)⟩
  ·exact h
theorem sM (l:List Nam):(az l).Nodup:=oS l [] List.nodup_nil
theorem vc {x:Itm} {c z:Hsh} {k:Nat} (hz:(az x.2.2.1)[k]?=some z):if z=c then gH x c k=[]∧gH x c (k+1)=[x.1] else gH x c (k+1)=gH x c k:=by
 have e:(az x.2.2.1).take (k+1)=(az x.2.2.1).take k++[z]:=by rw [xaz,hz];rfl
 split
 ·rename_i h
  subst h
  have hn:=sM x.2.2.1
  have hnot:z ∉ (az x.2.2.1).take k:=fun hm=>by
   have h2:((az x.2.2.1).take (k+1)).Nodup:=hn.sublist (List.take_sublist _ _)
   rw [e,xbq] at h2
   exact h2.2.2 z hm z (xan.2 rfl) rfl
  unfold gH
  rw [if_neg hnot,e,if_pos (by simp)]
  exact ⟨rfl,rfl⟩
 ·rename_i h
  unfold gH
  rw [e]
  have h':¬ c=z:=fun e=>h e.symm
  simp [h']
theorem xm (w:World) (l:List Itm) (A:Option Addr) (cap:Nat) (h:bB.At w w.heap.size [.slice A l.length cap] l) (hl:∀ x∈l,x.2.2.1.length≤1000000) (hlen:l.length≤1000000) (c:Hsh) (hc:okH c) :
  Calls Tryz.prog 41 #[.slice A l.length cap,.agg (bv c).toArray] w fun e w'=>∃ u,e=.returned u∧w'.ownsRow w.heap.size 34 20 u (Dr.cy (l.map itP) c).length ((Dr.cy (l.map itP) c).flatMap bv)∧Below w.heap.size w w':=by
 obtain ⟨ih,hih,hq0,hq1,hq2⟩:=info_parts dM
 have HJ:=ah (xae hih (xae hq0 (xae hq1 hq2)))
 clear hih hq0 hq1 hq2
 obtain ⟨A',cap',e,hcl,hcm9,_,hA⟩:=ak h
 injection e with e1 e2 e3
 subst e1 e3
 have k9:(l.length:Int)≤9223372036854775807:=by omega
 have hszc:=eX hc
 have HA:=ah hA
 clear hA hcl hcm9 e2
 go_enter Tryz.func41,Tryz.ntmps41
 go_wp2_with (first | ((with_reducible refine ag 3 ?_);(refine aW rfl 34 (.tmp 1) rfl (bv c).toArray rfl ?_);intro w1 hn;have H1:=ah hn;clear hn;simp only [xad,xaa,xac,xab]))
 go_loopw [4,11] (fun x4 x11 wr=>∃ (j:Nat) (u:Value),j≤l.length∧u=x4∧x11=.int .i64 (j:Int)∧Blk wr w.heap.size 34 (bv c).toArray∧wr.ownsRow w1.heap.size 34 20 u (dX l c j).length ((dX l c j).flatMap bv)∧Below w.heap.size w wr) (fun _ x11 _=>l.length-(intOf x11).toNat)
 case atStart=>exact ⟨0,_,by omega,rfl,rfl,H1.out.blk,xaW _ _ _ _,H1.out.below⟩
 case round =>
  obtain ⟨wo,rfl⟩:∃ wo,wo=wr:=⟨_,rfl⟩
  obtain ⟨j,x4,hj,rfl,rfl,hk,hown,hbw⟩:=hrel
  have HI:=ah (xae hk (xae hown hbw))
  clear hk hown hbw
  have j0:(0:Int)≤(j:Int):=by omega
  by_cases hj2:j<l.length
  ·have j1:(j:Int)<(l.length:Int):=by omega
   obtain ⟨x,hx⟩:∃ x,l[j]?=some x:=⟨_,xaj hj2⟩
   obtain ⟨b,off,rfl,hlb,hE⟩:=HA.out (by omega)
   obtain ⟨cs,hr,hatx⟩:=hE j x hx
   obtain ⟨q1,q2,rfl,hxo,hxd⟩:=bP.1 hatx
   obtain ⟨B1,k1,rfl,_⟩:=ak hxd.ins
   obtain ⟨B2,k2,rfl,_⟩:=ak hxd.rcp
   obtain ⟨q1,hq1⟩:∃ q1,q1=xag B1 x.2.2.1.length k1:=⟨_,rfl⟩
   obtain ⟨q2,hq2⟩:∃ q2,q2=xag B2 x.2.2.2.length k2:=⟨_,rfl⟩
   have hone1:q1.oneCell'=true∧q2.oneCell'=true:=by rw [hq1,hq2];exact ⟨rfl,rfl⟩
   rw [← hq1,← hq2] at hr hatx
   rw [← hq1,← hq2] at hxd
   have hbnd:=hl x (xak hx)
   have HX:=ah (xae (a7 hr (HI.out.2.2.block b (by omega))) (xae hxo hxd))
   have HXX:=ah hx
   have hszt2:(Tryz.prog.info? 59).map (·.size)=some (tC x q1 q2).toArray.size:=by rw [show (tC x q1 q2).toArray.size=23 by rw [xal];exact dh hxo];kernel_rfl
   have hszt:(Tryz.prog.info? 59).map (·.size)=some (tC x q1 q2).length:=by simpa using hszt2
   have hszzt:zcT.size=(tC x q1 q2).toArray.size:=by rw [show (tC x q1 q2).toArray.size=23 by rw [xal];exact dh hxo];kernel_rfl
   have honet:(tC x q1 q2).toArray.all (·.oneCell')=true:=all_oneCell_toArray (iD x hone1.1 hone1.2)
   have hszx:(Tryz.prog.info? 34).map (·.size)=some (bv x.1).length:=by have:=eX hxo;simpa using this
   have hszx2:=eX hxo
   clear hx hE hr hatx hxd hq1 hq2
   go_wp2_with (first | ((with_reducible refine ag 13 ?_);(refine aa rfl (.pointer (some ⟨b,off+(j:Int).toNat*23,none⟩)) wo (aH 22 59 (.tmp 9) (.tmp 11) rfl b off l.length cap (j:Int) .i64 rfl rfl ⟨j0,j1⟩ 23 Tryz.underlying22 cI wo) ?_;rw [show off+(j:Int).toNat*23=off+j*23 by omega])) | ((with_reducible refine ag 14 ?_);(refine aa rfl (.agg (tC x q1 q2).toArray) wo (aj 59 (.tmp 13) rfl b (off+j*23) rfl (tC x q1 q2) _ wo HX.out.1 Tryz.underlying59 rfl hszt) ?_)) | ((with_reducible refine ag 6 ?_);((with_reducible refine bD (o1:=⟨some 6,_,_,_,_,_⟩) (o2:=⟨none,_,_,_,_,_⟩) rfl rfl 59 (.tmp 6) (.tmp 14) ?_ zcT (tC x q1 q2).toArray ?_ hszt2 ?_ honet ?_ ?_ ?_);rfl;kernel_rfl;exact hszzt;rfl;rfl;intro w8 hmm hbb;have H8:=ah (xae hmm hbb);clear hmm hbb;simp only [xad,xaa,xac,xab])) | ((with_reducible refine ag 16 ?_);(refine aa rfl (.agg (dC x.2 q1 q2).toArray) w8 (aj 26 (.tmp 15) rfl wo.heap.size (20) rfl (dC x.2 q1 q2) _ w8 (fL HX.out.2.1 H8.out.1) Tryz.underlying26 rfl (by kernel_rfl)) ?_)))
   have hat8:aK w8 w8.heap.size x.2 q1 q2:=HX.out.2.2.gA (HI.out.2.2.trans (xam H8.out.2 HI.out.2.2.size))
   have hcok:=ll hat8.okn
   refine (eo w8 x.2 q1 q2 hat8 hbnd).mono ?_
   rintro e w9 ⟨uc,rfl,hoc,hb⟩
   obtain ⟨Ac,cc,rfl⟩:=gU hoc
   dsimp only
   have h9:=H8.out.2.trans (xam hb H8.out.2.size)
   obtain ⟨N,hN⟩:∃ N,N=(az x.2.2.1).length:=⟨_,rfl⟩
   rw [← hN] at hoc ⊢
   have hN9:(N:Int)≤1000000:=by have:=dZ x.2.2.1 x.2.2.1.length;rw [xaB] at this;omega
   have H9:=ah (xae (H8.out.1.below hb H8.out.1.lt) (xae (an HI.out.2.1 fun g _ hl9=>h9.block g hl9) (xae hoc (xae (HI.out.1.below h9 HI.out.1.lt) (HI.out.2.2.trans (xam h9 HI.out.2.2.size))))))
   have HCO:=ah (xae hcok hN)
   have hol:(dX l c j).length≤j:=xl l c j
   have HZ9:=ah (xae H8.out.1.lt (xae HI.out.2.2.size hb.size))
   have HZ1:=ah (xae (show w1.heap.size≤w8.heap.size from by have:=H1.out.size;have:=HI.out.1.lt;have:=H8.out.1.lt;omega) (show w1.heap.size≤wo.heap.size from by have:=H1.out.size;have:=HI.out.1.lt;omega))
   clear hb h9 hoc hcok hN hat8
   go_wp2_with fail
   go_loopw [4,19] (fun x4 x19 wr=>∃ (k:Nat) (u:Value),k≤N∧u=x4∧x19=.int .i64 (k:Int)∧Blk wr wo.heap.size 59 (tC x q1 q2).toArray∧Blk wr w.heap.size 34 (bv c).toArray∧wr.ownsRow w8.heap.size 34 20 (.slice Ac N cc) N ((az x.2.2.1).flatMap bv)∧wr.ownsRow w1.heap.size 34 20 u ((dX l c j)++gH x c k).length (((dX l c j)++gH x c k).flatMap bv)∧(∀ g,u.ownBlock=some g→g<w8.heap.size∨w9.heap.size≤g)∧Below w.heap.size w wr∧w9.heap.size≤wr.heap.size) (fun _ x19 _=>N-(intOf x19).toNat)
   case atStart=>exact ⟨0,x4,by omega,rfl,rfl,H9.out.1,H9.out.2.2.2.1,H9.out.2.2.1,by rw [vd,xaT];exact H9.out.2.1,(fun g hg=>.inl (xa3 (aB HI.out.2.1 hg).2 H8.out.2.size)),H9.out.2.2.2.2,xai _⟩
   case round =>
    obtain ⟨wi,rfl⟩:∃ wi,wi=wr:=⟨_,rfl⟩
    obtain ⟨k,u4,hk,rfl,rfl,hbi,hbc,hoc,hou,hub,hbw,hsz9⟩:=hrel
    have HB:=ah (xae hbi (xae hbc (xae hoc (xae hou (xae hub (xae hbw hsz9))))))
    clear hbi hbc hoc hou hub hbw hsz9
    have k0:(0:Int)≤(k:Int):=by omega
    by_cases hk2:k<N
    ·have k1:(k:Int)<(N:Int):=by omega
     obtain ⟨z,hz⟩:∃ z,(az x.2.2.1)[k]?=some z:=⟨_,xaj (by rw [← HCO.out.2];exact hk2)⟩
     have hzo:=HCO.out.1 z (xak hz)
     obtain ⟨g5,cap5,he5⟩:=cN HB.out.2.2.1 (by omega)
     injection he5 with e51 _ e53
     subst e51 e53
     have hrz:wi.rangeAt g5 (k*20) (bv z):=gV HB.out.2.2.1 (k*20) 20 _ (ly HCO.out.1 hz)
     have HRZ:=ah hrz
     have hszy2:=eX hzo
     have hszy:(Tryz.prog.info? 34).map (·.size)=some (bv z).length:=by simpa using hszy2
     have hszz:zcH.size=(bv z).toArray.size:=by rw [show (bv z).toArray.size=20 by rw [xal,bvL];exact hzo];kernel_rfl
     have hone:(bv z).toArray.all (·.oneCell')=true:=all_oneCell_toArray (bv1 z)
     have hads:=vc (c:=c) hz
     have HADS:=ah hads
     have HZO:=ah (xae hzo hz)
     clear hz hzo hrz hads
     by_cases hzc:z=c
     ·have hd:=decide_eq_true hzc
      have HD:=ah hd
      rw [if_pos hzc] at HADS
      clear hd hzc
      have hhc:=HX.out.2.1
      go_wp2_with (first | ((with_reducible refine ag 21 ?_);(refine aa rfl (.pointer (some ⟨g5,k*20,none⟩)) wi (gJ 27 34 (.tmp 17) (.tmp 19) rfl g5 N cc k rfl rfl hk2 20 Tryz.underlying27 ei wi) ?_)) | ((with_reducible refine ag 22 ?_);(refine aa rfl (.agg (bv z).toArray) wi (aj 34 (.tmp 21) rfl g5 (k*20) rfl (bv z) _ wi HRZ.out Tryz.underlying34 rfl hszy) ?_)) | ((with_reducible refine ag 8 ?_);((with_reducible refine bD (o1:=⟨some 8,_,_,_,_,_⟩) (o2:=⟨none,_,_,_,_,_⟩) rfl rfl 34 (.tmp 8) (.tmp 22) ?_ zcH (bv z).toArray ?_ hszy2 ?_ hone ?_ ?_ ?_);rfl;kernel_rfl;exact hszz;rfl;rfl;intro wb hmm hbb;have HBX:=ah (xae hmm hbb);clear hmm hbb;simp only [xad,xaa,xac,xab])) | ((with_reducible refine ag 23 ?_);(refine aa rfl (.agg ((bv z).toArray)) wb (av 34 (.tmp 8) rfl wi.heap.size rfl 34 _ _ wb HBX.out.1 Tryz.underlying34 rfl hszy2) ?_)) | ((with_reducible refine ag 24 ?_);(refine aa rfl (.agg ((bv c).toArray)) wb (av 34 (.tmp 3) rfl w.heap.size rfl 34 _ _ wb (HB.out.2.1.below HBX.out.2 HB.out.2.1.lt) Tryz.underlying34 rfl hszc) ?_)) | ((with_reducible refine ag 25 ?_);(refine aa rfl (.bool true) wb (bU .eql 34 (.tmp 23) (.tmp 24) _ rfl (bv z).toArray (bv c).toArray rfl rfl (by kernel_rfl) _ (fun W=>by have h:=dH z c HZO.out.1 hc W;rw [HD.out] at h;exact h) wb) ?_)) | ((with_reducible refine ag 28 ?_);(refine aa rfl (.agg (bv x.1).toArray) wb (aj 34 (.tmp 27) rfl wo.heap.size (0) rfl (bv x.1) _ wb (fh HX.out.2.1 (HB.out.1.below HBX.out.2 HB.out.1.lt)) Tryz.underlying34 rfl hszx) ?_)) | ((with_reducible refine ag 29 ?_);(refine aG rfl 27 (.tmp 28) rfl 34 20 (.agg zcH) (.agg (bv x.1).toArray) rfl Tryz.underlying27 ei (by decide) (by decide) (fun w=>by kernel_rfl) (by rw [Value.cells,xal,bvL];exact hhc) ?_);intro wc hn;have HC:=ah (xae (hn.src (cs:=bv x.1) (n:=20) (by rw [bvL];exact hxo) (bv1 x.1)) (xae (an HB.out.2.2.2.1 fun g _ hl9=>(HBX.out.2.trans (xam hn.below HBX.out.2.size)).block g hl9) (HBX.out.2.trans (xam hn.below HBX.out.2.size))));clear hn;simp only [xad,xaa,xac,xab]) | (at_builtin;((with_reducible refine ag 30 ?_);refine aD rfl _ _ 27 rfl w1.heap.size 34 ih _ 20 20 Tryz.underlying27 HJ.out.1 HJ.out.2.1 HJ.out.2.2.1 HJ.out.2.2.2 rfl (by decide) _ (((dX l c j)++gH x c k).length) (((dX l c j)++gH x c k).flatMap bv) HC.out.2.1 (some ⟨wb.heap.size,0,none⟩) 1 1 (bv x.1) HC.out.1 ?hm1 ?hb1 ?hz1 rfl rfl ?_)))
      case hm1=>have:=uu x c k;(try rw [xap]);simp only [maxLen];omega
      case hb1=>have:=uu x c k;(try rw [xap]);omega
      case hz1=>have:=HB.out.2.2.2.2.2.2;have:=HZ9.out.2.2;have:=HZ9.out.1;have:=HC.out.2.2.size;have:=HZ1.out;omega
      intro u9 wd own9 gr9 hub9
      have h9:wd.ownsRow w1.heap.size 34 20 u9 ((dX l c j)++gH x c (k+1)).length (((dX l c j)++gH x c (k+1)).flatMap bv):=by rw [HADS.out.2];have e:=HADS.out.1;rw [e] at own9;simpa using own9
      have hwo:w1.heap.size≤wo.heap.size:=HZ1.out.2
      have hbi9:=HB.out.1.below HC.out.2.2 HB.out.1.lt
      have hbc9:=HB.out.2.1.below HC.out.2.2 HB.out.2.1.lt
      have hoc9:=an HB.out.2.2.1 fun g _ hl9=>HC.out.2.2.block g hl9
      have r1:Blk wd wo.heap.size 59 (tC x q1 q2).toArray:=(gr9.block _ hbi9.lt (fun e=>ew HC.out.2.1 hbi9 (by decide) e.symm)).trans hbi9
      have r2:Blk wd w.heap.size 34 (bv c).toArray:=(gr9.block _ hbc9.lt (fun e=>by have:=(aB HC.out.2.1 e.symm).1;have:=H1.out.size;omega)).trans hbc9
      have r3:=an hoc9 fun g hg hl9=>gr9.block g hl9 (fun e=>by have h1:=aB H9.out.2.2.1 hg;rcases HB.out.2.2.2.2.1 g e.symm with h2 | h2<;>omega)
      have r4:∀ g,u9.ownBlock=some g→g<w8.heap.size∨w9.heap.size≤g:=fun g hg=>by
       rcases hub9 with h1 | h1
       ·exact HB.out.2.2.2.2.1 g (by rw [← h1];exact hg)
       ·rw [h1] at hg
        have:=xao hg
        have h2:=HB.out.2.2.2.2.2.2
        have h3:=HC.out.2.2.size
        have h4:=HBX.out.2.size
        exact .inr (by omega)
      have r5:Below w.heap.size w wd:=(HB.out.2.2.2.2.2.1.trans (xam HC.out.2.2 HB.out.2.2.2.2.2.1.size)).grown gr9 (xay HB.out.2.2.2.2.2.1.size HC.out.2.2.size) (fun k9 hk9=>by have:=(aB HC.out.2.1 hk9).1;have:=H1.out.size;omega)
      have r6:w9.heap.size≤wd.heap.size:=xay HB.out.2.2.2.2.2.2 (xay HC.out.2.2.size gr9.size)
      have HG:=ah (xae r1 (xae r2 (xae r3 (xae h9 (xae r4 (xae r5 r6))))))
      clear own9 gr9 h9 hub9 r1 r2 r3 r4 r5 r6 hbi9 hbc9 hoc9
      go_wp2_with fail
      go_roundw
      case rel=>exact ⟨k+1,u9,by omega,rfl,by go_num,HG.out⟩
      case measure=>simp [intOf];omega
     ·have hd:=decide_eq_false hzc
      have HD:=ah hd
      rw [if_neg hzc] at HADS
      clear hd hzc
      go_wp2_with (first | ((with_reducible refine ag 21 ?_);(refine aa rfl (.pointer (some ⟨g5,k*20,none⟩)) wi (gJ 27 34 (.tmp 17) (.tmp 19) rfl g5 N cc k rfl rfl hk2 20 Tryz.underlying27 ei wi) ?_)) | ((with_reducible refine ag 22 ?_);(refine aa rfl (.agg (bv z).toArray) wi (aj 34 (.tmp 21) rfl g5 (k*20) rfl (bv z) _ wi HRZ.out Tryz.underlying34 rfl hszy) ?_)) | ((with_reducible refine ag 8 ?_);((with_reducible refine bD (o1:=⟨some 8,_,_,_,_,_⟩) (o2:=⟨none,_,_,_,_,_⟩) rfl rfl 34 (.tmp 8) (.tmp 22) ?_ zcH (bv z).toArray ?_ hszy2 ?_ hone ?_ ?_ ?_);rfl;kernel_rfl;exact hszz;rfl;rfl;intro wb hmm hbb;have HBX:=ah (xae hmm hbb);clear hmm hbb;simp only [xad,xaa,xac,xab])) | ((with_reducible refine ag 23 ?_);(refine aa rfl (.agg ((bv z).toArray)) wb (av 34 (.tmp 8) rfl wi.heap.size rfl 34 _ _ wb HBX.out.1 Tryz.underlying34 rfl hszy2) ?_)) | ((with_reducible refine ag 24 ?_);(refine aa rfl (.agg ((bv c).toArray)) wb (av 34 (.tmp 3) rfl w.heap.size rfl 34 _ _ wb (HB.out.2.1.below HBX.out.2 HB.out.2.1.lt) Tryz.underlying34 rfl hszc) ?_)) | ((with_reducible refine ag 25 ?_);(refine aa rfl (.bool false) wb (bU .eql 34 (.tmp 23) (.tmp 24) _ rfl (bv z).toArray (bv c).toArray rfl rfl (by kernel_rfl) _ (fun W=>by have h:=dH z c HZO.out.1 hc W;rw [HD.out] at h;exact h) wb) ?_)))
      go_roundw
      case rel=>exact ⟨k+1,u4,by omega,rfl,by go_num,HB.out.1.below HBX.out.2 HB.out.1.lt,HB.out.2.1.below HBX.out.2 HB.out.2.1.lt,an HB.out.2.2.1 (fun g _ hl9=>HBX.out.2.block g hl9),by rw [HADS.out];exact an HB.out.2.2.2.1 (fun g _ hl9=>HBX.out.2.block g hl9),HB.out.2.2.2.2.1,HB.out.2.2.2.2.2.1.trans (xam HBX.out.2 HB.out.2.2.2.2.2.1.size),xay HB.out.2.2.2.2.2.2 HBX.out.2.size⟩
      case measure=>simp [intOf];omega
    ·obtain rfl:k=N:=by omega
     have hfin:(dX l c (j+1))=(dX l c j)++gH x c k:=by rw [HCO.out.2];exact sy HXX.out
     have HF:=ah hfin
     clear hfin
     go_wp2_with fail
     go_roundw
     case rel=>exact ⟨j+1,u4,by omega,rfl,by go_num,HB.out.2.1,by rw [HF.out];exact HB.out.2.2.2.1,HB.out.2.2.2.2.2.1⟩
     case measure=>simp [intOf];omega
  ·obtain rfl:j=l.length:=by omega
   have ho:=HI.out.2.1
   rw [uk] at ho
   have HO:=ah ho
   clear ho
   go_wp2_with fail
   go_ret
   exact ⟨_,rfl,bn HO.out (fun g hg=>by have:=(aB HO.out hg).1;have:=H1.out.size;omega),HI.out.2.2⟩
end Go.Proofs.YtomnhnmciopiiaaGreat
end
section
namespace Go.Proofs.YtomnhnmciopiiaaGreat
open Go Go.RowKit Go.Maps Go.WideShapes Go.ChangeShapes
def aN (n:Nat):Hsh:=xaX (n % 256) :: xaX (n / 256 % 256) :: xar 18 0
theorem dL (n:Nat):okH (aN n):=rfl
theorem u8_cell (n:Nat):((xaX (n % 256)).toNat:Int)=((n % 256:Nat):Int):=by
 rw [UInt8.toNat_ofNat']
 omega
theorem cX (w:World) (n:Nat) (hn:n≤1000000000) :
  Calls Tryz.prog 51 #[.int .i64 (n:Int)] w fun e w'=>e=.returned (.agg (bv (aN n)).toArray)∧Below w.heap.size w w':=by
 have e1:((n:Int) % 256)=((xaX (n % 256)).toNat:Int):=by rw [u8_cell];omega
 have e2:((n:Int) / 256 % 256)=((xaX (n / 256 % 256)).toNat:Int):=by rw [u8_cell];omega
 have E:=ah (xae e1 e2)
 have h0:(0:Int)≤(n:Int):=by omega
 have h1:(n:Int)≤1000000000:=by omega
 clear e1 e2
 go_enter Tryz.func51,Tryz.ntmps51
 go_wp2_with (first | ((with_reducible refine ag 2 ?_);(refine bq rfl 34 #[.int .u8 0,.int .u8 0,.int .u8 0,.int .u8 0,.int .u8 0,.int .u8 0,.int .u8 0,.int .u8 0,.int .u8 0,.int .u8 0,.int .u8 0,.int .u8 0,.int .u8 0,.int .u8 0,.int .u8 0,.int .u8 0,.int .u8 0,.int .u8 0,.int .u8 0,.int .u8 0] (by kernel_rfl) ?_);intro w1 hn;have H1:=ah hn;clear hn;simp only [xad,xaa,xac,xab]) | ((with_reducible refine ag 8 ?_);(refine aa rfl (.agg (bv (aN n)).toArray) w1 (by rw [show bv (aN n)=.int .u8 ((n:Int) % 256) :: .int .u8 ((n:Int) / 256 % 256) :: xar 18 (.int .u8 0) by rw [E.out.1,E.out.2];rfl];kernel_rfl) ?_)) | ((with_reducible refine bI 2 8 ?_);(with_reducible refine ar rfl 34 (.tmp 2) (.tmp 8) rfl w.heap.size #[.int .u8 0,.int .u8 0,.int .u8 0,.int .u8 0,.int .u8 0,.int .u8 0,.int .u8 0,.int .u8 0,.int .u8 0,.int .u8 0,.int .u8 0,.int .u8 0,.int .u8 0,.int .u8 0,.int .u8 0,.int .u8 0,.int .u8 0,.int .u8 0,.int .u8 0,.int .u8 0] (bv (aN n)).toArray 34 H1.out.blk ?_ ?_ ?_ ?_ ?_ ?_);kernel_rfl;rfl;kernel_rfl;rfl;rfl;intro w2 hk2 hg2;have h2:=H1.out.below.grown hg2 (by have:=H1.out.size;omega) (fun b hb=>(by have:=xao hb;omega));have H2:=ah (xae hk2 h2);clear hk2 hg2 h2;simp only [xad,xaa,xac,xab]))
 refine bodyPost_ret (results_cell_row rfl _ _ w.heap.size 34 (bv (aN n)).toArray (0,0) _ rfl H2.out.1 Tryz.underlying34 rfl (by kernel_rfl)) rfl ⟨rfl,H2.out.2⟩
def eI (most:Nat):Nat→List Nam→Nat
 | n,[]=>n
 | n,x :: l=>if n≤most then eI most (n+1+x.1.size+x.2.1.2.size) l else n
def fJ (most:Nat) (d:Drv):Nat:=eI most (1+d.1.size+d.2.2.length) d.2.1
structure iN (d:Drv):Prop where
 name:d.1.size≤140737488355328
 ins:d.2.1.length≤140737488355328
 rcp:d.2.2.length≤140737488355328
 each:∀ x∈d.2.1,x.1.size≤140737488355328∧x.2.1.2.size≤140737488355328
theorem pA (most:Nat):∀ (l:List Nam) (n:Nat),n≤eI most n l
 | [],n=>xai _
 | x :: l,n=>by
  unfold eI
  split
  ·exact xay (by omega) (pA most l _)
  ·exact xai _
theorem nU (most:Nat):∀ (l:List Nam) (n:Nat),eI most n l≤most→n+l.length≤most
 | [],n,h=>h
 | x :: l,n,h=>by
  unfold eI at h
  split at h
  ·have:=nU most l _ h
   rw [xaE]
   omega
  ·omega
theorem rW {most:Nat} {l:List Nam} {k:Nat} {x:Nam} {n:Nat} (h:l[k]?=some x) (hn:n≤most):eI most n (l.drop k)=eI most (n+1+x.1.size+x.2.1.2.size) (l.drop (k+1)):=by
 have hj:=(xah.1 h)
 rw [List.drop_eq_getElem_cons hj.1,hj.2,eI,if_pos hn]
theorem rX {most:Nat} {l:List Nam} {n:Nat} (hn:¬ n≤most):eI most n l=n:=by
 cases l with
 | nil=>rfl
 | cons x l=>rw [eI,if_neg hn]
theorem BH {x:Nam} (h:okN x):(nC x)[21]?=some (.string x.2.1.2):=by
 have e:nC x=(.string x.1 :: bv x.2.1.1)++(.string x.2.1.2 :: (bv x.2.2.1++[.bool x.2.2.2])):=by simp [nC,iC,pC]
 have hl:(xaY x.1 :: bv x.2.1.1).length=21:=by rw [xaE,bvL,show x.2.1.1.length=20 from h.2.1.1]
 rw [e,List.getElem?_append_right (by omega),hl]
 rfl
theorem aU {P:Program} {ρ:Operand→Value} {o:Oper} (ty e:TypeId) (x i:Operand) (ho:o.op=.indexAddr ty x i) (b off n cap k:Nat) (hx:ρ x=.slice (some ⟨b,off,none⟩) n cap) (hi:ρ i=.int .i64 (k:Int)) (hk:k<n) (s:Nat) (hu:P.underlying ty=some (.slice e)) (hs:(P.info? e).map (·.size)=some s) (w:World) :
  (execOp ρ o).run P w=.ok (.value (.pointer (some ⟨b,off+k*s,none⟩))) w:=by
 have h:=aH (P:=P) (ρ:=ρ) (o:=o) ty e x i ho b off n cap (k:Int) .i64 hx hi ⟨by omega,by omega⟩ s hu hs w
 rwa [Int.toNat_natCast] at h
theorem cg {x:Itm} {v1 v2:Value} {w:World} {b o:Nat} (h:okH x.1) (hr:w.rangeAt b o (tC x v1 v2)):w.rangeAt b (o+20) (dC x.2 v1 v2):=by
 have h2:=ed (c1:=bv x.1) (c2:=dC x.2 v1 v2) (by simpa [tC] using hr)
 rwa [bvL,show x.1.length=20 from h] at h2
theorem vt (w:World) (d:Drv) (v1 v2:Value) (h:aK w w.heap.size d v1 v2) (hl:iN d) :
  Calls Tryz.prog 8 #[.agg (dC d v1 v2).toArray,.int .i64 3000] w fun e w'=>e=.returned (.int .i64 (fJ 3000 d:Int))∧Below w.heap.size w w':=by
 obtain ⟨A,cap,rfl,hcl,hcm,_,hA⟩:=ak h.ins
 obtain ⟨A2,cap2,rfl,hcl2,hcm2,_,_⟩:=ak h.rcp
 have hl1:=hl.name
 have hl2:=hl.ins
 have hl3:=hl.rcp
 have i9:(d.2.1.length:Int)≤140737488355328:=by omega
 have i8:(d.2.2.length:Int)≤140737488355328:=by omega
 have i7:(d.1.size:Int)≤140737488355328:=by omega
 have HA:=ah hA
 have HL:=ah hl.each
 clear hA h hcl hcm hcl2 hcm2 hl
 go_enter Tryz.func8,Tryz.ntmps8
 go_wp2_with (first | ((with_reducible refine ag 2 ?_);(refine aW rfl 26 (.tmp 0) rfl (dC d (.slice A d.2.1.length cap) (.slice A2 d.2.2.length cap2)).toArray rfl ?_);intro w1 hn;have H1:=ah hn;clear hn;simp only [xad,xaa,xac,xab]) | ((with_reducible refine ag 8 ?_);(refine aa rfl (.string d.1) w1 (exec_load_cell 9 (.tmp 7) rfl ⟨w.heap.size,0,none⟩ rfl _ _ w1 Tryz.underlying9 rfl (show w1.cell? ⟨w.heap.size,0,none⟩=some (.string d.1) from H1.out.blk.cell 0)) ?_)) | ((with_reducible refine ag 12 ?_);(refine aa rfl (.slice A2 d.2.2.length cap2) w1 (exec_load_cell 24 (.tmp 11) rfl ⟨w.heap.size,2,none⟩ rfl _ _ w1 Tryz.underlying24 rfl (show w1.cell? ⟨w.heap.size,2,none⟩=some (.slice A2 d.2.2.length cap2) from H1.out.blk.cell 2)) ?_)))
 have c1:w1.cell? ⟨w.heap.size,1,none⟩=some (.slice A d.2.1.length cap):=H1.out.blk.cell 1
 go_loopw [5,6] (fun x5 x6 wr=>∃ (n k:Nat),k≤d.2.1.length∧n≤3000+300000000000000∧x5=.int .i64 (n:Int)∧x6=.int .i64 (k:Int)∧fJ 3000 d=eI 3000 n (d.2.1.drop k)∧Below w1.heap.size w1 wr) (fun _ x6 _=>d.2.1.length-(intOf x6).toNat)
 case atStart=>exact ⟨1+d.1.size+d.2.2.length,0,by omega,by omega,by go_num,rfl,rfl,xaq _ _⟩
 case round =>
  obtain ⟨wo,rfl⟩:∃ wo,wo=wr:=⟨_,rfl⟩
  obtain ⟨n,j,hj,hn,rfl,rfl,hof,hb⟩:=hrel
  have HB:=ah (xae hof hb)
  clear hof hb
  have c1':wo.cell? ⟨w.heap.size,1,none⟩=some (.slice A d.2.1.length cap):=(xaU (HB.out.2.block _ H1.out.blk.lt)).trans c1
  have HC1:=ah c1'
  have j0:(0:Int)≤(j:Int):=by omega
  have n0:(0:Int)≤(n:Int):=by omega
  have n9:(n:Int)≤300000000003000:=by omega
  by_cases hj2:j<d.2.1.length
  ·have j1:(j:Int)<(d.2.1.length:Int):=by omega
   by_cases hn3:n≤3000
   ·have n3:(n:Int)≤3000:=by omega
    obtain ⟨x,hx⟩:∃ x,d.2.1[j]?=some x:=⟨_,xaj hj2⟩
    obtain ⟨b,off,rfl,hlb,hE⟩:=HA.out (by omega)
    obtain ⟨cs,hr,hatx⟩:=hE j x hx
    obtain ⟨rfl,hxo⟩:=bw.1 hatx
    have hr0:=a7 hr (((HB.out.2.block b (by have:=H1.out.size;omega)).trans (H1.out.below.block b hlb)))
    have d0:wo.cell? ⟨b,off+j*43,none⟩=some (.string x.1):=hr0 0 _ rfl
    have d21:wo.cell? ⟨b,off+j*43+21,none⟩=some (.string x.2.1.2):=hr0 21 _ (BH hxo)
    have hxl:=HL.out x (xak hx)
    have x1:(x.1.size:Int)≤140737488355328:=by omega
    have x2:(x.2.1.2.size:Int)≤140737488355328:=by omega
    have hst:=rW hx hn3
    have HST:=ah hst
    have HD0:=ah (xae d0 d21)
    clear hx hE hr hatx hxo hr0 d0 d21 hst hxl
    go_wp2_with fail
    refine Fre.cq (X:=Bel) 19 [] (by kernel_rfl) (by kernel_rfl) (by simp) (by simp) (by simp) ?_
    simp only [xaI,xaR,xaH,xaQ]
    refine Fre.ae (.int .i64 (n:Int)) (by kernel_rfl) (by kernel_rfl) (by kernel_rfl) (fun _ _=>by kernel_rfl) ?_
    simp only [xad,xaa,xac,xab]
    refine Fre.ae (.int .i64 ((n:Int)+1)) (by kernel_rfl) (by kernel_rfl) (by kernel_rfl) (fun W9 hW9=>?hs1) ?_
    case hs1 =>
     go_simp
     all_goals exact xaS _ (by omega)
    simp only [xad,xaa,xac,xab]
    refine Fre.ae (.pointer (some ⟨w.heap.size,1,none⟩)) (by kernel_rfl) (by kernel_rfl) (by kernel_rfl) (fun _ _=>by kernel_rfl) ?_
    simp only [xad,xaa,xac,xab]
    refine Fre.ae (.slice (some ⟨b,off,none⟩) d.2.1.length cap) (by kernel_rfl) (by kernel_rfl) (by kernel_rfl) (fun W9 hW9=>exec_load_cell 23 (.tmp 29) rfl ⟨w.heap.size,1,none⟩ rfl _ _ W9 Tryz.underlying23 rfl (((xaU (xbw hW9 _ (xbk wo _ HC1.out))).trans HC1.out))) ?_
    simp only [xad,xaa,xac,xab]
    refine Fre.ae (.int .i64 (j:Int)) (by kernel_rfl) (by kernel_rfl) (by kernel_rfl) (fun _ _=>by kernel_rfl) ?_
    simp only [xad,xaa,xac,xab]
    refine Fre.ae (.pointer (some ⟨b,off+j*43,none⟩)) (by kernel_rfl) (by kernel_rfl) (by kernel_rfl) (fun W9 hW9=>aU 23 87 (.tmp 30) (.tmp 31) rfl b off d.2.1.length cap j rfl rfl hj2 43 Tryz.underlying23 aY W9) ?_
    simp only [xad,xaa,xac,xab]
    refine Fre.ae (.pointer (some ⟨b,off+j*43,none⟩)) (by kernel_rfl) (by kernel_rfl) (by kernel_rfl) (fun _ _=>by kernel_rfl) ?_
    simp only [xad,xaa,xac,xab]
    refine Fre.ae (.string x.1) (by kernel_rfl) (by kernel_rfl) (by kernel_rfl) (fun W9 hW9=>exec_load_cell 9 (.tmp 33) rfl ⟨b,off+j*43,none⟩ rfl _ _ W9 Tryz.underlying9 rfl (((xaU (xbw hW9 _ (xbk wo _ HD0.out.1))).trans HD0.out.1))) ?_
    simp only [xad,xaa,xac,xab]
    refine Fre.ae (.int .i64 (x.1.size:Int)) (by kernel_rfl) (by kernel_rfl) (by kernel_rfl) (fun W9 hW9=>?hs2) ?_
    case hs2 =>
     go_simp
    simp only [xad,xaa,xac,xab]
    refine Fre.ae (.int .i64 ((n:Int)+1+(x.1.size:Int))) (by kernel_rfl) (by kernel_rfl) (by kernel_rfl) (fun W9 hW9=>?hs3) ?_
    case hs3 =>
     go_simp
     all_goals exact xaS _ (by omega)
    simp only [xad,xaa,xac,xab]
    refine Fre.ae (.pointer (some ⟨w.heap.size,1,none⟩)) (by kernel_rfl) (by kernel_rfl) (by kernel_rfl) (fun _ _=>by kernel_rfl) ?_
    simp only [xad,xaa,xac,xab]
    refine Fre.ae (.slice (some ⟨b,off,none⟩) d.2.1.length cap) (by kernel_rfl) (by kernel_rfl) (by kernel_rfl) (fun W9 hW9=>exec_load_cell 23 (.tmp 37) rfl ⟨w.heap.size,1,none⟩ rfl _ _ W9 Tryz.underlying23 rfl (((xaU (xbw hW9 _ (xbk wo _ HC1.out))).trans HC1.out))) ?_
    simp only [xad,xaa,xac,xab]
    refine Fre.ae (.int .i64 (j:Int)) (by kernel_rfl) (by kernel_rfl) (by kernel_rfl) (fun _ _=>by kernel_rfl) ?_
    simp only [xad,xaa,xac,xab]
    refine Fre.ae (.pointer (some ⟨b,off+j*43,none⟩)) (by kernel_rfl) (by kernel_rfl) (by kernel_rfl) (fun W9 hW9=>aU 23 87 (.tmp 38) (.tmp 39) rfl b off d.2.1.length cap j rfl rfl hj2 43 Tryz.underlying23 aY W9) ?_
    simp only [xad,xaa,xac,xab]
    refine Fre.ae (.pointer (some ⟨b,off+j*43+1,none⟩)) (by kernel_rfl) (by kernel_rfl) (by kernel_rfl) (fun _ _=>by kernel_rfl) ?_
    simp only [xad,xaa,xac,xab]
    refine Fre.ae (.pointer (some ⟨b,off+j*43+1,none⟩)) (by kernel_rfl) (by kernel_rfl) (by kernel_rfl) (fun _ _=>by kernel_rfl) ?_
    simp only [xad,xaa,xac,xab]
    refine Fre.ae (.pointer (some ⟨b,off+j*43+21,none⟩)) (by kernel_rfl) (by kernel_rfl) (by kernel_rfl) (fun _ _=>by kernel_rfl) ?_
    simp only [xad,xaa,xac,xab]
    refine Fre.ae (.string x.2.1.2) (by kernel_rfl) (by kernel_rfl) (by kernel_rfl) (fun W9 hW9=>exec_load_cell 9 (.tmp 43) rfl ⟨b,off+j*43+21,none⟩ rfl _ _ W9 Tryz.underlying9 rfl (((xaU (xbw hW9 _ (xbk wo _ HD0.out.2))).trans HD0.out.2))) ?_
    simp only [xad,xaa,xac,xab]
    refine Fre.ae (.int .i64 (x.2.1.2.size:Int)) (by kernel_rfl) (by kernel_rfl) (by kernel_rfl) (fun W9 hW9=>?hs4) ?_
    case hs4 =>
     go_simp
    simp only [xad,xaa,xac,xab]
    intro w5 hx5
    have H5:=ah (HB.out.2.trans (xam hx5 HB.out.2.size))
    clear hx5
    dsimp only [Fre.ended,xas]
    go_wp2_with fail
    go_roundw
    case rel=>exact ⟨n+1+x.1.size+x.2.1.2.size,j+1,by omega,by omega,by go_num,by go_num,by rw [HB.out.1];exact HST.out,H5.out⟩
    case measure=>simp [intOf];omega
   ·have n3:¬ (n:Int)≤3000:=by omega
    have hfin:fJ 3000 d=n:=by rw [HB.out.1];exact rX hn3
    have HF:=ah hfin
    clear hfin
    go_wp2_with fail
    go_ret
    exact ⟨by rw [HF.out];rfl,H1.out.below.trans (xam HB.out.2 H1.out.below.size)⟩
  ·obtain rfl:j=d.2.1.length:=by omega
   have hfin:fJ 3000 d=n:=by rw [HB.out.1,List.drop_length];rfl
   have HF:=ah hfin
   clear hfin
   go_wp2_with fail
   go_ret
   exact ⟨by rw [HF.out];rfl,H1.out.below.trans (xam HB.out.2 H1.out.below.size)⟩
def gM:Nat→List Itm→Nat
 | n,[]=>n
 | n,x :: l=>if n≤3000 then gM (n+fJ 3000 x.2) l else n
def gB (l:List Itm):Bool:=decide (3000<gM 0 l)
theorem o8:∀ (l:List Itm) (n:Nat),gM n l≤3000→n+l.length≤3000∧∀ x∈l,fJ 3000 x.2≤3000
 | [],n,h=>⟨h,fun x hx=>by cases hx⟩
 | x :: l,n,h=>by
  unfold gM at h
  split at h
  ·have h1:=o8 l _ h
   have h2:1≤fJ 3000 x.2:=xay (by omega) (pA 3000 x.2.2.1 (1+x.2.1.size+x.2.2.2.length))
   rw [xaE]
   refine ⟨by omega,fun y hy=>?_⟩
   rcases xax.1 hy with rfl | hy
   ·omega
   ·exact h1.2 y hy
  ·omega
theorem ru {l:List Itm} (h:gB l=false):l.length≤3000∧∀ x∈l,x.2.2.1.length≤3000∧x.2.2.2.length≤3000:=by
 have h1:gM 0 l≤3000:=by
  have:=of_decide_eq_false h
  omega
 obtain ⟨h2,h3⟩:=o8 l 0 h1
 refine ⟨by omega,fun x hx=>?_⟩
 have h4:=nU 3000 _ _ (h3 x hx)
 omega
theorem sY {l:List Itm} {k:Nat} {x:Itm} {n:Nat} (h:l[k]?=some x) (hn:n≤3000):gM n (l.drop k)=gM (n+fJ 3000 x.2) (l.drop (k+1)):=by
 have hj:=(xah.1 h)
 rw [List.drop_eq_getElem_cons hj.1,hj.2,gM,if_pos hn]
theorem sZ {l:List Itm} {n:Nat} (hn:¬ n≤3000):gM n l=n:=by
 cases l with
 | nil=>rfl
 | cons x l=>rw [gM,if_neg hn]
theorem pB (most:Nat):∀ (l:List Nam) (n:Nat),(∀ x∈l,x.1.size≤140737488355328∧x.2.1.2.size≤140737488355328)→eI most n l≤max n (most+300000000000000)
 | [],n,_=>Nat.le_max_left _ _
 | x :: l,n,h=>by
  unfold eI
  split
  ·have h1:=h x (List.mem_cons_self ..)
   have h2:=pB most l (n+1+x.1.size+x.2.1.2.size) fun y hy=>h y (List.mem_cons_of_mem _ hy)
   omega
  ·exact Nat.le_max_left _ _
theorem xP {d:Drv} (h:iN d):fJ 3000 d≤400000000000000:=by
 have h1:=pB 3000 d.2.1 (1+d.1.size+d.2.2.length) h.each
 have h2:=h.name
 have h3:=h.rcp
 unfold fJ
 omega
theorem vC (w:World) (l:List Itm) (A:Option Addr) (cap:Nat) (h:bB.At w w.heap.size [.slice A l.length cap] l) (hl:∀ x∈l,iN x.2) :
  Calls Tryz.prog 27 #[.slice A l.length cap] w fun e w'=>e=.returned (.bool (gB l))∧Below w.heap.size w w':=by
 obtain ⟨A',cap',e,hcl,hcm9,_,hA⟩:=ak h
 injection e with e1 e2 e3
 subst e1 e3
 have k9:(l.length:Int)≤9223372036854775807:=by simp only [maxLen] at hcm9;omega
 have HA:=ah hA
 clear hA hcl hcm9 e2 h
 go_enter Tryz.func27,Tryz.ntmps27
 go_wp2_with fail
 go_loopw [3,4] (fun x3 x4 wr=>∃ (n j:Nat),j≤l.length∧n≤3000+400000000000000∧x3=.int .i64 (n:Int)∧x4=.int .i64 (j:Int)∧gM 0 l=gM n (l.drop j)∧Below w.heap.size w wr) (fun _ x4 _=>l.length-(intOf x4).toNat)
 case atStart=>exact ⟨0,0,by omega,by omega,rfl,rfl,rfl,xaq _ _⟩
 case round =>
  obtain ⟨wo,rfl⟩:∃ wo,wo=wr:=⟨_,rfl⟩
  obtain ⟨n,j,hj,hn,rfl,rfl,hof,hb⟩:=hrel
  have HB:=ah (xae hof hb)
  clear hof hb
  have j0:(0:Int)≤(j:Int):=by omega
  have n0:(0:Int)≤(n:Int):=by omega
  have n9:(n:Int)≤400000000003000:=by omega
  by_cases hj2:j<l.length
  ·by_cases hn3:n≤3000
   ·have n3:(n:Int)≤3000:=by omega
    have j1:(j:Int)<(l.length:Int):=by omega
    obtain ⟨x,hx⟩:∃ x,l[j]?=some x:=⟨_,xaj hj2⟩
    obtain ⟨b,off,rfl,hlb,hE⟩:=HA.out (by omega)
    obtain ⟨cs,hr,hatx⟩:=hE j x hx
    obtain ⟨q1,q2,rfl,hxo,hxd⟩:=bP.1 hatx
    obtain ⟨B1,k1,rfl,_⟩:=ak hxd.ins
    obtain ⟨B2,k2,rfl,_⟩:=ak hxd.rcp
    obtain ⟨q1,hq1⟩:∃ q1,q1=xag B1 x.2.2.1.length k1:=⟨_,rfl⟩
    obtain ⟨q2,hq2⟩:∃ q2,q2=xag B2 x.2.2.2.length k2:=⟨_,rfl⟩
    have hone1:q1.oneCell'=true∧q2.oneCell'=true:=by rw [hq1,hq2];exact ⟨rfl,rfl⟩
    rw [← hq1,← hq2] at hr hatx
    rw [← hq1,← hq2] at hxd
    have HX:=ah (xae (a7 hr (HB.out.2.block b (by omega))) (xae hxo hxd))
    have HXX:=ah hx
    have hszt2:(Tryz.prog.info? 59).map (·.size)=some (tC x q1 q2).toArray.size:=by rw [show (tC x q1 q2).toArray.size=23 by rw [xal];exact dh hxo];kernel_rfl
    have hszt:(Tryz.prog.info? 59).map (·.size)=some (tC x q1 q2).length:=by simpa using hszt2
    have hszzt:zcT.size=(tC x q1 q2).toArray.size:=by rw [show (tC x q1 q2).toArray.size=23 by rw [xal];exact dh hxo];kernel_rfl
    have honet:(tC x q1 q2).toArray.all (·.oneCell')=true:=all_oneCell_toArray (iD x hone1.1 hone1.2)
    have hszx:(Tryz.prog.info? 34).map (·.size)=some (bv x.1).length:=by have:=eX hxo;simpa using this
    have hszx2:=eX hxo
    clear hx hE hr hatx hxd hq1 hq2
    have hlx:=hl x (xak HXX.out)
    have hle:=xP hlx
    have hst:=sY HXX.out hn3
    have HST:=ah hst
    clear hst
    go_wp2_with (first | ((with_reducible refine ag 18 ?_);(refine aa rfl (.pointer (some ⟨b,off+(j:Int).toNat*23,none⟩)) wo (aH 22 59 (.tmp 16) (.tmp 17) rfl b off l.length cap (j:Int) .i64 rfl rfl ⟨j0,j1⟩ 23 Tryz.underlying22 cI wo) ?_;rw [show off+(j:Int).toNat*23=off+j*23 by omega])) | ((with_reducible refine ag 20 ?_);(refine aa rfl (.agg (dC x.2 q1 q2).toArray) wo (aj 26 (.tmp 19) rfl b (off+j*23+20) rfl (dC x.2 q1 q2) _ wo (cg HX.out.2.1 HX.out.1) Tryz.underlying26 rfl (by kernel_rfl)) ?_)))
    have hat8:aK wo wo.heap.size x.2 q1 q2:=HX.out.2.2.gA HB.out.2
    refine (vt wo x.2 q1 q2 hat8 hlx).mono ?_
    rintro e w9 ⟨rfl,hb⟩
    dsimp only
    have H9:=ah (HB.out.2.trans (xam hb HB.out.2.size))
    obtain ⟨dn,hdn⟩:∃ dn,dn=fJ 3000 x.2:=⟨_,rfl⟩
    rw [← hdn] at hle HST ⊢
    have d0:(0:Int)≤(dn:Int):=by omega
    have d9:(dn:Int)≤400000000000000:=by omega
    clear hb hat8 hdn
    go_wp2_with fail
    go_roundw
    case rel=>exact ⟨n+dn,j+1,by omega,by omega,by go_num,by go_num,by rw [HB.out.1];exact HST.out,H9.out⟩
    case measure=>simp [intOf];omega
   ·have n3:¬ (n:Int)≤3000:=by omega
    have j1:(j:Int)<(l.length:Int):=by omega
    have hfin:gB l=true:=by unfold gB;rw [HB.out.1,sZ hn3];exact decide_eq_true (by omega)
    have HF:=ah hfin
    clear hfin
    go_wp2_with fail
    go_ret
    exact ⟨by rw [HF.out];first | rfl | (simp;omega),HB.out.2⟩
  ·obtain rfl:j=l.length:=by omega
   have hg0:gM 0 l=n:=by rw [HB.out.1,List.drop_length];rfl
   by_cases hn3:n≤3000
   ·have n3:(n:Int)≤3000:=by omega
    have hfin:gB l=false:=by unfold gB;rw [hg0];exact decide_eq_false (by omega)
    have HF:=ah hfin
    clear hfin hg0
    go_wp2_with fail
    go_ret
    exact ⟨by rw [HF.out];first | rfl | (simp;omega),HB.out.2⟩
   ·have n3:¬ (n:Int)≤3000:=by omega
    have hfin:gB l=true:=by unfold gB;rw [hg0];exact decide_eq_true (by omega)
    have HF:=ah hfin
    clear hfin hg0
    go_wp2_with fail
    go_ret
    exact ⟨by rw [HF.out];first | rfl | (simp;omega),HB.out.2⟩
def nX {H:Type} [DecidableEq H] (l:List H) (c:H):Int:=if c∈l then (l.idxOf c:Int) else -1
end Go.Proofs.YtomnhnmciopiiaaGreat
end
section
namespace Go.Proofs.YtomnhnmciopiiaaGreat
open Go Go.ChangeShapes Go.WideShapes Go.ChangeAt Go.RowKit
theorem Tryz.Cb:ownKnob Tryz.prog.godebug=none:=by kernel_rfl
end Go.Proofs.YtomnhnmciopiiaaGreat
end
section
namespace Go.Proofs.YtomnhnmciopiiaaGreat
open Go Go.RowKit
structure Ent where
 F:Nat→Prop
 P:World→Prop
def Ent.Ok (e:Ent):Prop:=∀ w w',e.P w→(∀ b,e.F b→b<w.heap.size→w'.heap[b]?=w.heap[b]?)→e.P w'
def Far (F G:Nat→Prop):Prop:=∀ b,F b→G b→False
theorem Far.symm {F G:Nat→Prop} (h:Far F G):Far G F:=fun b x y=>h b y x
structure Mem (w0 w:World) (L:List Ent):Prop where
 below:Below w0.heap.size w0 w
 ok:∀ e∈L,e.Ok
 holds:∀ e∈L,e.P w
 lo:∀ e∈L,∀ b,e.F b→w0.heap.size≤b∧b<w.heap.size
 far:L.Pairwise fun x y=>Far x.F y.F
section
variable {w0 w w':World} {L:List Ent} {e e':Ent}
theorem Mem.start (w:World):Mem w w []:=⟨xaq _ _,(fun _ h=>by cases h),(fun _ h=>by cases h),(fun _ h=>by cases h),.nil⟩
theorem Mem.get (h:Mem w0 w L) (i:Nat) (hi:L[i]?=some e):e.P w:=h.holds e (xak hi)
theorem Mem.from_ (h:Mem w0 w L) (i:Nat) (hi:L[i]?=some e) {b:Nat} (hb:e.F b):w0.heap.size≤b∧b<w.heap.size:=h.lo e (xak hi) b hb
theorem Mem.call (h:Mem w0 w L) (hb:Below w.heap.size w w'):Mem w0 w' L :=
 ⟨h.below.trans (hb.mono h.below.size),h.ok,(fun e he=>h.ok e he w w' (h.holds e he) fun b _ hl=>hb.block b hl),(fun e he b hf=>⟨(h.lo e he b hf).1,xa3 (h.lo e he b hf).2 hb.size⟩),h.far⟩
theorem Mem.cons (h:Mem w0 w L) (ho:e.Ok) (hp:e.P w) (hF:∀ b,e.F b→w0.heap.size≤b∧b<w.heap.size∧∀ x∈L,¬ x.F b):Mem w0 w (e :: L) :=
 ⟨h.below,(fun x hx=>by rcases xax.1 hx with rfl | hx;exact ho;exact h.ok x hx),(fun x hx=>by rcases xax.1 hx with rfl | hx;exact hp;exact h.holds x hx),(fun x hx b hf=>by rcases xax.1 hx with rfl | hx;exact ⟨(hF b hf).1,(hF b hf).2.1⟩;exact h.lo x hx b hf),xa2.2 ⟨fun x hx b h1 h2=>(hF b h1).2.2 x hx h2,h.far⟩⟩
theorem Mem.new (h:Mem w0 w L) (hb:Below w.heap.size w w') (ho:e.Ok) (hp:e.P w') (hF:∀ b,e.F b→w.heap.size≤b∧b<w'.heap.size):Mem w0 w' (e :: L) :=
 (h.call hb).cons ho hp fun b hf=>⟨xay h.below.size (hF b hf).1,(hF b hf).2,fun x hx hx2=>by have:=(h.lo x hx b hx2).2;have:=(hF b hf).1;omega⟩
theorem Mem.upd (h:Mem w0 w L) (i:Nat) (hi:L[i]?=some e) {row:Option Nat} (hg:w.grownBy w' row) (hrow:∀ b,row=some b→e.F b) (ho:e'.Ok) (hp:e'.P w') (hF:∀ b,e'.F b→e.F b∨(w.heap.size≤b∧b<w'.heap.size)):Mem w0 w' (L.set i e'):=by
 have hlt:i<L.length:=(xah.1 hi).1
 have hmem:∀ x,x∈L.set i e'→x=e'∨∃ k,k ≠ i∧L[k]?=some x:=fun x hx=>by
  obtain ⟨k,hk⟩:=xaO hx
  rw [List.getElem?_set] at hk
  by_cases e1:i=k
  ·rw [if_pos e1,if_pos (by omega)] at hk
   exact .inl (xao hk).symm
  ·rw [if_neg e1] at hk
   exact .inr ⟨k,fun e2=>e1 e2.symm,hk⟩
 have hfar:∀ k x,k ≠ i→L[k]?=some x→Far e.F x.F:=fun k x hk hx=>by
  have hp2:=xaV.1 h.far
  have hkl:=(xah.1 hx).1
  have e1:=(xah.1 hx).2
  have e2:=(xah.1 hi).2
  rcases Nat.lt_or_ge k i with hlt2 | hge
  ·have:=hp2 k i hkl hlt hlt2
   rw [e1,e2] at this
   exact this.symm
  ·have:=hp2 i k hlt hkl (by omega)
   rw [e1,e2] at this
   exact this
 refine ⟨h.below.grown hg h.below.size fun b hb=>(h.from_ i hi (hrow b hb)).1,fun x hx=>?_,fun x hx=>?_,fun x hx b hf=>?_,?_⟩
 ·rcases hmem x hx with rfl | ⟨k,_,hk⟩
  ·exact ho
  ·exact h.ok x (xak hk)
 ·rcases hmem x hx with rfl | ⟨k,hne,hk⟩
  ·exact hp
  ·refine h.ok x (xak hk) w w' (h.holds x (xak hk)) fun b hf hl=>hg.block b hl fun e1=>?_
   exact hfar k x hne hk b (hrow b e1.symm) hf
 ·rcases hmem x hx with rfl | ⟨k,_,hk⟩
  ·rcases hF b hf with h1 | h1
   ·exact ⟨(h.from_ i hi h1).1,xa3 (h.from_ i hi h1).2 hg.size⟩
   ·exact ⟨xay h.below.size h1.1,h1.2⟩
  ·have:=h.lo x (xak hk) b hf
   exact ⟨this.1,xa3 this.2 hg.size⟩
 ·refine xaV.2 fun a c ha hc hac=>?_
  rw [xa6] at ha hc
  rw [List.getElem_set,List.getElem_set]
  have hold:∀ k (hk:k<L.length),k ≠ i→Far e'.F (L[k]).F:=fun k hk hne b h1 h2=>by
   rcases hF b h1 with h3 | h3
   ·exact hfar k _ hne (xaj hk) b h3 h2
   ·have:=(h.lo _ (List.getElem_mem hk) b h2).2
    omega
  by_cases e1:i=a
  ·subst e1
   rw [if_pos rfl,if_neg (by omega)]
   exact hold c hc (by omega)
  ·rw [if_neg e1]
   by_cases e2:i=c
   ·subst e2
    rw [if_pos rfl]
    exact (hold a ha (by omega)).symm
   ·rw [if_neg e2]
    exact xaV.1 h.far a c ha hc hac
theorem Mem.kT (h:Mem w0 w L) (i:Nat) (hi:L[i]?=some e) (ho:e'.Ok) (hp:e'.P w) (hF:∀ b,e'.F b→e.F b):Mem w0 w (L.set i e') :=
 h.upd i hi (World.grownBy.refl w none) (fun _ hb=>by cases hb) ho hp fun b hf=>.inl (hF b hf)
theorem Mem.pick (h:Mem w0 w L) (l:List Nat) (hn:l.Nodup) {L':List Ent} (hs:l.mapM (fun i=>L[i]?)=some L'):Mem w0 w L':=by
 have hat:∀ (l:List Nat) (L':List Ent),l.mapM (fun i=>L[i]?)=some L'→L'.length=l.length∧∀ (k:Nat) (x:Ent),L'[k]?=some x→∃ i,l[k]?=some i∧L[i]?=some x:=by
  intro l
  induction l with
  | nil=>intro L' hs;simp at hs;subst hs;exact ⟨rfl,fun k x hx=>by simp at hx⟩
  | cons i l ih =>
   intro L' hs
   rw [List.mapM_cons] at hs
   cases h1:L[i]? with
   | none=>simp [h1] at hs
   | some x =>
    cases h2:l.mapM (fun i=>L[i]?) with
    | none=>simp [h1,h2] at hs
    | some M =>
     simp only [h1,h2,Option.bind_eq_bind,xbv,Option.pure_def,Option.some.injEq] at hs
     subst hs
     obtain ⟨k1,k2⟩:=ih M h2
     refine ⟨by simp [k1],fun k y hy=>?_⟩
     cases k with
     | zero=>simp at hy;subst hy;exact ⟨i,rfl,h1⟩
     | succ k=>exact k2 k y (by simpa using hy)
 obtain ⟨hl,hg⟩:=hat l L' hs
 have hm:∀ x∈L',x∈L:=fun x hx=>by
  obtain ⟨k,hk⟩:=xaO hx
  obtain ⟨i,_,hi⟩:=hg k x hk
  exact xak hi
 refine ⟨h.below,fun x hx=>h.ok x (hm x hx),fun x hx=>h.holds x (hm x hx),fun x hx=>h.lo x (hm x hx),xaV.2 fun a c ha hc hac=>?_⟩
 obtain ⟨i,hi1,hi2⟩:=hg a _ (xaj ha)
 obtain ⟨k,hk1,hk2⟩:=hg c _ (xaj hc)
 obtain ⟨hil,e1⟩:=xah.1 hi2
 obtain ⟨hkl,e2⟩:=xah.1 hk2
 have hne:i ≠ k:=by
  rintro rfl
  have h1:=xah.1 hi1
  have h2:=xah.1 hk1
  have:=(List.getElem_inj hn).1 (h1.2.trans h2.2.symm)
  omega
 have hp2:=xaV.1 h.far
 rw [← e1,← e2]
 rcases Nat.lt_or_ge i k with h1 | h1
 ·exact hp2 i k hil hkl h1
 ·exact (hp2 k i hkl hil (by omega)).symm
theorem Mem.drop (h:Mem w0 w L) (n:Nat):Mem w0 w (L.drop n) :=
 ⟨h.below,fun x hx=>h.ok x (xbZ hx),fun x hx=>h.holds x (xbZ hx),fun x hx=>h.lo x (xbZ hx),h.far.drop⟩
def Ent.both (a b:Ent):Ent:=⟨fun k=>a.F k∨b.F k,fun w=>a.P w∧b.P w⟩
theorem Ent.zJ {a b:Ent} (ha:a.Ok) (hb:b.Ok):(a.both b).Ok:=fun w w' h hk=>⟨ha w w' h.1 fun k hf=>hk k (.inl hf),hb w w' h.2 fun k hf=>hk k (.inr hf)⟩
def Ent.all {α:Type} (l:List α) (f:α→Ent):Ent:=⟨fun b=>∃ x∈l,(f x).F b,fun w=>(∀ x∈l,(f x).P w)∧l.Pairwise fun x y=>Far (f x).F (f y).F⟩
theorem Ent.mL {α:Type} {l:List α} {f:α→Ent} (h:∀ x∈l,(f x).Ok):(Ent.all l f).Ok:=fun w w' hp hk=>⟨fun x hx=>h x hx w w' (hp.1 x hx) fun b hf=>hk b ⟨x,hx,hf⟩,hp.2⟩
theorem Mem.join {a b:Ent} (h:Mem w0 w (a :: b :: L)):Mem w0 w (a.both b :: L):=by
 have h2:=h.drop 2
 have hf:=xa2.1 h.far
 have hf2:=xa2.1 hf.2
 refine h2.cons (Ent.zJ (h.ok a (by simp)) (h.ok b (by simp))) ⟨h.holds a (by simp),h.holds b (by simp)⟩ fun k hk=>?_
 rcases hk with hk | hk
 ·exact ⟨(h.lo a (by simp) k hk).1,(h.lo a (by simp) k hk).2,fun x hx hx2=>hf.1 x (List.mem_cons_of_mem _ hx) k hk hx2⟩
 ·exact ⟨(h.lo b (by simp) k hk).1,(h.lo b (by simp) k hk).2,fun x hx hx2=>hf2.1 x hx k hk hx2⟩
theorem Mem.push {α:Type} {l:List α} {x:α} {f:α→Ent} (h:Mem w0 w (f x :: Ent.all l f :: L)) (hx:(f x).Ok):Mem w0 w (Ent.all (l++[x]) f :: L):=by
 have h2:=h.join
 have hf0:Far (f x).F (Ent.all l f).F:=(xa2.1 h.far).1 _ (by simp)
 have hp0:=h.holds (Ent.all l f) (by simp)
 refine (h2.drop 1).cons ?_ ?_ ?_
 ·intro w w' hp hk
  refine ⟨fun y hy=>?_,hp.2⟩
  rcases xau.1 hy with hy | hy
  ·exact ((h.ok (Ent.all l f) (by simp)) w w' ⟨fun y hy=>hp.1 y (xa1 _ hy),hp0.2⟩ (fun b ⟨z,hz,hf⟩=>hk b ⟨z,xa1 _ hz,hf⟩)).1 y hy
  ·rw [xan.1 hy]
   exact hx w w' (hp.1 x (by simp)) fun b hf=>hk b ⟨x,by simp,hf⟩
 ·refine ⟨fun y hy=>?_,xa7.2 ⟨hp0.2,by simp,fun y hy z hz b h1 h3=>?_⟩⟩
  ·rcases xau.1 hy with hy | hy
   ·exact hp0.1 y hy
   ·rw [xan.1 hy]
    exact h.holds (f x) (by simp)
  ·rw [xan.1 hz] at h3
   exact hf0 b h3 ⟨y,hy,h1⟩
 ·rintro b ⟨y,hy,hf⟩
  have hb:((f x).both (Ent.all l f)).F b:=by
   rcases xau.1 hy with hy | hy
   ·exact .inr ⟨y,hy,hf⟩
   ·rw [xan.1 hy] at hf
    exact .inl hf
  exact ⟨(h2.lo _ (by simp) b hb).1,(h2.lo _ (by simp) b hb).2,fun z hz hz2=>(xa2.1 h2.far).1 z hz b hb hz2⟩
def cC (g:Nat) (t:TypeId) (cs:Array Value):Ent:=⟨fun b=>b=g,fun w=>Blk w g t cs⟩
theorem ux (g:Nat) (t:TypeId) (cs:Array Value):(cC g t cs).Ok:=fun _ _ h hk=>(hk g rfl (Blk.lt h)).trans h
def aq (B:Nat) (t:TypeId) (s:Nat) (u:Value) (n:Nat) (xs:List Value):Ent:=⟨fun b=>u.ownBlock=some b,fun w=>w.ownsRow B t s u n xs⟩
theorem cM (B:Nat) (t:TypeId) (s:Nat) (u:Value) (n:Nat) (xs:List Value):(aq B t s u n xs).Ok:=fun _ _ h hk=>an h fun g hg hl=>hk g hg hl
theorem Mem.blk {g:Nat} {t:TypeId} {cs:Array Value} (h:Mem w0 w L) (i:Nat) (hi:L[i]?=some (cC g t cs)):Blk w g t cs:=h.get i hi
theorem Mem.own {B n s:Nat} {t:TypeId} {u:Value} {xs:List Value} (h:Mem w0 w L) (i:Nat) (hi:L[i]?=some (aq B t s u n xs)):w.ownsRow B t s u n xs:=h.get i hi
theorem Mem.bh {t:TypeId} {cs:Array Value} (h:Mem w0 w L) (hn:hI w w' t cs):Mem w0 w' (cC w.heap.size t cs :: L) :=
 h.new hn.below (ux _ _ _) hn.blk fun b hf=>by have:=hn.size;have e:b=w.heap.size:=hf;omega
theorem Mem.st {g:Nat} {t t':TypeId} {cs cs':Array Value} (h:Mem w0 w L) (i:Nat) (hi:L[i]?=some (cC g t cs)) (hk:Blk w' g t' cs') (hg:w.grownBy w' (some g)):Mem w0 w' (L.set i (cC g t' cs')) :=
 h.upd i hi hg (fun _ hb=>(xao hb).symm) (ux _ _ _) hk fun _ hf=>.inl hf
theorem Mem.app {B n n' s:Nat} {t:TypeId} {u u':Value} {xs xs':List Value} (h:Mem w0 w L) (i:Nat) (hi:L[i]?=some (aq B t s u n xs)) (ho:w'.ownsRow B t s u' n' xs') (hg:w.grownBy w' u.ownBlock) (hp:u'.ownBlock=u.ownBlock∨u'.ownBlock=some w.heap.size):Mem w0 w' (L.set i (aq B t s u' n' xs')) :=
 h.upd i hi hg (fun _ hb=>hb) (cM _ _ _ _ _ _) ho fun b hf=>by
  have hf:u'.ownBlock=some b:=hf
  rcases hp with e1 | e1
  ·exact .inl (show u.ownBlock=some b by rw [← e1];exact hf)
  ·rw [e1] at hf
   injection hf with hf
   subst hf
   exact .inr ⟨xai _,(aB ho e1).2⟩
theorem Mem.dw (h:Mem w0 w L) (B:Nat) (t:TypeId) (s:Nat):Mem w0 w (aq B t s (.slice none 0 0) 0 [] :: L) :=
 h.cons (cM _ _ _ _ _ _) (xaW _ _ _ _) fun b hf=>by cases (show (none:Option Nat)=some b from hf)
theorem Mem.pure (h:Mem w0 w L) (ho:e.Ok) (hp:e.P w) (hF:∀ b,¬ e.F b):Mem w0 w (e :: L):=h.cons ho hp fun b hf=>absurd hf (hF b)
theorem Mem.pS {α:Type} (h:Mem w0 w L) (f:α→Ent):Mem w0 w (Ent.all [] f :: L) :=
 h.pure (fun _ _ _ _=>⟨(fun x hx=>by cases hx),List.Pairwise.nil⟩) ⟨(fun x hx=>by cases hx),List.Pairwise.nil⟩ (fun b ⟨x,hx,_⟩=>by cases hx)
theorem Mem.old (h:Mem w0 w L) {b:Nat} (hb:b<w0.heap.size):w.heap[b]?=w0.heap[b]?:=h.below.block b hb
end
end Go.Proofs.YtomnhnmciopiiaaGreat
end
