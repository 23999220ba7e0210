/- Part 6 of the texts of one proof. -/
import Derived.Test.YtomnhnmciopiiaaGreatMMT5
set_option maxRecDepth 100000
set_option linter.unusedVariables false
set_option linter.unusedSimpArgs false
set_option maxHeartbeats 40000000
open Go.Act renaming put → xae
open And renaming intro → xad
open Array renaming getElem?_toList → xa7, replicate → xbu, toList_append → xcj
open Go.RowKit.Below renaming mono → xar, refl → xao
open Bool renaming and_true → xby, false_and → xbc, false_eq_true → xbI, true_and → xa8
open Go.Exit renaming thenS → xcB
open Int renaming toNat_natCast → xbr
open Go.IntKind renaming u32 → xcb, wrap → xbA
open Go.IntWalk renaming i64_in → xbP
open List renaming append_assoc → xaR, append_nil → xbo, drop_succ_cons → xay, drop_zero → xaK, eq_nil_of_length_eq_zero → xaT, getElem?_eq_getElem → xai, getElem?_eq_some_iff → xah, getElem?_map → xaL, idxOf_lt_length_iff → xbp, length_append → xak, length_cons → xaF, length_map → xap, length_take → xaN, map_cons → xa9, mem_append → xax, mem_append_left → xaY, mem_append_right → xbi, mem_cons → xaD, mem_map → xaA, mem_of_getElem? → xaj, mem_range → xba, not_mem_nil → xaS, range → xaf, replicate → xaz, setIfInBounds_toArray → xaa, set_cons_succ → xac, set_cons_zero → xab, size_toArray → xal, take_length → xaG, take_of_length_le → xav, take_succ_cons → xau, take_succ_eq_append_getElem → xbb, take_zero → xaC
open Nat renaming le_refl → xag, le_trans → xaH, mod_eq_of_lt → xbx, mul_le_mul_right → xbm
open Go.Op renaming bytesLess → xb1
open Option.some renaming inj → xam
open Go.Region renaming wanted → xaq
open Go.Result renaming andThen_ok → xat
open Go.Sem renaming run_bind → xaI, run_pure → xaQ
open UInt8 renaming lt_iff_toNat_lt → xcf, ofNat → xaJ
open Go.Value renaming cells → xaU, slice → xas, string → xbd
open Go.World renaming block_lt_of_cell? → xa5, cell?_alloc_lt → xci, ownsRow_nil → xbg
section
namespace Go.Proofs.YtomnhnmciopiiaaGreat
open Go Go.RowKit Go.Maps
theorem fW {w w':World} {v:Value} {l:List Itm} (h:aH.At w w.heap.size [v] l) (hb:Below w.heap.size w w'):aH.At w' w'.heap.size [v] l :=
 aH.eY (aH.alike h fun b hb9=>hb.block b hb9) hb.size
theorem sf {H:Type}:∀ (l:List H) (b:List Bool) (k:Nat) (x:H) (v:Bool),l[k]?=some x→b[k]?=some v→Dr.eh (l.take (k+1)) (b.take (k+1))=Dr.eh (l.take k) (b.take k)++(if v=true then [x] else [])
 | y :: l,u :: b,0,x,v,h1,h2=>by
  injection h1 with h1
  injection h2 with h2
  subst h1 h2
  cases u<;>rfl
 | y :: l,u :: b,k+1,x,v,h1,h2=>by
  have ih:=sf l b k x v (by simpa using h1) (by simpa using h2)
  show Dr.eh (y :: l.take (k+1)) (u :: b.take (k+1))=Dr.eh (y :: l.take k) (u :: b.take k)++_
  cases u
  ·exact ih
  ·exact congrArg (y :: ·) ih
 | [],_,k,x,v,h1,_=>by simp at h1
 | _ :: _,[],k,x,v,_,h2=>by simp at h2
def eF (l:List Itm) (c:Hsh):Int:=if Dr.bO (l.map itP)=true then (if (cg (ew l) c).isSome=true then 0 else 5) else 2
def aP (l:List Itm) (c:Hsh):List Hsh:=if Dr.bO (l.map itP)=true then (if (cg (ew l) c).isSome=true then Dr.cE (l.map itP) c else []) else []
theorem jl {l:List Itm} {c:Hsh} (h:(cg (ew l) c).isSome=true):c∈Dr.css (l.map itP):=by rw [← kG];exact mem_keys.2 h
theorem mZ {l:List Itm} {c:Hsh} (h:(cg (ew l) c).isSome=false):c ∉ Dr.css (l.map itP):=fun hm=>by
 rw [← kG] at hm
 rw [mem_keys.1 hm] at h
 cases h
theorem zZ {l:List (Dr.It Hsh)} {c:Hsh}:Dr.cE l c=Dr.eh (Dr.css l) (Dr.cH l (iY l c)):=rfl
theorem FC {l:List Itm} {k:Nat} {x:Itm} (h:l[k]?=some x):(Dr.css (l.map itP))[k]?=some x.1:=by
 unfold Dr.css
 rw [xaL,xaL,h]
 rfl
theorem DQ (l:List Itm):(Dr.css (l.map itP)).length=l.length:=by simp [Dr.css]
theorem Av (w:World) (l:List Itm) (A:Option Addr) (cap:Nat) (h:aH.At w w.heap.size [.slice A l.length cap] l) (hl:∀ x∈l,x.2.2.1.length≤1000000) :
  Calls Tryz.prog 35 #[.slice A l.length cap] w fun e w'=>e=.returned (.bool (Dr.bO (l.map itP)))∧Below w.heap.size w w':=by
 go_enter Tryz.func35,Tryz.ntmps35
 go_wp2_with fail
 refine (ss w l A cap h hl).mono ?_
 rintro e w2 ⟨mb,rfl,_,hb⟩
 dsimp only
 have H2:=ab hb
 clear hb
 go_wp2_with (first | ((with_reducible refine ae 3 ?_);(refine aC rfl 129 #[.map none,.slice none 0 0] (by kernel_rfl) ?_);intro w3 hn;have H3:=ab hn;clear hn;simp only [xae,xaa,xab,xac]) | ((with_reducible refine aV 3 8 ?_);(with_reducible refine ak rfl 129 (.tmp 3) (.tmp 8) rfl w2.heap.size #[.map none,.slice none 0 0] #[.map (some mb),.slice A l.length cap] 129 H3.out.blk ?_ ?_ ?_ ?_ ?_ ?_);kernel_rfl;rfl;kernel_rfl;rfl;rfl;intro w4 hk4 hg4;have H4:=ab (H2.out.trans (xar (H3.out.below.grown hg4 (by have:=H3.out.size;omega) (fun b hb=>(by have:=xam hb;omega))) H2.out.size));clear hk4 hg4;simp only [xae]))
 go_ret
 exact ⟨rfl,H4.out⟩
theorem tt {H:Type}:∀ (l:List H) (b:List Bool) (j:Nat),(Dr.eh (l.take j) (b.take j)).length≤j
 | _,_,0=>by simp [Dr.eh]
 | [],_,j+1=>by simp [Dr.eh]
 | x :: l,[],j+1=>by simp [Dr.eh]
 | x :: l,true :: b,j+1=>by
  have:=tt l b j
  show (x :: Dr.eh (l.take j) (b.take j)).length≤_
  rw [xaF]
  omega
 | x :: l,false :: b,j+1=>by
  have:=tt l b j
  show (Dr.eh (l.take j) (b.take j)).length≤_
  omega
theorem cz {x:Itm} {v1 v2:Value} {w:World} {b o:Nat} (h:w.rangeAt b o (tC x v1 v2)):w.rangeAt b o (bv x.1):=da (c2:=dC x.2 v1 v2) (by simpa [tC] using h)
theorem z7 (w:World) (l:List Itm) (A:Option Addr) (cap:Nat) (h:aH.At w w.heap.size [.slice A l.length cap] l) (hl:∀ x∈l,x.2.2.1.length≤1000000) (hlen:l.length≤1000000) (c:Hsh) (hc:okH c) :
  Calls Tryz.prog 33 #[.slice A l.length cap,.agg (bv c).toArray] w fun e w'=>∃ u,e=.returned (.tuple #[u,.int .i64 (eF l c)])∧w'.ownsRow w.heap.size 34 20 u (aP l c).length ((aP l c).flatMap bv)∧Below w.heap.size w w':=by
 obtain ⟨ih,hih,hq0,hq1,hq2⟩:=info_parts fU
 have HJ:=ab (xad hih (xad hq0 (xad hq1 hq2)))
 clear hih hq0 hq1 hq2
 obtain ⟨A',cap',e,hcl,hcm9,_,hA⟩:=aj h
 injection e with e1 e2 e3
 subst e1 e3
 have k9:(l.length:Int)≤9223372036854775807:=by omega
 have hszc:=bB hc
 have HA:=ab hA
 clear hA hcl hcm9 e2
 go_enter Tryz.func33,Tryz.ntmps33
 go_wp2_with (first | ((with_reducible refine ae 3 ?_);(refine aF rfl 34 (.tmp 1) rfl (bv c).toArray rfl ?_);intro w1 hn;have H1:=ab hn;clear hn;simp only [xae,xaa,xab,xac]))
 refine (ss w1 l A cap (fW h H1.out.below) hl).mono ?_
 rintro e w2 ⟨mb,rfl,hmap,hb⟩
 dsimp only
 have H2:=ab (xad (H1.out.blk.below hb H1.out.blk.lt) (xad (H1.out.below.trans (xar hb H1.out.below.size)) hmap))
 clear hb hmap
 cases hR:Dr.bO (l.map itP)
 ·have HE:Hid (eF l c=2∧aP l c=[]):=ab (by unfold eF aP;rw [hR];exact ⟨rfl,rfl⟩)
  clear hR
  go_wp2_with (first | ((with_reducible refine ae 6 ?_);(refine aC rfl 129 #[.map none,.slice none 0 0] (by kernel_rfl) ?_);intro w3 hn;have H3:=ab hn;clear hn;simp only [xae,xaa,xab,xac]) | ((with_reducible refine aV 6 13 ?_);(with_reducible refine ak rfl 129 (.tmp 6) (.tmp 13) rfl w2.heap.size #[.map none,.slice none 0 0] #[.map (some mb),.slice A l.length cap] 129 H3.out.blk ?_ ?_ ?_ ?_ ?_ ?_);kernel_rfl;rfl;kernel_rfl;rfl;rfl;intro w4 hk4 hg4;have h24:=H3.out.below.grown hg4 (by have:=H3.out.size;omega) (fun b hb=>(by have:=xam hb;omega));have H4:=ab (xad hk4 (xad (H2.out.1.below h24 H2.out.1.lt) (xad (H2.out.2.1.trans (xar h24 H2.out.2.1.size)) h24)));clear hk4 hg4 h24;simp only [xae]))
  refine bodyPost_ret (v:=.tuple #[.slice none 0 0,.int .i64 2]) (by simp [results,Tryz.results33,go_sem]) rfl ?_
  refine ⟨_,by rw [HE.out.1],?_,H4.out.2.2.1⟩
  rw [HE.out.2]
  exact xbg _ _ _ _
 ·have HRT:=ab hR
  have hmk:=(H2.out.2.2 hR).2
  have HMK:=ab hmk
  clear hR hmk
  have hhc:=hc
  go_wp2_with (first | ((with_reducible refine ae 6 ?_);(refine aC rfl 129 #[.map none,.slice none 0 0] (by kernel_rfl) ?_);intro w3 hn;have H3:=ab hn;clear hn;simp only [xae,xaa,xab,xac]) | ((with_reducible refine aV 6 13 ?_);(with_reducible refine ak rfl 129 (.tmp 6) (.tmp 13) rfl w2.heap.size #[.map none,.slice none 0 0] #[.map (some mb),.slice A l.length cap] 129 H3.out.blk ?_ ?_ ?_ ?_ ?_ ?_);kernel_rfl;rfl;kernel_rfl;rfl;rfl;intro w4 hk4 hg4;have h24:=H3.out.below.grown hg4 (by have:=H3.out.size;omega) (fun b hb=>(by have:=xam hb;omega));have H4:=ab (xad hk4 (xad (H2.out.1.below h24 H2.out.1.lt) (xad (H2.out.2.1.trans (xar h24 H2.out.2.1.size)) h24)));clear hk4 hg4 h24;simp only [xae]) | ((with_reducible refine ae 18 ?_);(refine aa rfl (.map (some mb)) w4 (exec_load_cell 127 (.tmp 17) rfl ⟨w2.heap.size,0,none⟩ rfl _ _ w4 Tryz.underlying127 rfl (show w4.cell? ⟨w2.heap.size,0,none⟩=some (.map (some mb)) from H4.out.1.cell 0)) ?_)) | ((with_reducible refine ae 19 ?_);(refine aa rfl (.agg ((bv c).toArray)) w4 (av 34 (.tmp 3) rfl w.heap.size rfl 34 _ _ w4 H4.out.2.1 Tryz.underlying34 rfl hszc) ?_)) | ((with_reducible refine ae 20 ?_);(refine aO rfl 27 (.tmp 19) rfl 34 20 (.agg zcH) (.agg (bv c).toArray) rfl Tryz.underlying27 kP (by decide) (by decide) (fun w=>by kernel_rfl) (by rw [xaU,xal,bvL];exact hhc) ?_);intro w5 hn;have H5:=ab hn;clear hn;simp only [xae,xaa,xab,xac]))
  have hm5:b5 hV okH evN w5 mb (ew l):=HMK.out.below (H4.out.2.2.2.trans (xar H5.out.below H4.out.2.2.2.size)) HMK.out.lt
  have hone5:tL c (.slice (some ⟨w4.heap.size,0,none⟩) 1 1) w5:=⟨_,rfl,H5.out.blk⟩
  have hat5:=hone5.at_ hc
  have HM5:=ab hm5
  clear hm5 hone5
  refine (kx w5 mb (ew l) HM5.out [c] _ hat5).mono ?_
  rintro e w6 ⟨rfl,hb⟩
  rw [ox]
  dsimp only
  have h46:=H5.out.below.trans (xar hb H5.out.below.size)
  have H6:=ab (xad (H4.out.1.below h46 H4.out.1.lt) (xad (H4.out.2.1.below h46 H4.out.2.1.lt) (xad (H4.out.2.2.1.trans (xar h46 H4.out.2.2.1.size)) (HM5.out.below hb HM5.out.lt))))
  clear hb h46 hat5
  cases hK:(cg (ew l) c).isSome
  ·have HE:Hid (eF l c=5∧aP l c=[]):=ab (by unfold eF aP;rw [HRT.out,hK];exact ⟨rfl,rfl⟩)
   clear hK
   go_wp2_with fail
   refine bodyPost_ret (v:=.tuple #[.slice none 0 0,.int .i64 5]) (by simp [results,Tryz.results33,go_sem]) rfl ?_
   refine ⟨_,by rw [HE.out.1],?_,H6.out.2.2.1⟩
   rw [HE.out.2]
   exact xbg _ _ _ _
  ·have HE:Hid (eF l c=0∧aP l c=Dr.cE (l.map itP) c):=ab (by unfold eF aP;rw [HRT.out,hK];exact ⟨rfl,rfl⟩)
   have HCM:=ab (jl hK)
   clear hK
   go_wp2_with (first | ((with_reducible refine ae 23 ?_);(refine aa rfl (.agg (#[.map (some mb),.slice A l.length cap])) w6 (av 129 (.tmp 6) rfl w2.heap.size rfl 129 _ _ w6 H6.out.1 Tryz.underlying129 rfl (by kernel_rfl)) ?_)) | ((with_reducible refine ae 24 ?_);(refine aa rfl (.agg ((bv c).toArray)) w6 (av 34 (.tmp 3) rfl w.heap.size rfl 34 _ _ w6 H6.out.2.1 Tryz.underlying34 rfl hszc) ?_)))
   refine (xr w6 l mb A cap (fW h H6.out.2.2.1) hl hlen ((Dr.iA _).1 HRT.out) H6.out.2.2.2 c hc HCM.out).mono ?_
   rintro e w7 ⟨gn,rfl,hkn,hgn,hb⟩
   dsimp only
   have hnl:(Dr.cH (l.map itP) (iY (l.map itP) c)).length=l.length:=by rw [Dr.dF,xap]
   have H7:=ab (xad hkn (xad (H6.out.2.2.1.trans (xar hb H6.out.2.2.1.size)) (xaH H6.out.2.2.1.size hgn)))
   have HNL:=ab hnl
   clear hkn hgn hb hnl
   go_wp2_with fail
   go_loopw [4,27] (fun x4 x27 wr=>∃ (j:Nat) (u:Value),j≤l.length∧u=x4∧x27=.int .i64 (j:Int)∧Blk wr gn 4 ((Dr.cH (l.map itP) (iY (l.map itP) c)).map Value.bool).toArray∧wr.ownsRow w.heap.size 34 20 u (Dr.eh ((Dr.css (l.map itP)).take j) ((Dr.cH (l.map itP) (iY (l.map itP) c)).take j)).length ((Dr.eh ((Dr.css (l.map itP)).take j) ((Dr.cH (l.map itP) (iY (l.map itP) c)).take j)).flatMap bv)∧Below w.heap.size w wr) (fun _ x27 _=>l.length-(intOf x27).toNat)
   case atStart=>exact ⟨0,_,by omega,rfl,rfl,H7.out.1,xbg _ _ _ _,H7.out.2.1⟩
   case round =>
    obtain ⟨wo,rfl⟩:∃ wo,wo=wr:=⟨_,rfl⟩
    obtain ⟨j,x4,hj,rfl,rfl,hk,hown,hbw⟩:=hrel
    have HI:=ab (xad hk (xad hown hbw))
    clear hk hown hbw
    have j0:(0:Int)≤(j:Int):=by omega
    by_cases hj2:j<l.length
    ·have j1:(j:Int)<(l.length:Int):=by omega
     obtain ⟨x,hx⟩:∃ x,l[j]?=some x:=⟨_,xai hj2⟩
     obtain ⟨b,off,rfl,hlb,hE⟩:=HA.out (by omega)
     obtain ⟨cs,hr,hatx⟩:=hE j x hx
     obtain ⟨q1,q2,rfl,hxo,hxd⟩:=cF.1 hatx
     obtain ⟨B1,k1,rfl,_⟩:=aj hxd.ins
     obtain ⟨B2,k2,rfl,_⟩:=aj hxd.rcp
     obtain ⟨q1,hq1⟩:∃ q1,q1=xas B1 x.2.2.1.length k1:=⟨_,rfl⟩
     obtain ⟨q2,hq2⟩:∃ q2,q2=xas B2 x.2.2.2.length k2:=⟨_,rfl⟩
     have hone1:q1.oneCell'=true∧q2.oneCell'=true:=by rw [hq1,hq2];exact ⟨rfl,rfl⟩
     rw [← hq1,← hq2] at hr hatx
     rw [← hq1,← hq2] at hxd
     have hbnd:=hl x (xaj hx)
     have HX:=ab (xad (bX hr (HI.out.2.2.block b (by omega))) (xad hxo hxd))
     have HXX:=ab hx
     have hszt2:(Tryz.prog.info? 59).map (·.size)=some (tC x q1 q2).toArray.size:=by rw [show (tC x q1 q2).toArray.size=23 by rw [xal];exact cl hxo];kernel_rfl
     have hszt:(Tryz.prog.info? 59).map (·.size)=some (tC x q1 q2).length:=by simpa using hszt2
     have hszzt:zcT.size=(tC x q1 q2).toArray.size:=by rw [show (tC x q1 q2).toArray.size=23 by rw [xal];exact cl hxo];kernel_rfl
     have honet:(tC x q1 q2).toArray.all (·.oneCell')=true:=all_oneCell_toArray (gQ x hone1.1 hone1.2)
     have hszx:(Tryz.prog.info? 34).map (·.size)=some (bv x.1).length:=by have:=bB hxo;simpa using this
     have hszx2:=bB hxo
     clear hx hE hr hatx hxd hq1 hq2
     have hhc:=hxo
     obtain ⟨v,hv⟩:∃ v,(Dr.cH (l.map itP) (iY (l.map itP) c))[j]?=some v:=⟨_,xai (by rw [HNL.out];exact hj2)⟩
     have hsn:=sf _ _ j x.1 v (FC HXX.out) hv
     have hcv:=o5 HI.out.1 hv
     have HSN:=ab hsn
     have HCV:=ab hcv
     have hol:(Dr.eh ((Dr.css (l.map itP)).take j) ((Dr.cH (l.map itP) (iY (l.map itP) c)).take j)).length≤j:=tt _ _ j
     clear hsn hcv hv
     cases v
     ·go_wp2_with (first | ((with_reducible refine ae 30 ?_);(refine aa rfl (.pointer (some ⟨gn,j,none⟩)) wo (ia 133 4 (.tmp 25) (.tmp 27) rfl gn l.length l.length j rfl rfl hj2 Tryz.underlying133 (by kernel_rfl) wo) ?_)) | ((with_reducible refine ae 31 ?_);(refine aa rfl (.bool false) wo (exec_load_cell 4 (.tmp 30) rfl ⟨gn,j,none⟩ rfl _ _ wo Tryz.underlying4 rfl (show wo.cell? ⟨gn,j,none⟩=some (.bool false) from HCV.out)) ?_)))
      go_roundw
      case rel=>exact ⟨j+1,x4,by omega,rfl,by go_num,HI.out.1,by rw [HSN.out];simpa using HI.out.2.1,HI.out.2.2⟩
      case measure=>simp [intOf];omega
     ·go_wp2_with (first | ((with_reducible refine ae 30 ?_);(refine aa rfl (.pointer (some ⟨gn,j,none⟩)) wo (ia 133 4 (.tmp 25) (.tmp 27) rfl gn l.length l.length j rfl rfl hj2 Tryz.underlying133 (by kernel_rfl) wo) ?_)) | ((with_reducible refine ae 31 ?_);(refine aa rfl (.bool true) wo (exec_load_cell 4 (.tmp 30) rfl ⟨gn,j,none⟩ rfl _ _ wo Tryz.underlying4 rfl (show wo.cell? ⟨gn,j,none⟩=some (.bool true) from HCV.out)) ?_)) | ((with_reducible refine ae 36 ?_);(refine aa rfl (.pointer (some ⟨b,off+(j:Int).toNat*23,none⟩)) wo (aJ 22 59 (.tmp 34) (.tmp 35) rfl b off l.length cap (j:Int) .i64 rfl rfl ⟨j0,j1⟩ 23 Tryz.underlying22 cJ wo) ?_;rw [show off+(j:Int).toNat*23=off+j*23 by omega])) | ((with_reducible refine ae 38 ?_);(refine aa rfl (.agg (bv x.1).toArray) wo (ai 34 (.tmp 37) rfl b (off+j*23) rfl (bv x.1) _ wo (cz HX.out.1) Tryz.underlying34 rfl hszx) ?_)) | ((with_reducible refine ae 39 ?_);(refine aO rfl 27 (.tmp 38) rfl 34 20 (.agg zcH) (.agg (bv x.1).toArray) rfl Tryz.underlying27 kP (by decide) (by decide) (fun w=>by kernel_rfl) (by rw [xaU,xal,bvL];exact hhc) ?_);intro w8 hn;have H8:=ab hn;have h8:=ab (xad (hn.src (cs:=bv x.1) (n:=20) (by rw [bvL];exact hxo) (bv1 x.1)) (ao HI.out.2.1 fun g _ hl9=>hn.below.block g hl9));clear hn;simp only [xae,xaa,xab,xac]) | (at_builtin;((with_reducible refine ae 40 ?_);refine aE rfl _ _ 27 rfl w.heap.size 34 ih _ 20 20 Tryz.underlying27 HJ.out.1 HJ.out.2.1 HJ.out.2.2.1 HJ.out.2.2.2 rfl (by decide) _ ((Dr.eh ((Dr.css (l.map itP)).take j) ((Dr.cH (l.map itP) (iY (l.map itP) c)).take j)).length) ((Dr.eh ((Dr.css (l.map itP)).take j) ((Dr.cH (l.map itP) (iY (l.map itP) c)).take j)).flatMap bv) h8.out.2 (some ⟨wo.heap.size,0,none⟩) 1 1 (bv x.1) h8.out.1 ?hm1 ?hb1 ?hz1 rfl rfl ?_)))
      case hm1=>simp only [maxLen];omega
      case hb1=>omega
      case hz1=>have:=HI.out.2.2.size;have:=H8.out.below.size;omega
      intro u9 w9 own9 gr9 _
      have h9:w9.ownsRow w.heap.size 34 20 u9 (Dr.eh ((Dr.css (l.map itP)).take (j+1)) ((Dr.cH (l.map itP) (iY (l.map itP) c)).take (j+1))).length ((Dr.eh ((Dr.css (l.map itP)).take (j+1)) ((Dr.cH (l.map itP) (iY (l.map itP) c)).take (j+1))).flatMap bv):=by rw [HSN.out];simpa using own9
      have hkb:Blk w9 gn 4 ((Dr.cH (l.map itP) (iY (l.map itP) c)).map Value.bool).toArray:=(gr9.block _ (by have:=HI.out.1.lt;have:=H8.out.below.size;omega) (fun e=>ef h8.out.2 (HI.out.1.below H8.out.below HI.out.1.lt) (by decide) e.symm)).trans (HI.out.1.below H8.out.below HI.out.1.lt)
      have hb9:Below w.heap.size w w9:=(HI.out.2.2.trans (xar H8.out.below HI.out.2.2.size)).grown gr9 (by have:=HI.out.2.2.size;have:=H8.out.below.size;omega) (fun k hk=>(az h8.out.2 hk).1)
      have H9:=ab (xad hkb (xad h9 hb9))
      clear own9 gr9 h9 hkb hb9
      go_wp2_with fail
      go_roundw
      case rel=>exact ⟨j+1,u9,by omega,rfl,by go_num,H9.out.1,H9.out.2.1,H9.out.2.2⟩
      case measure=>simp [intOf];omega
    ·obtain rfl:j=l.length:=by omega
     have ho:=HI.out.2.1
     rw [xav (by rw [DQ];exact xag _),xav (by rw [HNL.out];exact xag _),← zZ] at ho
     have HO:=ab ho
     clear ho
     obtain ⟨u9,hu9⟩:∃ u9,u9=x4:=⟨_,rfl⟩
     go_wp2_with fail
     refine bodyPost_ret (v:=.tuple #[x4,.int .i64 0]) (by simp [results,Tryz.results33,go_sem]) rfl ?_
     refine ⟨_,by rw [HE.out.1],?_,HI.out.2.2⟩
     rw [HE.out.2]
     exact HO.out
end Go.Proofs.YtomnhnmciopiiaaGreat
end
section
namespace Go.Proofs.YtomnhnmciopiiaaGreat
open Go Go.RowKit Go.WideShapes Go.ChangeShapes
theorem k7 {H:Type} {P:Program} {e:TypeId}:∀ {l:List (DataW H)} {d:DataW H},d∈l→∀ n∈d.weights P e,n∈DataW.weightsAll P e l
 | [],_,h,_,_=>by cases h
 | x :: l,d,h,n,hn=>by
  rw [DataW.weightsAll,xax]
  rcases xaD.1 h with rfl | h
  ·exact .inl hn
  ·exact .inr (k7 h n hn)
structure Lay.fO {α:Type} (L:Lay α) (P:Program) (M:Nat) (sm:α→Prop):Prop where
 cells:P.cellsOf L.t=L.n
 op:∀ {H:Type} {enc:TypeId×Value→H} {w:World} {sp:Nat→Bool} {hd:Bool} {fuel:Nat} {cs:List Value} {y:DataW H×List MemPlace},DataW.trod enc P w 0 sp hd fuel L.t cs=some y→∃ x,L.At w w.heap.size cs x∧((∀ n∈y.1.weights P L.t,n≤M)→sm x)
structure jT.fO {α:Type} (F:jT α) (P:Program) (M:Nat) (sm:α→Prop):Prop where
 op:∀ {H:Type} {enc:TypeId×Value→H} {w:World} {sp:Nat→Bool} {hd:Bool} {fuel:Nat} {cs:List Value} {off:Nat},cs.length=off+F.n→∀ ys:List (DataW H×List MemPlace),ys.length=(F.shape off).length →
  (∀ (i:Nat) p,(F.shape off)[i]?=some p→DataW.trod enc P w 0 sp hd fuel p.1 ((cs.drop p.2).take (P.cellsOf p.1))=ys[i]?)→∃ x,F.At w w.heap.size (cs.drop off) x∧((∀ n∈DataW.weightsEach P ((F.shape off).map (·.1)) (ys.map (·.1)),n≤M)→sm x)
theorem Lay.eG.w {α:Type} {L:Lay α} {P:Program} (h:L.eG P) (M:Nat):L.fO P M fun _=>True where
 cells:=h.cells
 op:=fun hy=>by
  obtain ⟨x,hx⟩:=h.op hy
  exact ⟨x,hx,fun _=>trivial⟩
theorem eA {P:Program} {M:Nat}:jT.nil.fO P M fun _=>True where
 op:=fun {H enc w sp hd fuel cs off} h _ _ _=>⟨(),by
  have h:cs.length=off+0:=h
  show cs.drop off=[]
  rw [List.drop_eq_nil_iff]
  omega,fun _=>trivial⟩
theorem aZ {P:Program} {M:Nat} {α β:Type} {L:Lay α} {F:jT β} {s1:α→Prop} {s2:β→Prop} (hL:L.fO P M s1) (hF:F.fO P M s2):(jT.cons L F).fO P M fun x=>s1 x.1∧s2 x.2 where
 op:=fun {H enc w sp hd fuel cs off} hl ys hys h=>by
  have hl:cs.length=off+(L.n+F.n):=hl
  have hys:ys.length=(F.shape (off+L.n)).length+1:=hys
  match ys,hys with
  | y :: ys,hys =>
   have h0:=h 0 (L.t,off) rfl
   obtain ⟨x1,h1,k1⟩:=hL.op h0
   obtain ⟨x2,h2,k2⟩:=hF.op (off:=off+L.n) (cs:=cs) (by omega) ys (by simpa using hys) (fun i p hp=>by
    have:=h (i+1) p (by rw [← hp];rfl)
    simpa using this)
   refine ⟨(x1,x2),⟨_,_,?_,h1,h2⟩,fun hw=>?_⟩
   ·rw [hL.cells,← List.drop_drop,List.take_append_drop]
   ·have hw:∀ n∈y.1.weights P L.t++DataW.weightsEach P ((F.shape (off+L.n)).map (·.1)) (ys.map (·.1)),n≤M:=hw
    exact ⟨k1 fun n hn=>hw n (xaY _ hn),k2 fun n hn=>hw n (xbi _ hn)⟩
theorem cZ {P:Program} {M:Nat} {γ β:Type} {t:TypeId} {F:jT β} {f:γ→β} {fs:Array Field} {s:β→Prop} (mk:β→γ) (hmk:∀ b,f (mk b)=b) (hF:F.fO P M s) (ht:P.underlying t=some (.struct fs)) (hc:P.cellsOf t=F.n)
  (hs:fs.toList.map (fun g=>(g.type,g.offset))=F.shape 0):(Lay.struct t F f).fO P M fun x=>s (f x) where
 cells:=hc
 op:=fun {H enc w sp hd fuel cs y} h=>by
  obtain ⟨xs,n,_,hy,hl,hxl,hel⟩:=DataW.trod_struct ht h
  have hsl:(F.shape 0).length=fs.size:=by rw [← hs];simp
  obtain ⟨b,hb,hk⟩:=hF.op (H:=H) (enc:=enc) (w:=w) (sp:=sp) (hd:=hd) (fuel:=n) (cs:=cs) (off:=0) (by omega) xs (by omega) (fun i p hp=>by
   rw [← hs,xaL] at hp
   cases e:fs.toList[i]? with
   | none=>rw [e] at hp;cases hp
   | some g =>
    rw [e] at hp
    injection hp with hp
    subst hp
    exact hel i g (by simpa using e))
  refine ⟨mk b,?_,fun hw=>?_⟩
  ·show F.At w w.heap.size cs (f (mk b))
   rw [hmk]
   simpa using hb
  ·rw [hmk]
   refine hk fun m hm=>hw m ?_
   rw [hy]
   show m∈DataW.weights P t (.agg (xs.map (·.1)))
   simp only [DataW.weights,ht]
   have e:fs.toList.map (·.type)=(F.shape 0).map (·.1):=by
    rw [← hs,List.map_map]
    rfl
   rw [e]
   exact hm
theorem fI {P:Program} {M:Nat} {α:Type} {t:TypeId} {L:Lay α} {s:α→Prop} (hL:L.fO P M s) (hn:0<L.n) (ht:P.underlying t=some (.slice L.t)) (hc:P.cellsOf t=1):(Lay.slice t L).fO P M fun l=>l.length*P.bytesOf L.t≤M∧∀ x∈l,s x where
 cells:=hc
 op:=fun {H enc w sp hd fuel cs y} h=>by
  rcases Go.Deep.open_slice ht h with ⟨rfl,_⟩ | ⟨a,len,cap,m,n,D,Pl,rfl,_,hl,hm,hmm,hy,hi⟩
  ·exact ⟨[],⟨none,0,rfl,xag _,Nat.zero_le _,fun _=>rfl,fun h=>absurd h (by simp)⟩,fun _=>⟨by simp,fun x hx=>by cases hx⟩⟩
  ·rw [hL.cells] at hi
   have hml:len≤m:=by rw [hmm];split<;>omega
   have hw1:(∀ k∈y.1.weights P t,k≤M)→len*P.bytesOf L.t≤M∧∀ i,i<len→∀ k∈(D i).weights P L.t,k≤M:=by
    intro hw
    rw [hy] at hw
    simp only [DataW.weights,ht] at hw
    have h1:=hw _ (List.mem_cons_self ..)
    simp only [xap,List.length_range] at h1
    refine ⟨xaH (xbm _ (by omega)) h1,fun i hi k hk=>hw k (List.mem_cons_of_mem _ (xaY _ (k7 (d:=D i) ?_ k hk)))⟩
    exact xaA.2 ⟨i,xba.2 hi,rfl⟩
   have hel:∀ i,i<len→∃ (x:α) (cs:List Value),cs.length=L.n∧(∀ k,k<L.n→w.cell? ((a.add (i*L.n)).add k)=cs[k]?)∧L.At w w.heap.size cs x∧((∀ k∈(D i).weights P L.t,k≤M)→s x):=by
    intro i hil
    obtain ⟨cs',hc',htr⟩:=hi i (by omega)
    obtain ⟨_,hcl,hat⟩:=World.cells?_some hc'
    obtain ⟨x,hx,hk⟩:=hL.op htr
    exact ⟨x,cs',hcl,hat,hx,hk⟩
   rcases Nat.eq_zero_or_pos len with rfl | hpos
   ·exact ⟨[],⟨some a,cap,rfl,Nat.zero_le _,hm,(fun h=>by cases h),fun h=>absurd h (by simp)⟩,fun _=>⟨by simp,fun x hx=>by cases hx⟩⟩
   obtain ⟨x0,_⟩:=hel 0 hpos
   obtain ⟨f,hf⟩:∃ f:Nat→α,∀ i,i<len→∃ cs:List Value,cs.length=L.n∧(∀ k,k<L.n→w.cell? ((a.add (i*L.n)).add k)=cs[k]?)∧L.At w w.heap.size cs (f i)∧((∀ k∈(D i).weights P L.t,k≤M)→s (f i)) :=
    ⟨fun i=>if h:i<len then Classical.choose (hel i h) else x0,fun i h=>by simp only [dif_pos h];exact Classical.choose_spec (hel i h)⟩
   clear hel
   have hll:((xaf len).map f).length=len:=by simp
   refine ⟨(xaf len).map f,⟨some a,cap,by rw [hll],by omega,hm,(fun h=>by cases h),fun _=>?_⟩,fun hw=>⟨by rw [hll];exact (hw1 hw).1,fun x hx=>?_⟩⟩
   ·obtain ⟨c0,q0,q1,_⟩:=hf 0 hpos
    have hcell:=q1 0 hn
    rw [xai (by omega)] at hcell
    obtain ⟨b,off,sp'⟩:=a
    cases sp' with
    | some q =>
     have h2:w.cell? ⟨b,off,some q⟩=some c0[0]:=by simpa [Addr.add] using hcell
     rw [rE] at h2
     cases h2
    | none =>
     have h2:w.cell? ⟨b,off,none⟩=some c0[0]:=by simpa [Addr.add] using hcell
     refine ⟨b,off,rfl,xa5 w _ h2,fun j x hj=>?_⟩
     obtain ⟨hj1,hj2⟩:=xah.1 hj
     rw [hll] at hj1
     have hj3:f j=x:=by simpa using hj2
     obtain ⟨cs,k1,k2,k3,_⟩:=hf j hj1
     rw [hj3] at k3
     refine ⟨cs,fun k v hk=>?_,k3⟩
     have hkn:k<L.n:=by
      have:=(xah.1 hk).1
      omega
     have:=k2 k hkn
     rw [add_plain,add_plain,hk] at this
     exact this
   ·obtain ⟨i,hi2,rfl⟩:=xaA.1 hx
    have hil:=xba.1 hi2
    obtain ⟨_,_,_,_,k4⟩:=hf i hil
    exact k4 ((hw1 hw).2 i hil)
end Go.Proofs.YtomnhnmciopiiaaGreat
end
section
namespace Go.Proofs.YtomnhnmciopiiaaGreat
open Go Go.RowKit Go.Maps Go.WideShapes Go.ChangeShapes
def fH (most:Nat):Nat→List Nam→Nat
 | n,[]=>n
 | n,x :: l=>if n≤most then fH most (n+1+x.1.size+x.2.1.2.size) l else n
def eo (most:Nat) (d:Drv):Nat:=fH most (1+d.1.size+d.2.2.length) d.2.1
structure iU (d:Drv):Prop where
 name:d.1.size≤140737488355328
 ins:d.2.1.length≤140737488355328
 rcp:d.2.2.length≤140737488355328
 each:∀ x∈d.2.1,x.1.size≤140737488355328∧x.2.1.2.size≤140737488355328
theorem se (most:Nat):∀ (l:List Nam) (n:Nat),n≤fH most n l
 | [],n=>xag _
 | x :: l,n=>by
  unfold fH
  split
  ·exact xaH (by omega) (se most l _)
  ·exact xag _
theorem qg (most:Nat):∀ (l:List Nam) (n:Nat),fH most n l≤most→n+l.length≤most
 | [],n,h=>h
 | x :: l,n,h=>by
  unfold fH at h
  split at h
  ·have:=qg most l _ h
   rw [xaF]
   omega
  ·omega
theorem ve {most:Nat} {l:List Nam} {k:Nat} {x:Nam} {n:Nat} (h:l[k]?=some x) (hn:n≤most):fH most n (l.drop k)=fH most (n+1+x.1.size+x.2.1.2.size) (l.drop (k+1)):=by
 have hj:=(xah.1 h)
 rw [List.drop_eq_getElem_cons hj.1,hj.2,fH,if_pos hn]
theorem vf {most:Nat} {l:List Nam} {n:Nat} (hn:¬ n≤most):fH most n l=n:=by
 cases l with
 | nil=>rfl
 | cons x l=>rw [fH,if_neg hn]
theorem F5 {x:Nam} (h:okN x):(nC x)[21]?=some (.string x.2.1.2):=by
 have e:nC x=(.string x.1 :: bv x.2.1.1)++(.string x.2.1.2 :: (bv x.2.2.1++[.bool x.2.2.2])):=by simp [nC,iC,pC]
 have hl:(xbd x.1 :: bv x.2.1.1).length=21:=by rw [xaF,bvL,show x.2.1.1.length=20 from h.2.1.1]
 rw [e,List.getElem?_append_right (by omega),hl]
 rfl
theorem bQ {P:Program} {ρ:Operand→Value} {o:Oper} (ty e:TypeId) (x i:Operand) (ho:o.op=.indexAddr ty x i) (b off n cap k:Nat) (hx:ρ x=.slice (some ⟨b,off,none⟩) n cap) (hi:ρ i=.int .i64 (k:Int)) (hk:k<n) (s:Nat) (hu:P.underlying ty=some (.slice e)) (hs:(P.info? e).map (·.size)=some s) (w:World) :
  (execOp ρ o).run P w=.ok (.value (.pointer (some ⟨b,off+k*s,none⟩))) w:=by
 have h:=aJ (P:=P) (ρ:=ρ) (o:=o) ty e x i ho b off n cap (k:Int) .i64 hx hi ⟨by omega,by omega⟩ s hu hs w
 rwa [xbr] at h
theorem de {x:Itm} {v1 v2:Value} {w:World} {b o:Nat} (h:okH x.1) (hr:w.rangeAt b o (tC x v1 v2)):w.rangeAt b (o+20) (dC x.2 v1 v2):=by
 have h2:=ff (c1:=bv x.1) (c2:=dC x.2 v1 v2) (by simpa [tC] using hr)
 rwa [bvL,show x.1.length=20 from h] at h2
theorem sD (a b:Hsh) (ha:okH a) (hb:okH b) (w:World):(binOp .neq 34 (hV a) (hV b)).run Tryz.prog w=.ok (.bool (!decide (a=b))) w:=by
 have h:=dc a b ha hb w
 unfold hV at h ⊢
 simp only [binOp,xaI,h,xat,xaQ]
def qs {H:Type} [DecidableEq H] (l:List H) (c:H):Int:=if c∈l then (l.idxOf c:Int) else -1
end Go.Proofs.YtomnhnmciopiiaaGreat
end
section
namespace Go.Proofs.YtomnhnmciopiiaaGreat
open Go Go.RowKit Go.Maps
def findD (l:List Itm) (c:Hsh):Drv:=((l.find? fun x=>decide (x.1=c)).map (·.2)).getD (⟨#[]⟩,[],[])
theorem DP (l:List Nam):(aA l).length≤l.length:=by have:=im l l.length;rwa [xaG] at this
theorem xI {H:Type} [DecidableEq H] {l:List H} {c:H} (h:c∈l):∃ p:Nat,qs l c=(p:Int)∧p=l.idxOf c∧p<l.length:=by
 refine ⟨l.idxOf c,?_,rfl,xbp.2 h⟩
 unfold qs
 rw [if_pos h]
end Go.Proofs.YtomnhnmciopiiaaGreat
end
section
namespace Go.Proofs.YtomnhnmciopiiaaGreat
open Go Go.RowKit
theorem xQ {P:Program} {t n1 n2:Nat} {fields:Array Field} {z v1 v2:Value} (ht:P.underlying t=some (.struct fields)) (hz:∀ w,(zeroValue t).run P w=.ok z w) (hzs:z.cells.size=n1+n2)
  (hpl:∀ w,(fields.mapM fun f=>do pure (f.offset,← sizeOf f.type):Sem (Array (Nat×Nat))).run P w=.ok #[(0,n1),(n1,n2)] w) (h1:v1.cells.size=n1) (h2:v2.cells.size=n2) (w:World) :
  (Instr.build t #[(0,v1),(1,v2)]).run P w=.ok (.agg (v1.cells++v2.cells)) w:=by
 have hfill:Instr.fill (fun i=>(#[(0,n1),(n1,n2)]:Array (Nat×Nat))[i]?) z.cells [(0,v1),(1,v2)]=some (v1.cells++v2.cells):=by
  rw [kB _ _ 0 v1 _ 0 (by simp [h1]) (by omega)]
  rw [kB _ _ 1 v2 [] n1 (by simp [h2]) (by simp;omega)]
  unfold Instr.fill
  congr 1
  apply Array.ext'
  have e1:v1.cells.toList.length=n1:=by rw [Array.length_toList,h1]
  have e2:z.cells.toList.length=n1+n2:=by rw [Array.length_toList,hzs]
  simp only [xaC,List.nil_append,xcj,Nat.zero_add,h1,h2]
  rw [List.take_left' e1,List.drop_of_length_le (by rw [xak,List.length_drop];omega),xbo]
 unfold Instr.build
 simp only [xaI,hz,xat,run_underlying ht]
 rw [hpl]
 simp only [xat]
 rw [hfill]
 rfl
theorem gC {P:Program} {ρ:Operand→Value} {o:Oper} (t:TypeId) (x y:Operand) (ho:o.op=.build t #[(0,x),(1,y)]) {n1 n2:Nat} {fields:Array Field} {z v1 v2:Value} (hx:ρ x=v1) (hy:ρ y=v2) (ht:P.underlying t=some (.struct fields)) (hz:∀ w,(zeroValue t).run P w=.ok z w) (hzs:z.cells.size=n1+n2)
  (hpl:∀ w,(fields.mapM fun f=>do pure (f.offset,← sizeOf f.type):Sem (Array (Nat×Nat))).run P w=.ok #[(0,n1),(n1,n2)] w) (h1:v1.cells.size=n1) (h2:v2.cells.size=n2) (w:World) :
  (execOp ρ o).run P w=.ok (.value (.agg (v1.cells++v2.cells))) w:=by
 have h:=xQ (P:=P) ht hz hzs hpl h1 h2 w
 unfold execOp
 simp only [ho,List.map_toArray,xa9,List.map_nil,hx,hy,xaI,h,xat,xaQ]
end Go.Proofs.YtomnhnmciopiiaaGreat
end
section
namespace Go.Proofs.YtomnhnmciopiiaaGreat
open Go Go.RowKit Go.Maps
theorem bN {h:Hsh} (hh:okH h):(Tryz.prog.info? 34).map (·.size)=some (bv h).length:=by have:=bB hh;simpa using this
theorem fa (h:Hsh):(bv h).toArray.all (·.oneCell')=true:=all_oneCell_toArray (bv1 _)
theorem cK:(Tryz.prog.info? 34).map (·.size)=some zcH.size:=by kernel_rfl
theorem gq:(Tryz.prog.info? 26).map (·.size)=some zcD.size:=by kernel_rfl
theorem Dw:(Tryz.prog.info? 59).map (·.size)=some zcT.size:=by kernel_rfl
theorem dS (d:Drv) (v1 v2:Value):(Tryz.prog.info? 26).map (·.size)=some (dC d v1 v2).toArray.size:=by kernel_rfl
theorem aS (d:Drv) (v1 v2:Value):(Tryz.prog.info? 26).map (·.size)=some (dC d v1 v2).length:=by kernel_rfl
theorem lp (d:Drv) {v1 v2:Value} (h1:v1.oneCell'=true) (h2:v2.oneCell'=true):(dC d v1 v2).toArray.all (·.oneCell')=true:=all_oneCell_toArray fun v hv=>by
 simp only [dC,xaD,xaS,or_false] at hv
 rcases hv with rfl | rfl | rfl
 ·rfl
 ·exact h1
 ·exact h2
theorem ny {x:Itm} {v1 v2:Value} (h:okH x.1):(Tryz.prog.info? 59).map (·.size)=some (tC x v1 v2).length:=by rw [cl h];kernel_rfl
theorem vI {x:Itm} {v1 v2:Value} (h:okH x.1):(Tryz.prog.info? 59).map (·.size)=some (tC x v1 v2).toArray.size:=by rw [xal];exact ny h
theorem Gt (x:Itm) {v1 v2:Value} (h1:v1.oneCell'=true) (h2:v2.oneCell'=true):(tC x v1 v2).toArray.all (·.oneCell')=true:=all_oneCell_toArray (gQ x h1 h2)
theorem dg {w:World} {b o:Nat} {d:Drv} {v1 v2:Value} (h:w.rangeAt b o (dC d v1 v2)):w.rangeAt b (o+1) [v1]:=ig (pre:=[.string d.1]) (post:=[v2]) h rfl rfl
theorem jZ {w:World} {b o:Nat} {d:Drv} {v1 v2:Value} (h:w.rangeAt b o (dC d v1 v2)):w.rangeAt b (o+2) [v2]:=ig (pre:=[.string d.1,v1]) (post:=[]) h rfl rfl
theorem iJ {w:World} {b o:Nat} {d:Drv} {v1 v2:Value} (h:w.rangeAt b o (dC d v1 v2)):w.rangeAt b o [.string d.1]:=da (c2:=[v1,v2]) h
theorem au.dK {w:World} {B:Nat} {d:Drv} {v1 v2:Value} (h:au w B d v1 v2):v1.oneCell'=true∧v2.oneCell'=true:=by
 obtain ⟨A,cap,rfl,_⟩:=aj h.ins
 obtain ⟨A2,cap2,rfl,_⟩:=aj h.rcp
 exact ⟨rfl,rfl⟩
theorem aG.dK {w:World} {B:Nat} {d:Drv} {v1 v2:Value} (h:aG w B d v1 v2):v1.oneCell'=true∧v2.oneCell'=true:=by
 obtain ⟨A1,n1,c1,A2,n2,c2,rfl,rfl⟩:=h.form
 exact ⟨rfl,rfl⟩
def lq (B:Nat) (d:Drv) (u1 u2:Value):Ent:=⟨fun b=>u1.ownBlock=some b∨u2.ownBlock=some b,fun w=>aG w B d u1 u2⟩
theorem ky (B:Nat) (d:Drv) (u1 u2:Value):(lq B d u1 u2).Ok:=fun _ _ h hk=>⟨h.name,h.okn,h.okb,ao h.gj fun g hg hl=>hk g (.inl hg) hl,ao h.eM fun g hg hl=>hk g (.inr hg) hl⟩
theorem sL {w:World} {B:Nat} {d:Drv} {u1 u2:Value} (h:aG w B d u1 u2) {b:Nat} (hf:(lq B d u1 u2).F b):B≤b∧b<w.heap.size:=by
 rcases hf with hf | hf
 ·exact az h.gj hf
 ·exact az h.eM hf
theorem BI {w w':World} {d:Drv} {u1 u2:Value} (h:aG w' w.heap.size d u1 u2) (hb:Below w.heap.size w w'):Mem w w' [lq w.heap.size d u1 u2] :=
 (Mem.start w).new hb (ky _ _ _ _) h fun _ hf=>sL h hf
theorem jK {α β:Type} {f:β→List Value} {pr:β→α} {t e:TypeId} {L:Lay α} (h0:0<L.n) {w:World} {R:Nat} {v:Value} {l:List β} (hown:w.ownsRow R e L.n v l.length (l.flatMap f)) (B:Nat) (hB:w.heap.size≤B) (hat:∀ x∈l,L.At w B (f x) (pr x)):(Lay.slice t L).At w B [v] (l.map pr):=by
 have hlen:∀ x∈l,(f x).length=L.n:=fun x hx=>L.len (hat x hx)
 rcases a7 hown with ⟨rfl,hl,_⟩ | ⟨g,cap,cur,rfl,hbg,hnc,hcm,hg,hcs,htake,_⟩
 ·obtain rfl:=xaT hl
  exact ⟨none,0,rfl,xag _,Nat.zero_le _,(fun _=>rfl),fun h=>absurd h (by simp)⟩
 ·refine ⟨_,cap,by rw [xap],by rw [xap];exact hnc,hcm,(fun h=>by cases h),fun _=>⟨g,0,rfl,by have:=hg.lt;omega,fun j x hj=>?_⟩⟩
  rw [xaL] at hj
  cases hy:l[j]? with
  | none=>rw [hy] at hj;cases hj
  | some y =>
   rw [hy] at hj
   have hxy:pr y=x:=xam hj
   subst hxy
   refine ⟨f y,fun i u hu=>?_,hat y (xaj hy)⟩
   have h2:=mg h0 l hlen j y hy i u hu
   rw [hg.cell,← xa7,Nat.zero_add]
   rw [← htake] at h2
   have hlt:j*L.n+i<l.length*L.n:=by
    have:=(xah.1 h2).1
    rw [xaN] at this
    omega
   rwa [List.getElem?_take_of_lt hlt] at h2
abbrev bI:=Itm×Value×Value
def tV (p:bI):List Value:=tC p.1 p.2.1 p.2.2
def fv (B:Nat) (p:bI):Ent:=lq B p.1.2 p.2.1 p.2.2
theorem oz (B:Nat) (p:bI):(fv B p).Ok:=ky _ _ _ _
def gE (B:Nat) (u:Value) (ls:List bI):List Ent:=[ax B 59 23 u ls.length (ls.flatMap tV),Ent.all ls (fv B)]
theorem oC {w0 w:World} {B:Nat} {u:Value} {ls:List bI} (h:Mem w0 w (gE B u ls)) (hok:∀ p∈ls,okH p.1.1) {N:Nat} (hN:w.heap.size≤N):aH.At w N [u] (ls.map (·.1)) :=
 jK (L:=ka) (f:=tV) (pr:=(·.1)) (by decide) (h.own 0 rfl) N hN fun p hp=>cF.2 ⟨p.2.1,p.2.2,rfl,hok p hp,(show aG w B p.1.2 p.2.1 p.2.2 from (h.get (e:=Ent.all ls (fv B)) 1 rfl).1 p hp).at_ hN⟩
theorem aG.base {w:World} {B B':Nat} {d:Drv} {u1 u2:Value} (h:aG w B d u1 u2) (hB:∀ b,(lq B d u1 u2).F b→B'≤b):aG w B' d u1 u2 :=
 ⟨h.name,h.okn,h.okb,bH h.gj fun g hg=>hB g (.inl hg),bH h.eM fun g hg=>hB g (.inr hg)⟩
theorem fi {w0 w:World} {B B':Nat} {u:Value} {ls:List bI} (h:Mem w0 w (gE B u ls)) (hB:B'≤w0.heap.size):Mem w0 w (gE B' u ls):=by
 have h1:=h.mD (e':=ax B' 59 23 u ls.length (ls.flatMap tV)) 0 rfl (gz _ _ _ _ _ _) (bH (h.own 0 rfl) fun g hg=>xaH hB (h.from_ (e:=ax B 59 23 u ls.length (ls.flatMap tV)) 0 rfl hg).1) (fun _ hf=>hf)
 have hp:=h.get (e:=Ent.all ls (fv B)) 1 rfl
 exact h1.mD (e:=Ent.all ls (fv B)) (e':=Ent.all ls (fv B')) 1 rfl (Ent.oY fun x _=>oz _ x) ⟨fun x hx=>aG.base (hp.1 x hx) fun b hf=>xaH hB (h.from_ (e:=Ent.all ls (fv B)) 1 rfl ⟨x,hx,hf⟩).1,hp.2⟩ fun b hf=>hf
theorem kF:(Tryz.prog.info? 59).map (fun i=>(i.zero,i.size,i.bytes))=some (some (.agg zcT),23,88):=by kernel_rfl
def Fo (B:Nat) (d:Drv) (u:Value) (w:World):Prop:=∃ p:Value×Value,u=.agg (dC d p.1 p.2).toArray∧aG w B d p.1 p.2
def Dz (B:Nat) (x:Itm) (u:Value) (w:World):Prop:=∃ p:Value×Value,u=.agg (tC x p.1 p.2).toArray∧aG w B x.2 p.1 p.2
def Ft (B:Nat) (x:Itm) (u:Value) (w:World):Prop:=∃ (r:Nat) (p:Value×Value),u=.slice (some ⟨r,0,none⟩) 1 1∧B≤r∧Blk w r 59 (tC x p.1 p.2).toArray∧aG w B x.2 p.1 p.2
theorem aG.ja {w w':World} {B:Nat} {d:Drv} {u1 u2:Value} (h:aG w B d u1 u2) (hb:Below w.heap.size w w'):aG w' B d u1 u2:=ky B d u1 u2 w w' h fun b _ hl=>hb.block b hl
theorem DW (B:Nat) (d:Drv):Fre.df Bel (Fo B d):=⟨fun _ _ _ ⟨p,h1,h2⟩ hx=>⟨p,h1,h2.ja hx⟩⟩
theorem Ed (B:Nat) (x:Itm):Fre.df Bel (Dz B x):=⟨fun _ _ _ ⟨p,h1,h2⟩ hx=>⟨p,h1,h2.ja hx⟩⟩
theorem EH (B:Nat) (x:Itm):Fre.df Bel (Ft B x):=⟨fun _ _ _ ⟨r,p,h1,h0,h2,h3⟩ hx=>⟨r,p,h1,h0,h2.below hx h2.lt,h3.ja hx⟩⟩
theorem Cg {ρ:Operand→Value} {o:Oper} (x y:Operand) (ho:o.op=.build 59 #[(0,x),(1,y)]) (B:Nat) {c:Hsh} {d:Drv} (hc:okH c) {u:Value} {W:World} (h1:ρ x=.agg (bv c).toArray) (h2:ρ y=u) (hu:Fo B d u W):∃ u' w',(execOp ρ o).run Tryz.prog W=.ok (.value u') w'∧Fre.Ext Bel W w'∧Dz B (c,d) u' w':=by
 obtain ⟨p,rfl,hp⟩:=hu
 refine ⟨.agg (tC (c,d) p.1 p.2).toArray,W,?_,xao _ _,p,rfl,hp⟩
 refine Eq.trans (gC 59 x y ho (n1:=20) (n2:=3) (z:=.agg zcT) h1 h2 Tryz.underlying59 (fun w=>by kernel_rfl) (by kernel_rfl) (fun w=>by kernel_rfl) (by rw [xaU,xal,bvL];exact hc) (by rfl) W) ?_
 simp [xaU,tC]
theorem C6 {ρ:Operand→Value} {o:Oper} (x:Operand) (ho:o.op=.buildSlice 22 1 #[(0,x)]) (B:Nat) {y:Itm} (hy:okH y.1) {u:Value} {W:World} (hx:ρ x=u) (hu:Dz B y u W) (hB:B≤W.heap.size):∃ u' w',(execOp ρ o).run Tryz.prog W=.ok (.value u') w'∧Fre.Ext Bel W w'∧Ft B y u' w':=by
 obtain ⟨p,rfl,hp⟩:=hu
 have hb:Below W.heap.size W (W.alloc (.cells (tC y p.1 p.2).toArray 59)):=(xao _ W).alloc (xag _) _
 exact ⟨_,_,bl (v:=.agg (tC y p.1 p.2).toArray) 22 x ho hx Tryz.underlying22 (e:=59) (n:=23) cJ (by omega) (by omega) (z:=.agg zcT) (fun w=>by kernel_rfl) (by rw [xaU,xal];exact cl hy) W,hb,_,p,rfl,hB,Blk.new _ _ _,hp.ja hb⟩
end Go.Proofs.YtomnhnmciopiiaaGreat
end
section
namespace Go.Proofs.YtomnhnmciopiiaaGreat
open Go Go.RowKit
theorem pT:∀ (x y:List UInt8),(!xb1 x y&&!(x == y))=xb1 y x
 | [],[]=>rfl
 | a :: x,[]=>rfl
 | [],b :: y=>rfl
 | a :: x,b :: y=>by
  have ih:=pT x y
  simp only [xb1,List.cons_beq_cons]
  by_cases h:a=b
  ·subst h
   have h1:¬ a<a:=by simp
   simp only [h1,decide_false,beq_self_eq_true,xa8,Bool.false_or]
   exact ih
  ·have e1:(a == b)=false:=beq_eq_false_iff_ne.2 h
   have e2:(b == a)=false:=beq_eq_false_iff_ne.2 fun e=>h e.symm
   rw [e1,e2]
   simp only [xbc,Bool.or_false,Bool.not_false,xby]
   have hn:a.toNat ≠ b.toNat:=fun e=>h (UInt8.toNat_inj.1 e)
   by_cases h2:a<b
   ·have h3:¬ b<a:=fun h3=>by
     have:=xcf.1 h2
     have:=xcf.1 h3
     omega
    rw [decide_eq_true h2,decide_eq_false h3]
    rfl
   ·have h3:b<a:=xcf.2 (by
     have:¬ a.toNat<b.toNat:=fun h4=>h2 (xcf.2 h4)
     omega)
    rw [decide_eq_false h2,decide_eq_true h3]
    rfl
end Go.Proofs.YtomnhnmciopiiaaGreat
end
section
namespace Go.Proofs.YtomnhnmciopiiaaGreat
open Go Go.RowKit
section
variable {P:Program} {ops:Array Oper} {rest:List Oper} {o:Oper} {a:Act} {w:World} {Q:Exit→Act→World→Prop} {K:Act→World→Prop}
theorem ah (h:K a w):Exit.then K Q .normal a w:=h
theorem an {id:Nat} (h:Q (.exit id) a w):Exit.then K Q (.exit id) a w:=h
theorem ar {id:Nat} (h:Q .normal a w):Exit.inBlock id Q .normal a w:=h
theorem aB {id:Nat} (h:Q .normal a w):Exit.inBlock id Q (.exit id) a w:=by
 simp only [Exit.inBlock,if_true]
 exact h
theorem yk (hw:xaq o (yielded ops a.tmps)=true) (f:FuncId) (args:Array Value) (hrun:(execOp a.eval o).run P w=.ok (.enter f args) w) {R:Ending→World→Prop} (hc:Calls P f args w R)
  (h:∀ e w',R e w'→∃ v,e=.returned v∧wpList P ops Q rest (a.put o.dst v) w'):wpList P ops Q (o :: rest) a w :=
 iZ hw fun K hK=>by
  unfold Oper.wp
  rw [hrun,Oper.upon_enter]
  refine hc.mono fun e w' hr=>?_
  obtain ⟨v,rfl,h2⟩:=h e w' hr
  exact hK _ _ h2
theorem xR {f:FuncId} {args:Array Value} {v:Value} (h:Calls P f args w fun e w'=>e=.returned v∧w'=w):Calls P f args w fun e w'=>e=.returned v∧Bel w w' :=
 h.mono fun _ _ ⟨h1,h2⟩=>⟨h1,h2▸xao _ _⟩
end
theorem aR {w:World} {B s n cap k:Nat} {A:Option Addr} {t:TypeId} {xs:List Value} (h:w.ownsRow B t s (.slice A n cap) k xs) (hk:0<k):∃ g,A=some ⟨g,0,none⟩∧g<w.heap.size:=by
 obtain ⟨g,c,e,hl⟩:=CQ h hk
 injection e with e1 _ _
 exact ⟨g,e1,hl⟩
theorem aD {α:Type} {l:List α} {j:Nat} {x:α} (h:l[j]?=some x):l.drop j=x :: l.drop (j+1):=by
 obtain ⟨h1,rfl⟩:=xah.1 h
 exact List.drop_eq_getElem_cons h1
theorem bE {α:Type} {l:List α} {j:Nat} (h:l.length≤j):l.drop j=[]:=List.drop_eq_nil_of_le h
section
variable {P:Program} {ρ:Operand→Value} {o:Oper}
theorem BK (t r:TypeId) (x y:Operand) (ho:o.op=.binOp .add t x y r) (k:IntKind) (a b c:Int) (hx:ρ x=.int k a) (hy:ρ y=.int k b) (hc:xbA k (a+b)=c) (W:World):(execOp ρ o).run P W=.ok (.value (.int k c)) W:=by
 subst hc
 unfold execOp
 simp [ho,hx,hy,go_sem,eqGuard,binOp]
theorem FM (t r:TypeId) (x y:Operand) (ho:o.op=.binOp .sub t x y r) (k:IntKind) (a b c:Int) (hx:ρ x=.int k a) (hy:ρ y=.int k b) (hc:xbA k (a-b)=c) (W:World):(execOp ρ o).run P W=.ok (.value (.int k c)) W:=by
 subst hc
 unfold execOp
 simp [ho,hx,hy,go_sem,eqGuard,binOp]
theorem FK (t r:TypeId) (x y:Operand) (ho:o.op=.binOp .mul t x y r) (k:IntKind) (a b c:Int) (hx:ρ x=.int k a) (hy:ρ y=.int k b) (hc:xbA k (a*b)=c) (W:World):(execOp ρ o).run P W=.ok (.value (.int k c)) W:=by
 subst hc
 unfold execOp
 simp [ho,hx,hy,go_sem,eqGuard,binOp]
theorem FJ (t r:TypeId) (x y:Operand) (ho:o.op=.binOp .lss t x y r) (k:IntKind) (a b:Int) (hx:ρ x=.int k a) (hy:ρ y=.int k b) (c:Bool) (hc:decide (a<b)=c) (W:World):(execOp ρ o).run P W=.ok (.value (.bool c)) W:=by
 subst hc
 unfold execOp
 simp [ho,hx,hy,go_sem,eqGuard,binOp]
theorem FI (t r:TypeId) (x y:Operand) (ho:o.op=.binOp .gtr t x y r) (k:IntKind) (a b:Int) (hx:ρ x=.int k a) (hy:ρ y=.int k b) (c:Bool) (hc:decide (b<a)=c) (W:World):(execOp ρ o).run P W=.ok (.value (.bool c)) W:=by
 subst hc
 unfold execOp
 simp [ho,hx,hy,go_sem,eqGuard,binOp]
theorem FH (t r:TypeId) (x y:Operand) (ho:o.op=.binOp .geq t x y r) (k:IntKind) (a b:Int) (hx:ρ x=.int k a) (hy:ρ y=.int k b) (c:Bool) (hc:decide (b≤a)=c) (W:World):(execOp ρ o).run P W=.ok (.value (.bool c)) W:=by
 subst hc
 unfold execOp
 simp [ho,hx,hy,go_sem,eqGuard,binOp]
theorem FF (t r:TypeId) (x y:Operand) (ho:o.op=.binOp .eql t x y r) (k:IntKind) (a b:Int) (hx:ρ x=.int k a) (hy:ρ y=.int k b) (c:Bool) (hc:decide (a=b)=c) (W:World):(execOp ρ o).run P W=.ok (.value (.bool c)) W:=by
 subst hc
 unfold execOp
 simp [ho,hx,hy,go_sem,eqGuard,binOp]
 try rfl
theorem FL (t r:TypeId) (x y:Operand) (ho:o.op=.binOp .neq t x y r) (k:IntKind) (a b:Int) (hx:ρ x=.int k a) (hy:ρ y=.int k b) (c:Bool) (hc:decide (a=b)=c) (W:World):(execOp ρ o).run P W=.ok (.value (.bool (!c))) W:=by
 subst hc
 unfold execOp
 simp [ho,hx,hy,go_sem,eqGuard,binOp]
 try rfl
theorem wF (t:TypeId) (x:Operand) (ho:o.op=.unOp .not t x) (a:Bool) (hx:ρ x=.bool a) (W:World):(execOp ρ o).run P W=.ok (.value (.bool (!a))) W:=by
 unfold execOp
 simp [ho,hx,go_sem,Op.unary]
theorem yr (c x y:Operand) (ho:o.op=.pick c x y) (b:Bool) (hc:ρ c=.bool b) (v:Value) (hv:(if b then ρ x else ρ y)=v) (W:World):(execOp ρ o).run P W=.ok (.value v) W:=by
 unfold execOp
 subst hv
 simp [ho,hc,go_sem]
theorem gu (x:Operand) (ho:o.op=.move x) (v:Value) (hv:ρ x=v) (W:World):(execOp ρ o).run P W=.ok (.value v) W:=by
 unfold execOp
 simp [ho,hv,go_sem]
theorem eQ (x:Operand) (ho:o.op=.assign x) (v:Value) (hv:ρ x=v) (W:World):(execOp ρ o).run P W=.ok (.value v) W:=by
 unfold execOp
 simp [ho,hv,go_sem]
theorem DY (t r:TypeId) (x y:Operand) (ho:o.op=.binOp .geq t x y r) (a b:ByteArray) (hx:ρ x=.string a) (hy:ρ y=.string b) (c:Bool) (hc:xb1 a.toList b.toList=c) (W:World):(execOp ρ o).run P W=.ok (.value (.bool (!c))) W:=by
 subst hc
 unfold execOp
 simp [ho,hx,hy,go_sem,eqGuard,binOp,Op.stringOp]
end
end Go.Proofs.YtomnhnmciopiiaaGreat
end
section
namespace Go.Proofs.YtomnhnmciopiiaaGreat
open Go Go.RowKit
section
variable {P:Program} {ops:Array Oper} {rest l l':List Oper} {o:Oper} {a a' a1:Act} {w:World} {Q:Exit→Act→World→Prop} {K:Act→World→Prop} {v:Value} {tl:List Value} {i:Nat}
def Ru (P:Program) (ops:Array Oper) (Q:Exit→Act→World→Prop) (l l':List Oper) (a a':Act):Prop:=∀ w,wpList P ops Q l' a' w→wpList P ops Q l a w
theorem Ru.nil:Ru P ops Q l l a a:=fun _ h=>h
theorem Ru.nm (e:a=a1) (h:Ru P ops Q l l' a1 a'):Ru P ops Q l l' a a':=e▸h
theorem Ru.val (hw:Region.wanted o (yielded ops a.tmps)=true) (hr:∀ w,(execOp a.eval o).run P w=.ok (.value v) w) (e:a.put o.dst v=a1) (h:Ru P ops Q rest l' a1 a'):Ru P ops Q (o :: rest) l' a a' :=
 fun w hh=>ay hw v w (hr w) (e▸h w hh)
theorem iG (h:a.tmps.toList.drop i=v :: tl):a.eval (.tmp i)=v:=by
 have h1:a.tmps.toList[i]?=some v:=by
  have h2:=congrArg (fun l=>l[0]?) h
  simpa using h2
 show a.tmps.getD i undef=v
 rw [Array.getD_eq_getD_getElem?]
 rw [Array.getElem?_toList] at h1
 rw [h1]
 rfl
theorem W.n (h:o.guard=none) {y:Nat→Option Bool}:Region.wanted o y=true:=by simp only [Region.wanted,h]
theorem yl {g:Nat} {og:Oper} {t:Tmp} {vb:Value} {c:Bool} {tl1:List Oper} {tl2:List Value} (ho:ops.toList.drop g=og :: tl1) (hd:og.dst=some t) (hx:a.tmps.toList.drop t=vb :: tl2) (hb:vb=.bool c):yielded ops a.tmps g=some c:=by
 have h1:ops[g]?=some og:=by
  have h2:=congrArg (fun l=>l[0]?) ho
  simpa using h2
 have h3:a.tmps[t]?=some vb:=by
  have h2:=congrArg (fun l=>l[0]?) hx
  simpa using h2
 unfold yielded
 simp [h1,hd,h3,hb]
theorem W.g {g:Nat} {b c d:Bool} (hg:o.guard=some (g,b)) (hy:yielded ops a.tmps g=some c) (hc:(c == b)=d):Region.wanted o (yielded ops a.tmps)=d:=by
 simp only [Region.wanted,hg,hy]
 cases c<;>cases b<;>simp_all
theorem W.u {g:Nat} {b:Bool} (hg:o.guard=some (g,b)) (hy:yielded ops a.tmps g=none):Region.wanted o (yielded ops a.tmps)=false:=by
 simp only [Region.wanted,hg,hy]
 simp
theorem Ru.sk (hw:Region.wanted o (yielded ops a.tmps)=false) (e:a.put o.dst undef=a1) (h:Ru P ops Q rest l' a1 a'):Ru P ops Q (o :: rest) l' a a' :=
 fun w hh=>wpList_skip hw (e▸h w hh)
theorem FG {ρ:Operand→Value} (x:Operand) (k:Nat) (ho:o.op=.extract x k) {vs:Array Value} (hx:ρ x=.tuple vs) (hv:vs[k]?=some v) (W:World):(execOp ρ o).run P W=.ok (.value v) W:=by
 unfold execOp
 simp [ho,hx,Instr.extract,hv,go_sem]
theorem BN {ρ:Operand→Value} (x:Operand) (t:TypeId) (ho:o.op=.call { callee:=.builtin .len,args:=#[x],argTypes:=#[t] }) {A:Option Addr} {n c:Nat} (hx:ρ x=.slice A n c) (hu:((P.underlying t).any fun u=>match u with | .slice _=>true | _=>false)=true) (W:World):(execOp ρ o).run P W=.ok (.value (.int .i64 (n:Int))) W:=by
 cases h:P.underlying t with
 | none=>rw [h] at hu;cases hu
 | some u =>
  rw [h] at hu
  cases u<;>simp at hu
  unfold execOp
  simp [ho,hx,resolve,invoke,builtin,Builtin.len_,go_sem,goInt,run_underlying (P:=P) h]
theorem Ru.ln {A:Option Addr} {n c:Nat} {t:TypeId} (ho:o.op=.call { callee:=.builtin .len,args:=#[.tmp i],argTypes:=#[t] }) (hx:a.tmps.toList.drop i=.slice A n c :: tl) (hu:((P.underlying t).any fun u=>match u with | .slice _=>true | _=>false)=true) (hw:Region.wanted o (yielded ops a.tmps)=true) (e:a.put o.dst (.int .i64 (n:Int))=a1) (h:Ru P ops Q rest l' a1 a'):Ru P ops Q (o :: rest) l' a a' :=
 .val hw (BN _ _ ho (iG hx) hu) e h
def yS (ops:Array Oper) (t:List Value) (g:Nat):Option Bool:=match ops.toList.drop g with
 | og :: _=>match og.dst with
  | some d=>match t.drop d with
   | .bool b :: _=>some b
   | _=>none
  | none=>none
 | []=>none
def opL (t:List Value):Operand→List Value
 | .tmp i=>t.drop i
 | .const v=>[v]
 | _=>[]
def vB (o:Oper) (t:List Value):List Value:=match o.op with
 | .move x=>opL t x
 | .assign x=>opL t x
 | .pick (.tmp c) x y=>match t.drop c with
  | .bool true :: _=>opL t x
  | .bool false :: _=>opL t y
  | _=>[]
 | .unOp .not _ (.tmp i)=>match t.drop i with
  | .bool true :: _=>[.bool false]
  | .bool false :: _=>[.bool true]
  | _=>[]
 | .extract (.tmp i) k=>match t.drop i with
  | .tuple vs :: _=>vs.toList.drop k
  | _=>[]
 | _=>[]
def vL (ops:Array Oper) (o:Oper) (t:List Value):List Value:=match o.guard with
 | none=>vB o t
 | some (g,b)=>match yS ops t g with
  | some true=>match b with
   | true=>vB o t
   | false=>[undef]
  | some false=>match b with
   | true=>[undef]
   | false=>vB o t
  | none=>[undef]
theorem mR {α:Type} {l:List α} {i:Nat} {x:α} {tl:List α} (h:l.drop i=x :: tl):l[i]?=some x:=by
 have h2:=congrArg (fun l=>l[0]?) h
 simpa using h2
theorem rK {α:Type} {l:List α} {i:Nat} (h:l.drop i=[]):l[i]?=none:=by
 have h2:=congrArg (fun l=>l[0]?) h
 simpa using h2
theorem G0 (ops:Array Oper) (t:Array Value) (g:Nat):yS ops t.toList g=yielded ops t g:=by
 unfold yS yielded
 cases h:ops.toList.drop g with
 | nil =>
  have h1:=rK h
  rw [Array.getElem?_toList] at h1
  simp [h1]
 | cons og tl =>
  have h1:=mR h
  rw [Array.getElem?_toList] at h1
  simp only [h1,Option.bind_some]
  cases hd:og.dst with
  | none=>rfl
  | some d =>
   simp only [Option.bind_some]
   cases h2:t.toList.drop d with
   | nil =>
    have h3:=rK h2
    rw [Array.getElem?_toList] at h3
    simp [h3]
   | cons v tl2 =>
    have h3:=mR h2
    rw [Array.getElem?_toList] at h3
    simp only [h3]
    cases v<;>rfl
theorem tr {x:Operand} (h:opL a.tmps.toList x=v :: tl):a.eval x=v:=by
 cases x with
 | tmp i=>exact iG h
 | const u =>
  simp only [opL,List.cons.injEq] at h
  exact h.1
 | _=>simp [opL] at h
theorem Dp (h:vB o a.tmps.toList=v :: tl) (w:World):(execOp a.eval o).run P w=.ok (.value v) w:=by
 unfold vB at h
 split at h
 ·rename_i x ho
  exact gu x ho v (tr h) w
 ·rename_i x ho
  exact eQ x ho v (tr h) w
 ·rename_i c x y ho
  split at h
  ·rename_i hc
   exact yr _ _ _ ho true (iG hc) v (tr h) w
  ·rename_i hc
   exact yr _ _ _ ho false (iG hc) v (tr h) w
  ·cases h
 ·rename_i t i ho
  split at h
  ·rename_i hc
   injection h with h _
   subst h
   exact wF t _ ho true (iG hc) w
  ·rename_i hc
   injection h with h _
   subst h
   exact wF t _ ho false (iG hc) w
  ·cases h
 ·rename_i i k ho
  split at h
  ·rename_i vs _ hc
   have h1:=mR h
   rw [Array.getElem?_toList] at h1
   exact FG _ k ho (iG hc) h1 w
  ·cases h
 ·cases h
theorem Fm (h:vL ops o a.tmps.toList=v :: tl):(Region.wanted o (yielded ops a.tmps)=true∧∀ w,(execOp a.eval o).run P w=.ok (.value v) w)∨(Region.wanted o (yielded ops a.tmps)=false∧v=undef):=by
 unfold vL at h
 cases hg:o.guard with
 | none =>
  rw [hg] at h
  exact .inl ⟨W.n hg,fun w=>Dp h w⟩
 | some p =>
  obtain ⟨g,b⟩:=p
  rw [hg] at h
  simp only [G0] at h
  cases hy:yielded ops a.tmps g with
  | none =>
   rw [hy] at h
   injection h with h _
   exact .inr ⟨W.u hg hy,h.symm⟩
  | some c =>
   rw [hy] at h
   cases c<;>cases b
   ·exact .inl ⟨W.g hg hy rfl,fun w=>Dp h w⟩
   ·injection h with h _
    exact .inr ⟨W.g hg hy rfl,h.symm⟩
   ·injection h with h _
    exact .inr ⟨W.g hg hy rfl,h.symm⟩
   ·exact .inl ⟨W.g hg hy rfl,fun w=>Dp h w⟩
theorem Ru.st (hv:vL ops o a.tmps.toList=v :: tl) (e:a.put o.dst v=a1) (h:Ru P ops Q rest l' a1 a'):Ru P ops Q (o :: rest) l' a a':=by
 rcases Fm (P:=P) hv with ⟨h1,h2⟩ | ⟨h1,rfl⟩
 ·exact .val h1 h2 e h
 ·exact .sk h1 e h
theorem rn (h:wpList P ops Q l' a' w) (e:Ru P ops Q l l' a a':=by
  (first | (refine' Ru.nm (by simp only [Act.put,List.setIfInBounds_toArray,List.set_cons_zero,List.set_cons_succ];rfl) ?_;rotate_left 2) | skip)
  repeat (first
   | (refine' Ru.st rfl (by simp only [Act.put,List.setIfInBounds_toArray,List.set_cons_zero,List.set_cons_succ];rfl) ?_;rotate_left 2)
   | (refine' Ru.ln rfl rfl (by kernel_rfl) (by first | exact W.n rfl | exact W.g rfl (yl rfl rfl rfl (by with_reducible rfl)) rfl) (by simp only [Act.put,List.setIfInBounds_toArray,List.set_cons_zero,List.set_cons_succ];rfl) ?_;rotate_left 2))
  exact Ru.nil):wpList P ops Q l a w:=e w h
theorem rl {id:Nat} (h:wpList P l.toArray Q l' a' w) (e:Ru P l.toArray Q l l' a a':=by
  (first | (refine' Ru.nm (by simp only [Act.put,List.setIfInBounds_toArray,List.set_cons_zero,List.set_cons_succ];rfl) ?_;rotate_left 2) | skip)
  repeat (first
   | (refine' Ru.st rfl (by simp only [Act.put,List.setIfInBounds_toArray,List.set_cons_zero,List.set_cons_succ];rfl) ?_;rotate_left 2)
   | (refine' Ru.ln rfl rfl (by kernel_rfl) (by first | exact W.n rfl | exact W.g rfl (yl rfl rfl rfl (by with_reducible rfl)) rfl) (by simp only [Act.put,List.setIfInBounds_toArray,List.set_cons_zero,List.set_cons_succ];rfl) ?_;rotate_left 2))
  exact Ru.nil):(Code.region id l.toArray false).wp P Q a w:=wp_region_lit (e w h)
theorem rv (hr:(execOp a.eval o).run P w=.ok (.value v) w) (h:wpList P ops Q l' a' w) (hw:Region.wanted o (yielded ops a.tmps)=true:=by kernel_rfl) (e:Ru P ops Q rest l' (a.put o.dst v) a':=by
  (first | (refine' Ru.nm (by simp only [Act.put,List.setIfInBounds_toArray,List.set_cons_zero,List.set_cons_succ];rfl) ?_;rotate_left 2) | skip)
  repeat (first
   | (refine' Ru.st rfl (by simp only [Act.put,List.setIfInBounds_toArray,List.set_cons_zero,List.set_cons_succ];rfl) ?_;rotate_left 2)
   | (refine' Ru.ln rfl rfl (by kernel_rfl) (by first | exact W.n rfl | exact W.g rfl (yl rfl rfl rfl (by with_reducible rfl)) rfl) (by simp only [Act.put,List.setIfInBounds_toArray,List.set_cons_zero,List.set_cons_succ];rfl) ?_;rotate_left 2))
  exact Ru.nil):wpList P ops Q (o :: rest) a w:=ay hw v w hr (e w h)
theorem rvw {w':World} (hr:(execOp a.eval o).run P w=.ok (.value v) w') (h:wpList P ops Q rest (a.put o.dst v) w') (hw:Region.wanted o (yielded ops a.tmps)=true:=by kernel_rfl):wpList P ops Q (o :: rest) a w:=ay hw v w' hr h
theorem nt (h:K a w):wpList P ops (Exit.then K Q) [] a w:=h
theorem ks (h:K a w):Code.skip.wp P (Exit.then K Q) a w:=wp_skip h
theorem ct {c:Operand} {x y:Code} (h:x.wp P Q a w) (hc:a.eval c=.bool true:=by rfl):(Code.cond c x y).wp P Q a w:=wp_cond hc h
theorem cf {c:Operand} {x y:Code} (h:y.wp P Q a w) (hc:a.eval c=.bool false:=by rfl):(Code.cond c x y).wp P Q a w:=wp_cond hc h
end
section
variable {P:Program} {ρ:Operand→Value} {o:Oper} {W:World} {t r:TypeId} {x y:Operand} {k:IntKind} {p q:Int} {c:Bool}
theorem aK (hc:decide (p<q)=c) (ho:o.op=.binOp .lss t x y r:=by rfl) (hx:ρ x=.int k p:=by rfl) (hy:ρ y=.int k q:=by rfl):(execOp ρ o).run P W=.ok (.value (.bool c)) W:=FJ t r x y ho k p q hx hy c hc W
theorem ou (hc:decide (q<p)=c) (ho:o.op=.binOp .gtr t x y r:=by rfl) (hx:ρ x=.int k p:=by rfl) (hy:ρ y=.int k q:=by rfl):(execOp ρ o).run P W=.ok (.value (.bool c)) W:=FI t r x y ho k p q hx hy c hc W
theorem vS (hc:decide (q≤p)=c) (ho:o.op=.binOp .geq t x y r:=by rfl) (hx:ρ x=.int k p:=by rfl) (hy:ρ y=.int k q:=by rfl):(execOp ρ o).run P W=.ok (.value (.bool c)) W:=FH t r x y ho k p q hx hy c hc W
theorem vR (hc:decide (p=q)=c) (ho:o.op=.binOp .eql t x y r:=by rfl) (hx:ρ x=.int k p:=by rfl) (hy:ρ y=.int k q:=by rfl):(execOp ρ o).run P W=.ok (.value (.bool c)) W:=FF t r x y ho k p q hx hy c hc W
theorem mK (hc:decide (p=q)=c) (ho:o.op=.binOp .neq t x y r:=by rfl) (hx:ρ x=.int k p:=by rfl) (hy:ρ y=.int k q:=by rfl):(execOp ρ o).run P W=.ok (.value (.bool (!c))) W:=FL t r x y ho k p q hx hy c hc W
theorem bp (z:Int) (ho:o.op=.binOp .add t x y r:=by rfl) (hx:ρ x=.int .i64 p:=by rfl) (hy:ρ y=.int .i64 q:=by rfl) (hc:IntKind.wrap .i64 (p+q)=z:=by first | (rw [Go.IntWalk.i64_in _ (by omega)];done) | (rw [Go.IntWalk.i64_in _ (by omega)];omega) | (rw [Go.IntWalk.i64_in _ (by omega)];push_cast;omega)):(execOp ρ o).run P W=.ok (.value (.int .i64 z)) W:=BK t r x y ho .i64 p q z hx hy hc W
theorem Du (z:Int) (ho:o.op=.binOp .sub t x y r:=by rfl) (hx:ρ x=.int .i64 p:=by rfl) (hy:ρ y=.int .i64 q:=by rfl) (hc:IntKind.wrap .i64 (p-q)=z:=by first | (rw [Go.IntWalk.i64_in _ (by omega)];done) | (rw [Go.IntWalk.i64_in _ (by omega)];omega) | (rw [Go.IntWalk.i64_in _ (by omega)];push_cast;omega)):(execOp ρ o).run P W=.ok (.value (.int .i64 z)) W:=FM t r x y ho .i64 p q z hx hy hc W
theorem fw (j:Nat) {e:TypeId} {s b off n cap:Nat} (hu:P.underlying t=some (.slice e)) (hs:(P.info? e).map (·.size)=some s) (ho:o.op=.indexAddr t x y:=by rfl) (hx:ρ x=.slice (some ⟨b,off,none⟩) n cap:=by rfl) (hy:ρ y=.int .i64 (j:Int):=by rfl) (hj:j<n:=by omega):(execOp ρ o).run P W=.ok (.value (.pointer (some ⟨b,off+j*s,none⟩))) W:=by
 have h:=aJ (P:=P) (ρ:=ρ) (o:=o) t e x y ho b off n cap (j:Int) .i64 hx hy ⟨by omega,by omega⟩ s hu hs W
 rwa [Int.toNat_natCast] at h
theorem bT (j:Nat) {e:TypeId} {s b n cap:Nat} (hu:P.underlying t=some (.slice e)) (hs:(P.info? e).map (·.size)=some s) (ho:o.op=.indexAddr t x y:=by rfl) (hx:ρ x=.slice (some ⟨b,0,none⟩) n cap:=by rfl) (hy:ρ y=.int .i64 (j:Int):=by rfl) (hj:j<n:=by omega):(execOp ρ o).run P W=.ok (.value (.pointer (some ⟨b,j*s,none⟩))) W:=by
 have h:=aJ (P:=P) (ρ:=ρ) (o:=o) t e x y ho b 0 n cap (j:Int) .i64 hx hy ⟨by omega,by omega⟩ s hu hs W
 rwa [Int.toNat_natCast,Nat.zero_add] at h
theorem xld {b off:Nat} {cs:List Value} {d:TypeDesc} (hc:W.rangeAt b off cs) (hu:P.underlying t=some d) (hi:(P.info? t).map (·.size)=some cs.length) (ho:o.op=.load t x:=by rfl) (hx:ρ x=.pointer (some ⟨b,off,none⟩):=by rfl) (hd:d.isRow=true:=by rfl):(execOp ρ o).run P W=.ok (.value (.agg cs.toArray)) W:=ai t x ho b off hx cs d W hc hu hd hi
theorem xlc {a:Addr} {u:Value} {d:TypeDesc} (hc:W.cell? a=some u) (hu:P.underlying t=some d) (ho:o.op=.load t x:=by rfl) (hx:ρ x=.pointer (some a):=by rfl) (hd:d.isRow=false:=by rfl):(execOp ρ o).run P W=.ok (.value u) W:=exec_load_cell t x ho a hx u d W hu hd hc
theorem Hl {a b:ByteArray} (hc:decide (a=b)=c) (ho:o.op=.binOp .eql t x y r:=by rfl) (hx:ρ x=.string a:=by rfl) (hy:ρ y=.string b:=by rfl):(execOp ρ o).run P W=.ok (.value (.bool c)) W:=j5 t r x y ho a b hx hy c hc W
theorem lP (a b:ByteArray) (hs:a.size+b.size≤9223372036854775807) (ho:o.op=.binOp .add t x y r:=by rfl) (hx:ρ x=.string a:=by rfl) (hy:ρ y=.string b:=by rfl):(execOp ρ o).run P W=.ok (.value (.string (a++b))) W:=bG t x y r ho a b hx hy hs W
theorem GZ {b:Bool} (ho:o.op=.unOp .not t x:=by rfl) (hx:ρ x=.bool b:=by rfl):(execOp ρ o).run P W=.ok (.value (.bool (!b))) W:=wF t x ho b hx W
end
end Go.Proofs.YtomnhnmciopiiaaGreat
namespace Go.Proofs.YtomnhnmciopiiaaGreat.Fre
open Go Go.RowKit
section
variable {P:Program} {ops:Array Oper} {L:dZ} {w0:World} {rest l l':List Oper} {o:Oper} {a a' a1:Act} {Q:Act→Prop} {X:World→World→Prop} {v:Value} {tl:List Value} {i:Nat}
def Rm (X:World→World→Prop) (P:Program) (ops:Array Oper) (L:dZ) (w0:World) (Q:Act→Prop) (l l':List Oper) (a a':Act):Prop:=aQ X P ops (aq L) w0 Q l' a'→aQ X P ops (aq L) w0 Q l a
theorem Rm.nil:Rm X P ops L w0 Q l l a a:=fun h=>h
theorem Rm.nm (e:a=a1) (h:Rm X P ops L w0 Q l l' a1 a'):Rm X P ops L w0 Q l l' a a':=e▸h
theorem Rm.val (hB:bW (L.map (·.1)) ops o=true) (hw:Region.wanted o (yielded ops a.tmps)=true) (hd:o.dst.bind (aq L)=none) (hr:∀ w,(execOp a.eval o).run P w=.ok (.value v) w) (e:a.put o.dst v=a1) (h:Rm X P ops L w0 Q rest l' a1 a'):Rm X P ops L w0 Q (o :: rest) l' a a' :=
 fun hh=>ag v hB hw hd (fun w _=>hr w) (e▸h hh)
def Fg:Op→Bool
 | .select _ _=>false
 | _=>true
theorem LB.b {keys:List Tmp} (h:Fg o.op=true) (hk:((o.looksAt ops).all fun s=>!keys.contains s)=true):bW keys ops o=true:=by
 unfold bW
 rw [hk,Bool.and_true]
 cases hop:o.op<;>first | rfl | (rw [hop] at h;cases h)
theorem LB.z (h:Fg o.op=true):bW [] ops o=true:=LB.b h (by simp)
theorem Rm.ln {A:Option Addr} {n c:Nat} {t:TypeId} (ho:o.op=.call { callee:=.builtin .len,args:=#[.tmp i],argTypes:=#[t] }) (hx:a.tmps.toList.drop i=.slice A n c :: tl) (hu:((P.underlying t).any fun u=>match u with | .slice _=>true | _=>false)=true) (hB:bW (L.map (·.1)) ops o=true) (hw:Region.wanted o (yielded ops a.tmps)=true) (hd:o.dst.bind (aq L)=none) (e:a.put o.dst (.int .i64 (n:Int))=a1) (h:Rm X P ops L w0 Q rest l' a1 a'):Rm X P ops L w0 Q (o :: rest) l' a a' :=
 .val hB hw hd (BN _ _ ho (iG hx) hu) e h
theorem Rm.sk (hB:bW (L.map (·.1)) ops o=true) (hw:Region.wanted o (yielded ops a.tmps)=false) (hd:o.dst.bind (aq L)=none) (e:a.put o.dst undef=a1) (h:Rm X P ops L w0 Q rest l' a1 a'):Rm X P ops L w0 Q (o :: rest) l' a a' :=
 fun hh=>bR hB hw hd (e▸h hh)
theorem Rm.st (hB:bW (L.map (·.1)) ops o=true) (hd:o.dst.bind (aq L)=none) (hv:vL ops o a.tmps.toList=v :: tl) (e:a.put o.dst v=a1) (h:Rm X P ops L w0 Q rest l' a1 a'):Rm X P ops L w0 Q (o :: rest) l' a a':=by
 rcases Fm (P:=P) hv with ⟨h1,h2⟩ | ⟨h1,rfl⟩
 ·exact .val hB h1 hd h2 e h
 ·exact .sk hB h1 hd e h
theorem rmd (h:aQ X P ops (aq L) w0 Q l' a') (e:Rm X P ops L w0 Q l l' a a':=by
  (first | (refine' Fre.Rm.nm (by simp only [Act.put,List.setIfInBounds_toArray,List.set_cons_zero,List.set_cons_succ];rfl) ?_;rotate_left 2) | skip)
  repeat (first
   | (refine' Fre.Rm.st (by first | exact Fre.LB.z rfl | exact Fre.LB.b rfl rfl) rfl rfl (by simp only [Act.put,List.setIfInBounds_toArray,List.set_cons_zero,List.set_cons_succ];rfl) ?_;rotate_left 2)
   | (refine' Fre.Rm.ln rfl rfl (by kernel_rfl) (by first | exact Fre.LB.z rfl | exact Fre.LB.b rfl rfl) (by first | exact W.n rfl | exact W.g rfl (yl rfl rfl rfl (by with_reducible rfl)) rfl) rfl (by simp only [Act.put,List.setIfInBounds_toArray,List.set_cons_zero,List.set_cons_succ];rfl) ?_;rotate_left 2))
  exact Fre.Rm.nil):aQ X P ops (aq L) w0 Q l a:=e h
theorem mvv (hr:∀ w,Ext X w0 w→(execOp a.eval o).run P w=.ok (.value v) w) (h:aQ X P ops (aq L) w0 Q l' a') (hB:bW (L.map (·.1)) ops o=true:=by kernel_rfl) (hw:Region.wanted o (yielded ops a.tmps)=true:=by kernel_rfl) (hd:o.dst.bind (aq L)=none:=by kernel_rfl) (e:Rm X P ops L w0 Q rest l' (a.put o.dst v) a':=by
  (first | (refine' Fre.Rm.nm (by simp only [Act.put,List.setIfInBounds_toArray,List.set_cons_zero,List.set_cons_succ];rfl) ?_;rotate_left 2) | skip)
  repeat (first
   | (refine' Fre.Rm.st (by first | exact Fre.LB.z rfl | exact Fre.LB.b rfl rfl) rfl rfl (by simp only [Act.put,List.setIfInBounds_toArray,List.set_cons_zero,List.set_cons_succ];rfl) ?_;rotate_left 2)
   | (refine' Fre.Rm.ln rfl rfl (by kernel_rfl) (by first | exact Fre.LB.z rfl | exact Fre.LB.b rfl rfl) (by first | exact W.n rfl | exact W.g rfl (yl rfl rfl rfl (by with_reducible rfl)) rfl) rfl (by simp only [Act.put,List.setIfInBounds_toArray,List.set_cons_zero,List.set_cons_succ];rfl) ?_;rotate_left 2))
  exact Fre.Rm.nil):aQ X P ops (aq L) w0 Q (o :: rest) a:=ag v hB hw hd hr (e h)
end
end Go.Proofs.YtomnhnmciopiiaaGreat.Fre
end
section
namespace Go.Proofs.YtomnhnmciopiiaaGreat
open Go Go.RowKit
section
variable {P:Program} {ops:Array Oper} {rest:List Oper} {o:Oper} {a:Act} {w:World} {Q:Exit→Act→World→Prop} {K:Act→World→Prop} {v:Value}
theorem sk {x y:Code} (h:∀ K:Act→World→Prop,(∀ a w,y.wp P Q a w→K a w)→x.wp P (Exit.then K Q) a w):(Code.seq x y).wp P Q a w:=wp_seq_k h
theorem rp {l':List Oper} {a':Act} (b k:Nat) (h:wpList P ops Q l' a' w) (hr:(execOp a.eval o).run P w=.ok (.value (.pointer (some ⟨b,k,none⟩))) w:=by kernel_rfl) (hw:Region.wanted o (yielded ops a.tmps)=true:=by kernel_rfl) (e:Ru P ops Q rest l' (a.put o.dst (.pointer (some ⟨b,k,none⟩))) a':=by
  (first | (refine' Ru.nm (by simp only [Act.put,List.setIfInBounds_toArray,List.set_cons_zero,List.set_cons_succ];rfl) ?_;rotate_left 2) | skip)
  repeat (first
   | (refine' Ru.st rfl (by simp only [Act.put,List.setIfInBounds_toArray,List.set_cons_zero,List.set_cons_succ];rfl) ?_;rotate_left 2)
   | (refine' Ru.ln rfl rfl (by kernel_rfl) (by first | exact W.n rfl | exact W.g rfl (yl rfl rfl rfl (by with_reducible rfl)) rfl) (by simp only [Act.put,List.setIfInBounds_toArray,List.set_cons_zero,List.set_cons_succ];rfl) ?_;rotate_left 2))
  exact Ru.nil):wpList P ops Q (o :: rest) a w:=ay hw _ w hr (e w h)
theorem rt {fn:Func} {R:Ending→World→Prop} {t:Tmp} (h:R (.returned (a.tmps.getD t undef)) w) (hq:Q .ret a w=bodyPost P fn R .ret a w:=by first | (simp only [Exit.then,Exit.inBlock];done) | (simp only [Exit.then,Exit.inBlock];rfl) | rfl) (hr:fn.results=#[.tmp t]:=by rfl) (hd:a.defers=[]:=by rfl):Code.ret.wp P Q a w :=
 wp_ret (hq▸bodyPost_ret (results_tmp hr _ _ _) hd h)
theorem cs {f:FuncId} {args:Array Value} (hc:Calls P f args w fun e w'=>e=.returned v∧w'=w) (h:wpList P ops Q rest (a.put o.dst v) w) (hw:Region.wanted o (yielded ops a.tmps)=true:=by kernel_rfl) (hrun:(execOp a.eval o).run P w=.ok (.enter f args) w:=by kernel_rfl):wpList P ops Q (o :: rest) a w :=
 yk hw f args hrun hc fun _ _ ⟨e1,e2⟩=>⟨v,e1,e2▸h⟩
theorem ac {f:FuncId} {args:Array Value} {R:Ending→World→Prop} (hc:Calls P f args w R) (h:∀ e w',R e w'→∃ v,e=.returned v∧wpList P ops Q rest (a.put o.dst v) w') (hw:Region.wanted o (yielded ops a.tmps)=true:=by kernel_rfl) (hrun:(execOp a.eval o).run P w=.ok (.enter f args) w:=by kernel_rfl):wpList P ops Q (o :: rest) a w :=
 yk hw f args hrun hc h
theorem gx {α:Type} {l:List α} {j:Nat} (h:j<l.length:=by first | omega | (rw [List.length_map,List.length_range];omega)):∃ x,l[j]?=some x:=⟨_,List.getElem?_eq_getElem h⟩
theorem nz (ty:TypeId) (zc:Array Value) (h:∀ w',fy w w' ty zc→wpList P ops Q rest (a.put o.dst (.pointer (some ⟨w.heap.size,0,none⟩))) w') (hg:o.guard=none:=by rfl) (hr:(execOp a.eval o).run P w=.ok (.value (.pointer (some ⟨w.heap.size,0,none⟩))) (w.alloc (.cells zc ty)):=by kernel_rfl):wpList P ops Q (o :: rest) a w:=aC hg ty zc hr h
theorem bx (ty:TypeId) {x:Operand} (cells:List Value) (h:∀ w',fy w w' ty cells.toArray→wpList P ops Q rest (a.put o.dst (.pointer (some ⟨w.heap.size,0,none⟩))) w') (hg:o.guard=none:=by rfl) (ho:o.op=.box ty x:=by rfl) (hx:a.eval x=.agg cells.toArray:=by rfl):wpList P ops Q (o :: rest) a w:=aF hg ty x ho cells.toArray hx h
theorem stb {ty:TypeId} {x y:Operand} {g:Nat} {t:TypeId} {old new:Array Value} (hb:Blk w g t old) (hi:(P.info? ty).map (·.size)=some new.size) (he:old.size=new.size) (h1:new.all (·.oneCell')=true) (h:∀ w',Blk w' g t new→w.grownBy w' (some g)→wpList P ops Q rest (a.put o.dst undef) w')
  (hg:o.guard=none:=by rfl) (ho:o.op=.store ty x y:=by rfl) (hx:a.eval x=.pointer (some ⟨g,0,none⟩):=by rfl) (hy:a.eval y=.agg new:=by rfl):wpList P ops Q (o :: rest) a w:=ak hg ty x y ho g old new t hb hi he h1 hx hy h
end
end Go.Proofs.YtomnhnmciopiiaaGreat
namespace Go.Proofs.YtomnhnmciopiiaaGreat.Fre
open Go Go.RowKit
section
variable {P:Program} {ops:Array Oper} {L:dZ} {w0:World} {rest:List Oper} {o:Oper} {a:Act} {Q:Act→Prop} {X:World→World→Prop} {v:Value}
theorem mc {f:FuncId} {args:Array Value} (hc:∀ w,Ext X w0 w→Calls P f args w fun e w'=>e=.returned v∧Ext X w w') (h:aQ X P ops (aq L) w0 Q rest (a.put o.dst v))
  (hB:bW (L.map (·.1)) ops o=true:=by kernel_rfl) (hw:Region.wanted o (yielded ops a.tmps)=true:=by kernel_rfl) (hd:o.dst.bind (aq L)=none:=by kernel_rfl) (hrun:∀ w,(execOp a.eval o).run P w=.ok (.enter f args) w:=by intro W9;kernel_rfl):aQ X P ops (aq L) w0 Q (o :: rest) a:=fZ v f args hB hw hd hrun hc h
end
end Go.Proofs.YtomnhnmciopiiaaGreat.Fre
end
section
namespace Go.Proofs.YtomnhnmciopiiaaGreat
open Go Go.RowKit
def eO (e:Int):Value:=.iface 35 (.int .i64 e)
theorem oG (e:Int) (w:World):Calls Tryz.prog 94 #[.bool true,.int .i64 e] w fun x w'=>x=.returned (.tuple #[])∧w'=w:=by
 go_enter Tryz.func94,Tryz.ntmps94
 go_wp2_with fail
 go_end0
 exact ⟨rfl,rfl⟩
theorem oF (e:Int) (w:World):Calls Tryz.prog 94 #[.bool false,.int .i64 e] w fun x w'=>x=.panicked [{ v:=eO e,recovered:=false }]∧w'=w:=by
 go_enter Tryz.func94,Tryz.ntmps94
 go_wp2_with fail
 simp [bodyPost,eO]
theorem qM {ρ:Operand→Value} {o:Oper} (x:Operand) (ho:o.op=.typeAssert x 20 35 true) (e:Int) (hx:ρ x=eO e) (w:World):(execOp ρ o).run Tryz.prog w=.ok (.value (.tuple #[.int .i64 e,.bool true])) w:=by
 unfold execOp
 simp only [ho,hx]
 kernel_rfl
theorem sJ (g:Nat) (x e:Int) (older:List PanicEntry) (w:World) (hb:Blk w g 35 #[.int .i64 x]) :
  CallsD Tryz.prog 84 #[.pointer (some ⟨g,0,none⟩)] (.panicking ({ v:=eO e,recovered:=false } :: older)) w fun r u' w' =>
   r=.returned (.tuple #[])∧u'=.panicking ({ v:=eO e,recovered:=true } :: older)∧Blk w' g 35 #[.int .i64 e]∧w.grownBy w' (some g):=by
 refine callsD_of_wpS Tryz.func84 rfl fun c₀ cs hu=>?_
 unfold eO at hu ⊢
 apply wpS_seq
 apply wpS_region
 simp [wpOpsS,go_sem,recoverD,hu,Tryz.ntmps84,xcB]
 apply wpS_seq
 apply wpS_region
 simp [wpOpsS,go_sem,xcB]
 refine wpS_cond (t:=true) (by simp [Act.eval,xbu]) ?_
 simp only [if_true]
 refine wpS_of_wp ?_
 change Code.wp Tryz.prog _ _ { tmps:=#[.pointer (some ⟨g,0,none⟩),eO e,undef,eO e,eO e,.bool true,undef,undef,undef,undef,undef,undef,undef,undef],defers:=[] } w
 unfold eO
 go_wp2_with (first | ((with_reducible refine ae 8 ?_);(refine aa rfl (.tuple #[.int .i64 e,.bool true]) w (qM (.tmp 7) rfl e rfl w) ?_)) | ((with_reducible refine aV 0 9 ?_);(refine bD rfl 35 (.tmp 0) (.tmp 9) rfl g 0 35 #[.int .i64 x] hb (Nat.zero_lt_one) (by kernel_rfl) (.int .i64 e) rfl rfl rfl ?_);intro w8 hk hg hz;have H8:=ab (xad hk hg);clear hk hg hz;simp only [xae]))
 simp [bodyPostS,results,Tryz.results84]
 exact ⟨H8.out.1,H8.out.2⟩
theorem wk (p:Addr) (w:World) :
  CallsD Tryz.prog 84 #[.pointer (some p)] .returning w fun r u' w'=>r=.returned (.tuple #[])∧u'=.returning∧w'=w:=by
 refine callsD_of_wpS Tryz.func84 rfl fun c₀ cs hu=>?_
 apply wpS_seq
 apply wpS_region
 simp [wpOpsS,go_sem,recoverD,hu,Tryz.ntmps84,xcB]
 apply wpS_seq
 apply wpS_region
 simp [wpOpsS,go_sem,xcB]
 refine wpS_cond (t:=false) (by simp [Act.eval,xbu]) ?_
 simp only [xbI,if_false]
 refine wpS_of_wp (wp_skip ?_)
 cases c₀
 simp_all [bodyPostS,results,Tryz.results84]
theorem vN (fn:Nat) (cap:Array Value) (e0:Int) (R:World→Prop) (w:World) (heg:∀ args w,(callFunc fn args).run Tryz.prog w=.ok (.enter fn args) w)
  (hc:∀ w1,fy w w1 35 #[.int .i64 0]→Calls Tryz.prog fn cap w1 fun e w'=>e=.panicked [{ v:=eO e0,recovered:=false }]∧Blk w' w.heap.size 35 #[.int .i64 0]∧R w') :
  Calls Tryz.prog 54 #[.func (.func fn) #[] cap] w fun e w'=>e=.returned (.int .i64 e0)∧∃ w2,R w2∧w2.grownBy w' (some w.heap.size):=by
 have hmf:∀ (fn:Fn) (first cap:Array Value) (w:World),(Instr.makeFunc fn first cap).run Tryz.prog w=.ok (.func fn first cap) w:=fun _ _ _ _=>rfl
 go_enter_defers Tryz.func54,Tryz.ntmps54
 go_wp2_with ((with_reducible refine ae 2 ?_);(refine aC rfl 35 #[.int .i64 0] (by kernel_rfl) ?_);intro w1 hn;have H1:=ab hn;clear hn;simp only [xae,xaa,xab,xac])
 refine (hc w1 H1.out).mono ?_
 rintro e w2 ⟨rfl,hk,hR⟩
 dsimp only
 refine leaves_cons (f:=84) (args:=#[.pointer (some ⟨w.heap.size,0,none⟩)]) (by simp) (by simp [go_sem]) ?_
 refine (sJ w.heap.size 0 e0 [] w2 hk).mono ?_
 rintro r u' w3 ⟨rfl,rfl,hk3,hg3⟩
 have c3:w3.cell? ⟨w.heap.size,0,none⟩=some (.int .i64 e0):=hk3.cell 0
 simp [Leaves,settle,results,Tryz.results54,go_sem,c3]
 exact ⟨w2,hR,hg3⟩
theorem vO (fn:Nat) (cap:Array Value) (R:World→Prop) (w:World) (heg:∀ args w,(callFunc fn args).run Tryz.prog w=.ok (.enter fn args) w)
  (hc:∀ w1,fy w w1 35 #[.int .i64 0]→Calls Tryz.prog fn cap w1 fun e w'=>e=.returned (.tuple #[])∧Blk w' w.heap.size 35 #[.int .i64 0]∧R w') :
  Calls Tryz.prog 54 #[.func (.func fn) #[] cap] w fun e w'=>e=.returned (.int .i64 0)∧∃ w2,R w2∧w2.grownBy w' (some w.heap.size):=by
 have hmf:∀ (fn:Fn) (first cap:Array Value) (w:World),(Instr.makeFunc fn first cap).run Tryz.prog w=.ok (.func fn first cap) w:=fun _ _ _ _=>rfl
 go_enter_defers Tryz.func54,Tryz.ntmps54
 go_wp2_with ((with_reducible refine ae 2 ?_);(refine aC rfl 35 #[.int .i64 0] (by kernel_rfl) ?_);intro w1 hn;have H1:=ab hn;clear hn;simp only [xae,xaa,xab,xac])
 refine (hc w1 H1.out).mono ?_
 rintro e w2 ⟨rfl,hk,hR⟩
 dsimp only
 go_wp2_with ((with_reducible refine mN 2 ?_);(refine bD rfl 35 (.tmp 2) (.const (.int .i64 0)) rfl w.heap.size 0 35 #[.int .i64 0] hk (Nat.zero_lt_one) (by kernel_rfl) (.int .i64 0) rfl rfl rfl ?_);intro w8 hk8 hg8 hz8;have H8:=ab (xad hk8 hg8);clear hk8 hg8 hz8;simp only [xae])
 refine leaves_cons (f:=84) (args:=#[.pointer (some ⟨w.heap.size,0,none⟩)]) (by simp) (by simp [go_sem]) ?_
 refine (wk ⟨w.heap.size,0,none⟩ w8).mono ?_
 rintro r u' w3 ⟨rfl,rfl,rfl⟩
 have c3:w3.cell? ⟨w.heap.size,0,none⟩=some (.int .i64 0):=Blk.cell (t:=35) (cs:=#[.int .i64 0]) H8.out.1 0
 simp [Leaves,settle,results,Tryz.results54,go_sem,c3]
 exact ⟨w2,hR,H8.out.2⟩
end Go.Proofs.YtomnhnmciopiiaaGreat
end
section
namespace Go.Proofs.YtomnhnmciopiiaaGreat.Sha
open Go
abbrev W:=BitVec 32
def bw (b:UInt8):W:=BitVec.ofNat 32 b.toNat
def mix (x:W) (ks:List Nat):W:=ks.foldl (fun acc k=>acc ^^^ x.rotateRight k) 0
def word (b:List UInt8) (t:Nat):W:=(bw (b.getD (4*t) 0) <<< 24) ||| (bw (b.getD (4*t+1) 0) <<< 16) ||| (bw (b.getD (4*t+2) 0) <<< 8) ||| bw (b.getD (4*t+3) 0)
def ws (b:List UInt8):Nat→List W
 | 0=>[]
 | t+1=>ws b t++[if t<16 then word b t else
   (mix ((ws b t).getD (t-2) 0) [17,19] ^^^ ((ws b t).getD (t-2) 0) >>> 10)+(ws b t).getD (t-7) 0+(mix ((ws b t).getD (t-15) 0) [7,18] ^^^ ((ws b t).getD (t-15) 0) >>> 3)+(ws b t).getD (t-16) 0]
theorem fY (b:List UInt8) (t:Nat):(ws b t).length=t:=by induction t with | zero=>rfl | succ t ih=>simp [ws,ih]
def ks:List W:=[
 0x428a2f98,0x71374491,0xb5c0fbcf,0xe9b5dba5,0x3956c25b,0x59f111f1,0x923f82a4,0xab1c5ed5,
 0xd807aa98,0x12835b01,0x243185be,0x550c7dc3,0x72be5d74,0x80deb1fe,0x9bdc06a7,0xc19bf174,
 0xe49b69c1,0xefbe4786,0x0fc19dc6,0x240ca1cc,0x2de92c6f,0x4a7484aa,0x5cb0a9dc,0x76f988da,
 0x983e5152,0xa831c66d,0xb00327c8,0xbf597fc7,0xc6e00bf3,0xd5a79147,0x06ca6351,0x14292967,
 0x27b70a85,0x2e1b2138,0x4d2c6dfc,0x53380d13,0x650a7354,0x766a0abb,0x81c2c92e,0x92722c85,
 0xa2bfe8a1,0xa81a664b,0xc24b8b70,0xc76c51a3,0xd192e819,0xd6990624,0xf40e3585,0x106aa070,
 0x19a4c116,0x1e376c08,0x2748774c,0x34b0bcb5,0x391c0cb3,0x4ed8aa4a,0x5b9cca4f,0x682e6ff3,
 0x748f82ee,0x78a5636f,0x84c87814,0x8cc70208,0x90befffa,0xa4506ceb,0xbef9a3f7,0xc67178f2]
structure St where
 a:W
 b:W
 c:W
 d:W
 e:W
 f:W
 g:W
 h:W
deriving DecidableEq
def St.list (s:St):List W:=[s.a,s.b,s.c,s.d,s.e,s.f,s.g,s.h]
def first:St:=⟨0x6a09e667,0xbb67ae85,0x3c6ef372,0xa54ff53a,0x510e527f,0x9b05688c,0x1f83d9ab,0x5be0cd19⟩
def rp (s:St) (k w:W):W:=s.h+mix s.e [6,11,25]+(s.g ^^^ (s.e &&& (s.f ^^^ s.g)))+k+w
def rq (s:St):W:=mix s.a [2,13,22]+((s.a &&& (s.b ||| s.c)) ||| (s.b &&& s.c))
def rnd (s:St) (k w:W):St:=⟨rp s k w+rq s,s.a,s.b,s.c,s.d+rp s k w,s.e,s.f,s.g⟩
def oh (s:St) (b:List UInt8):Nat→St
 | 0=>s
 | t+1=>rnd (oh s b t) (ks.getD t 0) ((ws b 64).getD t 0)
def St.add (s t:St):St:=⟨s.a+t.a,s.b+t.b,s.c+t.c,s.d+t.d,s.e+t.e,s.f+t.f,s.g+t.g,s.h+t.h⟩
def comp (s:St) (b:List UInt8):St:=s.add (oh s b 64)
def out (s:St):List UInt8:=(xaf 32).map fun i=>xaJ (((s.list.getD (i / 4) 0) >>> (24-i % 4*8)).toNat % 256)
end Go.Proofs.YtomnhnmciopiiaaGreat.Sha
end
section
namespace Go.Proofs.YtomnhnmciopiiaaGreat
def num (n:Nat):List UInt8:=if n<128 then [xaJ n] else xaJ (n % 128+128) :: num (n / 128)
termination_by n
decreasing_by omega
theorem tn {n:Nat} (h:n<128):num n=[xaJ n]:=by rw [num,if_pos h]
theorem xy {n:Nat} (h:¬ n<128):num n=xaJ (n % 128+128) :: num (n / 128):=by rw [num,if_neg h]
theorem F8 (k:Nat):∀ n,n<128 ^ (k+1)→(num n).length≤k+1:=by
 induction k with
 | zero=>intro n h;rw [tn (by omega)];simp
 | succ k ih =>
  intro n h
  by_cases h1:n<128
  ·rw [tn h1];simp
  ·rw [xy h1,xaF]
   have h2:n / 128<128 ^ (k+1):=by rw [Nat.div_lt_iff_lt_mul (by omega)];rw [Nat.pow_succ] at h;exact h
   have:=ih _ h2
   omega
theorem jI (n:Nat) (h:n<18446744073709551616):(num n).length≤10:=F8 9 n (by omega)
end Go.Proofs.YtomnhnmciopiiaaGreat
end
section
namespace Go.Proofs.YtomnhnmciopiiaaGreat
open Go.RowKit
def U (x:Sha.W):Int:=(x.toNat:Int)
theorem iF (x y:Sha.W):bits .xor .u32 (U x) (U y)=U (x ^^^ y):=by
 unfold U;rw [u32_xor_nat _ _ x.isLt y.isLt,BitVec.toNat_xor]
theorem oU (x y:Sha.W):bits .or .u32 (U x) (U y)=U (x ||| y):=by
 unfold U;rw [u32_or_nat _ _ x.isLt y.isLt,BitVec.toNat_or]
theorem lV (x y:Sha.W):bits .and .u32 (U x) (U y)=U (x &&& y):=by
 unfold U;rw [u32_and_nat _ _ x.isLt y.isLt,BitVec.toNat_and]
theorem eH (x y:Sha.W):(U x+U y) % 4294967296=U (x+y):=by
 unfold U;rw [BitVec.toNat_add];omega
theorem oT (x y:Sha.W):IntKind.u32.wrap (U x+U y)=U (x+y):=by
 rw [IntKind.wrap_u32',eH]
theorem tN (x:Sha.W) (j:Nat):U x*2 ^ j % 4294967296=U (x <<< j):=by
 unfold U;rw [BitVec.toNat_shiftLeft,Nat.shiftLeft_eq,Int.natCast_emod,Int.natCast_mul,Int.natCast_pow];rfl
theorem tO (x:Sha.W) (j:Nat):U x / 2 ^ j=U (x >>> j):=by
 unfold U;rw [BitVec.toNat_ushiftRight,Nat.shiftRight_eq_div_pow,Int.natCast_ediv,Int.natCast_pow];rfl
theorem G4 (b:UInt8):U (Sha.bw b)=(b.toNat:Int):=by
 unfold U Sha.bw;rw [BitVec.toNat_ofNat];have:=b.toNat_lt;omega
theorem GC (k:Nat) (h1:1≤k) (h2:k≤31):bits .and .u64 (IntKind.u64.wrap (-(k:Int))) 31=((32-k:Nat):Int):=by
 have e:IntKind.u64.wrap (-(k:Int))=((18446744073709551616-k:Nat):Int):=by
  rw [IntKind.wrap_u64];omega
 rw [e,show (31:Int)=((31:Nat):Int) from rfl,u64_and_nat _ _ (by omega) (by omega),nat_mask5]
 omega
theorem Gm (x:Sha.W) (k j:Nat) (h1:1≤k) (h2:k≤31) (hj:j=32-k) :
  bits BinOp.or xcb (U x*2 ^ j % 4294967296) (U x / 2 ^ (32-j))=U (x.rotateRight k):=by
 subst hj
 rw [tN,tO,oU,show 32-(32-k)=k by omega]
 congr 1
 rw [BitVec.or_comm,BitVec.rotateRight_def,xbx (by omega)]
theorem EG (x:Sha.W) (k:Nat) (h1:1≤k) (h2:k≤31) (w:World) :
  Calls Tryz.prog 218 #[.int .u32 (U x),.int .i64 (-(k:Int))] w fun e w'=>e=.returned (.int .u32 (U (x.rotateRight k)))∧w=w':=by
 have ha:=GC k h1 h2
 obtain ⟨j,hj⟩:∃ j,j=32-k:=⟨_,rfl⟩
 rw [← hj] at ha
 have hj1:1≤j:=by omega
 have hj2:j≤31:=by omega
 have H:=ab hj
 clear hj
 go_enter Tryz.func218,Tryz.ntmps218
 go_wp2
 go_ret
 exact ⟨oM (Gm x k j h1 h2 H.out),rfl⟩
theorem Cy (x:Sha.W) (l:List Nat) (k:Nat):Sha.mix x (l++[k])=Sha.mix x l ^^^ x.rotateRight k:=by
 simp [Sha.mix,List.foldl_append]
theorem Cz (x:Sha.W) (l:List Nat) (k:Nat) (hk:k<l.length):Sha.mix x (l.take (k+1))=Sha.mix x (l.take k) ^^^ x.rotateRight (l.getD k 0):=by
 rw [xbb hk,Cy];simp [List.getD,hk]
theorem r8 (x:Sha.W) (l:List Nat) (hl:∀ k,k<l.length→1≤l.getD k 0∧l.getD k 0≤31) (h8:l.length≤8) (b c:Nat) (w:World)
  (hc:∀ k,k<l.length→w.cell? ⟨b,k,none⟩=some (.int .i64 ((l.getD k 0:Nat):Int))) :
  Calls Tryz.prog 213 #[.int .u32 (U x),.slice (some ⟨b,0,none⟩) l.length c] w fun e w'=>e=.returned (.int .u32 (U (Sha.mix x l)))∧w=w':=by
 have HL:=ab hl
 have HC:=ab hc
 clear hl hc
 go_enter Tryz.func213,Tryz.ntmps213
 go_wp2
 go_loop [4,9] (fun a i=>∃ k:Nat,k≤l.length∧i=.int .i64 k∧a=.int .u32 (U (Sha.mix x (l.take k)))) (fun _ i=>l.length-(intOf i).toNat)
 case atStart=>exact ⟨0,Nat.zero_le _,rfl,by rw [xaC];rfl⟩
 case round =>
  obtain ⟨k,hk,rfl,rfl⟩:=hrel
  by_cases hlt:k<l.length
  ·have hx:=iF (Sha.mix x (l.take k)) (x.rotateRight (l.getD k 0))
   have hb:=HL.out k hlt
   have hcell:=HC.out k hlt
   obtain ⟨d,hd⟩:∃ d,d=l.getD k 0:=⟨_,rfl⟩
   rw [← hd] at hx hcell hb
   have HD:=ab hd
   clear hd
   obtain ⟨hb1,hb2⟩:=hb
   go_wp2_with (go_at_call 218;refine (EG _ _ hb1 hb2 _).mono ?_;rintro e w' ⟨rfl,rfl⟩)
   go_round
   case rel=>exact ⟨k+1,by omega,by go_num,by rw [Cz x l k hlt,← HD.out]⟩
   case measure=>simp [intOf];omega
  ·go_wp2
   go_ret
   exact ⟨oM (by rw [xav (by omega)]),rfl⟩
theorem pZ (x:Sha.W) (a b:Nat) (ha:1≤a∧a≤31) (hb:1≤b∧b≤31) (g c:Nat) (w:World) (h0:w.cell? ⟨g,0,none⟩=some (.int .i64 (a:Int))) (h1:w.cell? ⟨g,1,none⟩=some (.int .i64 (b:Int))) :
  Calls Tryz.prog 213 #[.int .u32 (U x),.slice (some ⟨g,0,none⟩) 2 c] w fun e w'=>e=.returned (.int .u32 (U (Sha.mix x [a,b])))∧w=w' :=
 r8 x [a,b] (fun k hk=>by match k,hk with | 0,_=>exact ha | 1,_=>exact hb) (by simp) g c w (fun k hk=>by match k,hk with | 0,_=>exact h0 | 1,_=>exact h1)
theorem p3 (x:Sha.W) (a b d:Nat) (ha:1≤a∧a≤31) (hb:1≤b∧b≤31) (hd:1≤d∧d≤31) (g c:Nat) (w:World) (h0:w.cell? ⟨g,0,none⟩=some (.int .i64 (a:Int))) (h1:w.cell? ⟨g,1,none⟩=some (.int .i64 (b:Int)))
  (h2:w.cell? ⟨g,2,none⟩=some (.int .i64 (d:Int))) :
  Calls Tryz.prog 213 #[.int .u32 (U x),.slice (some ⟨g,0,none⟩) 3 c] w fun e w'=>e=.returned (.int .u32 (U (Sha.mix x [a,b,d])))∧w=w' :=
 r8 x [a,b,d] (fun k hk=>by match k,hk with | 0,_=>exact ha | 1,_=>exact hb | 2,_=>exact hd) (by simp) g c w (fun k hk=>by match k,hk with | 0,_=>exact h0 | 1,_=>exact h1 | 2,_=>exact h2)
end Go.Proofs.YtomnhnmciopiiaaGreat
end
section
namespace Go.Proofs.YtomnhnmciopiiaaGreat
open Go.RowKit
def uv (l:List Sha.W):Array Value:=(l.map fun x=>Value.int .u32 (U x)).toArray
theorem ko (l:List Sha.W):(uv l).all (·.oneCell')=true:=by
 rw [Array.all_eq_true_iff_forall_mem];intro v hv;simp [uv] at hv;obtain ⟨x,_,rfl⟩:=hv;rfl
theorem gl (l:List Sha.W) (i:Nat) (h:i<l.length):(uv l)[i]?=some (.int .u32 (U (l.getD i 0))):=by
 simp [uv,h,List.getD]
theorem qI (l:List Sha.W) (i:Nat) (x:Sha.W):(uv l).setIfInBounds i (.int .u32 (U x))=uv (l.set i x):=by
 simp [uv,List.map_set]
theorem dY (l:List Sha.W):(uv l).size=l.length:=by simp [uv]
def uz:Array Value:=uv (xaz 64 0)
theorem jO:(Tryz.prog.info? 279).map (·.size)=some 64:=by kernel_rfl
theorem zi (w:World):Calls Tryz.prog 170 #[] w fun e w'=>e=.returned (.agg (uv Sha.first.list))∧Below w.heap.size w w':=by
 go_enter Tryz.func170,Tryz.ntmps170
 go_wp2
 exact bodyPost_ret (results_cell_row rfl _ _ w.heap.size 272 _ (0,0) _ rfl (heap_alloc_new _ _) Tryz.underlying272 rfl (by kernel_rfl)) rfl ⟨rfl,(xao _ _).alloc (xag _) _⟩
theorem xP (w:World):Calls Tryz.prog 211 #[] w fun e w'=>e=.returned (.agg (uv Sha.ks))∧Below w.heap.size w w':=by
 go_enter Tryz.func211,Tryz.ntmps211
 go_step
 go_step
 apply wp_region_lit
 refine aa rfl (.pointer (some ⟨w.heap.size,0,none⟩)) (w.alloc (.cells uz 279)) ?ha ?_
 case ha=>kernel_rfl
 dsimp only [xae,xaa,xab,xac]
 go_step
 go_step
 go_step
 go_step
 apply wp_region_lit
 refine aa rfl (.agg (uv Sha.ks)) (w.alloc (.cells uz 279)) ?hb ?_
 case hb=>kernel_rfl
 dsimp only [xae,xaa,xab,xac]
 refine eV rfl 279 _ _ rfl w.heap.size uz (uv Sha.ks) 279 (Blk.new _ _ _) (by rw [dY];exact jO) (by rw [dY,uz,dY,List.length_replicate];rfl) (ko _) rfl rfl ?_
 rw [World.setRow_alloc_new]
 dsimp only [xae]
 go_wp2
 exact bodyPost_ret (results_cell_row rfl _ _ w.heap.size 279 _ (0,0) _ rfl (heap_alloc_new _ _) Tryz.underlying279 rfl jO) rfl ⟨rfl,(xao _ _).alloc (xag _) _⟩
def wz (B:List UInt8) (t:Nat):List Sha.W:=Sha.ws B t++xaz (64-t) 0
theorem ic (B:List UInt8) (t:Nat) (h:t≤64):(wz B t).length=64:=by simp [wz,Sha.fY];omega
theorem yc (B:List UInt8) (t i:Nat) (h:i<t):(wz B t).getD i 0=(Sha.ws B t).getD i 0:=by
 simp [wz,List.getD,List.getElem?_append,Sha.fY,h]
theorem oO (B:List UInt8) (t:Nat) (x:Sha.W) (ht:t<64) (hx:Sha.ws B (t+1)=Sha.ws B t++[x]):(wz B t).set t x=wz B (t+1):=by
 unfold wz
 rw [hx,List.set_append_right _ _ (by rw [Sha.fY];exact xag _),Sha.fY,Nat.sub_self,show 64-t=(64-(t+1))+1 by omega,List.replicate_succ,xab,xaR]
 rfl
theorem r17:1≤17∧17≤31:=by decide
theorem r19:1≤19∧19≤31:=by decide
theorem r7:1≤7∧7≤31:=by decide
theorem r18:1≤18∧18≤31:=by decide
theorem tP (x:Sha.W):U x / (1024:Int)=U (x >>> 10):=tO x 10
theorem yg (x:Sha.W):U x / (8:Int)=U (x >>> 3):=tO x 3
theorem y4 (b:UInt8):(b.toNat:Int) % 4294967296=U (Sha.bw b):=by
 rw [G4];have:=b.toNat_lt;omega
theorem E8 (B:List UInt8) (t:Nat) (x0 x1 x2 x3:UInt8) (h:B.getD (4*t) 0=x0∧B.getD (4*t+1) 0=x1∧B.getD (4*t+2) 0=x2∧B.getD (4*t+3) 0=x3) :
  bits BinOp.or xcb (bits BinOp.or xcb (bits BinOp.or xcb ((x0.toNat:Int) % 4294967296*16777216 % 4294967296) ((x1.toNat:Int) % 4294967296*65536 % 4294967296))
   ((x2.toNat:Int) % 4294967296*256 % 4294967296)) ((x3.toNat:Int) % 4294967296)=U (Sha.word B t):=by
 obtain ⟨rfl,rfl,rfl,rfl⟩:=h
 simp only [y4]
 rw [show (16777216:Int)=2 ^ 24 from rfl,show (65536:Int)=2 ^ 16 from rfl,show (256:Int)=2 ^ 8 from rfl,tN,tN,tN,oU,oU,oU]
 rfl
theorem xW (B:List UInt8) (_hB:B.length=64) (g off:Nat) (w:World)
  (hc:∀ j,j<64→w.cell? ⟨g,off+j,none⟩=some (.int .u8 ((B.getD j 0).toNat:Int))) :
  Calls Tryz.prog 212 #[.pointer (some ⟨g,off,none⟩)] w fun e w'=>e=.returned (.agg (uv (Sha.ws B 64)))∧Below w.heap.size w w':=by
 have hg:g<w.heap.size:=xa5 w _ (hc 0 (by omega))
 have HC:=ab hc
 clear hc
 obtain ⟨N,hN⟩:∃ N,N=w.heap.size:=⟨_,rfl⟩
 have HN:=ab hN
 clear hN
 go_enter Tryz.func212,Tryz.ntmps212
 go_step
 go_step
 apply wp_region_lit
 refine aa rfl (.pointer (some ⟨N,0,none⟩)) (w.alloc (.cells uz 279)) (by rw [HN.out];kernel_rfl) ?_
 dsimp only [xae,xaa,xab,xac]
 obtain ⟨w1,hw1⟩:∃ w1,w1=w.alloc (.cells uz 279):=⟨_,rfl⟩
 rw [← hw1]
 have hb0:Blk w1 N 279 (uv (wz B 0)):=by rw [hw1,HN.out];exact Blk.new _ _ _
 have hb1:Below N w w1:=by rw [hw1,HN.out];exact (xao _ _).alloc (xag _) _
 clear hw1
 go_wp2
 go_loopw [7] (fun i wr=>∃ t:Nat,t≤64∧i=.int .i64 t∧Blk wr N 279 (uv (wz B t))∧Below N w wr) (fun i _=>64-(intOf i).toNat)
 case atStart=>exact ⟨0,by omega,rfl,hb0,hb1⟩
 case round =>
  obtain ⟨t,ht,rfl,hbk,hbel⟩:=hrel
  clear hb0 hb1
  by_cases h64:t<64
  ·by_cases h16:t<16
   ·have hcell:∀ j,j<64→wr.cell? ⟨g,off+j,none⟩=some (.int .u8 ((B.getD j 0).toNat:Int)):=fun j hj=>(hbel.cell (by rw [HN.out];exact hg)).trans (HC.out j hj)
    have c0:=hcell (4*t) (by omega)
    have c1:=hcell (4*t+1) (by omega)
    have c2:=hcell (4*t+2) (by omega)
    have c3:=hcell (4*t+3) (by omega)
    clear hcell
    have cN:=hbk.cell t
    rw [gl _ _ (by rw [ic _ _ ht];omega)] at cN
    have fN:=hbk.frozen t
    generalize hx0:B.getD (4*t) 0=x0 at *
    generalize hx1:B.getD (4*t+1) 0=x1 at *
    generalize hx2:B.getD (4*t+2) 0=x2 at *
    generalize hx3:B.getD (4*t+3) 0=x3 at *
    have HX:=ab (xad hx0 (xad hx1 (xad hx2 hx3)))
    clear hx0 hx1 hx2 hx3
    have HB:=ab hbk
    clear hbk
    go_wp2_with fail
    refine bK 35 (by kernel_rfl) (by kernel_rfl) ?_
    simp only [xau,xaC,xay,xaK]
    repeat (go_big_quiet_step (fail))
    refine wpQuiet_nil ?_
    intro nq
    go_wp2
    go_roundw
    case rel =>
     refine ⟨t+1,by omega,by go_num,?_,?_⟩
     ·rw [E8 B t x0 x1 x2 x3 HX.out]
      have:=(HB.out.drewN nq).gP t (.int .u32 (U (Sha.word B t)))
      rwa [qI,oO B t _ h64 (by simp [Sha.ws,h16])] at this
     ·exact (below_drewN hbel nq).setCell (xag _) _
    case measure=>simp [intOf];omega
   ·have hl:=ic B t ht
    have hcell:∀ j,j<t→wr.cell? ⟨N,j,none⟩=some (.int .u32 (U ((Sha.ws B t).getD j 0))):=fun j hj=>by
     rw [hbk.cell,gl _ _ (by omega),yc _ _ _ hj]
    have c2:=hcell (t-2) (by omega)
    have c15:=hcell (t-15) (by omega)
    have c7:=hcell (t-7) (by omega)
    have c16:=hcell (t-16) (by omega)
    clear hcell
    obtain ⟨v0,hv0⟩:∃ v0,v0=Value.int .u32 (U ((wz B t).getD t 0)):=⟨_,rfl⟩
    have cN:=hbk.cell t
    rw [gl _ _ (by rw [hl];omega),← hv0] at cN
    clear hv0
    have fN:=hbk.frozen t
    have hsz:N<wr.heap.size:=hbk.lt
    generalize hx2:(Sha.ws B t).getD (t-2) 0=x2 at *
    generalize hx15:(Sha.ws B t).getD (t-15) 0=x15 at *
    generalize hx7:(Sha.ws B t).getD (t-7) 0=x7 at *
    generalize hx16:(Sha.ws B t).getD (t-16) 0=x16 at *
    have HX:=ab (xad hx2 (xad hx15 (xad hx7 hx16)))
    clear hx2 hx15 hx7 hx16 hl
    have HB:=ab hbk
    clear hbk
    go_wp2_with fail
    go_quiet (fail)
    have n1:(0:Int)≤(t:Int):=by omega
    have n2:(t:Int)<64:=by omega
    have n3:(0:Int)≤(t:Int)-7:=by omega
    have n4:(t:Int)-7<64:=by omega
    have n5:(0:Int)≤(t:Int)-16:=by omega
    have n6:(t:Int)-16<64:=by omega
    have m7:IntKind.i64.wrap ((t:Int)-7)=(t:Int)-7:=xbP _ (by omega)
    have m16:IntKind.i64.wrap ((t:Int)-16)=(t:Int)-16:=xbP _ (by omega)
    have o7:((t:Int)-7).toNat=t-7:=by omega
    have o16:((t:Int)-16).toNat=t-16:=by omega
    have n7:(7:Int)≤(t:Int):=by omega
    have n8:(16:Int)≤(t:Int):=by omega
    have hfr:∀ (W:World) (c:Array Value) (ty:TypeId) (p:Addr),(W.alloc (.cells c ty)).frozen? p=W.frozen? p:=frozen?_alloc_cells
    have hcl:∀ (k:Nat) (c:Array Value) (ty:TypeId),((wr.drewN k).alloc (.cells c ty)).cell? ⟨N,t,none⟩=some v0:=fun k c ty=>(xci _ _ _ hsz).trans cN
    have hsz1:N<wr.heap.size+1:=by omega
    have hz1:∀ k,N<(wr.drewN k).heap.size:=fun _=>hsz
    have hz2:∀ k,N<(wr.drewN k).heap.size+1:=fun _=>hsz1
    have hk:∀ (j k:Nat) (c c':Array Value) (ty ty':TypeId) (v u:Value),j ≠ t→wr.cell? ⟨N,j,none⟩=some u→((((wr.drewN k).alloc (.cells c ty)).setCell ⟨N,t,none⟩ v).alloc (.cells c' ty')).cell? ⟨N,j,none⟩=some u:=by
     intro j k c c' ty ty' v u hj hu
     rw [xci _ _ _ (by simp [World.setCell];omega),World.cell?_setCell_other _ _ _ _ (by intro h;injection h with _ h2;exact hj h2.symm),xci _ _ _ hsz]
     exact hu
    have hk7:=fun k c c' ty ty' v=>hk (t-7) k c c' ty ty' v _ (by omega) c7
    have hk16:=fun k c c' ty ty' v=>hk (t-16) k c c' ty ty' v _ (by omega) c16
    clear hk
    have a1:=iF (Sha.mix x2 [17,19]) (x2 >>> 10)
    have a2:=iF (Sha.mix x15 [7,18]) (x15 >>> 3)
    have a3:=tP x2
    have a4:=yg x15
    go_wp2_with fail
    go_region_held3 (fun w'=>w'.cell? ⟨N,t-7,none⟩=some (.int .u32 (U x7))∧w'.cell? ⟨N,t-16,none⟩=some (.int .u32 (U x16))) (go_keep)
     (first
      | (go_at_call 213;(with_reducible refine (pZ x2 17 19 r17 r19 _ _ _ ?_ ?_).mono ?_);(focus (simp [dO]));(focus (simp [dO]));rintro e w' ⟨rfl,rfl⟩)
      | (go_at_call 213;(with_reducible refine (pZ x15 7 18 r7 r18 _ _ _ ?_ ?_).mono ?_);(focus (simp [dO]));(focus (simp [dO]));rintro e w' ⟨rfl,rfl⟩))
    go_wp2
    all_goals
     go_roundw
     case rel =>
      obtain ⟨g2,g15,g7,g16⟩:=HX.out
      refine ⟨t+1,by omega,by go_num,?_,?_⟩
      ·rw [eH,eH,eH]
       rw [← oO B t _ h64 (by rw [Sha.ws,if_neg h16,g2,g15,g7,g16]),← qI]
       exact Blk.alloc (((HB.out.drewN _).alloc _).gP t _) _
      ·refine Below.alloc (Below.setCell (Below.alloc (below_drewN hbel _) ?_ _) (xag _) _) ?_ _
       ·simp;omega
       ·simp [World.setCell];omega
     case measure=>simp [intOf];omega
  ·obtain rfl:t=64:=by omega
   have hsz:(Tryz.prog.info? 279).map (·.size)=some (uv (wz B 64)).size:=by rw [dY,ic B 64 (xag _)];exact jO
   have HK:=ab hbk
   clear hbk
   go_wp2_with (first
    | ((with_reducible refine ae 83 ?_);(with_reducible refine dj rfl 279 (.tmp 2) rfl N 279 (uv (wz B 64)) _ _ HK.out Tryz.underlying279 hsz ?_ ?_);rfl;dsimp only [xae,xaa,xab,xac])
    | ((with_reducible refine eV rfl 279 (.tmp 2) (.tmp 83) rfl N (uv (wz B 64)) (uv (wz B 64)) 279 HK.out hsz rfl (ko _) ?_ ?_ ?_);rfl;rfl;dsimp only [xae]))
   have e:wz B 64=Sha.ws B 64:=by simp [wz]
   refine bodyPost_ret (ch rfl _ _ N 279 (uv (wz B 64)) _ _ rfl (Blk.oN HK.out _) Tryz.underlying279 hsz) rfl ⟨by rw [e],?_⟩
   have h2:=qP hbel (xag _) (uv (wz B 64))
   have e2:=HN.out
   rw [← e2]
   exact h2
end Go.Proofs.YtomnhnmciopiiaaGreat
end
