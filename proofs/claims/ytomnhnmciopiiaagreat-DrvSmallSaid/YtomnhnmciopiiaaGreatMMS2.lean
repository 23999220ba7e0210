/- Part 2 of the texts of one proof. -/
import Derived.Test.YtomnhnmciopiiaaGreatMMS1
set_option maxRecDepth 100000
set_option linter.unusedVariables false
set_option linter.unusedSimpArgs false
set_option maxHeartbeats 40000000
open Go.Act renaming put → xad
open And renaming intro → xae
open Go.RowKit.Below renaming mono → xam, refl → xaq
open Bool renaming false_and → xaZ, true_and → xbe
open Go.Lib renaming byteCells → xbE, indexByte → xcm, join → xby
open List renaming all_eq_true → xbg, getElem?_eq_getElem → xaj, getElem?_eq_some_iff → xah, getElem?_of_mem → xaO, getElem?_toArray → xbn, length_append → xap, length_cons → xaE, length_singleton → xa0, length_take → xaJ, mem_append → xau, mem_cons → xax, mem_map → xav, mem_of_getElem? → xak, mem_singleton → xan, not_mem_nil → xaP, replicate → xar, setIfInBounds_toArray → xaa, set_cons_succ → xab, set_cons_zero → xac, size_toArray → xal, take_add_one → xaz, take_length → xaB
open Nat renaming le_refl → xai, le_trans → xay, lt_of_lt_of_le → xa3, mul_le_mul_right → xa8, pow_add → xbF
open Go.Op renaming bytesLess → xaF
open Go.Oper renaming upon_value → xbP
open Option.some renaming inj → xao
open Go.Result renaming andThen → xbd
open Go.Utf8 renaming decode → xbr
open Go.Value renaming bool → xbs, slice → xag, string → xaY
open Go.World renaming cell?_of_block → xaU, ownsRow_nil → xaW
section
namespace Go.Proofs.YtomnhnmciopiiaaGreat
open Go Go.RowKit Go.Maps
def evN (n:Nat):Value:=.int .i64 (n:Int)
theorem pM (w:World):(zeroValue 3).run Tryz.prog w=.ok (.int .i64 0) w:=by kernel_rfl
theorem cK:(Tryz.prog.info? 34).map (·.size)=some 20:=by kernel_rfl
theorem eX {h:Hsh} (hh:okH h):(Tryz.prog.info? 34).map (·.size)=some (bv h).toArray.size:=by
 rw [xal,bvL,show h.length=20 from hh]
 kernel_rfl
theorem hJ (w:World) (mb:Nat) (m:List (Hsh×Nat)) (hm:bH hV okH evN w mb m) (ks:List Hsh) (v:Value) (hv:eW.At w w.heap.size [v] ks) :
  Calls Tryz.prog 74 #[.map (some mb),v] w fun e w'=>e=.returned (.bool (ks.all fun h=>(aX m h).isSome))∧Below w.heap.size w w':=by
 obtain ⟨A,cap,rfl,hcl,hcm,_,hA⟩:=ak hv
 have hk9:(ks.length:Int)≤9223372036854775807:=by
  simp only [maxLen] at hcm
  omega
 clear hcl hcm
 have HA:=ah hA
 have HM:=ah hm
 clear hA hm hv
 go_enter Tryz.func74,Tryz.ntmps74
 go_wp2_with fail
 go_loopw [11] (fun y wr=>∃ j:Nat,j≤ks.length∧y=.int .i64 (j:Int)∧(∀ h∈ks.take j,(aX m h).isSome=true)∧Below w.heap.size w wr) (fun y _=>ks.length-(intOf y).toNat)
 case atStart=>exact ⟨0,by omega,rfl,(fun h hh=>by simp at hh),xaq _ _⟩
 case round =>
  obtain ⟨wo,rfl⟩:∃ wo,wo=wr:=⟨_,rfl⟩
  obtain ⟨j,hj,rfl,hall,hb⟩:=hrel
  have HB:=ah hb
  have HALL:=ah hall
  clear hb hall
  have j0:(0:Int)≤(j:Int):=by omega
  by_cases hj2:j<ks.length
  ·have j1:(j:Int)<(ks.length:Int):=by omega
   obtain ⟨x,hx⟩:∃ x,ks[j]?=some x:=⟨_,xaj hj2⟩
   obtain ⟨b,off,rfl,hlb,hE⟩:=HA.out (by omega)
   obtain ⟨cs,hr,hatx⟩:=hE j x hx
   obtain ⟨rfl,hxo⟩:=dt.1 hatx
   have HX:=ah (xae (a7 hr (HB.out.block b (by omega))) hxo)
   have hszx:(Tryz.prog.info? 34).map (·.size)=some (bv x).length:=by have:=eX hxo;simpa using this
   have hszx2:=eX hxo
   have hszz:zcH.size=(bv x).toArray.size:=by rw [show (bv x).toArray.size=20 by rw [xal,bvL];exact hxo];kernel_rfl
   have hone:(bv x).toArray.all (·.oneCell')=true:=all_oneCell_toArray (bv1 x)
   have HXX:=ah hx
   clear hx hE hr hatx hxo
   by_cases hs:(aX m x).isSome=true
   ·have HS:=ah hs
    go_wp2_with (first | ((with_reducible refine ag 13 ?_);refine aa rfl (.pointer (some ⟨b,off+(j:Int).toNat*20,none⟩)) wo (aH 27 34 (.tmp 9) (.tmp 11) rfl b off ks.length cap (j:Int) .i64 rfl rfl ⟨j0,j1⟩ 20 Tryz.underlying27 cK wo) ?_;rw [show off+(j:Int).toNat*20=off+j*20 by omega]) | ((with_reducible refine ag 14 ?_);refine aa rfl (.agg (bv x).toArray) wo (aj 34 (.tmp 13) rfl b (off+j*20) rfl (bv x) _ wo HX.out.1 Tryz.underlying34 rfl hszx) ?_) | ((with_reducible refine ag 6 ?_);(with_reducible refine bD (o1:=⟨some 6,_,_,_,_,_⟩) (o2:=⟨none,_,_,_,_,_⟩) rfl rfl 34 (.tmp 6) (.tmp 14) ?_ zcH (bv x).toArray ?_ hszx2 ?_ hone ?_ ?_ ?_);rfl;kernel_rfl;exact hszz;rfl;rfl;intro w3 hmm hbb;have H3:=ah (xae hmm hbb);clear hmm hbb;simp only [xad,xaa,xac,xab]) | ((with_reducible refine ag 17 ?_);refine aa rfl (.agg (bv x).toArray) w3 (av 34 (.tmp 6) rfl wo.heap.size rfl 34 _ _ w3 H3.out.1 Tryz.underlying34 rfl hszx2) ?_) | ((with_reducible refine ag 18 ?_);refine aa rfl (.tuple #[((aX m x).map evN).getD (.int .i64 0),.bool (aX m x).isSome]) w3 (dJ 127 (.tmp 16) (.tmp 17) true rfl (.map (some mb)) (.agg (bv x).toArray) _ rfl rfl ((HM.out.of_eq ((H3.out.2.block mb (by have:=HM.out.lt;have:=HB.out.size;omega)).trans (HB.out.block mb HM.out.lt))).look_ok dz HX.out.2 Tryz.underlying127 (pM w3))) ?_))
    go_roundw
    case rel=>exact ⟨j+1,by omega,by go_num,(fun h hh=>by rw [xaz,HXX.out] at hh;rcases xau.1 hh with hh | hh;exact HALL.out h hh;rw [show h=x from by simpa using hh];exact HS.out),HB.out.trans (xam H3.out.2 HB.out.size)⟩
    case measure=>simp [intOf];omega
   ·have hs':(aX m x).isSome=false:=by simpa using hs
    have HS:=ah hs'
    clear hs
    go_wp2_with (first | ((with_reducible refine ag 13 ?_);refine aa rfl (.pointer (some ⟨b,off+(j:Int).toNat*20,none⟩)) wo (aH 27 34 (.tmp 9) (.tmp 11) rfl b off ks.length cap (j:Int) .i64 rfl rfl ⟨j0,j1⟩ 20 Tryz.underlying27 cK wo) ?_;rw [show off+(j:Int).toNat*20=off+j*20 by omega]) | ((with_reducible refine ag 14 ?_);refine aa rfl (.agg (bv x).toArray) wo (aj 34 (.tmp 13) rfl b (off+j*20) rfl (bv x) _ wo HX.out.1 Tryz.underlying34 rfl hszx) ?_) | ((with_reducible refine ag 6 ?_);(with_reducible refine bD (o1:=⟨some 6,_,_,_,_,_⟩) (o2:=⟨none,_,_,_,_,_⟩) rfl rfl 34 (.tmp 6) (.tmp 14) ?_ zcH (bv x).toArray ?_ hszx2 ?_ hone ?_ ?_ ?_);rfl;kernel_rfl;exact hszz;rfl;rfl;intro w3 hmm hbb;have H3:=ah (xae hmm hbb);clear hmm hbb;simp only [xad,xaa,xac,xab]) | ((with_reducible refine ag 17 ?_);refine aa rfl (.agg (bv x).toArray) w3 (av 34 (.tmp 6) rfl wo.heap.size rfl 34 _ _ w3 H3.out.1 Tryz.underlying34 rfl hszx2) ?_) | ((with_reducible refine ag 18 ?_);refine aa rfl (.tuple #[((aX m x).map evN).getD (.int .i64 0),.bool (aX m x).isSome]) w3 (dJ 127 (.tmp 16) (.tmp 17) true rfl (.map (some mb)) (.agg (bv x).toArray) _ rfl rfl ((HM.out.of_eq ((H3.out.2.block mb (by have:=HM.out.lt;have:=HB.out.size;omega)).trans (HB.out.block mb HM.out.lt))).look_ok dz HX.out.2 Tryz.underlying127 (pM w3))) ?_))
    go_ret
    have e9:ks.all (fun h=>(aX m h).isSome)=false:=by
     rw [List.all_eq_false]
     exact ⟨x,xak HXX.out,by rw [HS.out];decide⟩
    exact ⟨by rw [e9];rfl,HB.out.trans (xam H3.out.2 HB.out.size)⟩
  ·obtain rfl:j=ks.length:=by omega
   go_wp2_with fail
   go_ret
   have e9:ks.all (fun h=>(aX m h).isSome)=true:=by
    rw [xbg]
    exact fun h hh=>HALL.out h (by rw [xaB];exact hh)
   exact ⟨by rw [e9];rfl,HB.out⟩
def zcN:Array Value:=(xaY ByteArray.empty :: (bv (xar 20 0)++[xaY ByteArray.empty])++(bv (xar 20 0)++[xbs false])).toArray
theorem aY:(Tryz.prog.info? 87).map (·.size)=some 43:=by kernel_rfl
theorem da {x:Nam} (h:okN x):(nC x).length=43:=by
 unfold nC iC
 rw [xaE,xap,xap,bQ h.2.1,bvL,show x.2.2.1.length=20 from h.2.2]
 rfl
theorem fQ (x:Nam):∀ v∈nC x,v.oneCell'=true:=by
 intro v hv
 rcases xax.1 hv with rfl | hv
 ·rfl
 ·rcases xau.1 hv with hv | hv
  ·exact jj _ v hv
  ·rcases xau.1 hv with hv | hv
   ·exact bv1 _ v hv
   ·rw [xan.1 hv];rfl
theorem BL {x:Nam} (h:okN x):(Tryz.prog.info? 87).map (·.size)=some (nC x).toArray.size:=by
 rw [xal,da h]
 kernel_rfl
theorem gS {x:Nam} {w:World} {g:Nat} (h:okN x) (hb:Blk w g 87 (nC x).toArray):w.rangeAt g 22 (bv x.2.2.1):=by
 have h1:=dP hb
 have e:(nC x).toArray.toList=([.string x.1]++pC x.2.1)++(bv x.2.2.1++[.bool x.2.2.2]):=by simp [nC,iC]
 rw [e] at h1
 have h2:=cz (ed h1)
 have hl:([xaY x.1]++pC x.2.1).length=22:=by rw [xap,bQ h.2.1];rfl
 rwa [hl,Nat.zero_add] at h2
theorem fR {x:Nam} {w:World} {g:Nat} (h:okN x) (hb:Blk w g 87 (nC x).toArray):w.cell? ⟨g,42,none⟩=some (.bool x.2.2.2):=by
 rw [hb.cell,xbn]
 have e:nC x=([.string x.1]++pC x.2.1++bv x.2.2.1)++[.bool x.2.2.2]:=by simp [nC,iC]
 have hl:([xaY x.1]++pC x.2.1++bv x.2.2.1).length=42:=by rw [xap,xap,bQ h.2.1,bvL,show x.2.2.1.length=20 from h.2.2];rfl
 rw [e,List.getElem?_append_right (by omega),hl]
 rfl
def jo (l:List Hsh):List (Hsh×Nat):=l.map fun h=>(h,1)
theorem AR {l:List Hsh} {h:Hsh} (hm:h∈l):((aX (jo l) h).map evN).getD (.int .i64 0)=.int .i64 1:=by
 cases e:aX (jo l) h with
 | none =>
  have:=gR.1 e (h,1) (xav.2 ⟨h,hm,rfl⟩)
  exact absurd rfl this
 | some v =>
  obtain ⟨y,_,hy⟩:=xav.1 (nM e)
  injection hy with _ hy
  subst hy
  rfl
theorem pI {l:List Hsh} {h:Hsh} (hm:h ∉ l):aX (jo l) h=none:=gR.2 fun p hp e=>by
 obtain ⟨y,hy,rfl⟩:=xav.1 hp
 exact hm (e▸hy)
theorem zm {l:List Hsh} {h:Hsh} (hm:h ∉ l):((aX (jo l) h).map evN).getD (.int .i64 0)=.int .i64 0:=by rw [pI hm];rfl
theorem oR (l:List Nam) (j:Nat) (x:Nam) (hx:l[j]?=some x):az (l.take (j+1))=if x.2.2.2=true∧x.2.2.1 ∉ az (l.take j) then az (l.take j)++[x.2.2.1] else az (l.take j):=by
 rw [xaz,hx]
 unfold az
 rw [List.foldl_append]
 rfl
theorem dZ (l:List Nam) (j:Nat):(az (l.take j)).length≤j:=by
 have key:∀ (l:List Nam) (out:List Hsh),(l.foldl (fun out x=>if x.2.2.2=true∧x.2.2.1 ∉ out then out++[x.2.2.1] else out) out).length≤out.length+l.length:=by
  intro l
  induction l with
  | nil=>intro out;exact xai _
  | cons x l ih =>
   intro out
   refine xay (ih _) ?_
   rw [xaE]
   dsimp only
   split
   ·rw [xap,xa0];omega
   ·omega
 have h:=key (l.take j) []
 rw [xaJ,List.length_nil] at h
 unfold az
 omega
theorem nW {K V:Type} {ek:K→Value} {ok:K→Prop} {ev:V→Value} {w:World} {b base n s:Nat} {m:List (K×V)} {e:TypeId} {u:Value} {xs:List Value} (h:w.ownsRow base e s u n xs) (hm:bH ek ok ev w b m):∀ g,u.ownBlock=some g→g ≠ b:=by
 rintro g hg rfl
 obtain ⟨es,c,h1,_⟩:=hm.at_
 rcases aR h with ⟨rfl,_⟩ | ⟨g',cap,cur,rfl,_,_,_,hb,_⟩
 ·cases hg
 ·have hg:some g'=some g:=hg
  injection hg with hg
  subst hg
  rw [show w.heap[g']?=_ from hb] at h1
  cases h1
theorem yk {h:Hsh} {w:World} {g:Nat} (hh:okH h) (hb:Blk w g 34 (bv h).toArray):fY w 20 (some ⟨g,0,none⟩) 1 1 (bv h):=by
 have h2:=p6 hb (bv1 h)
 rwa [bvL,show h.length=20 from hh] at h2
theorem dM:(Tryz.prog.info? 34).map (fun i=>(i.zero,i.size,i.bytes))=some (some (.agg zcH),20,20):=by kernel_rfl
theorem eo (w:World) (d:Drv) (v1 v2:Value) (h:aK w w.heap.size d v1 v2) (hl:d.2.1.length≤1000000) :
  Calls Tryz.prog 46 #[.agg (dC d v1 v2).toArray] w fun e w'=>∃ u,e=.returned u∧w'.ownsRow w.heap.size 34 20 u (az d.2.1).length ((az d.2.1).flatMap bv)∧Below w.heap.size w w':=by
 obtain ⟨A,cap,rfl,_,_,_,hA⟩:=ak h.ins
 obtain ⟨ih,hih,hq0,hq1,hq2⟩:=info_parts dM
 have HJ:=ah (xae hih (xae hq0 (xae hq1 hq2)))
 clear hih hq0 hq1 hq2
 have HA:=ah hA
 have l9:(d.2.1.length:Int)≤1000000:=by omega
 clear hA h
 have hmm:=@run_makeMap Tryz.prog
 obtain ⟨w1,hw1⟩:∃ w1,w1=w.alloc (.cells (dC d (.slice A d.2.1.length cap) v2).toArray 26):=⟨_,rfl⟩
 have hk1:Blk w1 w.heap.size 26 (dC d (.slice A d.2.1.length cap) v2).toArray:=by rw [hw1];exact Blk.new _ _ _
 have hb1:Below w.heap.size w w1:=by rw [hw1];exact (xaq _ w).alloc (xai _) _
 have hz1:w1.heap.size=w.heap.size+1:=by rw [hw1,size_alloc]
 have hm1:bH hV okH evN (w1.alloc (.map #[] 0)) (w.heap.size+1) (jo (az (d.2.1.take 0))):=by rw [← hz1];exact jz w1
 have HC9:=ah (show (w1.alloc (.map #[] 0)).cell? ⟨w.heap.size,1,none⟩=some (.slice A d.2.1.length cap) from ((hk1.alloc (.map #[] 0)).cell 1))
 have hb2:Below w.heap.size w (w1.alloc (.map #[] 0)):=hb1.alloc hb1.size _
 have H0:=ah (xae hm1 hb2)
 rw [hw1] at HC9 H0
 clear hk1 hb1 hm1 hb2 hz1 hw1
 go_enter Tryz.func46,Tryz.ntmps46
 go_wp2_with ((with_reducible refine ag 9 ?_);refine aa rfl (.slice A d.2.1.length cap) _ (exec_load_cell 23 (.tmp 8) rfl ⟨w.heap.size,1,none⟩ rfl _ _ _ Tryz.underlying23 rfl HC9.out) ?_)
 go_loopw [2,11] (fun x2 x11 wr=>∃ (j:Nat) (u:Value),j≤d.2.1.length∧u=x2∧x11=.int .i64 (j:Int)∧bH hV okH evN wr (w.heap.size+1) (jo (az (d.2.1.take j)))∧wr.ownsRow w.heap.size 34 20 u (az (d.2.1.take j)).length ((az (d.2.1.take j)).flatMap bv)∧Below w.heap.size w wr) (fun _ x11 _=>d.2.1.length-(intOf x11).toNat)
 case atStart=>exact ⟨0,.slice none 0 0,by omega,rfl,rfl,H0.out.1,xaW _ _ _ _,H0.out.2⟩
 case round =>
  obtain ⟨wo,rfl⟩:∃ wo,wo=wr:=⟨_,rfl⟩
  obtain ⟨j,u,hj,rfl,rfl,hmp,hown,hb⟩:=hrel
  have HI:=ah (xae hmp (xae hown hb))
  clear hmp hown hb
  have j0:(0:Int)≤(j:Int):=by omega
  by_cases hj2:j<d.2.1.length
  ·have j1:(j:Int)<(d.2.1.length:Int):=by omega
   obtain ⟨x,hx⟩:∃ x,d.2.1[j]?=some x:=⟨_,xaj hj2⟩
   obtain ⟨b,off,rfl,hlb,hE⟩:=HA.out (by omega)
   obtain ⟨cs,hr,hatx⟩:=hE j x hx
   obtain ⟨rfl,hxo⟩:=bw.1 hatx
   have HX:=ah (xae (a7 hr (HI.out.2.2.block b (by omega))) hxo)
   have hszx:(Tryz.prog.info? 34).map (·.size)=some (bv x.2.2.1).length:=by have:=eX hxo.2.2;simpa using this
   have hszx2:=eX hxo.2.2
   have hszz:zcH.size=(bv x.2.2.1).toArray.size:=by rw [show (bv x.2.2.1).toArray.size=20 by rw [xal,bvL];exact hxo.2.2];kernel_rfl
   have hone:(bv x.2.2.1).toArray.all (·.oneCell')=true:=all_oneCell_toArray (bv1 x.2.2.1)
   have hszn2:=BL hxo
   have hszn:(Tryz.prog.info? 87).map (·.size)=some (nC x).length:=by simpa using hszn2
   have hszzn:zcN.size=(nC x).toArray.size:=by rw [show (nC x).toArray.size=43 by rw [xal];exact da hxo];kernel_rfl
   have honen:(nC x).toArray.all (·.oneCell')=true:=all_oneCell_toArray (fQ x)
   have hst:=oR d.2.1 j x hx
   clear hx hE hr hatx hxo
   by_cases his:x.2.2.2=true
   ·by_cases hin:x.2.2.1∈az (d.2.1.take j)
    ·rw [if_neg (by rw [his];simp [hin])] at hst
     have HT:=ah hst
     have hlk:=AR hin
     clear hst
     go_wp2_with (first | ((with_reducible refine ag 13 ?_);refine aa rfl (.pointer (some ⟨b,off+(j:Int).toNat*43,none⟩)) wo (aH 23 87 (.tmp 9) (.tmp 11) rfl b off d.2.1.length cap (j:Int) .i64 rfl rfl ⟨j0,j1⟩ 43 Tryz.underlying23 aY wo) ?_;rw [show off+(j:Int).toNat*43=off+j*43 by omega]) | ((with_reducible refine ag 14 ?_);refine aa rfl (.agg (nC x).toArray) wo (aj 87 (.tmp 13) rfl b (off+j*43) rfl (nC x) _ wo HX.out.1 Tryz.underlying87 rfl hszn) ?_) | ((with_reducible refine ag 5 ?_);(with_reducible refine bD (o1:=⟨some 5,_,_,_,_,_⟩) (o2:=⟨none,_,_,_,_,_⟩) rfl rfl 87 (.tmp 5) (.tmp 14) ?_ zcN (nC x).toArray ?_ hszn2 ?_ honen ?_ ?_ ?_);rfl;kernel_rfl;exact hszzn;rfl;rfl;intro w3 hmm hbb;have H3:=ah (xae hmm hbb);clear hmm hbb;simp only [xad,xaa,xac,xab]) | ((with_reducible refine ag 17 ?_);refine aa rfl (.agg (bv x.2.2.1).toArray) w3 (aj 34 (.tmp 16) rfl wo.heap.size (22) rfl (bv x.2.2.1) _ w3 (gS HX.out.2 H3.out.1) Tryz.underlying34 rfl hszx) ?_) | ((with_reducible refine ag 6 ?_);(with_reducible refine bD (o1:=⟨some 6,_,_,_,_,_⟩) (o2:=⟨none,_,_,_,_,_⟩) rfl rfl 34 (.tmp 6) (.tmp 17) ?_ zcH (bv x.2.2.1).toArray ?_ hszx2 ?_ hone ?_ ?_ ?_);rfl;kernel_rfl;exact hszz;rfl;rfl;intro w4 hmm hbb;have H4:=ah (xae hmm hbb);clear hmm hbb;simp only [xad,xaa,xac,xab]) | ((with_reducible refine ag 20 ?_);refine aa rfl (.bool true) w4 (exec_load_cell 4 (.tmp 19) rfl ⟨wo.heap.size,42,none⟩ rfl _ _ w4 Tryz.underlying4 rfl (by have h:=fR HX.out.2 (H3.out.1.below H4.out.2 H3.out.1.lt);rwa [his] at h)) ?_) | ((with_reducible refine ag 23 ?_);refine aC (by kernel_rfl) (.agg (bv x.2.2.1).toArray) w4 (av 34 (.tmp 6) rfl w3.heap.size rfl 34 _ _ w4 H4.out.1 Tryz.underlying34 rfl hszx2) ?_) | ((with_reducible refine ag 24 ?_);refine aC (by kernel_rfl) (((aX (jo (az (d.2.1.take j))) x.2.2.1).map evN).getD (.int .i64 0)) w4 (dJ 99 (.tmp 22) (.tmp 23) false rfl (.map (some (w.heap.size+1))) (.agg (bv x.2.2.1).toArray) _ rfl rfl ((HI.out.1.of_eq ((H4.out.2.block _ (by have:=HI.out.1.lt;have:=H3.out.2.size;omega)).trans (H3.out.2.block _ HI.out.1.lt))).look dz HX.out.2.2.2 Tryz.underlying99 (pM w4))) ?_))
     go_roundw
     case rel=>exact ⟨j+1,u,by omega,rfl,by go_num,by rw [HT.out];exact (HI.out.1.of_eq ((H4.out.2.block _ (by have:=HI.out.1.lt;have:=H3.out.2.size;omega)).trans (H3.out.2.block _ HI.out.1.lt))),by rw [HT.out];exact (an (an HI.out.2.1 fun g _ hl=>H3.out.2.block g hl) fun g _ hl=>H4.out.2.block g hl),HI.out.2.2.trans (xam (H3.out.2.trans (xam H4.out.2 H3.out.2.size)) HI.out.2.2.size)⟩
     case measure=>simp [intOf];omega
    ·rw [if_pos ⟨his,hin⟩] at hst
     have HT:=ah hst
     have hlk:=zm hin
     clear hst
     have hcl:=dZ d.2.1 j
     go_wp2_with (first | ((with_reducible refine ag 13 ?_);refine aa rfl (.pointer (some ⟨b,off+(j:Int).toNat*43,none⟩)) wo (aH 23 87 (.tmp 9) (.tmp 11) rfl b off d.2.1.length cap (j:Int) .i64 rfl rfl ⟨j0,j1⟩ 43 Tryz.underlying23 aY wo) ?_;rw [show off+(j:Int).toNat*43=off+j*43 by omega]) | ((with_reducible refine ag 14 ?_);refine aa rfl (.agg (nC x).toArray) wo (aj 87 (.tmp 13) rfl b (off+j*43) rfl (nC x) _ wo HX.out.1 Tryz.underlying87 rfl hszn) ?_) | ((with_reducible refine ag 5 ?_);(with_reducible refine bD (o1:=⟨some 5,_,_,_,_,_⟩) (o2:=⟨none,_,_,_,_,_⟩) rfl rfl 87 (.tmp 5) (.tmp 14) ?_ zcN (nC x).toArray ?_ hszn2 ?_ honen ?_ ?_ ?_);rfl;kernel_rfl;exact hszzn;rfl;rfl;intro w3 hmm hbb;have H3:=ah (xae hmm hbb);clear hmm hbb;simp only [xad,xaa,xac,xab]) | ((with_reducible refine ag 17 ?_);refine aa rfl (.agg (bv x.2.2.1).toArray) w3 (aj 34 (.tmp 16) rfl wo.heap.size (22) rfl (bv x.2.2.1) _ w3 (gS HX.out.2 H3.out.1) Tryz.underlying34 rfl hszx) ?_) | ((with_reducible refine ag 6 ?_);(with_reducible refine bD (o1:=⟨some 6,_,_,_,_,_⟩) (o2:=⟨none,_,_,_,_,_⟩) rfl rfl 34 (.tmp 6) (.tmp 17) ?_ zcH (bv x.2.2.1).toArray ?_ hszx2 ?_ hone ?_ ?_ ?_);rfl;kernel_rfl;exact hszz;rfl;rfl;intro w4 hmm hbb;have H4:=ah (xae hmm hbb);clear hmm hbb;simp only [xad,xaa,xac,xab]) | ((with_reducible refine ag 20 ?_);refine aa rfl (.bool true) w4 (exec_load_cell 4 (.tmp 19) rfl ⟨wo.heap.size,42,none⟩ rfl _ _ w4 Tryz.underlying4 rfl (by have h:=fR HX.out.2 (H3.out.1.below H4.out.2 H3.out.1.lt);rwa [his] at h)) ?_) | ((with_reducible refine ag 23 ?_);refine aC (by kernel_rfl) (.agg (bv x.2.2.1).toArray) w4 (av 34 (.tmp 6) rfl w3.heap.size rfl 34 _ _ w4 H4.out.1 Tryz.underlying34 rfl hszx2) ?_) | ((with_reducible refine ag 24 ?_);refine aC (by kernel_rfl) (((aX (jo (az (d.2.1.take j))) x.2.2.1).map evN).getD (.int .i64 0)) w4 (dJ 99 (.tmp 22) (.tmp 23) false rfl (.map (some (w.heap.size+1))) (.agg (bv x.2.2.1).toArray) _ rfl rfl ((HI.out.1.of_eq ((H4.out.2.block _ (by have:=HI.out.1.lt;have:=H3.out.2.size;omega)).trans (H3.out.2.block _ HI.out.1.lt))).look dz HX.out.2.2.2 Tryz.underlying99 (pM w4))) ?_) | ((with_reducible refine ag 28 ?_);refine aa rfl (.agg (bv x.2.2.1).toArray) w4 (av 34 (.tmp 6) rfl w3.heap.size rfl 34 _ _ w4 H4.out.1 Tryz.underlying34 rfl hszx2) ?_;obtain ⟨w5,r1,r2,r3⟩:=bH.update (HI.out.1.of_eq ((H4.out.2.block _ (by have:=HI.out.1.lt;have:=H3.out.2.size;omega)).trans (H3.out.2.block _ HI.out.1.lt))) dz HX.out.2.2.2 Tryz.underlying99 1;have HU:=ah (xae r1 (xae r2 r3));clear r1 r2 r3) | (refine ff rfl 99 (.tmp 27) (.tmp 28) (.const (.int .i64 1)) rfl _ _ _ rfl rfl rfl HU.out.1 ?_) | ((with_reducible refine ag 30 ?_);refine aa rfl (.agg (bv x.2.2.1).toArray) w5 (av 34 (.tmp 6) rfl w3.heap.size rfl 34 _ _ w5 ((HU.out.2.2.2.1 w3.heap.size (by have:=HI.out.1.lt;have:=H3.out.2.size;omega)).trans H4.out.1) Tryz.underlying34 rfl hszx2) ?_;obtain ⟨w6,hw6⟩:∃ w6,w6=w5.alloc (.cells (Value.agg (bv x.2.2.1).toArray).cells 34):=⟨_,rfl⟩;have hb6:Below w5.heap.size w5 w6:=(by rw [hw6];exact (xaq _ w5).alloc (xai _) _);have hk6:Blk w6 w5.heap.size 34 (bv x.2.2.1).toArray:=(by rw [hw6];exact Blk.new _ _ _);have H6:=ah (xae hb6 (xae (yk HX.out.2.2.2 hk6) (an (an (an (an HI.out.2.1 fun g _ hl=>H3.out.2.block g hl) fun g _ hl=>H4.out.2.block g hl) fun g hg _=>HU.out.2.2.2.1 g (nW (an (an HI.out.2.1 fun g _ hl=>H3.out.2.block g hl) fun g _ hl=>H4.out.2.block g hl) (HI.out.1.of_eq ((H4.out.2.block _ (by have:=HI.out.1.lt;have:=H3.out.2.size;omega)).trans (H3.out.2.block _ HI.out.1.lt))) g hg)) fun g _ hl=>hb6.block g hl)));have HW6:=ah hw6;clear hb6 hk6 hw6) | ((with_reducible refine ag 31 ?_);refine aa rfl (.slice (some ⟨w5.heap.size,0,none⟩) 1 1) w6 (by rw [HW6.out];exact bO (v:=.agg (bv x.2.2.1).toArray) 27 (.tmp 30) rfl rfl Tryz.underlying27 ei (by omega) (by omega) (z:=.agg zcH) (fun w=>by kernel_rfl) (by rw [Value.cells,xal,bvL];exact HX.out.2.2.2) w5) ?_) | (at_builtin;((with_reducible refine ag 32 ?_);refine aD rfl _ _ 27 rfl w.heap.size 34 ih _ 20 20 Tryz.underlying27 HJ.out.1 HJ.out.2.1 HJ.out.2.2.1 HJ.out.2.2.2 rfl (by decide) _ (az (d.2.1.take j)).length ((az (d.2.1.take j)).flatMap bv) H6.out.2.2 (some ⟨w5.heap.size,0,none⟩) 1 1 (bv x.2.2.1) H6.out.2.1 ?hm2 ?hb2 ?hz2 rfl rfl ?_)))
     case hm2=>simp only [maxLen];omega
     case hb2=>omega
     case hz2=>have:=HI.out.2.2.size;have:=H3.out.2.size;have:=H4.out.2.size;have:=HU.out.2.2.1;have:=H6.out.1.size;omega
     intro u2 w7 own7 gr7 _
     have hmp7:bH hV okH evN w7 (w.heap.size+1) (jo (az (d.2.1.take j)++[x.2.2.1])):=by
      have h1:=HU.out.2.1
      rw [kM (pI hin)] at h1
      have h2:bH hV okH evN w7 (w.heap.size+1) (jo (az (d.2.1.take j))++[(x.2.2.1,1)]):=h1.of_eq ((gr7.block _ (by have:=h1.lt;have:=H6.out.1.size;omega) (fun e=>nW H6.out.2.2 (h1.below H6.out.1 h1.lt) _ e.symm rfl)).trans (H6.out.1.block _ h1.lt))
      simpa [jo] using h2
     have hb7:Below w.heap.size w w7:=by
      have h4:=HI.out.2.2.trans (xam (H3.out.2.trans (xam H4.out.2 H3.out.2.size)) HI.out.2.2.size)
      have h5:Below w.heap.size w w5:=h4.grown HU.out.2.2.grown h4.size (fun b hb=>by injection hb with hb;omega)
      exact Below.yi (h5.trans (xam H6.out.1 h5.size)) H6.out.2.2 (xai _) gr7
     have hown7:w7.ownsRow w.heap.size 34 20 u2 (az (d.2.1.take j)++[x.2.2.1]).length ((az (d.2.1.take j)++[x.2.2.1]).flatMap bv):=by rw [xap,List.flatMap_append,List.flatMap_singleton];exact own7
     have H7:=ah (xae hmp7 (xae hown7 hb7))
     clear hmp7 hown7 hb7 own7 gr7
     go_wp2_with fail
     go_roundw
     case rel=>exact ⟨j+1,u2,by omega,rfl,by go_num,by rw [HT.out];exact H7.out.1,by rw [HT.out];exact H7.out.2.1,H7.out.2.2⟩
     case measure=>simp [intOf];omega
   ·have his':x.2.2.2=false:=by simpa using his
    rw [if_neg (by rw [his'];simp)] at hst
    have HT:=ah hst
    clear hst his
    go_wp2_with (first | ((with_reducible refine ag 13 ?_);refine aa rfl (.pointer (some ⟨b,off+(j:Int).toNat*43,none⟩)) wo (aH 23 87 (.tmp 9) (.tmp 11) rfl b off d.2.1.length cap (j:Int) .i64 rfl rfl ⟨j0,j1⟩ 43 Tryz.underlying23 aY wo) ?_;rw [show off+(j:Int).toNat*43=off+j*43 by omega]) | ((with_reducible refine ag 14 ?_);refine aa rfl (.agg (nC x).toArray) wo (aj 87 (.tmp 13) rfl b (off+j*43) rfl (nC x) _ wo HX.out.1 Tryz.underlying87 rfl hszn) ?_) | ((with_reducible refine ag 5 ?_);(with_reducible refine bD (o1:=⟨some 5,_,_,_,_,_⟩) (o2:=⟨none,_,_,_,_,_⟩) rfl rfl 87 (.tmp 5) (.tmp 14) ?_ zcN (nC x).toArray ?_ hszn2 ?_ honen ?_ ?_ ?_);rfl;kernel_rfl;exact hszzn;rfl;rfl;intro w3 hmm hbb;have H3:=ah (xae hmm hbb);clear hmm hbb;simp only [xad,xaa,xac,xab]) | ((with_reducible refine ag 17 ?_);refine aa rfl (.agg (bv x.2.2.1).toArray) w3 (aj 34 (.tmp 16) rfl wo.heap.size (22) rfl (bv x.2.2.1) _ w3 (gS HX.out.2 H3.out.1) Tryz.underlying34 rfl hszx) ?_) | ((with_reducible refine ag 6 ?_);(with_reducible refine bD (o1:=⟨some 6,_,_,_,_,_⟩) (o2:=⟨none,_,_,_,_,_⟩) rfl rfl 34 (.tmp 6) (.tmp 17) ?_ zcH (bv x.2.2.1).toArray ?_ hszx2 ?_ hone ?_ ?_ ?_);rfl;kernel_rfl;exact hszz;rfl;rfl;intro w4 hmm hbb;have H4:=ah (xae hmm hbb);clear hmm hbb;simp only [xad,xaa,xac,xab]) | ((with_reducible refine ag 20 ?_);refine aa rfl (.bool false) w4 (exec_load_cell 4 (.tmp 19) rfl ⟨wo.heap.size,42,none⟩ rfl _ _ w4 Tryz.underlying4 rfl (by have h:=fR HX.out.2 (H3.out.1.below H4.out.2 H3.out.1.lt);rwa [his'] at h)) ?_))
    go_roundw
    case rel=>exact ⟨j+1,u,by omega,rfl,by go_num,by rw [HT.out];exact (HI.out.1.of_eq ((H4.out.2.block _ (by have:=HI.out.1.lt;have:=H3.out.2.size;omega)).trans (H3.out.2.block _ HI.out.1.lt))),by rw [HT.out];exact (an (an HI.out.2.1 fun g _ hl=>H3.out.2.block g hl) fun g _ hl=>H4.out.2.block g hl),HI.out.2.2.trans (xam (H3.out.2.trans (xam H4.out.2 H3.out.2.size)) HI.out.2.2.size)⟩
    case measure=>simp [intOf];omega
  ·obtain rfl:j=d.2.1.length:=by omega
   have hown:=HI.out.2.1
   rw [xaB] at hown
   have HO:=ah hown
   clear hown
   go_wp2_with fail
   go_ret
   exact ⟨_,rfl,HO.out,HI.out.2.2⟩
end Go.Proofs.YtomnhnmciopiiaaGreat
end
section
namespace Go.Proofs.YtomnhnmciopiiaaGreat
open Go Go.RowKit Go.Maps
theorem qu (s:ByteArray) (c:Int) (w:World) :
  Calls Tryz.prog 219 #[.string s,.int .u8 c] w fun e w'=>e=.returned (.int .i64 (xcm s.data.toList c.toNat.toUInt8))∧w'=w:=by
 go_enter Tryz.func219,Tryz.ntmps219
 go_wp2
 rw [run_callFunc_extern Tryz.func220 (by kernel_rfl) (by kernel_rfl) (by kernel_rfl) (e:=Extern.BytealgIndexByte.indexByte) (by kernel_rfl),Lib.run_indexByteString]
 simp only [xbd]
 rw [xbP]
 go_wp2
 go_ret
 exact ⟨rfl,rfl⟩
theorem vI (s:ByteArray) (c:Int) (w:World) :
  Calls Tryz.prog 214 #[.string s,.int .u8 c] w fun e w'=>e=.returned (.int .i64 (xcm s.data.toList c.toNat.toUInt8))∧w'=w:=by
 go_enter Tryz.func214,Tryz.ntmps214
 go_wp2_with (go_at_call 219;refine (qu _ _ _).mono ?_;rintro e w' ⟨rfl,rfl⟩)
 go_ret
 exact ⟨rfl,rfl⟩
def hG (c:Int):Bool:=decide (c<128)&&(decide (65≤c)&&decide (97≤bits BinOp.or IntKind.i32 c 32)&&decide (bits BinOp.or IntKind.i32 c 32≤122)||decide (48≤c)&&decide (c≤57)||decide (0≤xcm [46,95,43,45] c.toNat.toUInt8))
theorem zp (c:Int) (hc:0≤c) (w:World):Calls Tryz.prog 202 #[.int .i32 c] w fun e w'=>e=.returned (.bool (hG c))∧w'=w:=by
 by_cases h8:c<128
 ·obtain ⟨q,hq⟩:∃ q,q=hG c:=⟨_,rfl⟩
  rw [← hq]
  unfold hG at hq
  rw [decide_eq_true h8,xbe] at hq
  have HQ:=ah hq
  clear hq
  go_enter Tryz.func202,Tryz.ntmps202
  go_wp2_with (go_at_call 214;refine (vI _ _ _).mono ?_;rintro e w' ⟨rfl,rfl⟩)
  all_goals (go_ret;refine ⟨?_,rfl⟩;rw [HQ.out];simp_all<;>(first | done | omega | (rw [show decide (c≤57)=false from decide_eq_false (by omega)];simp;try (intros;exfalso;omega))))
 ·have e:hG c=false:=by unfold hG;rw [decide_eq_false h8];rfl
  rw [e]
  go_enter Tryz.func202,Tryz.ntmps202
  go_wp2_with fail
  go_ret
  exact ⟨rfl,rfl⟩
def eh (s:ByteArray):Nat→Nat→Bool
 | 0,_=>true
 | f+1,pos=>if pos<s.size then hG ((xbr s pos).1:Int)&&eh s f (pos+(xbr s pos).2) else true
theorem mg (s:ByteArray) (fuel pos:Nat) (h:¬ pos<s.size):eh s fuel pos=true:=by
 cases fuel with
 | zero=>rfl
 | succ f=>simp [eh,h]
theorem xq (s:ByteArray) (pos:Nat) (h:pos<s.size):1≤(xbr s pos).2:=by
 by_cases ha:(s[pos]'h).toNat<128
 ·rw [decode_ascii s pos h ha]
  exact xai _
 ·exact (decode_high s pos h (by omega)).2
def fk (s:ByteArray):Bool:=!s.toList.isEmpty&&(decide ((s.size:Int)≤24)&&(if h:0<s.size then ((s[0].toNat:Int) != 46) else false))
def bT (s:ByteArray):Bool:=eh s s.size 0&&fk s
theorem kO (s:ByteArray) (hs:s.size≤maxLen) (w:World):Calls Tryz.prog 180 #[.string s] w fun e w'=>e=.returned (.bool (bT s))∧Below w.heap.size w w':=by
 have hs9:s.size≤9223372036854775807:=by simp only [maxLen] at hs;omega
 go_enter Tryz.func180,Tryz.ntmps180
 go_wp2_with fail
 go_loopw [] (fun wr=>∃ (pos fuel:Nat),wr.heap[w.heap.size]?=some (.stringIter s pos)∧Below w.heap.size w wr∧eh s s.size 0=eh s fuel pos∧s.size≤pos+fuel) (fun wr=>s.size-wr.iterPos w.heap.size)
 case atStart =>
  refine ⟨0,s.size,?_,(xaq _ w).alloc (xai _) _,rfl,by omega⟩
  have:=World.iter_heap w s 0
  simpa using this
 case round =>
  obtain ⟨pos,fuel,hit,hbw,hok,hfu⟩:=hrel
  have hsz:w.heap.size<wr.heap.size:=(Array.getElem?_eq_some_iff.1 hit).1
  by_cases hp:pos<s.size
  ·have hnx:∀ ty,(Instr.next (.pointer (some ⟨w.heap.size,0,none⟩)) true ty).run Tryz.prog wr=_:=fun ty=>Lib.run_next_any_at wr w.heap.size s pos ty hit hp
   have hwd:=xq s pos hp
   have hd1:=decode_le s pos
   have hit2:=Lib.iterAt_heap wr w.heap.size s pos (pos+(xbr s pos).2) hit
   have hbw2:=Lib.below_iterAt hbw (k:=w.heap.size) (by omega) s (pos+(xbr s pos).2)
   obtain ⟨f,rfl⟩:∃ f,fuel=f+1:=⟨fuel-1,by omega⟩
   have hst:eh s (f+1) pos=(hG ((xbr s pos).1:Int)&&eh s f (pos+(xbr s pos).2)):=by rw [eh,if_pos hp]
   rw [hst] at hok
   have HOK:=ah hok
   have HB2:=ah hbw2
   clear hok hst hbw2
   obtain ⟨wn,hwn⟩:∃ wn,wn=wr.iterAt w.heap.size s (pos+(xbr s pos).2):=⟨_,rfl⟩
   have HWN:=ah hwn
   go_wp2_with fail
   rw [← HWN.out]
   refine (zp ((xbr s pos).1:Int) (by omega) wn).mono ?_
   rintro e w' ⟨rfl,rfl⟩
   dsimp only
   rw [hwn]
   by_cases hsg:hG ((xbr s pos).1:Int)=true
   ·have hok2:=HOK.out
    rw [hsg,xbe] at hok2
    have HO2:=ah hok2
    clear hok2 hwn HWN
    go_wp2_with fail
    go_roundw
    case rel=>exact ⟨pos+(xbr s pos).2,f,hit2,HB2.out,HO2.out,by omega⟩
    case measure =>
     simp only [World.iterPos,hit2,hit]
     omega
   ·have hsg':hG ((xbr s pos).1:Int)=false:=by simpa using hsg
    have hnm:bT s=false:=by unfold bT;rw [HOK.out,hsg'];rfl
    have HNM:=ah hnm
    clear hnm hwn HWN
    go_wp2_with fail
    go_ret
    exact ⟨by rw [HNM.out];rfl,HB2.out⟩
  ·have hnx:∀ ty,(Instr.next (.pointer (some ⟨w.heap.size,0,none⟩)) true ty).run Tryz.prog wr=_:=fun ty=>Lib.run_next_end_at wr w.heap.size s pos ty hit hp
   rw [mg s fuel pos hp] at hok
   have hnm:bT s=fk s:=by unfold bT;rw [hok];rfl
   have HNM:=ah hnm
   have HBW:=ah hbw
   clear hnm hok hbw
   by_cases h0:s=⟨#[]⟩
   ·subst h0
    have e0:fk ⟨#[]⟩=false:=by kernel_rfl
    rw [e0] at HNM
    go_wp2_with fail
    go_ret
    exact ⟨by rw [HNM.out];rfl,HBW.out⟩
   ·have h1:0<s.size:=by
     rcases Nat.eq_zero_or_pos s.size with h | h
     ·exact absurd (by cases s with | mk a=>simp [ByteArray.size] at h;rw [h]) h0
     ·exact h
    cases hem:s.toList.isEmpty with
    | true =>
     have e:fk s=false:=by unfold fk;rw [hem];rfl
     rw [e] at HNM
     go_wp2_with fail
     go_ret
     exact ⟨by rw [HNM.out];rfl,HBW.out⟩
    | false =>
     by_cases h24:(s.size:Int)≤24
     ·have e:fk s=((s[0].toNat:Int) != 46):=by unfold fk;rw [hem,decide_eq_true h24,dif_pos h1];rfl
      rw [e] at HNM
      go_wp2_with fail
      go_ret
      exact ⟨by rw [HNM.out];rfl,HBW.out⟩
     ·have e:fk s=false:=by unfold fk;rw [hem,decide_eq_false h24];rfl
      rw [e] at HNM
      go_wp2_with fail
      go_ret
      exact ⟨by rw [HNM.out];rfl,HBW.out⟩
end Go.Proofs.YtomnhnmciopiiaaGreat
end
section
namespace Go.Proofs.YtomnhnmciopiiaaGreat
open Go Go.RowKit Go.Maps
theorem fa {x:Nam} {w:World} {g:Nat} (hb:Blk w g 87 (nC x).toArray):w.cell? ⟨g,0,none⟩=some (.string x.1):=by
 rw [hb.cell,xbn]
 rfl
theorem lG {x:Nam} {w:World} {g:Nat} (hb:Blk w g 87 (nC x).toArray):w.rangeAt g 1 (pC x.2.1):=by
 have h1:=dP hb
 have e:(nC x).toArray.toList=[.string x.1]++(pC x.2.1++(bv x.2.2.1++[.bool x.2.2.2])):=by simp [nC,iC]
 rw [e] at h1
 exact cz (ed h1)
theorem rT {x:Nam} {w:World} {g:Nat} (hx:okN x) (hb:Blk w g 87 (nC x).toArray):w.cell? ⟨g,21,none⟩=some (.string x.2.1.2):=by
 have h:=lG hb
 refine h 20 _ ?_
 unfold pC
 rw [List.getElem?_append_right (by rw [bvL];exact Nat.le_of_eq hx.2.1.1),bvL,show x.2.1.1.length=20 from hx.2.1.1]
 rfl
def di:Hsh:=xar 20 0
def dW:Pth:=(di,⟨#[]⟩)
theorem fp:okH di:=rfl
theorem eN:okP dW:=⟨rfl,Nat.zero_le _⟩
def hX (x:Nam) (b:ByteArray):Bool:=bT x.1&&(!xaF x.1.toList b.toList&&!(x.1.toList == b.toList))&&(if x.2.2.2=true then decide (x.2.1=dW) else bT x.2.1.2&&decide (x.2.2.1=di))
theorem zK (w:World) (x:Nam) (hx:okN x) (b:ByteArray) :
  Calls Tryz.prog 179 #[.agg (nC x).toArray,.string b] w fun e w'=>e=.returned (.bool (hX x b))∧Below w.heap.size w w':=by
 obtain ⟨w1,hw1⟩:∃ w1,w1=w.alloc (.cells (nC x).toArray 87):=⟨_,rfl⟩
 have hk1:Blk w1 w.heap.size 87 (nC x).toArray:=by rw [hw1];exact Blk.new _ _ _
 have hb1:Below w.heap.size w w1:=by rw [hw1];exact (xaq _ w).alloc (xai _) _
 have H1:=ah (xae hk1 hb1)
 have HW:=ah hw1
 have c1:=fa hk1
 clear hk1 hb1 hw1
 go_enter Tryz.func179,Tryz.ntmps179
 go_wp2_with ((with_reducible refine ag 2 ?_);refine aa rfl (.pointer (some ⟨w.heap.size,0,none⟩)) w1 (by rw [HW.out];kernel_rfl) ?_)
 refine (kO x.1 hx.1 w1).mono ?_
 rintro e w2 ⟨rfl,hb⟩
 have H2:=ah (H1.out.1.below hb H1.out.1.lt)
 have HB:=ah (H1.out.2.trans (xam hb H1.out.2.size))
 have c2:=fa H2.out
 clear hb c1
 dsimp only
 by_cases hn:bT x.1=true
 ·rw [hn]
  cases h1:xaF x.1.toList b.toList with
  | true =>
   have hcn:hX x b=false:=by unfold hX;simp [h1]
   have HC:=ah hcn
   clear hcn
   go_wp2_with fail
   go_ret
   exact ⟨by rw [HC.out];rfl,HB.out⟩
  | false =>
   cases h2:(x.1.toList == b.toList) with
   | true =>
    have hcn:hX x b=false:=by unfold hX;simp [h2]
    have HC:=ah hcn
    clear hcn
    go_wp2_with fail
    go_ret
    exact ⟨by rw [HC.out];rfl,HB.out⟩
   | false =>
    by_cases his:x.2.2.2=true
    ·have hcn:hX x b=decide (x.2.1=dW):=by unfold hX;rw [hn,h1,h2,if_pos his];rfl
     have c42:w2.cell? ⟨w.heap.size,42,none⟩=some (.bool true):=by have h:=fR hx H2.out;rwa [his] at h
     have HC:=ah hcn
     clear hcn
     go_wp2_with (first | ((with_reducible refine ag 20 ?_);refine aa rfl (.agg (pC x.2.1).toArray) w2 (aj 83 (.tmp 19) rfl w.heap.size (1) rfl (pC x.2.1) _ w2 (lG H2.out) Tryz.underlying83 rfl (by have:=psz hx.2.1;simpa using this)) ?_) | ((with_reducible refine ag 21 ?_);refine aa rfl (.agg (pC dW).toArray) w2 (by kernel_rfl) ?_) | ((with_reducible refine ag 22 ?_);refine aa rfl (.bool (decide (x.2.1=dW))) w2 (bU .eql 83 (.tmp 20) (.tmp 21) _ rfl (pC x.2.1).toArray (pC dW).toArray rfl rfl (by kernel_rfl) _ (fun W=>q4 x.2.1 dW hx.2.1 eN W) w2) ?_))
     go_ret
     exact ⟨by rw [HC.out];rfl,HB.out⟩
    ·have his':x.2.2.2=false:=by simpa using his
     have hcn:hX x b=(bT x.2.1.2&&decide (x.2.2.1=di)):=by unfold hX;rw [hn,h1,h2,if_neg his];rfl
     have c42:w2.cell? ⟨w.heap.size,42,none⟩=some (.bool false):=by have h:=fR hx H2.out;rwa [his'] at h
     have c21:w2.cell? ⟨w.heap.size,21,none⟩=some (.string x.2.1.2):=rT hx H2.out
     go_wp2_with fail
     refine (kO x.2.1.2 hx.2.1.2 w2).mono ?_
     rintro e w3 ⟨rfl,hb⟩
     have H3:=ah (H2.out.below hb H2.out.lt)
     have HB3:=ah (HB.out.trans (xam hb HB.out.size))
     clear hb
     dsimp only
     by_cases hn2:bT x.2.1.2=true
     ·rw [hn2,xbe] at hcn
      rw [hn2]
      have HC:=ah hcn
      clear hcn
      go_wp2_with (first | ((with_reducible refine ag 31 ?_);refine aC (by kernel_rfl) (.agg (bv x.2.2.1).toArray) w3 (aj 34 (.tmp 30) rfl w.heap.size (22) rfl (bv x.2.2.1) _ w3 (gS hx H3.out) Tryz.underlying34 rfl (by have:=eX hx.2.2;simpa using this)) ?_) | ((with_reducible refine ag 32 ?_);refine aC (by kernel_rfl) (.agg (bv di).toArray) w3 (by kernel_rfl) ?_) | ((with_reducible refine ag 33 ?_);refine aC (by kernel_rfl) (.bool (decide (x.2.2.1=di))) w3 (bU .eql 34 (.tmp 31) (.tmp 32) _ rfl (bv x.2.2.1).toArray (bv di).toArray rfl rfl (by kernel_rfl) _ (fun W=>dH x.2.2.1 di hx.2.2 fp W) w3) ?_))
      go_ret
      exact ⟨by rw [HC.out];rfl,HB3.out⟩
     ·have hn2':bT x.2.1.2=false:=by simpa using hn2
      rw [hn2',xaZ] at hcn
      rw [hn2']
      have HC:=ah hcn
      clear hcn
      go_wp2_with fail
      go_ret
      exact ⟨by rw [HC.out];rfl,HB3.out⟩
 ·have hn':bT x.1=false:=by simpa using hn
  rw [hn']
  have hcn:hX x b=false:=by unfold hX;simp [hn']
  have HC:=ah hcn
  clear hcn
  go_wp2_with fail
  go_ret
  exact ⟨by rw [HC.out];rfl,HB.out⟩
end Go.Proofs.YtomnhnmciopiiaaGreat
end
section
namespace Go.Proofs.YtomnhnmciopiiaaGreat
open Go Go.RowKit Go.Maps
def eD:List Nam→ByteArray→Bool
 | [],_=>true
 | x :: l,b=>hX x b&&eD l x.1
theorem q6 (l:List Nam) (j:Nat) (x:Nam) (hx:l[j]?=some x) (b:ByteArray):eD (l.drop j) b=(hX x b&&eD (l.drop (j+1)) x.1):=by
 have hj:=(xah.1 hx)
 rw [List.drop_eq_getElem_cons hj.1,hj.2]
 rfl
def iM (d:Drv):Bool:=eD d.2.1 ⟨#[]⟩&&(bT d.1&&(decide ((d.2.1.length:Int)≤8)&&decide ((d.2.2.length:Int)≤1000)))
theorem zC (w:World) (d:Drv) (v1 v2:Value) (h:aK w w.heap.size d v1 v2) :
  Calls Tryz.prog 159 #[.agg (dC d v1 v2).toArray] w fun e w'=>e=.returned (.bool (iM d))∧Below w.heap.size w w':=by
 have hnm:=h.name
 obtain ⟨A,cap,rfl,hcl,hcm,_,hA⟩:=ak h.ins
 obtain ⟨A2,cap2,rfl,hcl2,hcm2,_,_⟩:=ak h.rcp
 have l9:(d.2.1.length:Int)≤9223372036854775807:=by simp only [maxLen] at hcm;omega
 have k9:(d.2.2.length:Int)≤9223372036854775807:=by simp only [maxLen] at hcm2;omega
 obtain ⟨w1,hw1⟩:∃ w1,w1=w.alloc (.cells (dC d (.slice A d.2.1.length cap) (.slice A2 d.2.2.length cap2)).toArray 26):=⟨_,rfl⟩
 have hk1:Blk w1 w.heap.size 26 (dC d (.slice A d.2.1.length cap) (.slice A2 d.2.2.length cap2)).toArray:=by rw [hw1];exact Blk.new _ _ _
 have hb1:Below w.heap.size w w1:=by rw [hw1];exact (xaq _ w).alloc (xai _) _
 have hz1:w1.heap.size=w.heap.size+1:=by rw [hw1,size_alloc]
 have c1:w1.cell? ⟨w.heap.size,1,none⟩=some (.slice A d.2.1.length cap):=hk1.cell 1
 have HC:=ah (xae (show w1.cell? ⟨w.heap.size,0,none⟩=some (.string d.1) from hk1.cell 0) (xae c1 (show w1.cell? ⟨w.heap.size,2,none⟩=some (.slice A2 d.2.2.length cap2) from hk1.cell 2)))
 have HB1:=ah hb1
 have HZ:=ah hz1
 have HW:=ah hw1
 have HA:=ah hA
 clear hk1 hb1 hz1 hw1 hA h hcl hcm hcl2 hcm2
 go_enter Tryz.func159,Tryz.ntmps159
 go_wp2_with ((with_reducible refine ag 1 ?_);refine aa rfl (.pointer (some ⟨w.heap.size,0,none⟩)) w1 (by rw [HW.out];kernel_rfl) ?_)
 go_loopw [3,9] (fun x3 x9 wr=>∃ (j:Nat) (bj:ByteArray),j≤d.2.1.length∧x3=.string bj∧x9=.int .i64 (j:Int)∧eD d.2.1 ⟨#[]⟩=eD (d.2.1.drop j) bj∧Below w1.heap.size w1 wr) (fun _ x9 _=>d.2.1.length-(intOf x9).toNat)
 case atStart=>exact ⟨0,⟨#[]⟩,by omega,rfl,rfl,rfl,xaq _ _⟩
 case round =>
  obtain ⟨wo,rfl⟩:∃ wo,wo=wr:=⟨_,rfl⟩
  obtain ⟨j,bj,hj,rfl,rfl,hok,hb⟩:=hrel
  have HI:=ah (xae trivial hb)
  clear hb
  have j0:(0:Int)≤(j:Int):=by omega
  by_cases hj2:j<d.2.1.length
  ·have j1:(j:Int)<(d.2.1.length:Int):=by omega
   obtain ⟨x,hx⟩:∃ x,d.2.1[j]?=some x:=⟨_,xaj hj2⟩
   obtain ⟨b,off,rfl,hlb,hE⟩:=HA.out (by omega)
   obtain ⟨cs,hr,hatx⟩:=hE j x hx
   obtain ⟨rfl,hxo⟩:=bw.1 hatx
   have HX:=ah (xae (a7 hr ((HI.out.2.block b (by have:=HZ.out;omega)).trans (HB1.out.block b (by omega)))) hxo)
   have hszn2:=BL hxo
   have hszn:(Tryz.prog.info? 87).map (·.size)=some (nC x).length:=by simpa using hszn2
   have hszzn:zcN.size=(nC x).toArray.size:=by rw [show (nC x).toArray.size=43 by rw [xal];exact da hxo];kernel_rfl
   have honen:(nC x).toArray.all (·.oneCell')=true:=all_oneCell_toArray (fQ x)
   have hst:=q6 d.2.1 j x hx bj
   rw [hst] at hok
   have HOK:=ah hok
   clear hx hE hr hatx hxo hst hok
   go_wp2_with (first | ((with_reducible refine ag 11 ?_);refine aa rfl (.pointer (some ⟨b,off+(j:Int).toNat*43,none⟩)) wo (aH 23 87 (.tmp 7) (.tmp 9) rfl b off d.2.1.length cap (j:Int) .i64 rfl rfl ⟨j0,j1⟩ 43 Tryz.underlying23 aY wo) ?_;rw [show off+(j:Int).toNat*43=off+j*43 by omega]) | ((with_reducible refine ag 12 ?_);refine aa rfl (.agg (nC x).toArray) wo (aj 87 (.tmp 11) rfl b (off+j*43) rfl (nC x) _ wo HX.out.1 Tryz.underlying87 rfl hszn) ?_) | ((with_reducible refine ag 5 ?_);(with_reducible refine bD (o1:=⟨some 5,_,_,_,_,_⟩) (o2:=⟨none,_,_,_,_,_⟩) rfl rfl 87 (.tmp 5) (.tmp 12) ?_ zcN (nC x).toArray ?_ hszn2 ?_ honen ?_ ?_ ?_);rfl;kernel_rfl;exact hszzn;rfl;rfl;intro w3 hmm hbb;have H3:=ah (xae hmm hbb);clear hmm hbb;simp only [xad,xaa,xac,xab]) | ((with_reducible refine ag 13 ?_);refine aa rfl (.agg (nC x).toArray) w3 (av 87 (.tmp 5) rfl wo.heap.size rfl 87 _ _ w3 H3.out.1 Tryz.underlying87 rfl hszn2) ?_))
   refine (zK w3 x HX.out.2 bj).mono ?_
   rintro e w4 ⟨rfl,hb⟩
   have H4:=ah (H3.out.1.below hb H3.out.1.lt)
   have HB4:=ah (HI.out.2.trans (xam (H3.out.2.trans (xam hb H3.out.2.size)) HI.out.2.size))
   clear hb
   dsimp only
   by_cases hc:hX x bj=true
   ·have hok:=HOK.out
    rw [hc,xbe] at hok
    have HO:=ah hok
    rw [hc]
    have c4:=fa H4.out
    clear hok
    go_wp2_with fail
    go_roundw
    case rel=>exact ⟨j+1,x.1,by omega,rfl,by go_num,HO.out,HB4.out⟩
    case measure=>simp [intOf];omega
   ·have hc':hX x bj=false:=by simpa using hc
    have e9:iM d=false:=by unfold iM;rw [HOK.out,hc'];rfl
    have HE:=ah e9
    rw [hc']
    clear e9
    go_wp2_with fail
    go_ret
    exact ⟨by rw [HE.out];rfl,HB1.out.trans (xam HB4.out HB1.out.size)⟩
  ·obtain rfl:j=d.2.1.length:=by omega
   rw [List.drop_length] at hok
   have e9:iM d=(bT d.1&&(decide ((d.2.1.length:Int)≤8)&&decide ((d.2.2.length:Int)≤1000))):=by unfold iM;rw [hok];rfl
   have HE:=ah e9
   clear e9 hok
   have c0:wo.cell? ⟨w.heap.size,0,none⟩=some (.string d.1):=(xaU (HI.out.2.block w.heap.size (by have:=HZ.out;omega))).trans HC.out.1
   go_wp2_with fail
   refine (kO d.1 hnm wo).mono ?_
   rintro e w5 ⟨rfl,hb⟩
   have HB5:=ah (HI.out.2.trans (xam hb HI.out.2.size))
   clear hb c0
   dsimp only
   have c1:w5.cell? ⟨w.heap.size,1,none⟩=some (.slice A d.2.1.length cap):=(xaU (HB5.out.block w.heap.size (by have:=HZ.out;omega))).trans HC.out.2.1
   have c2:w5.cell? ⟨w.heap.size,2,none⟩=some (.slice A2 d.2.2.length cap2):=(xaU (HB5.out.block w.heap.size (by have:=HZ.out;omega))).trans HC.out.2.2
   have HF:=ah (HB1.out.trans (xam HB5.out HB1.out.size))
   by_cases hn:bT d.1=true
   ·rw [hn]
    by_cases h8:(d.2.1.length:Int)≤8
    ·by_cases h10:(d.2.2.length:Int)≤1000
     ·rw [hn,decide_eq_true h8,decide_eq_true h10] at HE
      go_wp2_with fail
      go_ret
      exact ⟨by rw [HE.out];rfl,HF.out⟩
     ·rw [hn,decide_eq_true h8,decide_eq_false h10] at HE
      go_wp2_with fail
      go_ret
      exact ⟨by rw [HE.out];rfl,HF.out⟩
    ·rw [hn,decide_eq_false h8] at HE
     go_wp2_with fail
     go_ret
     exact ⟨by rw [HE.out];rfl,HF.out⟩
   ·have hn':bT d.1=false:=by simpa using hn
    rw [hn'] at HE ⊢
    go_wp2_with fail
    go_ret
    exact ⟨by rw [HE.out];rfl,HF.out⟩
end Go.Proofs.YtomnhnmciopiiaaGreat
end
section
namespace Go.Proofs.YtomnhnmciopiiaaGreat
open Go Go.RowKit Go.Maps
def zcD:Array Value:=#[.string ⟨#[]⟩,.slice none 0 0,.slice none 0 0]
def ib (k:Int):List Value:=[.int .u8 k]
theorem yJ {w:World} {B len cap:Nat} {A:Option Addr} {l:List Nam} (h:dv.At w B [.slice A len cap] l):len=l.length∧fY w 43 A l.length cap (l.flatMap nC) :=
 jD (L:=lF) (f:=nC) (by decide) (fun h=>(bw.1 h).1) fQ h
theorem oQ {w:World} {B len cap:Nat} {A:Option Addr} {l:List Int} (h:b5.At w B [.slice A len cap] l):len=l.length∧fY w 1 A l.length cap (l.flatMap ib) :=
 jD (L:=Lay.int 5 .u8) (f:=ib) (by decide) (fun h=>h.1) (fun k u hu=>by rw [xan.1 hu];rfl) h
theorem fc {α:Type} {t:TypeId} {L:Lay α} {w:World} {B:Nat} {v:Value} {l:List α} (h:(Lay.slice t L).At w B [v] l) {x:α} (hx:x∈l):∃ cs,L.At w B cs x:=by
 obtain ⟨A,cap,_,_,_,_,h4⟩:=h
 obtain ⟨i,hi⟩:=xaO hx
 obtain ⟨b,off,_,_,hE⟩:=h4 (by have:=(xah.1 hi).1;omega)
 obtain ⟨cs,_,h5⟩:=hE i x hi
 exact ⟨cs,h5⟩
structure bz (w:World) (B:Nat) (d:Drv) (u1 u2:Value):Prop where
 name:d.1.size≤maxLen
 okn:∀ x∈d.2.1,okN x
 okb:∀ x∈d.2.2,(Lit.int .u8 x).wf=true
 gF:w.ownsRow B 87 43 u1 d.2.1.length (d.2.1.flatMap nC)
 iL:w.ownsRow B 5 1 u2 d.2.2.length (d.2.2.flatMap ib)
theorem bz.at_ {w:World} {B:Nat} {d:Drv} {u1 u2:Value} (h:bz w B d u1 u2) {N:Nat} (hN:w.heap.size≤N):aK w N d u1 u2 :=
 ⟨h.name,dg (L:=lF) (f:=nC) (by decide) h.gF _ hN (fun x hx=>bw.2 ⟨rfl,h.okn x hx⟩),dg (L:=Lay.int 5 .u8) (f:=ib) (by decide) h.iL _ hN (fun x hx=>⟨rfl,h.okb x hx⟩)⟩
theorem bz.vR {w w':World} {B:Nat} {d:Drv} {u1 u2:Value} (h:bz w B d u1 u2) (hk:∀ g,B≤g→g<w.heap.size→w'.heap[g]?=w.heap[g]?):bz w' B d u1 u2 :=
 ⟨h.name,h.okn,h.okb,an h.gF fun g hg hl=>hk g (aB h.gF hg).1 hl,an h.iL fun g hg hl=>hk g (aB h.iL hg).1 hl⟩
theorem bz.lower {w:World} {B B':Nat} {d:Drv} {u1 u2:Value} (h:bz w B d u1 u2) (hB:B'≤B):bz w B' d u1 u2 :=
 ⟨h.name,h.okn,h.okb,bn h.gF fun _ hg=>xay hB (aB h.gF hg).1,bn h.iL fun _ hg=>xay hB (aB h.iL hg).1⟩
theorem bz.nil (w:World) (B:Nat):bz w B (⟨#[]⟩,[],[]) (.slice none 0 0) (.slice none 0 0):=⟨Nat.zero_le _,(fun x hx=>by cases hx),(fun x hx=>by cases hx),xaW _ _ _ _,xaW _ _ _ _⟩
theorem bz.form {w:World} {B:Nat} {d:Drv} {u1 u2:Value} (h:bz w B d u1 u2):∃ A1 n1 c1 A2 n2 c2,u1=.slice A1 n1 c1∧u2=.slice A2 n2 c2:=by
 rcases aR h.gF with ⟨e,_⟩ | ⟨g,cap,cur,e,_⟩<;>rcases aR h.iL with ⟨e2,_⟩ | ⟨g2,cap2,cur2,e2,_⟩<;>exact ⟨_,_,_,_,_,_,e,e2⟩
theorem lA:(Tryz.prog.info? 87).map (fun i=>(i.zero,i.size,i.bytes))=some (some (.agg zcN),43,80):=by kernel_rfl
theorem wM (w:World) (d:Drv) (v1 v2:Value) (h:aK w w.heap.size d v1 v2) (hl:d.2.1.length≤1000000) (hl2:d.2.2.length≤1000000) :
  Calls Tryz.prog 72 #[.agg (dC d v1 v2).toArray] w fun e w'=>∃ u1 u2,e=.returned (.agg (dC d u1 u2).toArray)∧bz w' w.heap.size d u1 u2∧Below w.heap.size w w':=by
 obtain ⟨inm,hih,hq0,hq1,hq2⟩:=info_parts lA
 have HJ:=ah (xae hih (xae hq0 (xae hq1 hq2)))
 clear hih hq0 hq1 hq2
 obtain ⟨iu8,hih,hq0,hq1,hq2⟩:=info_parts (show (Tryz.prog.info? 5).map (fun i=>(i.zero,i.size,i.bytes))=some (some (.int .u8 0),1,1) by kernel_rfl)
 have HK:=ah (xae hih (xae hq0 (xae hq1 hq2)))
 clear hih hq0 hq1 hq2
 obtain ⟨A,cap,rfl,_,_,_,_⟩:=ak h.ins
 obtain ⟨A2,cap2,rfl,_,_,_,_⟩:=ak h.rcp
 obtain ⟨w1,hw1⟩:∃ w1,w1=w.alloc (.cells (dC d (.slice A d.2.1.length cap) (.slice A2 d.2.2.length cap2)).toArray 26):=⟨_,rfl⟩
 obtain ⟨w2,hw2⟩:∃ w2,w2=w1.alloc (.cells zcD 26):=⟨_,rfl⟩
 have hb1:Below w.heap.size w w1:=by rw [hw1];exact (xaq _ w).alloc (xai _) _
 have hk1:Blk w1 w.heap.size 26 (dC d (.slice A d.2.1.length cap) (.slice A2 d.2.2.length cap2)).toArray:=by rw [hw1];exact Blk.new _ _ _
 have hb2:Below w1.heap.size w1 w2:=by rw [hw2];exact (xaq _ w1).alloc (xai _) _
 have hk2:Blk w2 w1.heap.size 26 zcD:=by rw [hw2];exact Blk.new _ _ _
 have hz1:w1.heap.size=w.heap.size+1:=by rw [hw1,size_alloc]
 have hz2:w2.heap.size=w.heap.size+2:=by rw [hw2,size_alloc,hz1]
 have hb:=hb1.trans (xam hb2 hb1.size)
 have hk:=hk1.below hb2 hk1.lt
 have hs1:=(yJ (dv.alike h.ins fun b hb9=>hb.block b hb9)).2
 have hs2:=(oQ (b5.alike h.rcp fun b hb9=>hb.block b hb9)).2
 have HC:=ah (xae hs1 hs2)
 have H2:=ah (xae hb (xae hk hk2))
 have HD:=ah h
 have HZ:=ah (xae hz1 hz2)
 have HW1:=ah hw1
 have HW2:=ah hw2
 have c1:w2.cell? ⟨w.heap.size,1,none⟩=some (.slice A d.2.1.length cap):=hk.cell 1
 have f1:=hk.frozen 1
 have l1:=hk.lt
 clear hw1 hw2 hb1 hk1 hb2 hk2 hz1 hz2 hb hk hs1 hs2 h
 go_enter Tryz.func72,Tryz.ntmps72
 go_wp2_with (first | ((with_reducible refine ag 1 ?_);refine aa rfl (.pointer (some ⟨w.heap.size,0,none⟩)) w1 (by rw [HW1.out];kernel_rfl) ?_) | ((with_reducible refine ag 2 ?_);refine aa rfl (.pointer (some ⟨w1.heap.size,0,none⟩)) w2 (by rw [HW2.out];kernel_rfl) ?_) | (at_builtin;((with_reducible refine ag 5 ?_);refine aD rfl _ _ 23 rfl w2.heap.size 87 inm _ 43 80 Tryz.underlying23 HJ.out.1 HJ.out.2.1 HJ.out.2.2.1 HJ.out.2.2.2 rfl (by decide) _ 0 [] (xaW _ _ _ _) A d.2.1.length cap (d.2.1.flatMap nC) HC.out.1 ?hm1 ?hb1 ?hz1 rfl rfl ?_)))
 case hm1=>simp only [maxLen];omega
 case hb1=>omega
 case hz1=>exact xai _
 intro u1 w3 own3 gr3 _
 have own3:w3.ownsRow w2.heap.size 87 43 u1 d.2.1.length (d.2.1.flatMap nC):=by simpa using own3
 obtain ⟨A3,n3,c3,rfl⟩:∃ A n c,u1=.slice A n c:=by
  rcases aR own3 with ⟨e,_⟩ | ⟨g,cap,cur,e,_⟩
  ·exact ⟨_,_,_,e⟩
  ·exact ⟨_,_,_,e⟩
 have hb3:Below w.heap.size w w3:=H2.out.1.grown gr3 H2.out.1.size (fun b hb=>by cases hb)
 have hk3:Blk w3 w.heap.size 26 (dC d (.slice A d.2.1.length cap) (.slice A2 d.2.2.length cap2)).toArray:=(gr3.block _ H2.out.2.1.lt (fun e=>by cases e)).trans H2.out.2.1
 have hr3:Blk w3 w1.heap.size 26 zcD:=(gr3.block _ H2.out.2.2.lt (fun e=>by cases e)).trans H2.out.2.2
 obtain ⟨w4,hw4⟩:∃ w4,w4=w3.setCell ⟨w.heap.size,1,none⟩ (.slice A3 n3 c3):=⟨_,rfl⟩
 have ne1:w.heap.size ≠ w1.heap.size:=by have:=HZ.out;omega
 have hk4:Blk w4 w.heap.size 26 (dC d (.slice A3 n3 c3) (.slice A2 d.2.2.length cap2)).toArray:=by rw [hw4];exact hk3.tZ 1 (.slice A3 n3 c3)
 have hoth:∀ b,b ≠ w.heap.size→w4.heap[b]?=w3.heap[b]?:=fun b hb=>by rw [hw4];exact Below.heap_setCell w3 _ _ b (fun e=>hb e)
 have hr4:Blk w4 w1.heap.size 26 zcD:=(hoth _ ne1.symm).trans hr3
 have hb4:Below w.heap.size w w4:=by rw [hw4];exact hb3.setCell (xai _) _
 have hz4:w4.heap.size=w3.heap.size:=by rw [hw4];simp [World.setCell]
 have hs4:=(oQ (b5.alike HD.out.rcp fun b hb9=>hb4.block b hb9)).2
 have own4:w4.ownsRow w2.heap.size 87 43 (.slice A3 n3 c3) d.2.1.length (d.2.1.flatMap nC):=an own3 fun g hg _=>hoth g fun e=>by have:=(aB own3 hg).1;have:=HZ.out;omega
 have H4:=ah (xae hb4 (xae hk4 (xae hr4 (xae own4 hs4))))
 have HW4:=ah hw4
 have c1':w3.cell? ⟨w.heap.size,1,none⟩=some (.slice A d.2.1.length cap):=hk3.cell 1
 have f1':=hk3.frozen 1
 have l1':=hk3.lt
 have c2:(w3.setCell ⟨w.heap.size,1,none⟩ (.slice A3 n3 c3)).cell? ⟨w.heap.size,2,none⟩=some (.slice A2 d.2.2.length cap2):=by rw [← hw4];exact hk4.cell 2
 have hs4':fY (w3.setCell ⟨w.heap.size,1,none⟩ (.slice A3 n3 c3)) 1 A2 d.2.2.length cap2 (d.2.2.flatMap ib):=by rw [← hw4];exact hs4
 have HS:=ah hs4'
 clear hk3 hr3 hk4 hr4 hb3 hb4 hs4 hs4' own3 own4 gr3 hoth hw4 c1 f1 l1
 go_wp2_with (at_builtin;((with_reducible refine ag 9 ?_);refine aD rfl _ _ 24 rfl (w3.setCell ⟨w.heap.size,1,none⟩ (.slice A3 n3 c3)).heap.size 5 iu8 _ 1 1 Tryz.underlying24 HK.out.1 HK.out.2.1 HK.out.2.2.1 HK.out.2.2.2 rfl (by decide) _ 0 [] (xaW _ _ _ _) A2 d.2.2.length cap2 (d.2.2.flatMap ib) HS.out ?hm2 ?hb2 ?hz2 rfl rfl ?_))
 case hm2=>simp only [maxLen];omega
 case hb2=>omega
 case hz2=>exact xai _
 rw [← HW4.out]
 intro u2 w5 own5 gr5 _
 have own5:w5.ownsRow w3.heap.size 5 1 u2 d.2.2.length (d.2.2.flatMap ib):=by simpa using own5
 obtain ⟨A5,n5,c5,rfl⟩:∃ A n c,u2=.slice A n c:=by
  rcases aR own5 with ⟨e,_⟩ | ⟨g,cap,cur,e,_⟩
  ·exact ⟨_,_,_,e⟩
  ·exact ⟨_,_,_,e⟩
 have hb5:Below w.heap.size w w5:=H4.out.1.grown gr5 H4.out.1.size (fun b hb=>by cases hb)
 have hk5:Blk w5 w.heap.size 26 (dC d (.slice A3 n3 c3) (.slice A2 d.2.2.length cap2)).toArray:=(gr5.block _ H4.out.2.1.lt (fun e=>by cases e)).trans H4.out.2.1
 have hr5:Blk w5 w1.heap.size 26 zcD:=(gr5.block _ H4.out.2.2.1.lt (fun e=>by cases e)).trans H4.out.2.2.1
 have own45:w5.ownsRow w2.heap.size 87 43 (.slice A3 n3 c3) d.2.1.length (d.2.1.flatMap nC):=an H4.out.2.2.2.1 fun g _ hl=>gr5.block g hl (fun e=>by cases e)
 obtain ⟨w6,hw6⟩:∃ w6,w6=w5.setCell ⟨w.heap.size,2,none⟩ (.slice A5 n5 c5):=⟨_,rfl⟩
 have hoth6:∀ b,b ≠ w.heap.size→w6.heap[b]?=w5.heap[b]?:=fun b hb=>by rw [hw6];exact Below.heap_setCell w5 _ _ b (fun e=>hb e)
 have hk6:Blk w6 w.heap.size 26 (dC d (.slice A3 n3 c3) (.slice A5 n5 c5)).toArray:=by rw [hw6];exact hk5.tZ 2 (.slice A5 n5 c5)
 have hr6:Blk w6 w1.heap.size 26 zcD:=(hoth6 _ ne1.symm).trans hr5
 have hb6:Below w.heap.size w w6:=by rw [hw6];exact hb5.setCell (xai _) _
 have own6:w6.ownsRow w2.heap.size 87 43 (.slice A3 n3 c3) d.2.1.length (d.2.1.flatMap nC):=an own45 fun g hg _=>hoth6 g fun e=>by have:=(aB own45 hg).1;have:=HZ.out;omega
 have own7:w6.ownsRow w3.heap.size 5 1 (.slice A5 n5 c5) d.2.2.length (d.2.2.flatMap ib):=an own5 fun g hg _=>hoth6 g fun e=>by have:=(aB own5 hg).1;have:=H4.out.1.size;have:=H4.out.2.1.lt;omega
 have H6:=ah (xae hb6 (xae hk6 (xae hr6 (xae own6 own7))))
 have HX6:=ah (show Blk (w5.setCell ⟨w.heap.size,2,none⟩ (.slice A5 n5 c5)) w.heap.size 26 (dC d (.slice A3 n3 c3) (.slice A5 n5 c5)).toArray by rw [← hw6];exact hk6)
 have HR6:=ah (show Blk (w5.setCell ⟨w.heap.size,2,none⟩ (.slice A5 n5 c5)) w1.heap.size 26 zcD by rw [← hw6];exact hr6)
 have HW6:=ah hw6
 have c2':w5.cell? ⟨w.heap.size,2,none⟩=some (.slice A2 d.2.2.length cap2):=hk5.cell 2
 have f2':=hk5.frozen 2
 have l2':=hk5.lt
 clear hk5 hr5 hb5 own5 own45 gr5 hk6 hr6 hb6 own6 own7 hoth6 hw6 c1' f1' l1' c2
 go_wp2_with (first | ((with_reducible refine ag 11 ?_);refine aa rfl (.agg (dC d (.slice A3 n3 c3) (.slice A5 n5 c5)).toArray) _ (av 26 (.tmp 1) rfl w.heap.size rfl 26 _ _ _ HX6.out Tryz.underlying26 rfl (by kernel_rfl)) ?_) | (with_reducible refine ar rfl 26 (.tmp 2) (.tmp 11) rfl w1.heap.size zcD (dC d (.slice A3 n3 c3) (.slice A5 n5 c5)).toArray 26 HR6.out ?s1 ?s2 ?s3 ?s4 ?s5 ?s6))
 case s1=>kernel_rfl
 case s2=>rfl
 case s3=>kernel_rfl
 rw [← HW6.out]
 intro w7 hk7 hg7
 have hb7:Below w.heap.size w w7:=H6.out.1.grown hg7 H6.out.1.size (fun b hb=>by injection hb with hb;have:=HZ.out;omega)
 have o1:w7.ownsRow w2.heap.size 87 43 (.slice A3 n3 c3) d.2.1.length (d.2.1.flatMap nC):=an H6.out.2.2.2.1 fun g hg hl=>hg7.block g hl fun e=>by have e:=xao e;have:=(aB H6.out.2.2.2.1 hg).1;have:=HZ.out;omega
 have o2:w7.ownsRow w3.heap.size 5 1 (.slice A5 n5 c5) d.2.2.length (d.2.2.flatMap ib):=an H6.out.2.2.2.2 fun g hg hl=>hg7.block g hl fun e=>by have e:=xao e;have:=(aB H6.out.2.2.2.2 hg).1;have:=H4.out.2.2.1.lt;omega
 have hat:bz w7 w.heap.size d (.slice A3 n3 c3) (.slice A5 n5 c5):=⟨HD.out.name,(fun x hx=>by obtain ⟨cs,h9⟩:=fc HD.out.ins hx;exact (bw.1 h9).2),(fun x hx=>by obtain ⟨cs,h9⟩:=fc HD.out.rcp hx;exact h9.2),bn o1 (fun g hg=>by have:=(aB o1 hg).1;have:=HZ.out;omega),bn o2 (fun g hg=>by have:=(aB o2 hg).1;have:=H4.out.1.size;omega)⟩
 have H7:=ah (xae hk7 (xae hat hb7))
 clear hk7 hg7 hb7 o1 o2 hat
 go_wp2_with fail
 refine bodyPost_ret (results_cell_row rfl _ _ w1.heap.size 26 (dC d (.slice A3 n3 c3) (.slice A5 n5 c5)).toArray (0,0) _ rfl H7.out.1 Tryz.underlying26 rfl (by kernel_rfl)) rfl ⟨_,_,rfl,H7.out.2.1,H7.out.2.2⟩
end Go.Proofs.YtomnhnmciopiiaaGreat
end
section
namespace Go.Proofs.YtomnhnmciopiiaaGreat
open Go Go.RowKit Go.Maps
theorem results_cell_tmp {P:Program} {fn:Func} {p u:Tmp} {ty:TypeId} (h:fn.results=#[.cell p ty,.tmp u]) (tmps:Array Value) (w:World) (g:Nat) (t:TypeId) (cs:Array Value) (fr:Nat×Nat) (d:TypeDesc)
  (hp:tmps.getD p undef=.pointer (some ⟨g,0,none⟩)) (hg:w.heap[g]?=some (.cells cs t fr))
  (hu:P.underlying ty=some d) (hd:(match d with | .struct _ | .array _ _=>true | _=>false)=true) (hi:(P.info? ty).map (·.size)=some cs.size) :
  (results fn tmps).run P w=.ok (.tuple #[.agg cs,tmps.getD u undef]) w:=by
 have hp':tmps[p]?.getD undef=.pointer (some ⟨g,0,none⟩):=by simpa using hp
 simp [results,h,hp',asAddr,run_loadVar_row w g t ty cs fr d hg hu hd hi]
def zcT:Array Value:=(bv (xar 20 0)++[xaY ⟨#[]⟩,xag none 0 0,xag none 0 0]).toArray
theorem cI:(Tryz.prog.info? 59).map (·.size)=some 23:=by kernel_rfl
theorem dh {x:Itm} {v1 v2:Value} (h:okH x.1):(tC x v1 v2).length=23:=by
 unfold tC
 rw [xap,bvL,show x.1.length=20 from h]
 rfl
theorem iD (x:Itm) {v1 v2:Value} (h1:v1.oneCell'=true) (h2:v2.oneCell'=true):∀ v∈tC x v1 v2,v.oneCell'=true:=by
 intro v hv
 rcases xau.1 hv with hv | hv
 ·exact bv1 _ v hv
 ·simp only [dC,xax,xaP,or_false] at hv
  rcases hv with rfl | rfl | rfl
  ·rfl
  ·exact h1
  ·exact h2
theorem fh {x:Itm} {v1 v2:Value} {w:World} {g:Nat} (_:okH x.1) (hb:Blk w g 59 (tC x v1 v2).toArray):w.rangeAt g 0 (bv x.1):=by
 have h1:=dP hb
 exact cz (c2:=dC x.2 v1 v2) (by simpa [tC] using h1)
theorem fL {x:Itm} {v1 v2:Value} {w:World} {g:Nat} (h:okH x.1) (hb:Blk w g 59 (tC x v1 v2).toArray):w.rangeAt g 20 (dC x.2 v1 v2):=by
 have h1:=dP hb
 have h2:=ed (c1:=bv x.1) (c2:=dC x.2 v1 v2) (o:=0) (by simpa [tC] using h1)
 rwa [bvL,show x.1.length=20 from h] at h2
theorem aK.alike {w w':World} {B:Nat} {d:Drv} {v1 v2:Value} (h:aK w B d v1 v2) (ha:Alike B w w'):aK w' B d v1 v2:=⟨h.name,dv.alike h.ins ha,b5.alike h.rcp ha⟩
theorem aK.dV {w:World} {B B':Nat} {d:Drv} {v1 v2:Value} (h:aK w B d v1 v2) (hB:B≤B'):aK w B' d v1 v2:=⟨h.name,dv.dV h.ins hB,b5.dV h.rcp hB⟩
theorem sU {l:List Itm} {j:Nat} {x:Itm} {c:Hsh} (hx:l[j]?=some x) (hc:x.1=c) (hn:∀ y∈l.take j,y.1 ≠ c):l.find? (fun x=>decide (x.1=c))=some x:=by
 have hj:=xah.1 hx
 rw [List.find?_eq_some_iff_getElem]
 refine ⟨by simpa using hc,j,hj.1,hj.2,fun i hi=>?_⟩
 have hj1:=hj.1
 have h9:i<l.length:=by omega
 have:l[i]∈l.take j:=xak (i:=i) (by rw [List.getElem?_take_of_lt hi,xaj h9])
 simpa using hn _ this
def sD (w:World) (l:List Itm) (c:Hsh) (w':World) (e:Ending):Prop:=∃ u1 u2,e=.returned (.tuple #[.agg (dC (((l.find? fun x=>decide (x.1=c)).map (·.2)).getD (⟨#[]⟩,[],[])) u1 u2).toArray,.bool (l.find? fun x=>decide (x.1=c)).isSome])∧bz w' w.heap.size (((l.find? fun x=>decide (x.1=c)).map (·.2)).getD (⟨#[]⟩,[],[])) u1 u2∧Below w.heap.size w w'
theorem yf (w:World) (l:List Itm) (v:Value) (h:bB.At w w.heap.size [v] l) (c:Hsh) (hc:okH c) (hl:∀ x∈l,x.2.2.1.length≤1000000∧x.2.2.2.length≤1000000) :
  Calls Tryz.prog 31 #[v,.agg (bv c).toArray] w fun e w'=>sD w l c w' e:=by
 obtain ⟨A,cap,rfl,hcl,hcm,_,hA⟩:=ak h
 have k9:(l.length:Int)≤9223372036854775807:=by simp only [maxLen] at hcm;omega
 have HA:=ah hA
 obtain ⟨w1,hw1⟩:∃ w1,w1=w.alloc (.cells (bv c).toArray 34):=⟨_,rfl⟩
 obtain ⟨w2,hw2⟩:∃ w2,w2=w1.alloc (.cells zcD 26):=⟨_,rfl⟩
 have hb1:Below w.heap.size w w1:=by rw [hw1];exact (xaq _ w).alloc (xai _) _
 have hk1:Blk w1 w.heap.size 34 (bv c).toArray:=by rw [hw1];exact Blk.new _ _ _
 have hb2:Below w1.heap.size w1 w2:=by rw [hw2];exact (xaq _ w1).alloc (xai _) _
 have hk2:Blk w2 w1.heap.size 26 zcD:=by rw [hw2];exact Blk.new _ _ _
 have H2:=ah (xae (hk1.below hb2 hk1.lt) (xae hk2 (hb1.trans (xam hb2 hb1.size))))
 have HZ:=ah (show w.heap.size≤w1.heap.size from hb1.size)
 have HW1:=ah hw1
 have HW2:=ah hw2
 clear hA h hcl hcm hw1 hw2 hb1 hk1 hb2 hk2
 go_enter Tryz.func31,Tryz.ntmps31
 go_wp2_with (first | ((with_reducible refine ag 3 ?_);refine aa rfl (.pointer (some ⟨w.heap.size,0,none⟩)) w1 (by rw [HW1.out];kernel_rfl) ?_) | ((with_reducible refine ag 4 ?_);refine aa rfl (.pointer (some ⟨w1.heap.size,0,none⟩)) w2 (by rw [HW2.out];kernel_rfl) ?_))
 go_loopw [10] (fun y wr=>∃ j:Nat,j≤l.length∧y=.int .i64 (j:Int)∧(∀ x∈l.take j,x.1 ≠ c)∧Blk wr w.heap.size 34 (bv c).toArray∧Blk wr w1.heap.size 26 zcD∧Below w.heap.size w wr) (fun y _=>l.length-(intOf y).toNat)
 case atStart=>exact ⟨0,by omega,rfl,(fun x hx=>by simp at hx),H2.out.1,H2.out.2.1,H2.out.2.2⟩
 case round =>
  obtain ⟨wo,rfl⟩:∃ wo,wo=wr:=⟨_,rfl⟩
  obtain ⟨j,hj,rfl,hnot,hk,hr,hb⟩:=hrel
  have HI:=ah (xae hnot (xae hk (xae hr hb)))
  clear hnot hk hr hb
  have j0:(0:Int)≤(j:Int):=by omega
  by_cases hj2:j<l.length
  ·have j1:(j:Int)<(l.length:Int):=by omega
   obtain ⟨x,hx⟩:∃ x,l[j]?=some x:=⟨_,xaj hj2⟩
   obtain ⟨b,off,rfl,hlb,hE⟩:=HA.out (by omega)
   obtain ⟨cs,hr,hatx⟩:=hE j x hx
   obtain ⟨q1,q2,rfl,hxo,hxd⟩:=bP.1 hatx
   obtain ⟨B1,k1,rfl,_⟩:=ak hxd.ins
   obtain ⟨B2,k2,rfl,_⟩:=ak hxd.rcp
   obtain ⟨q1,hq1⟩:∃ q1,q1=xag B1 x.2.2.1.length k1:=⟨_,rfl⟩
   obtain ⟨q2,hq2⟩:∃ q2,q2=xag B2 x.2.2.2.length k2:=⟨_,rfl⟩
   have hone1:q1.oneCell'=true∧q2.oneCell'=true:=by rw [hq1,hq2];exact ⟨rfl,rfl⟩
   rw [← hq1,← hq2] at hr hatx
   rw [← hq1,← hq2] at hxd
   have hbnd:=hl x (xak hx)
   have HX:=ah (xae (a7 hr (HI.out.2.2.2.block b (by omega))) (xae hxo hxd))
   have HXX:=ah hx
   have hszt2:(Tryz.prog.info? 59).map (·.size)=some (tC x q1 q2).toArray.size:=by rw [show (tC x q1 q2).toArray.size=23 by rw [xal];exact dh hxo];kernel_rfl
   have hszt:(Tryz.prog.info? 59).map (·.size)=some (tC x q1 q2).length:=by simpa using hszt2
   have hszzt:zcT.size=(tC x q1 q2).toArray.size:=by rw [show (tC x q1 q2).toArray.size=23 by rw [xal];exact dh hxo];kernel_rfl
   have honet:(tC x q1 q2).toArray.all (·.oneCell')=true:=all_oneCell_toArray (iD x hone1.1 hone1.2)
   have hszx:(Tryz.prog.info? 34).map (·.size)=some (bv x.1).length:=by have:=eX hxo;simpa using this
   clear hx hE hr hatx hxo hxd hq1 hq2
   by_cases hxc:x.1=c
   ·have hd:=decide_eq_true hxc
    go_wp2_with (first | ((with_reducible refine ag 12 ?_);(refine aa rfl (.pointer (some ⟨b,off+(j:Int).toNat*23,none⟩)) wo (aH 22 59 (.tmp 8) (.tmp 10) rfl b off l.length cap (j:Int) .i64 rfl rfl ⟨j0,j1⟩ 23 Tryz.underlying22 cI wo) ?_;rw [show off+(j:Int).toNat*23=off+j*23 by omega])) | ((with_reducible refine ag 13 ?_);(refine aa rfl (.agg (tC x q1 q2).toArray) wo (aj 59 (.tmp 12) rfl b (off+j*23) rfl (tC x q1 q2) _ wo HX.out.1 Tryz.underlying59 rfl hszt) ?_)) | ((with_reducible refine ag 7 ?_);((with_reducible refine bD (o1:=⟨some 7,_,_,_,_,_⟩) (o2:=⟨none,_,_,_,_,_⟩) rfl rfl 59 (.tmp 7) (.tmp 13) ?_ zcT (tC x q1 q2).toArray ?_ hszt2 ?_ honet ?_ ?_ ?_);rfl;kernel_rfl;exact hszzt;rfl;rfl;intro w3 hmm hbb;have H3:=ah (xae hmm hbb);clear hmm hbb;simp only [xad,xaa,xac,xab])) | ((with_reducible refine ag 15 ?_);(refine aa rfl (.agg (bv x.1).toArray) w3 (aj 34 (.tmp 14) rfl wo.heap.size (0) rfl (bv x.1) _ w3 (fh HX.out.2.1 H3.out.1) Tryz.underlying34 rfl hszx) ?_)) | ((with_reducible refine ag 16 ?_);(refine aa rfl (.agg (bv c).toArray) w3 (av 34 (.tmp 3) rfl w.heap.size rfl 34 _ _ w3 ((HI.out.2.1.below H3.out.2 HI.out.2.1.lt)) Tryz.underlying34 rfl (eX hc)) ?_)) | ((with_reducible refine ag 17 ?_);(refine aa rfl (.bool true) w3 (bU .eql 34 (.tmp 15) (.tmp 16) _ rfl (bv x.1).toArray (bv c).toArray rfl rfl (by kernel_rfl) _ (fun W=>by have h:=dH x.1 c HX.out.2.1 hc W;rw [hd] at h;exact h) w3) ?_)) | ((with_reducible refine ag 19 ?_);(refine aa rfl (.agg (dC x.2 q1 q2).toArray) w3 (aj 26 (.tmp 18) rfl wo.heap.size (20) rfl (dC x.2 q1 q2) _ w3 (fL HX.out.2.1 H3.out.1) Tryz.underlying26 rfl (by kernel_rfl)) ?_)))
    have hat3:aK w3 w3.heap.size x.2 q1 q2:=(HX.out.2.2.alike fun b hb=>(H3.out.2.block b (by have:=HI.out.2.2.2.size;omega)).trans (HI.out.2.2.2.block b hb)).dV (by have:=HI.out.2.2.2.size;have:=H3.out.2.size;omega)
    refine (wM w3 x.2 q1 q2 hat3 hbnd.1 hbnd.2).mono ?_
    rintro e w4 ⟨p1,p2,rfl,hown4,hb4⟩
    dsimp only
    have h43:=H3.out.2.trans (xam hb4 H3.out.2.size)
    have H4:=ah (xae hown4 (xae (HI.out.2.2.1.below h43 HI.out.2.2.1.lt) (HI.out.2.2.2.trans (xam h43 HI.out.2.2.2.size))))
    have hfd:l.find? (fun x=>decide (x.1=c))=some x:=sU HXX.out hxc HI.out.1
    have HFD:=ah hfd
    have HS:=ah (xay HI.out.2.2.2.size H3.out.2.size)
    obtain ⟨P1,m1,g1,P2,m2,g2,rfl,rfl⟩:=bz.form hown4
    clear hfd hown4 hb4 hat3 h43
    go_wp2_with ((with_reducible refine bI 4 20 ?_);(with_reducible refine ar rfl 26 (.tmp 4) (.tmp 20) rfl w1.heap.size zcD (dC x.2 (.slice P1 m1 g1) (.slice P2 m2 g2)).toArray 26 H4.out.2.1 ?_ ?_ ?_ ?_ ?_ ?_);kernel_rfl;rfl;kernel_rfl;rfl;rfl;intro w5 hk5 hg5;have hb5:Below w.heap.size w w5:=(H4.out.2.2.grown hg5 H4.out.2.2.size (fun b hb=>(by injection hb with hb;have:=HZ.out;omega)));have ho5:bz w5 w.heap.size x.2 (.slice P1 m1 g1) (.slice P2 m2 g2):=((H4.out.1.vR (fun g hg hl=>hg5.block g hl (fun e=>(by have e:=xao e;have:=H3.out.2.size;have:=HI.out.2.2.1.lt;omega)))).lower HS.out);have H5:=ah (xae hk5 (xae ho5 hb5));clear hk5 hg5 hb5 ho5;simp only [xad])
    refine bodyPost_ret (results_cell_tmp rfl _ _ w1.heap.size 26 (dC x.2 (.slice P1 m1 g1) (.slice P2 m2 g2)).toArray (0,0) _ rfl H5.out.1 Tryz.underlying26 rfl (by kernel_rfl)) rfl ?_
    unfold sD
    rw [HFD.out]
    exact ⟨_,_,rfl,H5.out.2.1,H5.out.2.2⟩
   ·have hd:=decide_eq_false hxc
    have HD:=ah hd
    have HNX:=ah hxc
    clear hxc
    go_wp2_with (first | ((with_reducible refine ag 12 ?_);(refine aa rfl (.pointer (some ⟨b,off+(j:Int).toNat*23,none⟩)) wo (aH 22 59 (.tmp 8) (.tmp 10) rfl b off l.length cap (j:Int) .i64 rfl rfl ⟨j0,j1⟩ 23 Tryz.underlying22 cI wo) ?_;rw [show off+(j:Int).toNat*23=off+j*23 by omega])) | ((with_reducible refine ag 13 ?_);(refine aa rfl (.agg (tC x q1 q2).toArray) wo (aj 59 (.tmp 12) rfl b (off+j*23) rfl (tC x q1 q2) _ wo HX.out.1 Tryz.underlying59 rfl hszt) ?_)) | ((with_reducible refine ag 7 ?_);((with_reducible refine bD (o1:=⟨some 7,_,_,_,_,_⟩) (o2:=⟨none,_,_,_,_,_⟩) rfl rfl 59 (.tmp 7) (.tmp 13) ?_ zcT (tC x q1 q2).toArray ?_ hszt2 ?_ honet ?_ ?_ ?_);rfl;kernel_rfl;exact hszzt;rfl;rfl;intro w3 hmm hbb;have H3:=ah (xae hmm hbb);clear hmm hbb;simp only [xad,xaa,xac,xab])) | ((with_reducible refine ag 15 ?_);(refine aa rfl (.agg (bv x.1).toArray) w3 (aj 34 (.tmp 14) rfl wo.heap.size (0) rfl (bv x.1) _ w3 (fh HX.out.2.1 H3.out.1) Tryz.underlying34 rfl hszx) ?_)) | ((with_reducible refine ag 16 ?_);(refine aa rfl (.agg (bv c).toArray) w3 (av 34 (.tmp 3) rfl w.heap.size rfl 34 _ _ w3 ((HI.out.2.1.below H3.out.2 HI.out.2.1.lt)) Tryz.underlying34 rfl (eX hc)) ?_)) | ((with_reducible refine ag 17 ?_);(refine aa rfl (.bool false) w3 (bU .eql 34 (.tmp 15) (.tmp 16) _ rfl (bv x.1).toArray (bv c).toArray rfl rfl (by kernel_rfl) _ (fun W=>by have h:=dH x.1 c HX.out.2.1 hc W;rw [HD.out] at h;exact h) w3) ?_)))
    go_roundw
    case rel=>exact ⟨j+1,by omega,by go_num,(fun y hy=>by rw [xaz,HXX.out] at hy;rcases xau.1 hy with hy | hy;exact HI.out.1 y hy;rw [show y=x from by simpa using hy];exact HNX.out),HI.out.2.1.below H3.out.2 HI.out.2.1.lt,HI.out.2.2.1.below H3.out.2 HI.out.2.2.1.lt,HI.out.2.2.2.trans (xam H3.out.2 HI.out.2.2.2.size)⟩
    case measure=>simp [intOf];omega
  ·obtain rfl:j=l.length:=by omega
   have hnn:l.find? (fun x=>decide (x.1=c))=none:=List.find?_eq_none.2 fun x hx=>by simpa using HI.out.1 x (by rw [xaB];exact hx)
   have HNN:=ah hnn
   clear hnn
   go_wp2_with (first | ((with_reducible refine ag 22 ?_);(refine aa rfl (.agg zcD) wo (by kernel_rfl) ?_)) | ((with_reducible refine bI 4 22 ?_);(with_reducible refine ar rfl 26 (.tmp 4) (.tmp 22) rfl w1.heap.size zcD zcD 26 HI.out.2.2.1 ?_ ?_ ?_ ?_ ?_ ?_);kernel_rfl;rfl;kernel_rfl;rfl;rfl;intro w5 hk5 hg5;have hb5:Below w.heap.size w w5:=(HI.out.2.2.2.grown hg5 HI.out.2.2.2.size (fun b hb=>(by injection hb with hb;have:=HZ.out;omega)));have H5:=ah (xae hk5 hb5);clear hk5 hg5 hb5;simp only [xad,xaa,xac,xab]))
   refine bodyPost_ret (results_cell_tmp rfl _ _ w1.heap.size 26 zcD (0,0) _ rfl H5.out.1 Tryz.underlying26 rfl (by kernel_rfl)) rfl ?_
   unfold sD
   rw [HNN.out]
   exact ⟨.slice none 0 0,.slice none 0 0,rfl,bz.nil _ _,H5.out.2⟩
end Go.Proofs.YtomnhnmciopiiaaGreat
end
section
namespace Go.Proofs.YtomnhnmciopiiaaGreat
open Go Go.RowKit
def kl (w:World) (B b:Nat) (p u:Value) (xs:List Value):Prop :=
 B≤b∧(p=.pointer none∨p=.pointer (some ⟨b,0,none⟩))∧Blk w b 288 #[p,u]∧w.ownsRow B 5 1 u xs.length xs
theorem kl.is {w:World} {B b:Nat} {p u:Value} {xs:List Value} (h:kl w B b p u xs):Lib.IsBuilder 288 5 B b xs w:=by
 obtain ⟨h1,h2,h3,h4⟩:=h
 have h5:=ew h4 h3 (by decide)
 rcases h2 with rfl | rfl
 ·exact .inl ⟨h1,u,h3,h4,h5⟩
 ·exact .inr ⟨h1,u,h3,h4,h5⟩
theorem pc:(Tryz.prog.info? 5).map (fun i=>(i.zero,i.size,i.bytes))=some (some (.int .u8 0),1,1):=by kernel_rfl
theorem qm:∃ j,Tryz.prog.info? 288=some j∧j.size=2:=by
 obtain ⟨j,hj,e⟩:=Option.map_eq_some_iff.1 (show (Tryz.prog.info? 288).map (·.size)=some 2 by kernel_rfl)
 exact ⟨j,hj,e⟩
theorem vk (w:World) (B b:Nat) (p u:Value) (xs:List Value) (h:kl w B b p u xs) :
  Calls Tryz.prog 204 #[.pointer (some ⟨b,0,none⟩)] w fun e w'=>e=.returned (.tuple #[])∧kl w' B b (.pointer (some ⟨b,0,none⟩)) u xs∧Below B w w':=by
 obtain ⟨hB,hp,hb,ho⟩:=h
 obtain ⟨j,hj,hjs⟩:=qm
 have c0:w.cell? ⟨b,0,none⟩=some p:=hb.cell 0
 rcases hp with rfl | rfl
 ·have hsh:w.shape? b=some (288,2):=by simp [World.shape?,show w.heap[b]?=_ from hb]
  have hfz:=hb.frozen 0
  have HB:=ah (xae hb ho)
  clear hb ho
  go_enter Tryz.func204,Tryz.ntmps204
  go_wp2_with fail
  rw [Lib.run_to_unsafe w ⟨b,0,none⟩ Tryz.underlying286 Tryz.underlying322 hj (by omega) hsh (Nat.zero_lt_succ 1),xbd,xbP]
  go_wp2_with fail
  rw [run_callFunc_extern Tryz.func215 (by kernel_rfl) (by kernel_rfl) (by kernel_rfl) (e:=Extern.AbiNoEscape.same) (by kernel_rfl),Lib.run_noEscape]
  rw [xbd,xbP]
  go_wp2_with fail
  rw [Lib.run_from_unsafe w ⟨b,0,none⟩ Tryz.underlying322 Tryz.underlying286 hj hsh (by kernel_rfl),xbd,xbP]
  go_wp2_with fail
  go_end0
  refine ⟨rfl,⟨hB,.inr rfl,HB.out.1.tZ 0 _,?_⟩,(xaq B w).setCell (p:=⟨b,0,none⟩) hB _⟩
  exact an HB.out.2 fun g hg _=>Below.heap_setCell w _ _ g fun e=>ew HB.out.2 HB.out.1 (by decide) (by rw [hg];exact congrArg some e)
 ·have HB:=ah (xae hb ho)
  clear hb ho
  go_enter Tryz.func204,Tryz.ntmps204
  go_wp2_with fail
  rw [Lib.run_neq_ptr_same w _ Tryz.underlying286 hj]
  go_wp2_with fail
  go_end0
  exact ⟨rfl,⟨hB,.inr rfl,HB.out.1,HB.out.2⟩,xaq B _⟩
theorem sc (w:World) (B b:Nat) (p u:Value) (xs:List Value) (c:Int) (h:kl w B b p u xs) (hl:xs.length≤1000000) (hBw:B≤w.heap.size) :
  Calls Tryz.prog 203 #[.pointer (some ⟨b,0,none⟩),.int .u8 c] w fun e w'=>e=.returned .nilIface∧(∃ u',kl w' B b (.pointer (some ⟨b,0,none⟩)) u' (xs++[.int .u8 c]))∧Below B w w':=by
 obtain ⟨iu8,hih,hq0,hq1,hq2⟩:=info_parts pc
 have HK:=ah (xae hih (xae hq0 (xae hq1 hq2)))
 clear hih hq0 hq1 hq2
 go_enter Tryz.func203,Tryz.ntmps203
 go_wp2_with fail
 refine (vk w B b p u xs h).mono ?_
 rintro e w1 ⟨rfl,hk,hb1⟩
 dsimp only
 have c1:w1.cell? ⟨b,1,none⟩=some u:=hk.2.2.1.cell 1
 have HH:=ah (xae hk hb1)
 clear hk hb1 h
 obtain ⟨w2,hw2⟩:∃ w2,w2=w1.alloc (.cells #[.int .u8 c] 5):=⟨_,rfl⟩
 have hk2:Blk w2 w1.heap.size 5 #[.int .u8 c]:=by rw [hw2];exact Blk.new _ _ _
 have hb2:Below w1.heap.size w1 w2:=by rw [hw2];exact (xaq _ w1).alloc (xai _) _
 have HA:=ah (xae (show fY w2 1 (some ⟨w1.heap.size,0,none⟩) 1 1 [.int .u8 c] from p6 hk2 (fun v hv=>by rw [xan.1 hv];rfl)) (xae (an HH.out.1.2.2.2 fun g _ hl=>hb2.block g hl) hb2))
 rw [hw2] at HA
 clear hk2 hb2 hw2
 go_wp2_with (at_builtin;((with_reducible refine ag 14 ?_);refine aD rfl _ _ 24 rfl B 5 iu8 _ 1 1 Tryz.underlying24 HK.out.1 HK.out.2.1 HK.out.2.2.1 HK.out.2.2.2 rfl (by decide) _ xs.length xs HA.out.2.1 (some ⟨w1.heap.size,0,none⟩) 1 1 [.int .u8 c] HA.out.1 ?hm1 ?hb1 ?hz1 rfl rfl ?_))
 case hm1=>simp only [maxLen];omega
 case hb1=>omega
 case hz1=>have:=HH.out.2.size;have:=HA.out.2.2.size;omega
 intro u3 w3 own3 gr3 _
 have hlt:b<w1.heap.size:=HH.out.1.2.2.1.lt
 have hne:=ew HH.out.1.2.2.2 HH.out.1.2.2.1 (by decide)
 have hk3:Blk w3 b 288 #[.pointer (some ⟨b,0,none⟩),u]:=(gr3.block _ (by have:=HA.out.2.2.size;omega) (fun e=>hne e.symm)).trans ((HA.out.2.2.block b hlt).trans HH.out.1.2.2.1)
 have hb3:Below B w w3:=(HH.out.2.trans (xam HA.out.2.2 (by have:=HH.out.2.size;omega))).grown gr3 (by have:=HH.out.2.size;have:=HA.out.2.2.size;omega) (fun k hk=>(aB HH.out.1.2.2.2 hk).1)
 have d1:w3.cell? ⟨b,1,none⟩=some u:=hk3.cell 1
 have f1:=hk3.frozen 1
 have l3:=hk3.lt
 obtain ⟨A3,n3,c3,rfl⟩:∃ A n c,u3=.slice A n c:=by
  rcases aR own3 with ⟨e,_⟩ | ⟨g,cap,cur,e,_⟩
  ·exact ⟨_,_,_,e⟩
  ·exact ⟨_,_,_,e⟩
 have H3:=ah (xae hk3 (xae hb3 own3))
 clear hk3 hb3 own3 gr3 hne c1
 go_wp2_with fail
 go_ret
 refine ⟨rfl,⟨_,HH.out.1.1,.inr rfl,H3.out.1.tZ 1 _,?_⟩,H3.out.2.1.setCell (p:=⟨b,1,none⟩) HH.out.1.1 _⟩
 have ho:=H3.out.2.2
 rw [xap]
 exact an ho fun g hg _=>Below.heap_setCell w3 _ _ g fun e=>ew ho H3.out.1 (by decide) (by rw [hg];exact congrArg some e)
end Go.Proofs.YtomnhnmciopiiaaGreat
end
section
namespace Go.Proofs.YtomnhnmciopiiaaGreat
open Go.Shelf
def Tryz.lZ:Go.Shelf.Ren:=⟨fun | 169=>185 | n=>n,fun | 70=>286 | 9=>9 | 0=>0 | 72=>288 | 37=>24 | 127=>310 | 3=>3 | 5=>5 | n=>n,fun | n=>n⟩
theorem Tryz.Am:Go.Proofs.Lays.n169 Tryz.prog Tryz.lZ:={
 mixed:=by kernel_rfl
 f169:=Tryz.func185.trans (congrArg some (by kernel_rfl))
 t0:=Tryz.underlying0
 a0:=Tryz.isAgg0
 z0:=Tryz.sizeOf0
 v0:=Tryz.zeroValue0
 t3:=Tryz.underlying3
 a3:=Tryz.isAgg3
 z3:=Tryz.sizeOf3
 v3:=Tryz.zeroValue3
 t9:=Tryz.underlying9
 a9:=Tryz.isAgg9
 z9:=Tryz.sizeOf9
 v9:=Tryz.zeroValue9
 t37:=Tryz.underlying24
 a37:=Tryz.isAgg24
 z37:=Tryz.sizeOf24
 v37:=Tryz.zeroValue24
 t70:=Tryz.underlying286
 a70:=Tryz.isAgg286
 z70:=Tryz.sizeOf286
 v70:=Tryz.zeroValue286
 t72:=Tryz.underlying288
 a72:=Tryz.isAgg288
 z72:=Tryz.sizeOf288
 v72:=Tryz.zeroValue288
 t127:=Tryz.underlying310
 a127:=Tryz.isAgg310
 z127:=Tryz.sizeOf310
 v127:=Tryz.zeroValue310 }
theorem Tryz.ko:Builder.Extra Tryz.prog Tryz.lZ:={
 sizeBuilder:=by kernel_rfl
 liesBuilder:=by kernel_rfl
 t5:=Tryz.underlying5
 a5:=Tryz.isAgg5
 z5:=Tryz.sizeOf5
 v5:=Tryz.zeroValue5
 infoByte:=by kernel_rfl
 cellsByte:=by kernel_rfl
 sizeByte:=by kernel_rfl
 neB5:=by decide }
open Go.RowKit in
theorem Tryz.Builder_String_any (B b:Nat) (l:List UInt8) (w:World) (h:Lib.IsBuilder 288 5 B b (xbE l) w) (hBw:B≤w.heap.size) :
  Calls Tryz.prog 185 #[.pointer (some ⟨b,0,none⟩)] w fun e w'=>e=.returned (.string ⟨l.toArray⟩)∧Below B w w':=Any.Builder_String_any Tryz.Am Tryz.ko B b l w h hBw
def Tryz.lY:Go.Shelf.Ren:=⟨fun | 156=>161 | 165=>183 | 166=>184 | 169=>185 | 240=>204 | 241=>205 | 276=>215 | 277=>216 | n=>n,fun | 31=>60 | 9=>9 | 3=>3 | 4=>4 | 0=>0 | 20=>20 | 72=>288 | 76=>292 | 70=>286 | 37=>24 | 75=>291 | 127=>310 | 164=>322 | 5=>5 | 80=>294 | n=>n,fun | n=>n⟩
theorem Tryz.Al:Go.Proofs.Lays.n156 Tryz.prog Tryz.lY:={
 mixed:=by kernel_rfl
 f156:=Tryz.func161.trans (congrArg some (by kernel_rfl))
 f165:=Tryz.func183.trans (congrArg some (by kernel_rfl))
 f166:=Tryz.func184.trans (congrArg some (by kernel_rfl))
 f169:=Tryz.func185.trans (congrArg some (by kernel_rfl))
 f240:=Tryz.func204.trans (congrArg some (by kernel_rfl))
 f241:=Tryz.func205.trans (congrArg some (by kernel_rfl))
 f276:=Tryz.func215.trans (congrArg some (by kernel_rfl))
 f277:=Tryz.func216.trans (congrArg some (by kernel_rfl))
 t0:=Tryz.underlying0
 a0:=Tryz.isAgg0
 z0:=Tryz.sizeOf0
 v0:=Tryz.zeroValue0
 t3:=Tryz.underlying3
 a3:=Tryz.isAgg3
 z3:=Tryz.sizeOf3
 v3:=Tryz.zeroValue3
 t4:=Tryz.underlying4
 a4:=Tryz.isAgg4
 z4:=Tryz.sizeOf4
 v4:=Tryz.zeroValue4
 t9:=Tryz.underlying9
 a9:=Tryz.isAgg9
 z9:=Tryz.sizeOf9
 v9:=Tryz.zeroValue9
 t20:=Tryz.underlying20
 a20:=Tryz.isAgg20
 z20:=Tryz.sizeOf20
 v20:=Tryz.zeroValue20
 t31:=Tryz.underlying60
 a31:=Tryz.isAgg60
 z31:=Tryz.sizeOf60
 v31:=Tryz.zeroValue60
 t37:=Tryz.underlying24
 a37:=Tryz.isAgg24
 z37:=Tryz.sizeOf24
 v37:=Tryz.zeroValue24
 t70:=Tryz.underlying286
 a70:=Tryz.isAgg286
 z70:=Tryz.sizeOf286
 v70:=Tryz.zeroValue286
 t72:=Tryz.underlying288
 a72:=Tryz.isAgg288
 z72:=Tryz.sizeOf288
 v72:=Tryz.zeroValue288
 t75:=Tryz.underlying291
 a75:=Tryz.isAgg291
 z75:=Tryz.sizeOf291
 v75:=Tryz.zeroValue291
 t76:=Tryz.underlying292
 a76:=Tryz.isAgg292
 z76:=Tryz.sizeOf292
 v76:=Tryz.zeroValue292
 t127:=Tryz.underlying310
 a127:=Tryz.isAgg310
 z127:=Tryz.sizeOf310
 v127:=Tryz.zeroValue310
 t164:=Tryz.underlying322
 a164:=Tryz.isAgg322
 z164:=Tryz.sizeOf322
 v164:=Tryz.zeroValue322 }
theorem Tryz.km:Builder.Extra Tryz.prog Tryz.lY:={
 sizeBuilder:=by kernel_rfl
 liesBuilder:=by kernel_rfl
 t5:=Tryz.underlying5
 a5:=Tryz.isAgg5
 z5:=Tryz.sizeOf5
 v5:=Tryz.zeroValue5
 infoByte:=by kernel_rfl
 cellsByte:=by kernel_rfl
 sizeByte:=by kernel_rfl
 neB5:=by decide }
open Go.RowKit in
theorem Tryz.strings_Join (bk o c:Nat) (xs:List ByteArray) (sep:ByteArray) (w:World) (hcells:∀ (j:Nat) x,xs[j]?=some x→w.cell? ⟨bk,o+j,none⟩=some (.string x)) (hbk:bk<w.heap.size) (hN:xs.length≤140737488355328) (hcap:xs.length≤c) (hlen:(xby (xs.map (·.data.toList)) sep.data.toList).length≤140737488355328) :
  Calls Tryz.prog 161 #[.slice (some ⟨bk,o,none⟩) xs.length c,.string sep] w fun e w'=>e=.returned (.string ⟨(xby (xs.map (·.data.toList)) sep.data.toList).toArray⟩)∧Below w.heap.size w w':=Any.strings_Join Tryz.Al Tryz.km bk o c xs sep w hcells hbk hN hcap hlen
end Go.Proofs.YtomnhnmciopiiaaGreat
end
section
namespace Go.Proofs.YtomnhnmciopiiaaGreat
open Go Go.RowKit
def xD:List UInt8:=[48,49,50,51,52,53,54,55,56,57,97,98,99,100,102,103,104,105,106,107,108,109,110,112,113,114,115,118,119,120,121,122]
def cJ (k:Nat):UInt8:=xD.getD k 0
def drain:Nat→Nat→Nat→List UInt8→Nat×Nat×List UInt8
 | 0,h,m,o=>(h,m,o)
 | f+1,h,m,o=>if 5≤m then drain f (h / 32) (m-5) (o++[cJ (h % 32)]) else (h,m,o)
def fO (s:Nat×Nat×List UInt8) (x:UInt8):Nat×Nat×List UInt8:=drain 2 (s.1+x.toNat*2 ^ s.2.1) (s.2.1+8) s.2.2
def aQ (h:List UInt8):List UInt8:=(h.foldl fO (0,0,[])).2.2
theorem oX:∀ (f h m:Nat) (o:List UInt8),(drain f h m o).2.2.length≤o.length+f
 | 0,h,m,o=>by simp [drain]
 | f+1,h,m,o=>by
  rw [drain]
  split
  ·refine xay (oX f _ _ _) ?_
   rw [xap,xa0]
   omega
  ·dsimp only
   omega
theorem dq (h:List UInt8):(aQ h).length≤2*h.length:=by
 have key:∀ (h:List UInt8) (s:Nat×Nat×List UInt8),(h.foldl fO s).2.2.length≤s.2.2.length+2*h.length:=by
  intro h
  induction h with
  | nil=>intro s;simp
  | cons x h ih =>
   intro s
   refine xay (ih _) ?_
   have:=oX 2 (s.1+x.toNat*2 ^ s.2.1) (s.2.1+8) s.2.2
   rw [xaE]
   unfold fO
   omega
 have:=key h (0,0,[])
 unfold aQ
 simpa using this
theorem vQ (held many x:Nat) (h1:held<2 ^ many) (h2:many<5) (h3:x≤255):bits .or .u32 (held:Int) ((x:Int)*2 ^ many % 4294967296)=((held+x*2 ^ many:Nat):Int):=by
 have h4:(2:Nat) ^ many≤16:=by
  have:many=0∨many=1∨many=2∨many=3∨many=4:=by omega
  rcases this with rfl | rfl | rfl | rfl | rfl<;>decide
 have h5:x*2 ^ many≤255*16:=Nat.mul_le_mul h3 h4
 have e1:(x:Int)*2 ^ many=((x*2 ^ many:Nat):Int):=by rw [Int.natCast_mul,Int.natCast_pow];rfl
 have e2:((2:Int) ^ many)=((2 ^ many:Nat):Int):=by rw [Int.natCast_pow];rfl
 have e3:(x*2 ^ many) % 2 ^ many=0:=Nat.mul_mod_left _ _
 rw [e1]
 generalize x*2 ^ many=n at h5 e3 ⊢
 rw [show (n:Int) % 4294967296=(n:Int) by omega,bits_join_low .u32 32 (by decide) wraps_u32 many _ _ (by omega) (by rw [e2];omega) (by omega) (by omega) (by rw [e2,← Int.natCast_emod,e3];rfl) (by omega)]
 omega
theorem yB (hd:Nat) (h:hd<4294967296):bits .and .u32 (hd:Int) 31=((hd % 32:Nat):Int):=by
 have h1:=bits_mask .u32 32 (by decide) wraps_u32 5 (by decide) (hd:Int) (by omega) (by omega)
 rw [show (2:Int) ^ 5-1=31 by decide] at h1
 rw [h1]
 omega
def jU:ByteArray:=⟨#[48,49,50,51,52,53,54,55,56,57,97,98,99,100,102,103,104,105,106,107,108,109,110,112,113,114,115,118,119,120,121,122]⟩
theorem xC (k:Nat) (hk:k<32) (t:TypeId) (ht:Tryz.prog.underlying t=some .string) (w:World):(Instr.index t (.string jU) (.int .u32 (k:Int))).run Tryz.prog w=.ok (.int .u8 ((cJ k).toNat:Int)) w:=by
 have h:=run_index_string (P:=Tryz.prog) w t jU .u32 (k:Int) ht
 have h3:∀ k:Fin 32,(jU[k.val]'(k.isLt)).toNat=(cJ k.val).toNat:=by decide
 have h2:0≤(k:Int)∧(k:Int)<(jU.size:Int):=⟨by omega,by rw [show jU.size=32 from rfl];omega⟩
 rw [h,dif_pos h2]
 have h4:=h3 ⟨k,hk⟩
 dsimp only at h4
 have h5:(jU[(k:Int).toNat]'(by rw [Int.toNat_natCast];exact hk)).toNat=(cJ k).toNat:=h4
 rw [h5]
theorem l6 (w:World) (h:Hsh) (hh:okH h) :
  Calls Tryz.prog 181 #[.agg (bv h).toArray] w fun e w'=>e=.returned (.string ⟨(aQ h).toArray⟩)∧Below w.heap.size w w':=by
 have hsz:=hsz hh
 obtain ⟨w1,hw1⟩:∃ w1,w1=w.alloc (.cells (bv h).toArray 34):=⟨_,rfl⟩
 obtain ⟨w2,hw2⟩:∃ w2,w2=w1.alloc (.cells #[.pointer none,.slice none 0 0] 288):=⟨_,rfl⟩
 have hb1:Below w.heap.size w w1:=by rw [hw1];exact (xaq _ w).alloc (xai _) _
 have hk1:Blk w1 w.heap.size 34 (bv h).toArray:=by rw [hw1];exact Blk.new _ _ _
 have hb2:Below w1.heap.size w1 w2:=by rw [hw2];exact (xaq _ w1).alloc (xai _) _
 have hk2:Blk w2 w1.heap.size 288 #[.pointer none,.slice none 0 0]:=by rw [hw2];exact Blk.new _ _ _
 have hbd:kl w2 w1.heap.size w1.heap.size (.pointer none) (.slice none 0 0) []:=⟨xai _,.inl rfl,hk2,xaW _ _ _ _⟩
 have H2:=ah (xae (hk1.below hb2 hk1.lt) (xae hbd (hb1.trans (xam hb2 hb1.size))))
 have hz:=ah hb1.size
 have HW1:=ah hw1
 have HW2:=ah hw2
 have HSZ:=ah hsz
 clear hsz hb1 hk1 hb2 hk2 hbd hw1 hw2
 go_enter Tryz.func181,Tryz.ntmps181
 go_wp2_with (first | ((with_reducible refine ag 1 ?_);refine aa rfl (.pointer (some ⟨w.heap.size,0,none⟩)) w1 (by rw [HW1.out];kernel_rfl) ?_) | ((with_reducible refine ag 3 ?_);refine aa rfl (.pointer (some ⟨w1.heap.size,0,none⟩)) w2 (by rw [HW2.out];kernel_rfl) ?_) | ((with_reducible refine ag 8 ?_);refine aa rfl (.agg (bv h).toArray) w2 (av 34 (.tmp 1) rfl w.heap.size rfl 34 _ _ w2 H2.out.1 Tryz.underlying34 rfl HSZ.out) ?_))
 go_loopw [4,5,9] (fun x4 x5 x9 wr=>∃ (j held many:Nat) (out:List UInt8) (p u:Value),j≤20∧x9=.int .i64 (j:Int)∧x4=.int .u32 (held:Int)∧x5=.int .u32 (many:Int)∧(h.take j).foldl fO (0,0,[])=(held,many,out)∧held<2 ^ many∧many<5∧out.length≤2*j∧kl wr w1.heap.size w1.heap.size p u (xbE out)∧Below w1.heap.size w2 wr) (fun _ _ x9 _=>20-(intOf x9).toNat)
 case atStart=>exact ⟨0,0,0,[],_,_,by omega,rfl,rfl,rfl,rfl,by decide,by decide,by decide,H2.out.2.1,xaq _ _⟩
 case round =>
  obtain ⟨wo,rfl⟩:∃ wo,wo=wr:=⟨_,rfl⟩
  obtain ⟨j,held,many,out,p,u,hj,rfl,rfl,rfl,hfo,hhe,hma,hol,hbd,hb⟩:=hrel
  have HI:=ah (xae hfo (xae hbd hb))
  clear hfo hbd hb
  have j0:(0:Int)≤(j:Int):=by omega
  by_cases hj2:j<20
  ·have j1:(j:Int)<20:=by omega
   obtain ⟨x,hx⟩:∃ x,h[j]?=some x:=⟨_,xaj (by rw [show h.length=20 from hh];exact hj2)⟩
   have HXX:=ah hx
   have hv:=Bl h j (by rw [show h.length=20 from hh];exact hj2)
   have hxd:h.getD j 0=x:=by rw [List.getD_eq_getElem?_getD,hx];rfl
   rw [hxd] at hv
   have hidx:=oE (P:=Tryz.prog) 34 5 20 .u8 Tryz.underlying34 Tryz.underlying5 (by kernel_rfl) (bv h).toArray j hj2 _ hv
   clear hx hv hxd
   have x0:(0:Int)≤(x.toNat:Int):=by omega
   have x1:(x.toNat:Int)≤255:=by have:=x.toNat_lt;omega
   obtain ⟨hd,hhd⟩:∃ hd,hd=held+x.toNat*2 ^ many:=⟨_,rfl⟩
   have hor:=vQ held many x.toNat hhe hma (by omega)
   rw [← hhd] at hor
   obtain ⟨D,hD⟩:∃ D,D=drain 2 hd (many+8) out:=⟨_,rfl⟩
   have hstep:(h.take (j+1)).foldl fO (0,0,[])=D:=by
    rw [xaz,HXX.out,List.foldl_append,HI.out.1,hD,hhd]
    rfl
   have hlt:hd<2 ^ (many+8):=by
    have h4:x.toNat<256:=by omega
    have h5:x.toNat*2 ^ many≤255*2 ^ many:=xa8 _ (by omega)
    rw [hhd,xbF]
    omega
   have HS:=ah (xae hstep (xae hD hlt))
   clear hstep hD hlt hhd
   go_wp2_with fail
   go_loopw [4,5] (fun x4 x5 wr=>∃ (f hd mn:Nat) (o:List UInt8) (p u:Value),x4=.int .u32 (hd:Int)∧x5=.int .u32 (mn:Int)∧drain f hd mn o=D∧hd<2 ^ mn∧mn≤5*f+4∧mn≤12∧o.length+f≤2*j+2∧kl wr w1.heap.size w1.heap.size p u (xbE o)∧Below w1.heap.size w2 wr) (fun _ x5 _=>(intOf x5).toNat)
   case atStart=>exact ⟨2,hd,many+8,out,p,u,rfl,by go_num,HS.out.2.1.symm,HS.out.2.2,by omega,by omega,by omega,HI.out.2.1,HI.out.2.2⟩
   case round =>
    obtain ⟨wi,rfl⟩:∃ wi,wi=wr:=⟨_,rfl⟩
    obtain ⟨f,hd2,mn,o,p2,u2,rfl,rfl,hdr,hlt2,hmf,hm12,hof,hbd2,hb2⟩:=hrel
    have HJ:=ah (xae hdr (xae hbd2 hb2))
    clear hdr hbd2 hb2
    have h32:hd2<4294967296:=xa3 hlt2 (xay (Nat.pow_le_pow_right (by decide) hm12) (by decide))
    by_cases hm5:5≤mn
    ·obtain ⟨f,rfl⟩:∃ f',f=f'+1:=⟨f-1,by omega⟩
     have hand:=yB hd2 h32
     obtain ⟨k,hk⟩:∃ k,k=hd2 % 32:=⟨_,rfl⟩
     rw [← hk] at hand
     have hk32:k<32:=by omega
     have hix:=fun W=>xC k hk32 9 Tryz.underlying9 W
     unfold jU at hix
     have hdr2:drain f (hd2 / 32) (mn-5) (o++[cJ k])=D:=by
      have:=HJ.out.1
      rw [drain,if_pos hm5,← hk] at this
      exact this
     have hlt3:hd2 / 32<2 ^ (mn-5):=by
      rw [Nat.div_lt_iff_lt_mul (by decide),show (32:Nat)=2 ^ 5 from rfl,← xbF,show mn-5+5=mn by omega]
      exact hlt2
     have HR:=ah (xae hdr2 hlt3)
     clear hdr2 hlt3 hk
     go_wp2_with fail
     refine (sc wi w1.heap.size w1.heap.size p2 u2 (xbE o) _ HJ.out.2.1 (by simp [xbE];omega) (Nat.le_of_lt HJ.out.2.1.2.2.1.lt)).mono ?_
     rintro e w5 ⟨rfl,⟨u5,hbd5⟩,hb5⟩
     dsimp only
     have hbc:xbE o++[Value.int .u8 ((cJ k).toNat:Int)]=xbE (o++[cJ k]):=by simp [xbE]
     rw [hbc] at hbd5
     have H5:=ah (xae hbd5 (HJ.out.2.2.trans hb5))
     clear hbd5 hb5 hbc
     go_wp2_with fail
     go_roundw
     case rel=>exact ⟨f,hd2 / 32,mn-5,o++[cJ k],_,u5,by go_num,by go_num,HR.out.1,HR.out.2,by omega,by omega,by rw [xap,xa0];omega,H5.out.1,H5.out.2⟩
     case measure=>simp [intOf];omega
    ·have hf:drain f hd2 mn o=(hd2,mn,o):=by
      cases f with
      | zero=>rfl
      | succ f=>rw [drain,if_neg hm5]
     have HF:=ah (hf.symm.trans HJ.out.1)
     clear hf
     go_wp2_with fail
     go_roundw
     case rel=>exact ⟨j+1,hd2,mn,o,p2,u2,by omega,by go_num,rfl,rfl,HS.out.1.trans HF.out.symm,hlt2,by omega,by omega,HJ.out.2.1,HJ.out.2.2⟩
     case measure=>simp [intOf];omega
  ·obtain rfl:j=20:=by omega
   have e9:aQ h=out:=by
    unfold aQ
    rw [← List.take_of_length_le (l:=h) (i:=20) (by rw [show h.length=20 from hh];exact xai _),HI.out.1]
   have HE:=ah e9
   clear e9
   go_wp2_with fail
   refine (Tryz.Builder_String_any w1.heap.size w1.heap.size out wo HI.out.2.1.is (by have:=HI.out.2.1.2.2.1.lt;omega)).mono ?_
   rintro e w5 ⟨rfl,hb5⟩
   dsimp only
   have H5:=ah (H2.out.2.2.trans (xam (HI.out.2.2.trans hb5) hz.out))
   go_wp2_with fail
   go_ret
   exact ⟨by rw [HE.out];rfl,H5.out⟩
end Go.Proofs.YtomnhnmciopiiaaGreat
end
