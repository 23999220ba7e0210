/- Part 2 of the texts of one proof. -/
import Derived.Test.YtomnhnmciopiiaaGreatMMW1
section
namespace Go.Proofs.YtomnhnmciopiiaaGreat
open Go Go.RowKit Go.Maps
set_option maxRecDepth 100000
def evN (n:Nat):Value:=.int .i64 (n:Int)
theorem pj (w:World):(zeroValue 3).run Tryz.prog w=.ok (.int .i64 0) w:=by kernel_rfl
theorem cJ:(Tryz.prog.info? 34).map (·.size)=some 20:=by kernel_rfl
theorem eR {h:Hsh} (hh:okH h):(Tryz.prog.info? 34).map (·.size)=some (bv h).toArray.size:=by
 rw [List.size_toArray,bvL,show h.length=20 from hh]
 kernel_rfl
set_option maxHeartbeats 4000000 in
theorem ik (w:World) (mb:Nat) (m:List (Hsh×Nat)) (hm:bG hV okH evN w mb m) (ks:List Hsh) (v:Value) (hv:fe.At w w.heap.size [v] ks) :
  Calls Tryz.prog 74 #[.map (some mb),v] w fun e w'=>e=.returned (.bool (ks.all fun h=>(aX m h).isSome))∧Below w.heap.size w w':=by
 obtain ⟨A,cap,rfl,hcl,hcm,_,hA⟩:=ak hv
 have hk9:(ks.length:Int)≤9223372036854775807:=by
  simp only [maxLen] at hcm
  omega
 clear hcl hcm
 have HA:=ah hA
 have HM:=ah hm
 clear hA hm hv
 go_enter Tryz.func74,Tryz.ntmps74
 go_wp2_with fail
 go_loopw [11] (fun y wr=>∃ j:Nat,j≤ks.length∧y=.int .i64 (j:Int)∧(∀ h∈ks.take j,(aX m h).isSome=true)∧Below w.heap.size w wr) (fun y _=>ks.length-(intOf y).toNat)
 case atStart=>exact ⟨0,by omega,rfl,(fun h hh=>by simp at hh),Below.refl _ _⟩
 case round =>
  obtain ⟨wo,rfl⟩:∃ wo,wo=wr:=⟨_,rfl⟩
  obtain ⟨j,hj,rfl,hall,hb⟩:=hrel
  have HB:=ah hb
  have HALL:=ah hall
  clear hb hall
  have j0:(0:Int)≤(j:Int):=by omega
  by_cases hj2:j<ks.length
  ·have j1:(j:Int)<(ks.length:Int):=by omega
   obtain ⟨x,hx⟩:∃ x,ks[j]?=some x:=⟨_,List.getElem?_eq_getElem hj2⟩
   obtain ⟨b,off,rfl,hlb,hE⟩:=HA.out (by omega)
   obtain ⟨cs,hr,hatx⟩:=hE j x hx
   obtain ⟨rfl,hxo⟩:=dt.1 hatx
   have HX:=ah (And.intro (a8 hr (HB.out.block b (by omega))) hxo)
   have hszx:(Tryz.prog.info? 34).map (·.size)=some (bv x).length:=by have:=eR hxo;simpa using this
   have hszx2:=eR hxo
   have hszz:zcH.size=(bv x).toArray.size:=by rw [show (bv x).toArray.size=20 by rw [List.size_toArray,bvL];exact hxo];kernel_rfl
   have hone:(bv x).toArray.all (·.oneCell')=true:=all_oneCell_toArray (bv1 x)
   have HXX:=ah hx
   clear hx hE hr hatx hxo
   by_cases hs:(aX m x).isSome=true
   ·have HS:=ah hs
    go_wp2_with (first | ((with_reducible refine ag 13 ?_);refine aa (o:=⟨some 13,_,_,_,_,_⟩) rfl (.pointer (some ⟨b,off+(j:Int).toNat*20,none⟩)) wo (aJ (o:=⟨some 13,_,_,_,_,_⟩) 27 34 (.tmp 9) (.tmp 11) rfl b off ks.length cap (j:Int) .i64 rfl rfl ⟨j0,j1⟩ 20 Tryz.underlying27 cJ wo) ?_;rw [show off+(j:Int).toNat*20=off+j*20 by omega]) | ((with_reducible refine ag 14 ?_);refine aa (o:=⟨some 14,_,_,_,_,_⟩) rfl (.agg (bv x).toArray) wo (ai (o:=⟨some 14,_,_,_,_,_⟩) 34 (.tmp 13) rfl b (off+j*20) rfl (bv x) _ wo HX.out.1 Tryz.underlying34 rfl hszx) ?_) | ((with_reducible refine ag 6 ?_);(with_reducible refine bn (o1:=⟨some 6,_,_,_,_,_⟩) (o2:=⟨none,_,_,_,_,_⟩) rfl rfl 34 (.tmp 6) (.tmp 14) ?_ zcH (bv x).toArray ?_ hszx2 ?_ hone ?_ ?_ ?_);rfl;kernel_rfl;exact hszz;rfl;rfl;intro w3 hmm hbb;have H3:=ah (And.intro hmm hbb);clear hmm hbb;simp only [Act.put,List.setIfInBounds_toArray,List.set_cons_zero,List.set_cons_succ]) | ((with_reducible refine ag 17 ?_);refine aa (o:=⟨some 17,_,_,_,_,_⟩) rfl (.agg (bv x).toArray) w3 (au (o:=⟨some 17,_,_,_,_,_⟩) 34 (.tmp 6) rfl wo.heap.size rfl 34 _ _ w3 H3.out.1 Tryz.underlying34 rfl hszx2) ?_) | ((with_reducible refine ag 18 ?_);refine aa (o:=⟨some 18,_,_,_,_,_⟩) rfl (.tuple #[((aX m x).map evN).getD (.int .i64 0),.bool (aX m x).isSome]) w3 (dH (o:=⟨some 18,_,_,_,_,_⟩) 127 (.tmp 16) (.tmp 17) true rfl (.map (some mb)) (.agg (bv x).toArray) _ rfl rfl ((HM.out.of_eq ((H3.out.2.block mb (by have:=HM.out.lt;have:=HB.out.size;omega)).trans (HB.out.block mb HM.out.lt))).look_ok dy HX.out.2 Tryz.underlying127 (pj w3))) ?_))
    go_roundw
    case rel=>exact ⟨j+1,by omega,by go_num,(fun h hh=>by rw [List.take_add_one,HXX.out] at hh;rcases List.mem_append.1 hh with hh | hh;exact HALL.out h hh;rw [show h=x from by simpa using hh];exact HS.out),HB.out.trans (Below.mono H3.out.2 HB.out.size)⟩
    case measure=>simp [intOf];omega
   ·have hs':(aX m x).isSome=false:=by simpa using hs
    have HS:=ah hs'
    clear hs
    go_wp2_with (first | ((with_reducible refine ag 13 ?_);refine aa (o:=⟨some 13,_,_,_,_,_⟩) rfl (.pointer (some ⟨b,off+(j:Int).toNat*20,none⟩)) wo (aJ (o:=⟨some 13,_,_,_,_,_⟩) 27 34 (.tmp 9) (.tmp 11) rfl b off ks.length cap (j:Int) .i64 rfl rfl ⟨j0,j1⟩ 20 Tryz.underlying27 cJ wo) ?_;rw [show off+(j:Int).toNat*20=off+j*20 by omega]) | ((with_reducible refine ag 14 ?_);refine aa (o:=⟨some 14,_,_,_,_,_⟩) rfl (.agg (bv x).toArray) wo (ai (o:=⟨some 14,_,_,_,_,_⟩) 34 (.tmp 13) rfl b (off+j*20) rfl (bv x) _ wo HX.out.1 Tryz.underlying34 rfl hszx) ?_) | ((with_reducible refine ag 6 ?_);(with_reducible refine bn (o1:=⟨some 6,_,_,_,_,_⟩) (o2:=⟨none,_,_,_,_,_⟩) rfl rfl 34 (.tmp 6) (.tmp 14) ?_ zcH (bv x).toArray ?_ hszx2 ?_ hone ?_ ?_ ?_);rfl;kernel_rfl;exact hszz;rfl;rfl;intro w3 hmm hbb;have H3:=ah (And.intro hmm hbb);clear hmm hbb;simp only [Act.put,List.setIfInBounds_toArray,List.set_cons_zero,List.set_cons_succ]) | ((with_reducible refine ag 17 ?_);refine aa (o:=⟨some 17,_,_,_,_,_⟩) rfl (.agg (bv x).toArray) w3 (au (o:=⟨some 17,_,_,_,_,_⟩) 34 (.tmp 6) rfl wo.heap.size rfl 34 _ _ w3 H3.out.1 Tryz.underlying34 rfl hszx2) ?_) | ((with_reducible refine ag 18 ?_);refine aa (o:=⟨some 18,_,_,_,_,_⟩) rfl (.tuple #[((aX m x).map evN).getD (.int .i64 0),.bool (aX m x).isSome]) w3 (dH (o:=⟨some 18,_,_,_,_,_⟩) 127 (.tmp 16) (.tmp 17) true rfl (.map (some mb)) (.agg (bv x).toArray) _ rfl rfl ((HM.out.of_eq ((H3.out.2.block mb (by have:=HM.out.lt;have:=HB.out.size;omega)).trans (HB.out.block mb HM.out.lt))).look_ok dy HX.out.2 Tryz.underlying127 (pj w3))) ?_))
    go_ret
    have e9:ks.all (fun h=>(aX m h).isSome)=false:=by
     rw [List.all_eq_false]
     exact ⟨x,List.mem_of_getElem? HXX.out,by rw [HS.out];decide⟩
    exact ⟨by rw [e9];rfl,HB.out.trans (Below.mono H3.out.2 HB.out.size)⟩
  ·obtain rfl:j=ks.length:=by omega
   go_wp2_with fail
   go_ret
   have e9:ks.all (fun h=>(aX m h).isSome)=true:=by
    rw [List.all_eq_true]
    exact fun h hh=>HALL.out h (by rw [List.take_length];exact hh)
   exact ⟨by rw [e9];rfl,HB.out⟩
def zcN:Array Value:=(Value.string ByteArray.empty :: (bv (List.replicate 20 0)++[Value.string ByteArray.empty])++(bv (List.replicate 20 0)++[Value.bool false])).toArray
theorem aY:(Tryz.prog.info? 87).map (·.size)=some 43:=by kernel_rfl
theorem da {x:Nam} (h:okN x):(nC x).length=43:=by
 unfold nC iC
 rw [List.length_cons,List.length_append,List.length_append,bO h.2.1,bvL,show x.2.2.1.length=20 from h.2.2]
 rfl
theorem fQ (x:Nam):∀ v∈nC x,v.oneCell'=true:=by
 intro v hv
 rcases List.mem_cons.1 hv with rfl | hv
 ·rfl
 ·rcases List.mem_append.1 hv with hv | hv
  ·exact je _ v hv
  ·rcases List.mem_append.1 hv with hv | hv
   ·exact bv1 _ v hv
   ·rw [List.mem_singleton.1 hv];rfl
theorem BK {x:Nam} (h:okN x):(Tryz.prog.info? 87).map (·.size)=some (nC x).toArray.size:=by
 rw [List.size_toArray,da h]
 kernel_rfl
theorem gS {x:Nam} {w:World} {g:Nat} (h:okN x) (hb:Blk w g 87 (nC x).toArray):w.rangeAt g 22 (bv x.2.2.1):=by
 have h1:=dK hb
 have e:(nC x).toArray.toList=([.string x.1]++pC x.2.1)++(bv x.2.2.1++[.bool x.2.2.2]):=by simp [nC,iC]
 rw [e] at h1
 have h2:=cz (dZ h1)
 have hl:([Value.string x.1]++pC x.2.1).length=22:=by rw [List.length_append,bO h.2.1];rfl
 rwa [hl,Nat.zero_add] at h2
theorem fS {x:Nam} {w:World} {g:Nat} (h:okN x) (hb:Blk w g 87 (nC x).toArray):w.cell? ⟨g,42,none⟩=some (.bool x.2.2.2):=by
 rw [hb.cell,List.getElem?_toArray]
 have e:nC x=([.string x.1]++pC x.2.1++bv x.2.2.1)++[.bool x.2.2.2]:=by simp [nC,iC]
 have hl:([Value.string x.1]++pC x.2.1++bv x.2.2.1).length=42:=by rw [List.length_append,List.length_append,bO h.2.1,bvL,show x.2.2.1.length=20 from h.2.2];rfl
 rw [e,List.getElem?_append_right (by omega),hl]
 rfl
def jv (l:List Hsh):List (Hsh×Nat):=l.map fun h=>(h,1)
theorem zS {l:List Hsh} {h:Hsh} (hm:h∈l):((aX (jv l) h).map evN).getD (.int .i64 0)=.int .i64 1:=by
 cases e:aX (jv l) h with
 | none =>
  have:=hI.1 e (h,1) (List.mem_map.2 ⟨h,hm,rfl⟩)
  exact absurd rfl this
 | some v =>
  obtain ⟨y,_,hy⟩:=List.mem_map.1 (nX e)
  injection hy with _ hy
  subst hy
  rfl
theorem oZ {l:List Hsh} {h:Hsh} (hm:h ∉ l):aX (jv l) h=none:=hI.2 fun p hp e=>by
 obtain ⟨y,hy,rfl⟩:=List.mem_map.1 hp
 exact hm (e▸hy)
theorem yX {l:List Hsh} {h:Hsh} (hm:h ∉ l):((aX (jv l) h).map evN).getD (.int .i64 0)=.int .i64 0:=by rw [oZ hm];rfl
theorem po (l:List Nam) (j:Nat) (x:Nam) (hx:l[j]?=some x):az (l.take (j+1))=if x.2.2.2=true∧x.2.2.1 ∉ az (l.take j) then az (l.take j)++[x.2.2.1] else az (l.take j):=by
 rw [List.take_add_one,hx]
 unfold az
 rw [List.foldl_append]
 rfl
theorem ef (l:List Nam) (j:Nat):(az (l.take j)).length≤j:=by
 have key:∀ (l:List Nam) (out:List Hsh),(l.foldl (fun out x=>if x.2.2.2=true∧x.2.2.1 ∉ out then out++[x.2.2.1] else out) out).length≤out.length+l.length:=by
  intro l
  induction l with
  | nil=>intro out;exact Nat.le_refl _
  | cons x l ih =>
   intro out
   refine Nat.le_trans (ih _) ?_
   rw [List.length_cons]
   dsimp only
   split
   ·rw [List.length_append,List.length_singleton];omega
   ·omega
 have h:=key (l.take j) []
 rw [List.length_take,List.length_nil] at h
 unfold az
 omega
theorem mN {K V:Type} {ek:K→Value} {ok:K→Prop} {ev:V→Value} {w:World} {b base n s:Nat} {m:List (K×V)} {e:TypeId} {u:Value} {xs:List Value} (h:w.ownsRow base e s u n xs) (hm:bG ek ok ev w b m):∀ g,u.ownBlock=some g→g ≠ b:=by
 rintro g hg rfl
 obtain ⟨es,c,h1,_⟩:=hm.at_
 rcases aU h with ⟨rfl,_⟩ | ⟨g',cap,cur,rfl,_,_,_,hb,_⟩
 ·cases hg
 ·have hg:some g'=some g:=hg
  injection hg with hg
  subst hg
  rw [show w.heap[g']?=_ from hb] at h1
  cases h1
theorem yk {h:Hsh} {w:World} {g:Nat} (hh:okH h) (hb:Blk w g 34 (bv h).toArray):gd w 20 (some ⟨g,0,none⟩) 1 1 (bv h):=by
 have h2:=qb hb (bv1 h)
 rwa [bvL,show h.length=20 from hh] at h2
theorem dJ:(Tryz.prog.info? 34).map (fun i=>(i.zero,i.size,i.bytes))=some (some (.agg zcH),20,20):=by kernel_rfl
set_option maxHeartbeats 4000000 in
theorem ey (w:World) (d:Drv) (v1 v2:Value) (h:aO w w.heap.size d v1 v2) (hl:d.2.1.length≤1000000) :
  Calls Tryz.prog 46 #[.agg (dC d v1 v2).toArray] w fun e w'=>∃ u,e=.returned u∧w'.ownsRow w.heap.size 34 20 u (az d.2.1).length ((az d.2.1).flatMap bv)∧Below w.heap.size w w':=by
 obtain ⟨A,cap,rfl,_,_,_,hA⟩:=ak h.ins
 obtain ⟨ih,hih,hq0,hq1,hq2⟩:=info_parts dJ
 have HJ:=ah (And.intro hih (And.intro hq0 (And.intro hq1 hq2)))
 clear hih hq0 hq1 hq2
 have HA:=ah hA
 have l9:(d.2.1.length:Int)≤1000000:=by omega
 clear hA h
 have hmm:=@run_makeMap Tryz.prog
 obtain ⟨w1,hw1⟩:∃ w1,w1=w.alloc (.cells (dC d (.slice A d.2.1.length cap) v2).toArray 26):=⟨_,rfl⟩
 have hk1:Blk w1 w.heap.size 26 (dC d (.slice A d.2.1.length cap) v2).toArray:=by rw [hw1];exact Blk.new _ _ _
 have hb1:Below w.heap.size w w1:=by rw [hw1];exact (Below.refl _ w).alloc (Nat.le_refl _) _
 have hz1:w1.heap.size=w.heap.size+1:=by rw [hw1,size_alloc]
 have hm1:bG hV okH evN (w1.alloc (.map #[] 0)) (w.heap.size+1) (jv (az (d.2.1.take 0))):=by rw [← hz1];exact jG w1
 have HC9:=ah (show (w1.alloc (.map #[] 0)).cell? ⟨w.heap.size,1,none⟩=some (.slice A d.2.1.length cap) from ((hk1.alloc (.map #[] 0)).cell 1))
 have hb2:Below w.heap.size w (w1.alloc (.map #[] 0)):=hb1.alloc hb1.size _
 have H0:=ah (And.intro hm1 hb2)
 rw [hw1] at HC9 H0
 clear hk1 hb1 hm1 hb2 hz1 hw1
 go_enter Tryz.func46,Tryz.ntmps46
 go_wp2_with ((with_reducible refine ag 9 ?_);refine aa (o:=⟨some 9,_,_,_,_,_⟩) rfl (.slice A d.2.1.length cap) _ (exec_load_cell (o:=⟨some 9,_,_,_,_,_⟩) 23 (.tmp 8) rfl ⟨w.heap.size,1,none⟩ rfl _ _ _ Tryz.underlying23 rfl HC9.out) ?_)
 go_loopw [2,11] (fun x2 x11 wr=>∃ (j:Nat) (u:Value),j≤d.2.1.length∧u=x2∧x11=.int .i64 (j:Int)∧bG hV okH evN wr (w.heap.size+1) (jv (az (d.2.1.take j)))∧wr.ownsRow w.heap.size 34 20 u (az (d.2.1.take j)).length ((az (d.2.1.take j)).flatMap bv)∧Below w.heap.size w wr) (fun _ x11 _=>d.2.1.length-(intOf x11).toNat)
 case atStart=>exact ⟨0,.slice none 0 0,by omega,rfl,rfl,H0.out.1,World.ownsRow_nil _ _ _ _,H0.out.2⟩
 case round =>
  obtain ⟨wo,rfl⟩:∃ wo,wo=wr:=⟨_,rfl⟩
  obtain ⟨j,u,hj,rfl,rfl,hmp,hown,hb⟩:=hrel
  have HI:=ah (And.intro hmp (And.intro hown hb))
  clear hmp hown hb
  have j0:(0:Int)≤(j:Int):=by omega
  by_cases hj2:j<d.2.1.length
  ·have j1:(j:Int)<(d.2.1.length:Int):=by omega
   obtain ⟨x,hx⟩:∃ x,d.2.1[j]?=some x:=⟨_,List.getElem?_eq_getElem hj2⟩
   obtain ⟨b,off,rfl,hlb,hE⟩:=HA.out (by omega)
   obtain ⟨cs,hr,hatx⟩:=hE j x hx
   obtain ⟨rfl,hxo⟩:=bl.1 hatx
   have HX:=ah (And.intro (a8 hr (HI.out.2.2.block b (by omega))) hxo)
   have hszx:(Tryz.prog.info? 34).map (·.size)=some (bv x.2.2.1).length:=by have:=eR hxo.2.2;simpa using this
   have hszx2:=eR hxo.2.2
   have hszz:zcH.size=(bv x.2.2.1).toArray.size:=by rw [show (bv x.2.2.1).toArray.size=20 by rw [List.size_toArray,bvL];exact hxo.2.2];kernel_rfl
   have hone:(bv x.2.2.1).toArray.all (·.oneCell')=true:=all_oneCell_toArray (bv1 x.2.2.1)
   have hszn2:=BK hxo
   have hszn:(Tryz.prog.info? 87).map (·.size)=some (nC x).length:=by simpa using hszn2
   have hszzn:zcN.size=(nC x).toArray.size:=by rw [show (nC x).toArray.size=43 by rw [List.size_toArray];exact da hxo];kernel_rfl
   have honen:(nC x).toArray.all (·.oneCell')=true:=all_oneCell_toArray (fQ x)
   have hst:=po d.2.1 j x hx
   clear hx hE hr hatx hxo
   by_cases his:x.2.2.2=true
   ·by_cases hin:x.2.2.1∈az (d.2.1.take j)
    ·rw [if_neg (by rw [his];simp [hin])] at hst
     have HT:=ah hst
     have hlk:=zS hin
     clear hst
     go_wp2_with (first | ((with_reducible refine ag 13 ?_);refine aa (o:=⟨some 13,_,_,_,_,_⟩) rfl (.pointer (some ⟨b,off+(j:Int).toNat*43,none⟩)) wo (aJ (o:=⟨some 13,_,_,_,_,_⟩) 23 87 (.tmp 9) (.tmp 11) rfl b off d.2.1.length cap (j:Int) .i64 rfl rfl ⟨j0,j1⟩ 43 Tryz.underlying23 aY wo) ?_;rw [show off+(j:Int).toNat*43=off+j*43 by omega]) | ((with_reducible refine ag 14 ?_);refine aa (o:=⟨some 14,_,_,_,_,_⟩) rfl (.agg (nC x).toArray) wo (ai (o:=⟨some 14,_,_,_,_,_⟩) 87 (.tmp 13) rfl b (off+j*43) rfl (nC x) _ wo HX.out.1 Tryz.underlying87 rfl hszn) ?_) | ((with_reducible refine ag 5 ?_);(with_reducible refine bn (o1:=⟨some 5,_,_,_,_,_⟩) (o2:=⟨none,_,_,_,_,_⟩) rfl rfl 87 (.tmp 5) (.tmp 14) ?_ zcN (nC x).toArray ?_ hszn2 ?_ honen ?_ ?_ ?_);rfl;kernel_rfl;exact hszzn;rfl;rfl;intro w3 hmm hbb;have H3:=ah (And.intro hmm hbb);clear hmm hbb;simp only [Act.put,List.setIfInBounds_toArray,List.set_cons_zero,List.set_cons_succ]) | ((with_reducible refine ag 17 ?_);refine aa (o:=⟨some 17,_,_,_,_,_⟩) rfl (.agg (bv x.2.2.1).toArray) w3 (ai (o:=⟨some 17,_,_,_,_,_⟩) 34 (.tmp 16) rfl wo.heap.size (22) rfl (bv x.2.2.1) _ w3 (gS HX.out.2 H3.out.1) Tryz.underlying34 rfl hszx) ?_) | ((with_reducible refine ag 6 ?_);(with_reducible refine bn (o1:=⟨some 6,_,_,_,_,_⟩) (o2:=⟨none,_,_,_,_,_⟩) rfl rfl 34 (.tmp 6) (.tmp 17) ?_ zcH (bv x.2.2.1).toArray ?_ hszx2 ?_ hone ?_ ?_ ?_);rfl;kernel_rfl;exact hszz;rfl;rfl;intro w4 hmm hbb;have H4:=ah (And.intro hmm hbb);clear hmm hbb;simp only [Act.put,List.setIfInBounds_toArray,List.set_cons_zero,List.set_cons_succ]) | ((with_reducible refine ag 20 ?_);refine aa (o:=⟨some 20,_,_,_,_,_⟩) rfl (.bool true) w4 (exec_load_cell (o:=⟨some 20,_,_,_,_,_⟩) 4 (.tmp 19) rfl ⟨wo.heap.size,42,none⟩ rfl _ _ w4 Tryz.underlying4 rfl (by have h:=fS HX.out.2 (H3.out.1.below H4.out.2 H3.out.1.lt);rwa [his] at h)) ?_) | ((with_reducible refine ag 23 ?_);refine aF (o:=⟨some 23,_,_,_,_,_⟩) (by kernel_rfl) (.agg (bv x.2.2.1).toArray) w4 (au (o:=⟨some 23,_,_,_,_,_⟩) 34 (.tmp 6) rfl w3.heap.size rfl 34 _ _ w4 H4.out.1 Tryz.underlying34 rfl hszx2) ?_) | ((with_reducible refine ag 24 ?_);refine aF (o:=⟨some 24,_,_,_,_,_⟩) (by kernel_rfl) (((aX (jv (az (d.2.1.take j))) x.2.2.1).map evN).getD (.int .i64 0)) w4 (dH (o:=⟨some 24,_,_,_,_,_⟩) 99 (.tmp 22) (.tmp 23) false rfl (.map (some (w.heap.size+1))) (.agg (bv x.2.2.1).toArray) _ rfl rfl ((HI.out.1.of_eq ((H4.out.2.block _ (by have:=HI.out.1.lt;have:=H3.out.2.size;omega)).trans (H3.out.2.block _ HI.out.1.lt))).look dy HX.out.2.2.2 Tryz.underlying99 (pj w4))) ?_))
     go_roundw
     case rel=>exact ⟨j+1,u,by omega,rfl,by go_num,by rw [HT.out];exact (HI.out.1.of_eq ((H4.out.2.block _ (by have:=HI.out.1.lt;have:=H3.out.2.size;omega)).trans (H3.out.2.block _ HI.out.1.lt))),by rw [HT.out];exact (ao (ao HI.out.2.1 fun g _ hl=>H3.out.2.block g hl) fun g _ hl=>H4.out.2.block g hl),HI.out.2.2.trans (Below.mono (H3.out.2.trans (Below.mono H4.out.2 H3.out.2.size)) HI.out.2.2.size)⟩
     case measure=>simp [intOf];omega
    ·rw [if_pos ⟨his,hin⟩] at hst
     have HT:=ah hst
     have hlk:=yX hin
     clear hst
     have hcl:=ef d.2.1 j
     go_wp2_with (first | ((with_reducible refine ag 13 ?_);refine aa (o:=⟨some 13,_,_,_,_,_⟩) rfl (.pointer (some ⟨b,off+(j:Int).toNat*43,none⟩)) wo (aJ (o:=⟨some 13,_,_,_,_,_⟩) 23 87 (.tmp 9) (.tmp 11) rfl b off d.2.1.length cap (j:Int) .i64 rfl rfl ⟨j0,j1⟩ 43 Tryz.underlying23 aY wo) ?_;rw [show off+(j:Int).toNat*43=off+j*43 by omega]) | ((with_reducible refine ag 14 ?_);refine aa (o:=⟨some 14,_,_,_,_,_⟩) rfl (.agg (nC x).toArray) wo (ai (o:=⟨some 14,_,_,_,_,_⟩) 87 (.tmp 13) rfl b (off+j*43) rfl (nC x) _ wo HX.out.1 Tryz.underlying87 rfl hszn) ?_) | ((with_reducible refine ag 5 ?_);(with_reducible refine bn (o1:=⟨some 5,_,_,_,_,_⟩) (o2:=⟨none,_,_,_,_,_⟩) rfl rfl 87 (.tmp 5) (.tmp 14) ?_ zcN (nC x).toArray ?_ hszn2 ?_ honen ?_ ?_ ?_);rfl;kernel_rfl;exact hszzn;rfl;rfl;intro w3 hmm hbb;have H3:=ah (And.intro hmm hbb);clear hmm hbb;simp only [Act.put,List.setIfInBounds_toArray,List.set_cons_zero,List.set_cons_succ]) | ((with_reducible refine ag 17 ?_);refine aa (o:=⟨some 17,_,_,_,_,_⟩) rfl (.agg (bv x.2.2.1).toArray) w3 (ai (o:=⟨some 17,_,_,_,_,_⟩) 34 (.tmp 16) rfl wo.heap.size (22) rfl (bv x.2.2.1) _ w3 (gS HX.out.2 H3.out.1) Tryz.underlying34 rfl hszx) ?_) | ((with_reducible refine ag 6 ?_);(with_reducible refine bn (o1:=⟨some 6,_,_,_,_,_⟩) (o2:=⟨none,_,_,_,_,_⟩) rfl rfl 34 (.tmp 6) (.tmp 17) ?_ zcH (bv x.2.2.1).toArray ?_ hszx2 ?_ hone ?_ ?_ ?_);rfl;kernel_rfl;exact hszz;rfl;rfl;intro w4 hmm hbb;have H4:=ah (And.intro hmm hbb);clear hmm hbb;simp only [Act.put,List.setIfInBounds_toArray,List.set_cons_zero,List.set_cons_succ]) | ((with_reducible refine ag 20 ?_);refine aa (o:=⟨some 20,_,_,_,_,_⟩) rfl (.bool true) w4 (exec_load_cell (o:=⟨some 20,_,_,_,_,_⟩) 4 (.tmp 19) rfl ⟨wo.heap.size,42,none⟩ rfl _ _ w4 Tryz.underlying4 rfl (by have h:=fS HX.out.2 (H3.out.1.below H4.out.2 H3.out.1.lt);rwa [his] at h)) ?_) | ((with_reducible refine ag 23 ?_);refine aF (o:=⟨some 23,_,_,_,_,_⟩) (by kernel_rfl) (.agg (bv x.2.2.1).toArray) w4 (au (o:=⟨some 23,_,_,_,_,_⟩) 34 (.tmp 6) rfl w3.heap.size rfl 34 _ _ w4 H4.out.1 Tryz.underlying34 rfl hszx2) ?_) | ((with_reducible refine ag 24 ?_);refine aF (o:=⟨some 24,_,_,_,_,_⟩) (by kernel_rfl) (((aX (jv (az (d.2.1.take j))) x.2.2.1).map evN).getD (.int .i64 0)) w4 (dH (o:=⟨some 24,_,_,_,_,_⟩) 99 (.tmp 22) (.tmp 23) false rfl (.map (some (w.heap.size+1))) (.agg (bv x.2.2.1).toArray) _ rfl rfl ((HI.out.1.of_eq ((H4.out.2.block _ (by have:=HI.out.1.lt;have:=H3.out.2.size;omega)).trans (H3.out.2.block _ HI.out.1.lt))).look dy HX.out.2.2.2 Tryz.underlying99 (pj w4))) ?_) | ((with_reducible refine ag 28 ?_);refine aa (o:=⟨some 28,_,_,_,_,_⟩) rfl (.agg (bv x.2.2.1).toArray) w4 (au (o:=⟨some 28,_,_,_,_,_⟩) 34 (.tmp 6) rfl w3.heap.size rfl 34 _ _ w4 H4.out.1 Tryz.underlying34 rfl hszx2) ?_;obtain ⟨w5,r1,r2,r3⟩:=bG.update (HI.out.1.of_eq ((H4.out.2.block _ (by have:=HI.out.1.lt;have:=H3.out.2.size;omega)).trans (H3.out.2.block _ HI.out.1.lt))) dy HX.out.2.2.2 Tryz.underlying99 1;have HU:=ah (And.intro r1 (And.intro r2 r3));clear r1 r2 r3) | (refine eX (o:=⟨none,_,_,_,_,_⟩) rfl 99 (.tmp 27) (.tmp 28) (.const (.int .i64 1)) rfl _ _ _ rfl rfl rfl HU.out.1 ?_) | ((with_reducible refine ag 30 ?_);refine aa (o:=⟨some 30,_,_,_,_,_⟩) rfl (.agg (bv x.2.2.1).toArray) w5 (au (o:=⟨some 30,_,_,_,_,_⟩) 34 (.tmp 6) rfl w3.heap.size rfl 34 _ _ w5 ((HU.out.2.2.2.1 w3.heap.size (by have:=HI.out.1.lt;have:=H3.out.2.size;omega)).trans H4.out.1) Tryz.underlying34 rfl hszx2) ?_;obtain ⟨w6,hw6⟩:∃ w6,w6=w5.alloc (.cells (Value.agg (bv x.2.2.1).toArray).cells 34):=⟨_,rfl⟩;have hb6:Below w5.heap.size w5 w6:=(by rw [hw6];exact (Below.refl _ w5).alloc (Nat.le_refl _) _);have hk6:Blk w6 w5.heap.size 34 (bv x.2.2.1).toArray:=(by rw [hw6];exact Blk.new _ _ _);have H6:=ah (And.intro hb6 (And.intro (yk HX.out.2.2.2 hk6) (ao (ao (ao (ao HI.out.2.1 fun g _ hl=>H3.out.2.block g hl) fun g _ hl=>H4.out.2.block g hl) fun g hg _=>HU.out.2.2.2.1 g (mN (ao (ao HI.out.2.1 fun g _ hl=>H3.out.2.block g hl) fun g _ hl=>H4.out.2.block g hl) (HI.out.1.of_eq ((H4.out.2.block _ (by have:=HI.out.1.lt;have:=H3.out.2.size;omega)).trans (H3.out.2.block _ HI.out.1.lt))) g hg)) fun g _ hl=>hb6.block g hl)));have HW6:=ah hw6;clear hb6 hk6 hw6) | ((with_reducible refine ag 31 ?_);refine aa (o:=⟨some 31,_,_,_,_,_⟩) rfl (.slice (some ⟨w5.heap.size,0,none⟩) 1 1) w6 (by rw [HW6.out];exact bM (o:=⟨some 31,_,_,_,_,_⟩) (v:=.agg (bv x.2.2.1).toArray) 27 (.tmp 30) rfl rfl Tryz.underlying27 ej (by omega) (by omega) (z:=.agg zcH) (fun w=>by kernel_rfl) (by rw [Value.cells,List.size_toArray,bvL];exact HX.out.2.2.2) w5) ?_) | (at_builtin;((with_reducible refine ag 32 ?_);refine aH (o:=⟨some 32,_,_,_,_,_⟩) rfl _ _ 27 rfl w.heap.size 34 ih _ 20 20 Tryz.underlying27 HJ.out.1 HJ.out.2.1 HJ.out.2.2.1 HJ.out.2.2.2 rfl (by decide) _ (az (d.2.1.take j)).length ((az (d.2.1.take j)).flatMap bv) H6.out.2.2 (some ⟨w5.heap.size,0,none⟩) 1 1 (bv x.2.2.1) H6.out.2.1 ?hm2 ?hb2 ?hz2 rfl rfl ?_)))
     case hm2=>simp only [maxLen];omega
     case hb2=>omega
     case hz2=>have:=HI.out.2.2.size;have:=H3.out.2.size;have:=H4.out.2.size;have:=HU.out.2.2.1;have:=H6.out.1.size;omega
     intro u2 w7 own7 gr7 _
     have hmp7:bG hV okH evN w7 (w.heap.size+1) (jv (az (d.2.1.take j)++[x.2.2.1])):=by
      have h1:=HU.out.2.1
      rw [kS (oZ hin)] at h1
      have h2:bG hV okH evN w7 (w.heap.size+1) (jv (az (d.2.1.take j))++[(x.2.2.1,1)]):=h1.of_eq ((gr7.block _ (by have:=h1.lt;have:=H6.out.1.size;omega) (fun e=>mN H6.out.2.2 (h1.below H6.out.1 h1.lt) _ e.symm rfl)).trans (H6.out.1.block _ h1.lt))
      simpa [jv] using h2
     have hb7:Below w.heap.size w w7:=by
      have h4:=HI.out.2.2.trans (Below.mono (H3.out.2.trans (Below.mono H4.out.2 H3.out.2.size)) HI.out.2.2.size)
      have h5:Below w.heap.size w w5:=h4.grown HU.out.2.2.grown h4.size (fun b hb=>by injection hb with hb;omega)
      exact Below.yx (h5.trans (Below.mono H6.out.1 h5.size)) H6.out.2.2 (Nat.le_refl _) gr7
     have hown7:w7.ownsRow w.heap.size 34 20 u2 (az (d.2.1.take j)++[x.2.2.1]).length ((az (d.2.1.take j)++[x.2.2.1]).flatMap bv):=by rw [List.length_append,List.flatMap_append,List.flatMap_singleton];exact own7
     have H7:=ah (And.intro hmp7 (And.intro hown7 hb7))
     clear hmp7 hown7 hb7 own7 gr7
     go_wp2_with fail
     go_roundw
     case rel=>exact ⟨j+1,u2,by omega,rfl,by go_num,by rw [HT.out];exact H7.out.1,by rw [HT.out];exact H7.out.2.1,H7.out.2.2⟩
     case measure=>simp [intOf];omega
   ·have his':x.2.2.2=false:=by simpa using his
    rw [if_neg (by rw [his'];simp)] at hst
    have HT:=ah hst
    clear hst his
    go_wp2_with (first | ((with_reducible refine ag 13 ?_);refine aa (o:=⟨some 13,_,_,_,_,_⟩) rfl (.pointer (some ⟨b,off+(j:Int).toNat*43,none⟩)) wo (aJ (o:=⟨some 13,_,_,_,_,_⟩) 23 87 (.tmp 9) (.tmp 11) rfl b off d.2.1.length cap (j:Int) .i64 rfl rfl ⟨j0,j1⟩ 43 Tryz.underlying23 aY wo) ?_;rw [show off+(j:Int).toNat*43=off+j*43 by omega]) | ((with_reducible refine ag 14 ?_);refine aa (o:=⟨some 14,_,_,_,_,_⟩) rfl (.agg (nC x).toArray) wo (ai (o:=⟨some 14,_,_,_,_,_⟩) 87 (.tmp 13) rfl b (off+j*43) rfl (nC x) _ wo HX.out.1 Tryz.underlying87 rfl hszn) ?_) | ((with_reducible refine ag 5 ?_);(with_reducible refine bn (o1:=⟨some 5,_,_,_,_,_⟩) (o2:=⟨none,_,_,_,_,_⟩) rfl rfl 87 (.tmp 5) (.tmp 14) ?_ zcN (nC x).toArray ?_ hszn2 ?_ honen ?_ ?_ ?_);rfl;kernel_rfl;exact hszzn;rfl;rfl;intro w3 hmm hbb;have H3:=ah (And.intro hmm hbb);clear hmm hbb;simp only [Act.put,List.setIfInBounds_toArray,List.set_cons_zero,List.set_cons_succ]) | ((with_reducible refine ag 17 ?_);refine aa (o:=⟨some 17,_,_,_,_,_⟩) rfl (.agg (bv x.2.2.1).toArray) w3 (ai (o:=⟨some 17,_,_,_,_,_⟩) 34 (.tmp 16) rfl wo.heap.size (22) rfl (bv x.2.2.1) _ w3 (gS HX.out.2 H3.out.1) Tryz.underlying34 rfl hszx) ?_) | ((with_reducible refine ag 6 ?_);(with_reducible refine bn (o1:=⟨some 6,_,_,_,_,_⟩) (o2:=⟨none,_,_,_,_,_⟩) rfl rfl 34 (.tmp 6) (.tmp 17) ?_ zcH (bv x.2.2.1).toArray ?_ hszx2 ?_ hone ?_ ?_ ?_);rfl;kernel_rfl;exact hszz;rfl;rfl;intro w4 hmm hbb;have H4:=ah (And.intro hmm hbb);clear hmm hbb;simp only [Act.put,List.setIfInBounds_toArray,List.set_cons_zero,List.set_cons_succ]) | ((with_reducible refine ag 20 ?_);refine aa (o:=⟨some 20,_,_,_,_,_⟩) rfl (.bool false) w4 (exec_load_cell (o:=⟨some 20,_,_,_,_,_⟩) 4 (.tmp 19) rfl ⟨wo.heap.size,42,none⟩ rfl _ _ w4 Tryz.underlying4 rfl (by have h:=fS HX.out.2 (H3.out.1.below H4.out.2 H3.out.1.lt);rwa [his'] at h)) ?_))
    go_roundw
    case rel=>exact ⟨j+1,u,by omega,rfl,by go_num,by rw [HT.out];exact (HI.out.1.of_eq ((H4.out.2.block _ (by have:=HI.out.1.lt;have:=H3.out.2.size;omega)).trans (H3.out.2.block _ HI.out.1.lt))),by rw [HT.out];exact (ao (ao HI.out.2.1 fun g _ hl=>H3.out.2.block g hl) fun g _ hl=>H4.out.2.block g hl),HI.out.2.2.trans (Below.mono (H3.out.2.trans (Below.mono H4.out.2 H3.out.2.size)) HI.out.2.2.size)⟩
    case measure=>simp [intOf];omega
  ·obtain rfl:j=d.2.1.length:=by omega
   have hown:=HI.out.2.1
   rw [List.take_length] at hown
   have HO:=ah hown
   clear hown
   go_wp2_with fail
   go_ret
   exact ⟨_,rfl,HO.out,HI.out.2.2⟩
end Go.Proofs.YtomnhnmciopiiaaGreat
end
section
namespace Go.Proofs.YtomnhnmciopiiaaGreat
open Go Go.RowKit Go.Maps
set_option maxRecDepth 100000
theorem qi (s:ByteArray) (c:Int) (w:World) :
  Calls Tryz.prog 219 #[.string s,.int .u8 c] w fun e w'=>e=.returned (.int .i64 (Lib.indexByte s.data.toList c.toNat.toUInt8))∧w'=w:=by
 go_enter Tryz.func219,Tryz.ntmps219
 go_wp2
 rw [run_callFunc_extern Tryz.func220 (by kernel_rfl) (by kernel_rfl) (by kernel_rfl) (e:=Extern.BytealgIndexByte.indexByte) (by kernel_rfl),Lib.run_indexByteString]
 simp only [Result.andThen]
 rw [Oper.upon_value]
 go_wp2
 go_ret
 exact ⟨rfl,rfl⟩
theorem vS (s:ByteArray) (c:Int) (w:World) :
  Calls Tryz.prog 214 #[.string s,.int .u8 c] w fun e w'=>e=.returned (.int .i64 (Lib.indexByte s.data.toList c.toNat.toUInt8))∧w'=w:=by
 go_enter Tryz.func214,Tryz.ntmps214
 go_wp2_with (go_at_call 219;refine (qi _ _ _).mono ?_;rintro e w' ⟨rfl,rfl⟩)
 go_ret
 exact ⟨rfl,rfl⟩
def gT (c:Int):Bool:=decide (c<128)&&(decide (65≤c)&&decide (97≤bits BinOp.or IntKind.i32 c 32)&&decide (bits BinOp.or IntKind.i32 c 32≤122)||decide (48≤c)&&decide (c≤57)||decide (0≤Lib.indexByte [46,95,43,45] c.toNat.toUInt8))
theorem yd (c:Int) (hc:0≤c) (w:World):Calls Tryz.prog 202 #[.int .i32 c] w fun e w'=>e=.returned (.bool (gT c))∧w'=w:=by
 by_cases h8:c<128
 ·obtain ⟨q,hq⟩:∃ q,q=gT c:=⟨_,rfl⟩
  rw [← hq]
  unfold gT at hq
  rw [decide_eq_true h8,Bool.true_and] at hq
  have HQ:=ah hq
  clear hq
  go_enter Tryz.func202,Tryz.ntmps202
  go_wp2_with (go_at_call 214;refine (vS _ _ _).mono ?_;rintro e w' ⟨rfl,rfl⟩)
  all_goals (go_ret;refine ⟨?_,rfl⟩;rw [HQ.out];simp_all<;>(first | done | omega | (rw [show decide (c≤57)=false from decide_eq_false (by omega)];simp;try (intros;exfalso;omega))))
 ·have e:gT c=false:=by unfold gT;rw [decide_eq_false h8];rfl
  rw [e]
  go_enter Tryz.func202,Tryz.ntmps202
  go_wp2_with fail
  go_ret
  exact ⟨rfl,rfl⟩
def eg (s:ByteArray):Nat→Nat→Bool
 | 0,_=>true
 | f+1,pos=>if pos<s.size then gT ((Utf8.decode s pos).1:Int)&&eg s f (pos+(Utf8.decode s pos).2) else true
theorem ml (s:ByteArray) (fuel pos:Nat) (h:¬ pos<s.size):eg s fuel pos=true:=by
 cases fuel with
 | zero=>rfl
 | succ f=>simp [eg,h]
theorem wG (s:ByteArray) (pos:Nat) (h:pos<s.size):1≤(Utf8.decode s pos).2:=by
 by_cases ha:(s[pos]'h).toNat<128
 ·rw [decode_ascii s pos h ha]
  exact Nat.le_refl _
 ·exact (decode_high s pos h (by omega)).2
def ft (s:ByteArray):Bool:=!s.toList.isEmpty&&(decide ((s.size:Int)≤24)&&(if h:0<s.size then ((s[0].toNat:Int) != 46) else false))
def bR (s:ByteArray):Bool:=eg s s.size 0&&ft s
theorem kx (s:ByteArray) (hs:s.size≤maxLen) (w:World):Calls Tryz.prog 180 #[.string s] w fun e w'=>e=.returned (.bool (bR s))∧Below w.heap.size w w':=by
 have hs9:s.size≤9223372036854775807:=by simp only [maxLen] at hs;omega
 go_enter Tryz.func180,Tryz.ntmps180
 go_wp2_with fail
 go_loopw [] (fun wr=>∃ (pos fuel:Nat),wr.heap[w.heap.size]?=some (.stringIter s pos)∧Below w.heap.size w wr∧eg s s.size 0=eg s fuel pos∧s.size≤pos+fuel) (fun wr=>s.size-wr.iterPos w.heap.size)
 case atStart =>
  refine ⟨0,s.size,?_,(Below.refl _ w).alloc (Nat.le_refl _) _,rfl,by omega⟩
  have:=World.iter_heap w s 0
  simpa using this
 case round =>
  obtain ⟨pos,fuel,hit,hbw,hok,hfu⟩:=hrel
  have hsz:w.heap.size<wr.heap.size:=(Array.getElem?_eq_some_iff.1 hit).1
  by_cases hp:pos<s.size
  ·have hnx:∀ ty,(Instr.next (.pointer (some ⟨w.heap.size,0,none⟩)) true ty).run Tryz.prog wr=_:=fun ty=>Lib.run_next_any_at wr w.heap.size s pos ty hit hp
   have hwd:=wG s pos hp
   have hd1:=decode_le s pos
   have hit2:=Lib.iterAt_heap wr w.heap.size s pos (pos+(Utf8.decode s pos).2) hit
   have hbw2:=Lib.below_iterAt hbw (k:=w.heap.size) (by omega) s (pos+(Utf8.decode s pos).2)
   obtain ⟨f,rfl⟩:∃ f,fuel=f+1:=⟨fuel-1,by omega⟩
   have hst:eg s (f+1) pos=(gT ((Utf8.decode s pos).1:Int)&&eg s f (pos+(Utf8.decode s pos).2)):=by rw [eg,if_pos hp]
   rw [hst] at hok
   have HOK:=ah hok
   have HB2:=ah hbw2
   clear hok hst hbw2
   obtain ⟨wn,hwn⟩:∃ wn,wn=wr.iterAt w.heap.size s (pos+(Utf8.decode s pos).2):=⟨_,rfl⟩
   have HWN:=ah hwn
   go_wp2_with fail
   rw [← HWN.out]
   refine (yd ((Utf8.decode s pos).1:Int) (by omega) wn).mono ?_
   rintro e w' ⟨rfl,rfl⟩
   dsimp only
   rw [hwn]
   by_cases hsg:gT ((Utf8.decode s pos).1:Int)=true
   ·have hok2:=HOK.out
    rw [hsg,Bool.true_and] at hok2
    have HO2:=ah hok2
    clear hok2 hwn HWN
    go_wp2_with fail
    go_roundw
    case rel=>exact ⟨pos+(Utf8.decode s pos).2,f,hit2,HB2.out,HO2.out,by omega⟩
    case measure =>
     simp only [World.iterPos,hit2,hit]
     omega
   ·have hsg':gT ((Utf8.decode s pos).1:Int)=false:=by simpa using hsg
    have hnm:bR s=false:=by unfold bR;rw [HOK.out,hsg'];rfl
    have HNM:=ah hnm
    clear hnm hwn HWN
    go_wp2_with fail
    go_ret
    exact ⟨by rw [HNM.out];rfl,HB2.out⟩
  ·have hnx:∀ ty,(Instr.next (.pointer (some ⟨w.heap.size,0,none⟩)) true ty).run Tryz.prog wr=_:=fun ty=>Lib.run_next_end_at wr w.heap.size s pos ty hit hp
   rw [ml s fuel pos hp] at hok
   have hnm:bR s=ft s:=by unfold bR;rw [hok];rfl
   have HNM:=ah hnm
   have HBW:=ah hbw
   clear hnm hok hbw
   by_cases h0:s=⟨#[]⟩
   ·subst h0
    have e0:ft ⟨#[]⟩=false:=by kernel_rfl
    rw [e0] at HNM
    go_wp2_with fail
    go_ret
    exact ⟨by rw [HNM.out];rfl,HBW.out⟩
   ·have h1:0<s.size:=by
     rcases Nat.eq_zero_or_pos s.size with h | h
     ·exact absurd (by cases s with | mk a=>simp [ByteArray.size] at h;rw [h]) h0
     ·exact h
    cases hem:s.toList.isEmpty with
    | true =>
     have e:ft s=false:=by unfold ft;rw [hem];rfl
     rw [e] at HNM
     go_wp2_with fail
     go_ret
     exact ⟨by rw [HNM.out];rfl,HBW.out⟩
    | false =>
     by_cases h24:(s.size:Int)≤24
     ·have e:ft s=((s[0].toNat:Int) != 46):=by unfold ft;rw [hem,decide_eq_true h24,dif_pos h1];rfl
      rw [e] at HNM
      go_wp2_with fail
      go_ret
      exact ⟨by rw [HNM.out];rfl,HBW.out⟩
     ·have e:ft s=false:=by unfold ft;rw [hem,decide_eq_false h24];rfl
      rw [e] at HNM
      go_wp2_with fail
      go_ret
      exact ⟨by rw [HNM.out];rfl,HBW.out⟩
end Go.Proofs.YtomnhnmciopiiaaGreat
end
section
namespace Go.Proofs.YtomnhnmciopiiaaGreat
open Go Go.RowKit Go.Maps
set_option maxRecDepth 100000
theorem e6 {x:Nam} {w:World} {g:Nat} (hb:Blk w g 87 (nC x).toArray):w.cell? ⟨g,0,none⟩=some (.string x.1):=by
 rw [hb.cell,List.getElem?_toArray]
 rfl
theorem lR {x:Nam} {w:World} {g:Nat} (hb:Blk w g 87 (nC x).toArray):w.rangeAt g 1 (pC x.2.1):=by
 have h1:=dK hb
 have e:(nC x).toArray.toList=[.string x.1]++(pC x.2.1++(bv x.2.2.1++[.bool x.2.2.2])):=by simp [nC,iC]
 rw [e] at h1
 exact cz (dZ h1)
theorem rU {x:Nam} {w:World} {g:Nat} (hx:okN x) (hb:Blk w g 87 (nC x).toArray):w.cell? ⟨g,21,none⟩=some (.string x.2.1.2):=by
 have h:=lR hb
 refine h 20 _ ?_
 unfold pC
 rw [List.getElem?_append_right (by rw [bvL];exact Nat.le_of_eq hx.2.1.1),bvL,show x.2.1.1.length=20 from hx.2.1.1]
 rfl
def dg:Hsh:=List.replicate 20 0
def dV:Pth:=(dg,⟨#[]⟩)
theorem fp:okH dg:=rfl
theorem eG:okP dV:=⟨rfl,Nat.zero_le _⟩
def iD (x:Nam) (b:ByteArray):Bool:=bR x.1&&(!Op.bytesLess x.1.toList b.toList&&!(x.1.toList == b.toList))&&(if x.2.2.2=true then decide (x.2.1=dV) else bR x.2.1.2&&decide (x.2.2.1=dg))
set_option maxHeartbeats 2000000 in
theorem Ar (w:World) (x:Nam) (hx:okN x) (b:ByteArray) :
  Calls Tryz.prog 179 #[.agg (nC x).toArray,.string b] w fun e w'=>e=.returned (.bool (iD x b))∧Below w.heap.size w w':=by
 obtain ⟨w1,hw1⟩:∃ w1,w1=w.alloc (.cells (nC x).toArray 87):=⟨_,rfl⟩
 have hk1:Blk w1 w.heap.size 87 (nC x).toArray:=by rw [hw1];exact Blk.new _ _ _
 have hb1:Below w.heap.size w w1:=by rw [hw1];exact (Below.refl _ w).alloc (Nat.le_refl _) _
 have H1:=ah (And.intro hk1 hb1)
 have HW:=ah hw1
 have c1:=e6 hk1
 clear hk1 hb1 hw1
 go_enter Tryz.func179,Tryz.ntmps179
 go_wp2_with ((with_reducible refine ag 2 ?_);refine aa (o:=⟨some 2,_,_,_,_,_⟩) rfl (.pointer (some ⟨w.heap.size,0,none⟩)) w1 (by rw [HW.out];kernel_rfl) ?_)
 refine (kx x.1 hx.1 w1).mono ?_
 rintro e w2 ⟨rfl,hb⟩
 have H2:=ah (H1.out.1.below hb H1.out.1.lt)
 have HB:=ah (H1.out.2.trans (Below.mono hb H1.out.2.size))
 have c2:=e6 H2.out
 clear hb c1
 dsimp only
 by_cases hn:bR x.1=true
 ·rw [hn]
  cases h1:Op.bytesLess x.1.toList b.toList with
  | true =>
   have hcn:iD x b=false:=by unfold iD;simp [h1]
   have HC:=ah hcn
   clear hcn
   go_wp2_with fail
   go_ret
   exact ⟨by rw [HC.out];rfl,HB.out⟩
  | false =>
   cases h2:(x.1.toList == b.toList) with
   | true =>
    have hcn:iD x b=false:=by unfold iD;simp [h2]
    have HC:=ah hcn
    clear hcn
    go_wp2_with fail
    go_ret
    exact ⟨by rw [HC.out];rfl,HB.out⟩
   | false =>
    by_cases his:x.2.2.2=true
    ·have hcn:iD x b=decide (x.2.1=dV):=by unfold iD;rw [hn,h1,h2,if_pos his];rfl
     have c42:w2.cell? ⟨w.heap.size,42,none⟩=some (.bool true):=by have h:=fS hx H2.out;rwa [his] at h
     have HC:=ah hcn
     clear hcn
     go_wp2_with (first | ((with_reducible refine ag 20 ?_);refine aa (o:=⟨some 20,_,_,_,_,_⟩) rfl (.agg (pC x.2.1).toArray) w2 (ai (o:=⟨some 20,_,_,_,_,_⟩) 83 (.tmp 19) rfl w.heap.size (1) rfl (pC x.2.1) _ w2 (lR H2.out) Tryz.underlying83 rfl (by have:=psz hx.2.1;simpa using this)) ?_) | ((with_reducible refine ag 21 ?_);refine aa (o:=⟨some 21,_,_,_,_,_⟩) rfl (.agg (pC dV).toArray) w2 (by kernel_rfl) ?_) | ((with_reducible refine ag 22 ?_);refine aa (o:=⟨some 22,_,_,_,_,_⟩) rfl (.bool (decide (x.2.1=dV))) w2 (bU (o:=⟨some 22,_,_,_,_,_⟩) .eql 83 (.tmp 20) (.tmp 21) _ rfl (pC x.2.1).toArray (pC dV).toArray rfl rfl (by kernel_rfl) _ (fun W=>q4 x.2.1 dV hx.2.1 eG W) w2) ?_))
     go_ret
     exact ⟨by rw [HC.out];rfl,HB.out⟩
    ·have his':x.2.2.2=false:=by simpa using his
     have hcn:iD x b=(bR x.2.1.2&&decide (x.2.2.1=dg)):=by unfold iD;rw [hn,h1,h2,if_neg his];rfl
     have c42:w2.cell? ⟨w.heap.size,42,none⟩=some (.bool false):=by have h:=fS hx H2.out;rwa [his'] at h
     have c21:w2.cell? ⟨w.heap.size,21,none⟩=some (.string x.2.1.2):=rU hx H2.out
     go_wp2_with fail
     refine (kx x.2.1.2 hx.2.1.2 w2).mono ?_
     rintro e w3 ⟨rfl,hb⟩
     have H3:=ah (H2.out.below hb H2.out.lt)
     have HB3:=ah (HB.out.trans (Below.mono hb HB.out.size))
     clear hb
     dsimp only
     by_cases hn2:bR x.2.1.2=true
     ·rw [hn2,Bool.true_and] at hcn
      rw [hn2]
      have HC:=ah hcn
      clear hcn
      go_wp2_with (first | ((with_reducible refine ag 31 ?_);refine aF (o:=⟨some 31,_,_,_,_,_⟩) (by kernel_rfl) (.agg (bv x.2.2.1).toArray) w3 (ai (o:=⟨some 31,_,_,_,_,_⟩) 34 (.tmp 30) rfl w.heap.size (22) rfl (bv x.2.2.1) _ w3 (gS hx H3.out) Tryz.underlying34 rfl (by have:=eR hx.2.2;simpa using this)) ?_) | ((with_reducible refine ag 32 ?_);refine aF (o:=⟨some 32,_,_,_,_,_⟩) (by kernel_rfl) (.agg (bv dg).toArray) w3 (by kernel_rfl) ?_) | ((with_reducible refine ag 33 ?_);refine aF (o:=⟨some 33,_,_,_,_,_⟩) (by kernel_rfl) (.bool (decide (x.2.2.1=dg))) w3 (bU (o:=⟨some 33,_,_,_,_,_⟩) .eql 34 (.tmp 31) (.tmp 32) _ rfl (bv x.2.2.1).toArray (bv dg).toArray rfl rfl (by kernel_rfl) _ (fun W=>dQ x.2.2.1 dg hx.2.2 fp W) w3) ?_))
      go_ret
      exact ⟨by rw [HC.out];rfl,HB3.out⟩
     ·have hn2':bR x.2.1.2=false:=by simpa using hn2
      rw [hn2',Bool.false_and] at hcn
      rw [hn2']
      have HC:=ah hcn
      clear hcn
      go_wp2_with fail
      go_ret
      exact ⟨by rw [HC.out];rfl,HB3.out⟩
 ·have hn':bR x.1=false:=by simpa using hn
  rw [hn']
  have hcn:iD x b=false:=by unfold iD;simp [hn']
  have HC:=ah hcn
  clear hcn
  go_wp2_with fail
  go_ret
  exact ⟨by rw [HC.out];rfl,HB.out⟩
end Go.Proofs.YtomnhnmciopiiaaGreat
end
section
namespace Go.Proofs.YtomnhnmciopiiaaGreat
open Go Go.RowKit Go.Maps
set_option maxRecDepth 100000
def eJ:List Nam→ByteArray→Bool
 | [],_=>true
 | x :: l,b=>iD x b&&eJ l x.1
theorem sn (l:List Nam) (j:Nat) (x:Nam) (hx:l[j]?=some x) (b:ByteArray):eJ (l.drop j) b=(iD x b&&eJ (l.drop (j+1)) x.1):=by
 have hj:=(List.getElem?_eq_some_iff.1 hx)
 rw [List.drop_eq_getElem_cons hj.1,hj.2]
 rfl
def jf (d:Drv):Bool:=eJ d.2.1 ⟨#[]⟩&&(bR d.1&&(decide ((d.2.1.length:Int)≤8)&&decide ((d.2.2.length:Int)≤1000)))
set_option maxHeartbeats 2000000 in
theorem AX (w:World) (d:Drv) (v1 v2:Value) (h:aO w w.heap.size d v1 v2) :
  Calls Tryz.prog 159 #[.agg (dC d v1 v2).toArray] w fun e w'=>e=.returned (.bool (jf d))∧Below w.heap.size w w':=by
 have hnm:=h.name
 obtain ⟨A,cap,rfl,hcl,hcm,_,hA⟩:=ak h.ins
 obtain ⟨A2,cap2,rfl,hcl2,hcm2,_,_⟩:=ak h.rcp
 have l9:(d.2.1.length:Int)≤9223372036854775807:=by simp only [maxLen] at hcm;omega
 have k9:(d.2.2.length:Int)≤9223372036854775807:=by simp only [maxLen] at hcm2;omega
 obtain ⟨w1,hw1⟩:∃ w1,w1=w.alloc (.cells (dC d (.slice A d.2.1.length cap) (.slice A2 d.2.2.length cap2)).toArray 26):=⟨_,rfl⟩
 have hk1:Blk w1 w.heap.size 26 (dC d (.slice A d.2.1.length cap) (.slice A2 d.2.2.length cap2)).toArray:=by rw [hw1];exact Blk.new _ _ _
 have hb1:Below w.heap.size w w1:=by rw [hw1];exact (Below.refl _ w).alloc (Nat.le_refl _) _
 have hz1:w1.heap.size=w.heap.size+1:=by rw [hw1,size_alloc]
 have c1:w1.cell? ⟨w.heap.size,1,none⟩=some (.slice A d.2.1.length cap):=hk1.cell 1
 have HC:=ah (And.intro (show w1.cell? ⟨w.heap.size,0,none⟩=some (.string d.1) from hk1.cell 0) (And.intro c1 (show w1.cell? ⟨w.heap.size,2,none⟩=some (.slice A2 d.2.2.length cap2) from hk1.cell 2)))
 have HB1:=ah hb1
 have HZ:=ah hz1
 have HW:=ah hw1
 have HA:=ah hA
 clear hk1 hb1 hz1 hw1 hA h hcl hcm hcl2 hcm2
 go_enter Tryz.func159,Tryz.ntmps159
 go_wp2_with ((with_reducible refine ag 1 ?_);refine aa (o:=⟨some 1,_,_,_,_,_⟩) rfl (.pointer (some ⟨w.heap.size,0,none⟩)) w1 (by rw [HW.out];kernel_rfl) ?_)
 go_loopw [3,9] (fun x3 x9 wr=>∃ (j:Nat) (bj:ByteArray),j≤d.2.1.length∧x3=.string bj∧x9=.int .i64 (j:Int)∧eJ d.2.1 ⟨#[]⟩=eJ (d.2.1.drop j) bj∧Below w1.heap.size w1 wr) (fun _ x9 _=>d.2.1.length-(intOf x9).toNat)
 case atStart=>exact ⟨0,⟨#[]⟩,by omega,rfl,rfl,rfl,Below.refl _ _⟩
 case round =>
  obtain ⟨wo,rfl⟩:∃ wo,wo=wr:=⟨_,rfl⟩
  obtain ⟨j,bj,hj,rfl,rfl,hok,hb⟩:=hrel
  have HI:=ah (And.intro trivial hb)
  clear hb
  have j0:(0:Int)≤(j:Int):=by omega
  by_cases hj2:j<d.2.1.length
  ·have j1:(j:Int)<(d.2.1.length:Int):=by omega
   obtain ⟨x,hx⟩:∃ x,d.2.1[j]?=some x:=⟨_,List.getElem?_eq_getElem hj2⟩
   obtain ⟨b,off,rfl,hlb,hE⟩:=HA.out (by omega)
   obtain ⟨cs,hr,hatx⟩:=hE j x hx
   obtain ⟨rfl,hxo⟩:=bl.1 hatx
   have HX:=ah (And.intro (a8 hr ((HI.out.2.block b (by have:=HZ.out;omega)).trans (HB1.out.block b (by omega)))) hxo)
   have hszn2:=BK hxo
   have hszn:(Tryz.prog.info? 87).map (·.size)=some (nC x).length:=by simpa using hszn2
   have hszzn:zcN.size=(nC x).toArray.size:=by rw [show (nC x).toArray.size=43 by rw [List.size_toArray];exact da hxo];kernel_rfl
   have honen:(nC x).toArray.all (·.oneCell')=true:=all_oneCell_toArray (fQ x)
   have hst:=sn d.2.1 j x hx bj
   rw [hst] at hok
   have HOK:=ah hok
   clear hx hE hr hatx hxo hst hok
   go_wp2_with (first | ((with_reducible refine ag 11 ?_);refine aa (o:=⟨some 11,_,_,_,_,_⟩) rfl (.pointer (some ⟨b,off+(j:Int).toNat*43,none⟩)) wo (aJ (o:=⟨some 11,_,_,_,_,_⟩) 23 87 (.tmp 7) (.tmp 9) rfl b off d.2.1.length cap (j:Int) .i64 rfl rfl ⟨j0,j1⟩ 43 Tryz.underlying23 aY wo) ?_;rw [show off+(j:Int).toNat*43=off+j*43 by omega]) | ((with_reducible refine ag 12 ?_);refine aa (o:=⟨some 12,_,_,_,_,_⟩) rfl (.agg (nC x).toArray) wo (ai (o:=⟨some 12,_,_,_,_,_⟩) 87 (.tmp 11) rfl b (off+j*43) rfl (nC x) _ wo HX.out.1 Tryz.underlying87 rfl hszn) ?_) | ((with_reducible refine ag 5 ?_);(with_reducible refine bn (o1:=⟨some 5,_,_,_,_,_⟩) (o2:=⟨none,_,_,_,_,_⟩) rfl rfl 87 (.tmp 5) (.tmp 12) ?_ zcN (nC x).toArray ?_ hszn2 ?_ honen ?_ ?_ ?_);rfl;kernel_rfl;exact hszzn;rfl;rfl;intro w3 hmm hbb;have H3:=ah (And.intro hmm hbb);clear hmm hbb;simp only [Act.put,List.setIfInBounds_toArray,List.set_cons_zero,List.set_cons_succ]) | ((with_reducible refine ag 13 ?_);refine aa (o:=⟨some 13,_,_,_,_,_⟩) rfl (.agg (nC x).toArray) w3 (au (o:=⟨some 13,_,_,_,_,_⟩) 87 (.tmp 5) rfl wo.heap.size rfl 87 _ _ w3 H3.out.1 Tryz.underlying87 rfl hszn2) ?_))
   refine (Ar w3 x HX.out.2 bj).mono ?_
   rintro e w4 ⟨rfl,hb⟩
   have H4:=ah (H3.out.1.below hb H3.out.1.lt)
   have HB4:=ah (HI.out.2.trans (Below.mono (H3.out.2.trans (Below.mono hb H3.out.2.size)) HI.out.2.size))
   clear hb
   dsimp only
   by_cases hc:iD x bj=true
   ·have hok:=HOK.out
    rw [hc,Bool.true_and] at hok
    have HO:=ah hok
    rw [hc]
    have c4:=e6 H4.out
    clear hok
    go_wp2_with fail
    go_roundw
    case rel=>exact ⟨j+1,x.1,by omega,rfl,by go_num,HO.out,HB4.out⟩
    case measure=>simp [intOf];omega
   ·have hc':iD x bj=false:=by simpa using hc
    have e9:jf d=false:=by unfold jf;rw [HOK.out,hc'];rfl
    have HE:=ah e9
    rw [hc']
    clear e9
    go_wp2_with fail
    go_ret
    exact ⟨by rw [HE.out];rfl,HB1.out.trans (Below.mono HB4.out HB1.out.size)⟩
  ·obtain rfl:j=d.2.1.length:=by omega
   rw [List.drop_length] at hok
   have e9:jf d=(bR d.1&&(decide ((d.2.1.length:Int)≤8)&&decide ((d.2.2.length:Int)≤1000))):=by unfold jf;rw [hok];rfl
   have HE:=ah e9
   clear e9 hok
   have c0:wo.cell? ⟨w.heap.size,0,none⟩=some (.string d.1):=(World.cell?_of_block (HI.out.2.block w.heap.size (by have:=HZ.out;omega))).trans HC.out.1
   go_wp2_with fail
   refine (kx d.1 hnm wo).mono ?_
   rintro e w5 ⟨rfl,hb⟩
   have HB5:=ah (HI.out.2.trans (Below.mono hb HI.out.2.size))
   clear hb c0
   dsimp only
   have c1:w5.cell? ⟨w.heap.size,1,none⟩=some (.slice A d.2.1.length cap):=(World.cell?_of_block (HB5.out.block w.heap.size (by have:=HZ.out;omega))).trans HC.out.2.1
   have c2:w5.cell? ⟨w.heap.size,2,none⟩=some (.slice A2 d.2.2.length cap2):=(World.cell?_of_block (HB5.out.block w.heap.size (by have:=HZ.out;omega))).trans HC.out.2.2
   have HF:=ah (HB1.out.trans (Below.mono HB5.out HB1.out.size))
   by_cases hn:bR d.1=true
   ·rw [hn]
    by_cases h8:(d.2.1.length:Int)≤8
    ·by_cases h10:(d.2.2.length:Int)≤1000
     ·rw [hn,decide_eq_true h8,decide_eq_true h10] at HE
      go_wp2_with fail
      go_ret
      exact ⟨by rw [HE.out];rfl,HF.out⟩
     ·rw [hn,decide_eq_true h8,decide_eq_false h10] at HE
      go_wp2_with fail
      go_ret
      exact ⟨by rw [HE.out];rfl,HF.out⟩
    ·rw [hn,decide_eq_false h8] at HE
     go_wp2_with fail
     go_ret
     exact ⟨by rw [HE.out];rfl,HF.out⟩
   ·have hn':bR d.1=false:=by simpa using hn
    rw [hn'] at HE ⊢
    go_wp2_with fail
    go_ret
    exact ⟨by rw [HE.out];rfl,HF.out⟩
end Go.Proofs.YtomnhnmciopiiaaGreat
end
section
namespace Go.Proofs.YtomnhnmciopiiaaGreat
open Go Go.RowKit Go.Maps
set_option maxRecDepth 100000
def zcD:Array Value:=#[.string ⟨#[]⟩,.slice none 0 0,.slice none 0 0]
def ib (k:Int):List Value:=[.int .u8 k]
theorem yU {w:World} {B len cap:Nat} {A:Option Addr} {l:List Nam} (h:de.At w B [.slice A len cap] l):len=l.length∧gd w 43 A l.length cap (l.flatMap nC) :=
 jD (L:=ia) (f:=nC) (by decide) (fun h=>(bl.1 h).1) fQ h
theorem o8 {w:World} {B len cap:Nat} {A:Option Addr} {l:List Int} (h:bZ.At w B [.slice A len cap] l):len=l.length∧gd w 1 A l.length cap (l.flatMap ib) :=
 jD (L:=Lay.int 5 .u8) (f:=ib) (by decide) (fun h=>h.1) (fun k u hu=>by rw [List.mem_singleton.1 hu];rfl) h
theorem fc {α:Type} {t:TypeId} {L:Lay α} {w:World} {B:Nat} {v:Value} {l:List α} (h:(Lay.slice t L).At w B [v] l) {x:α} (hx:x∈l):∃ cs,L.At w B cs x:=by
 obtain ⟨A,cap,_,_,_,_,h4⟩:=h
 obtain ⟨i,hi⟩:=List.getElem?_of_mem hx
 obtain ⟨b,off,_,_,hE⟩:=h4 (by have:=(List.getElem?_eq_some_iff.1 hi).1;omega)
 obtain ⟨cs,_,h5⟩:=hE i x hi
 exact ⟨cs,h5⟩
structure bx (w:World) (B:Nat) (d:Drv) (u1 u2:Value):Prop where
 name:d.1.size≤maxLen
 okn:∀ x∈d.2.1,okN x
 okb:∀ x∈d.2.2,(Lit.int .u8 x).wf=true
 oc:w.ownsRow B 87 43 u1 d.2.1.length (d.2.1.flatMap nC)
 kL:w.ownsRow B 5 1 u2 d.2.2.length (d.2.2.flatMap ib)
theorem bx.at_ {w:World} {B:Nat} {d:Drv} {u1 u2:Value} (h:bx w B d u1 u2) {N:Nat} (hN:w.heap.size≤N):aO w N d u1 u2 :=
 ⟨h.name,di (L:=ia) (f:=nC) (by decide) h.oc _ hN (fun x hx=>bl.2 ⟨rfl,h.okn x hx⟩),di (L:=Lay.int 5 .u8) (f:=ib) (by decide) h.kL _ hN (fun x hx=>⟨rfl,h.okb x hx⟩)⟩
theorem bx.xf {w w':World} {B:Nat} {d:Drv} {u1 u2:Value} (h:bx w B d u1 u2) (hk:∀ g,B≤g→g<w.heap.size→w'.heap[g]?=w.heap[g]?):bx w' B d u1 u2 :=
 ⟨h.name,h.okn,h.okb,ao h.oc fun g hg hl=>hk g (aD h.oc hg).1 hl,ao h.kL fun g hg hl=>hk g (aD h.kL hg).1 hl⟩
theorem bx.lower {w:World} {B B':Nat} {d:Drv} {u1 u2:Value} (h:bx w B d u1 u2) (hB:B'≤B):bx w B' d u1 u2 :=
 ⟨h.name,h.okn,h.okb,bS h.oc fun _ hg=>Nat.le_trans hB (aD h.oc hg).1,bS h.kL fun _ hg=>Nat.le_trans hB (aD h.kL hg).1⟩
theorem bx.nil (w:World) (B:Nat):bx w B (⟨#[]⟩,[],[]) (.slice none 0 0) (.slice none 0 0):=⟨Nat.zero_le _,(fun x hx=>by cases hx),(fun x hx=>by cases hx),World.ownsRow_nil _ _ _ _,World.ownsRow_nil _ _ _ _⟩
theorem bx.form {w:World} {B:Nat} {d:Drv} {u1 u2:Value} (h:bx w B d u1 u2):∃ A1 n1 c1 A2 n2 c2,u1=.slice A1 n1 c1∧u2=.slice A2 n2 c2:=by
 rcases aU h.oc with ⟨e,_⟩ | ⟨g,cap,cur,e,_⟩<;>rcases aU h.kL with ⟨e2,_⟩ | ⟨g2,cap2,cur2,e2,_⟩<;>exact ⟨_,_,_,_,_,_,e,e2⟩
theorem lu:(Tryz.prog.info? 87).map (fun i=>(i.zero,i.size,i.bytes))=some (some (.agg zcN),43,80):=by kernel_rfl
set_option maxHeartbeats 2000000 in
theorem vR (w:World) (d:Drv) (v1 v2:Value) (h:aO w w.heap.size d v1 v2) (hl:d.2.1.length≤1000000) (hl2:d.2.2.length≤1000000) :
  Calls Tryz.prog 72 #[.agg (dC d v1 v2).toArray] w fun e w'=>∃ u1 u2,e=.returned (.agg (dC d u1 u2).toArray)∧bx w' w.heap.size d u1 u2∧Below w.heap.size w w':=by
 obtain ⟨inm,hih,hq0,hq1,hq2⟩:=info_parts lu
 have HJ:=ah (And.intro hih (And.intro hq0 (And.intro hq1 hq2)))
 clear hih hq0 hq1 hq2
 obtain ⟨iu8,hih,hq0,hq1,hq2⟩:=info_parts (show (Tryz.prog.info? 5).map (fun i=>(i.zero,i.size,i.bytes))=some (some (.int .u8 0),1,1) by kernel_rfl)
 have HK:=ah (And.intro hih (And.intro hq0 (And.intro hq1 hq2)))
 clear hih hq0 hq1 hq2
 obtain ⟨A,cap,rfl,_,_,_,_⟩:=ak h.ins
 obtain ⟨A2,cap2,rfl,_,_,_,_⟩:=ak h.rcp
 obtain ⟨w1,hw1⟩:∃ w1,w1=w.alloc (.cells (dC d (.slice A d.2.1.length cap) (.slice A2 d.2.2.length cap2)).toArray 26):=⟨_,rfl⟩
 obtain ⟨w2,hw2⟩:∃ w2,w2=w1.alloc (.cells zcD 26):=⟨_,rfl⟩
 have hb1:Below w.heap.size w w1:=by rw [hw1];exact (Below.refl _ w).alloc (Nat.le_refl _) _
 have hk1:Blk w1 w.heap.size 26 (dC d (.slice A d.2.1.length cap) (.slice A2 d.2.2.length cap2)).toArray:=by rw [hw1];exact Blk.new _ _ _
 have hb2:Below w1.heap.size w1 w2:=by rw [hw2];exact (Below.refl _ w1).alloc (Nat.le_refl _) _
 have hk2:Blk w2 w1.heap.size 26 zcD:=by rw [hw2];exact Blk.new _ _ _
 have hz1:w1.heap.size=w.heap.size+1:=by rw [hw1,size_alloc]
 have hz2:w2.heap.size=w.heap.size+2:=by rw [hw2,size_alloc,hz1]
 have hb:=hb1.trans (Below.mono hb2 hb1.size)
 have hk:=hk1.below hb2 hk1.lt
 have hs1:=(yU (de.alike h.ins fun b hb9=>hb.block b hb9)).2
 have hs2:=(o8 (bZ.alike h.rcp fun b hb9=>hb.block b hb9)).2
 have HC:=ah (And.intro hs1 hs2)
 have H2:=ah (And.intro hb (And.intro hk hk2))
 have HD:=ah h
 have HZ:=ah (And.intro hz1 hz2)
 have HW1:=ah hw1
 have HW2:=ah hw2
 have c1:w2.cell? ⟨w.heap.size,1,none⟩=some (.slice A d.2.1.length cap):=hk.cell 1
 have f1:=hk.frozen 1
 have l1:=hk.lt
 clear hw1 hw2 hb1 hk1 hb2 hk2 hz1 hz2 hb hk hs1 hs2 h
 go_enter Tryz.func72,Tryz.ntmps72
 go_wp2_with (first | ((with_reducible refine ag 1 ?_);refine aa (o:=⟨some 1,_,_,_,_,_⟩) rfl (.pointer (some ⟨w.heap.size,0,none⟩)) w1 (by rw [HW1.out];kernel_rfl) ?_) | ((with_reducible refine ag 2 ?_);refine aa (o:=⟨some 2,_,_,_,_,_⟩) rfl (.pointer (some ⟨w1.heap.size,0,none⟩)) w2 (by rw [HW2.out];kernel_rfl) ?_) | (at_builtin;((with_reducible refine ag 5 ?_);refine aH (o:=⟨some 5,_,_,_,_,_⟩) rfl _ _ 23 rfl w2.heap.size 87 inm _ 43 80 Tryz.underlying23 HJ.out.1 HJ.out.2.1 HJ.out.2.2.1 HJ.out.2.2.2 rfl (by decide) _ 0 [] (World.ownsRow_nil _ _ _ _) A d.2.1.length cap (d.2.1.flatMap nC) HC.out.1 ?hm1 ?hb1 ?hz1 rfl rfl ?_)))
 case hm1=>simp only [maxLen];omega
 case hb1=>omega
 case hz1=>exact Nat.le_refl _
 intro u1 w3 own3 gr3 _
 have own3:w3.ownsRow w2.heap.size 87 43 u1 d.2.1.length (d.2.1.flatMap nC):=by simpa using own3
 obtain ⟨A3,n3,c3,rfl⟩:∃ A n c,u1=.slice A n c:=by
  rcases aU own3 with ⟨e,_⟩ | ⟨g,cap,cur,e,_⟩
  ·exact ⟨_,_,_,e⟩
  ·exact ⟨_,_,_,e⟩
 have hb3:Below w.heap.size w w3:=H2.out.1.grown gr3 H2.out.1.size (fun b hb=>by cases hb)
 have hk3:Blk w3 w.heap.size 26 (dC d (.slice A d.2.1.length cap) (.slice A2 d.2.2.length cap2)).toArray:=(gr3.block _ H2.out.2.1.lt (fun e=>by cases e)).trans H2.out.2.1
 have hr3:Blk w3 w1.heap.size 26 zcD:=(gr3.block _ H2.out.2.2.lt (fun e=>by cases e)).trans H2.out.2.2
 obtain ⟨w4,hw4⟩:∃ w4,w4=w3.setCell ⟨w.heap.size,1,none⟩ (.slice A3 n3 c3):=⟨_,rfl⟩
 have ne1:w.heap.size ≠ w1.heap.size:=by have:=HZ.out;omega
 have hk4:Blk w4 w.heap.size 26 (dC d (.slice A3 n3 c3) (.slice A2 d.2.2.length cap2)).toArray:=by rw [hw4];exact hk3.vZ 1 (.slice A3 n3 c3)
 have hoth:∀ b,b ≠ w.heap.size→w4.heap[b]?=w3.heap[b]?:=fun b hb=>by rw [hw4];exact Below.heap_setCell w3 _ _ b (fun e=>hb e)
 have hr4:Blk w4 w1.heap.size 26 zcD:=(hoth _ ne1.symm).trans hr3
 have hb4:Below w.heap.size w w4:=by rw [hw4];exact hb3.setCell (Nat.le_refl _) _
 have hz4:w4.heap.size=w3.heap.size:=by rw [hw4];simp [World.setCell]
 have hs4:=(o8 (bZ.alike HD.out.rcp fun b hb9=>hb4.block b hb9)).2
 have own4:w4.ownsRow w2.heap.size 87 43 (.slice A3 n3 c3) d.2.1.length (d.2.1.flatMap nC):=ao own3 fun g hg _=>hoth g fun e=>by have:=(aD own3 hg).1;have:=HZ.out;omega
 have H4:=ah (And.intro hb4 (And.intro hk4 (And.intro hr4 (And.intro own4 hs4))))
 have HW4:=ah hw4
 have c1':w3.cell? ⟨w.heap.size,1,none⟩=some (.slice A d.2.1.length cap):=hk3.cell 1
 have f1':=hk3.frozen 1
 have l1':=hk3.lt
 have c2:(w3.setCell ⟨w.heap.size,1,none⟩ (.slice A3 n3 c3)).cell? ⟨w.heap.size,2,none⟩=some (.slice A2 d.2.2.length cap2):=by rw [← hw4];exact hk4.cell 2
 have hs4':gd (w3.setCell ⟨w.heap.size,1,none⟩ (.slice A3 n3 c3)) 1 A2 d.2.2.length cap2 (d.2.2.flatMap ib):=by rw [← hw4];exact hs4
 have HS:=ah hs4'
 clear hk3 hr3 hk4 hr4 hb3 hb4 hs4 hs4' own3 own4 gr3 hoth hw4 c1 f1 l1
 go_wp2_with (at_builtin;((with_reducible refine ag 9 ?_);refine aH (o:=⟨some 9,_,_,_,_,_⟩) rfl _ _ 24 rfl (w3.setCell ⟨w.heap.size,1,none⟩ (.slice A3 n3 c3)).heap.size 5 iu8 _ 1 1 Tryz.underlying24 HK.out.1 HK.out.2.1 HK.out.2.2.1 HK.out.2.2.2 rfl (by decide) _ 0 [] (World.ownsRow_nil _ _ _ _) A2 d.2.2.length cap2 (d.2.2.flatMap ib) HS.out ?hm2 ?hb2 ?hz2 rfl rfl ?_))
 case hm2=>simp only [maxLen];omega
 case hb2=>omega
 case hz2=>exact Nat.le_refl _
 rw [← HW4.out]
 intro u2 w5 own5 gr5 _
 have own5:w5.ownsRow w3.heap.size 5 1 u2 d.2.2.length (d.2.2.flatMap ib):=by simpa using own5
 obtain ⟨A5,n5,c5,rfl⟩:∃ A n c,u2=.slice A n c:=by
  rcases aU own5 with ⟨e,_⟩ | ⟨g,cap,cur,e,_⟩
  ·exact ⟨_,_,_,e⟩
  ·exact ⟨_,_,_,e⟩
 have hb5:Below w.heap.size w w5:=H4.out.1.grown gr5 H4.out.1.size (fun b hb=>by cases hb)
 have hk5:Blk w5 w.heap.size 26 (dC d (.slice A3 n3 c3) (.slice A2 d.2.2.length cap2)).toArray:=(gr5.block _ H4.out.2.1.lt (fun e=>by cases e)).trans H4.out.2.1
 have hr5:Blk w5 w1.heap.size 26 zcD:=(gr5.block _ H4.out.2.2.1.lt (fun e=>by cases e)).trans H4.out.2.2.1
 have own45:w5.ownsRow w2.heap.size 87 43 (.slice A3 n3 c3) d.2.1.length (d.2.1.flatMap nC):=ao H4.out.2.2.2.1 fun g _ hl=>gr5.block g hl (fun e=>by cases e)
 obtain ⟨w6,hw6⟩:∃ w6,w6=w5.setCell ⟨w.heap.size,2,none⟩ (.slice A5 n5 c5):=⟨_,rfl⟩
 have hoth6:∀ b,b ≠ w.heap.size→w6.heap[b]?=w5.heap[b]?:=fun b hb=>by rw [hw6];exact Below.heap_setCell w5 _ _ b (fun e=>hb e)
 have hk6:Blk w6 w.heap.size 26 (dC d (.slice A3 n3 c3) (.slice A5 n5 c5)).toArray:=by rw [hw6];exact hk5.vZ 2 (.slice A5 n5 c5)
 have hr6:Blk w6 w1.heap.size 26 zcD:=(hoth6 _ ne1.symm).trans hr5
 have hb6:Below w.heap.size w w6:=by rw [hw6];exact hb5.setCell (Nat.le_refl _) _
 have own6:w6.ownsRow w2.heap.size 87 43 (.slice A3 n3 c3) d.2.1.length (d.2.1.flatMap nC):=ao own45 fun g hg _=>hoth6 g fun e=>by have:=(aD own45 hg).1;have:=HZ.out;omega
 have own7:w6.ownsRow w3.heap.size 5 1 (.slice A5 n5 c5) d.2.2.length (d.2.2.flatMap ib):=ao own5 fun g hg _=>hoth6 g fun e=>by have:=(aD own5 hg).1;have:=H4.out.1.size;have:=H4.out.2.1.lt;omega
 have H6:=ah (And.intro hb6 (And.intro hk6 (And.intro hr6 (And.intro own6 own7))))
 have HX6:=ah (show Blk (w5.setCell ⟨w.heap.size,2,none⟩ (.slice A5 n5 c5)) w.heap.size 26 (dC d (.slice A3 n3 c3) (.slice A5 n5 c5)).toArray by rw [← hw6];exact hk6)
 have HR6:=ah (show Blk (w5.setCell ⟨w.heap.size,2,none⟩ (.slice A5 n5 c5)) w1.heap.size 26 zcD by rw [← hw6];exact hr6)
 have HW6:=ah hw6
 have c2':w5.cell? ⟨w.heap.size,2,none⟩=some (.slice A2 d.2.2.length cap2):=hk5.cell 2
 have f2':=hk5.frozen 2
 have l2':=hk5.lt
 clear hk5 hr5 hb5 own5 own45 gr5 hk6 hr6 hb6 own6 own7 hoth6 hw6 c1' f1' l1' c2
 go_wp2_with (first | ((with_reducible refine ag 11 ?_);refine aa (o:=⟨some 11,_,_,_,_,_⟩) rfl (.agg (dC d (.slice A3 n3 c3) (.slice A5 n5 c5)).toArray) _ (au (o:=⟨some 11,_,_,_,_,_⟩) 26 (.tmp 1) rfl w.heap.size rfl 26 _ _ _ HX6.out Tryz.underlying26 rfl (by kernel_rfl)) ?_) | (with_reducible refine al (o:=⟨none,_,_,_,_,_⟩) rfl 26 (.tmp 2) (.tmp 11) rfl w1.heap.size zcD (dC d (.slice A3 n3 c3) (.slice A5 n5 c5)).toArray 26 HR6.out ?s1 ?s2 ?s3 ?s4 ?s5 ?s6))
 case s1=>kernel_rfl
 case s2=>rfl
 case s3=>kernel_rfl
 rw [← HW6.out]
 intro w7 hk7 hg7
 have hb7:Below w.heap.size w w7:=H6.out.1.grown hg7 H6.out.1.size (fun b hb=>by injection hb with hb;have:=HZ.out;omega)
 have o1:w7.ownsRow w2.heap.size 87 43 (.slice A3 n3 c3) d.2.1.length (d.2.1.flatMap nC):=ao H6.out.2.2.2.1 fun g hg hl=>hg7.block g hl fun e=>by have e:=Option.some.inj e;have:=(aD H6.out.2.2.2.1 hg).1;have:=HZ.out;omega
 have o2:w7.ownsRow w3.heap.size 5 1 (.slice A5 n5 c5) d.2.2.length (d.2.2.flatMap ib):=ao H6.out.2.2.2.2 fun g hg hl=>hg7.block g hl fun e=>by have e:=Option.some.inj e;have:=(aD H6.out.2.2.2.2 hg).1;have:=H4.out.2.2.1.lt;omega
 have hat:bx w7 w.heap.size d (.slice A3 n3 c3) (.slice A5 n5 c5):=⟨HD.out.name,(fun x hx=>by obtain ⟨cs,h9⟩:=fc HD.out.ins hx;exact (bl.1 h9).2),(fun x hx=>by obtain ⟨cs,h9⟩:=fc HD.out.rcp hx;exact h9.2),bS o1 (fun g hg=>by have:=(aD o1 hg).1;have:=HZ.out;omega),bS o2 (fun g hg=>by have:=(aD o2 hg).1;have:=H4.out.1.size;omega)⟩
 have H7:=ah (And.intro hk7 (And.intro hat hb7))
 clear hk7 hg7 hb7 o1 o2 hat
 go_wp2_with fail
 refine bodyPost_ret (results_cell_row rfl _ _ w1.heap.size 26 (dC d (.slice A3 n3 c3) (.slice A5 n5 c5)).toArray (0,0) _ rfl H7.out.1 Tryz.underlying26 rfl (by kernel_rfl)) rfl ⟨_,_,rfl,H7.out.2.1,H7.out.2.2⟩
end Go.Proofs.YtomnhnmciopiiaaGreat
end
section
namespace Go.Proofs.YtomnhnmciopiiaaGreat
open Go Go.RowKit Go.Maps
set_option maxRecDepth 100000
theorem results_cell_tmp {P:Program} {fn:Func} {p u:Tmp} {ty:TypeId} (h:fn.results=#[.cell p ty,.tmp u]) (tmps:Array Value) (w:World) (g:Nat) (t:TypeId) (cs:Array Value) (fr:Nat×Nat) (d:TypeDesc)
  (hp:tmps.getD p undef=.pointer (some ⟨g,0,none⟩)) (hg:w.heap[g]?=some (.cells cs t fr))
  (hu:P.underlying ty=some d) (hd:(match d with | .struct _ | .array _ _=>true | _=>false)=true) (hi:(P.info? ty).map (·.size)=some cs.size) :
  (results fn tmps).run P w=.ok (.tuple #[.agg cs,tmps.getD u undef]) w:=by
 have hp':tmps[p]?.getD undef=.pointer (some ⟨g,0,none⟩):=by simpa using hp
 simp [results,h,hp',asAddr,run_loadVar_row w g t ty cs fr d hg hu hd hi]
def zcT:Array Value:=(bv (List.replicate 20 0)++[Value.string ⟨#[]⟩,Value.slice none 0 0,Value.slice none 0 0]).toArray
theorem cP:(Tryz.prog.info? 59).map (·.size)=some 23:=by kernel_rfl
theorem dA {x:Itm} {v1 v2:Value} (h:okH x.1):(tC x v1 v2).length=23:=by
 unfold tC
 rw [List.length_append,bvL,show x.1.length=20 from h]
 rfl
theorem jh (x:Itm) {v1 v2:Value} (h1:v1.oneCell'=true) (h2:v2.oneCell'=true):∀ v∈tC x v1 v2,v.oneCell'=true:=by
 intro v hv
 rcases List.mem_append.1 hv with hv | hv
 ·exact bv1 _ v hv
 ·simp only [dC,List.mem_cons,List.not_mem_nil,or_false] at hv
  rcases hv with rfl | rfl | rfl
  ·rfl
  ·exact h1
  ·exact h2
theorem fl {x:Itm} {v1 v2:Value} {w:World} {g:Nat} (_:okH x.1) (hb:Blk w g 59 (tC x v1 v2).toArray):w.rangeAt g 0 (bv x.1):=by
 have h1:=dK hb
 exact cz (c2:=dC x.2 v1 v2) (by simpa [tC] using h1)
theorem fN {x:Itm} {v1 v2:Value} {w:World} {g:Nat} (h:okH x.1) (hb:Blk w g 59 (tC x v1 v2).toArray):w.rangeAt g 20 (dC x.2 v1 v2):=by
 have h1:=dK hb
 have h2:=dZ (c1:=bv x.1) (c2:=dC x.2 v1 v2) (o:=0) (by simpa [tC] using h1)
 rwa [bvL,show x.1.length=20 from h] at h2
theorem aO.alike {w w':World} {B:Nat} {d:Drv} {v1 v2:Value} (h:aO w B d v1 v2) (ha:Alike B w w'):aO w' B d v1 v2:=⟨h.name,de.alike h.ins ha,bZ.alike h.rcp ha⟩
theorem aO.dU {w:World} {B B':Nat} {d:Drv} {v1 v2:Value} (h:aO w B d v1 v2) (hB:B≤B'):aO w B' d v1 v2:=⟨h.name,de.dU h.ins hB,bZ.dU h.rcp hB⟩
theorem uv {l:List Itm} {j:Nat} {x:Itm} {c:Hsh} (hx:l[j]?=some x) (hc:x.1=c) (hn:∀ y∈l.take j,y.1 ≠ c):l.find? (fun x=>decide (x.1=c))=some x:=by
 have hj:=List.getElem?_eq_some_iff.1 hx
 rw [List.find?_eq_some_iff_getElem]
 refine ⟨by simpa using hc,j,hj.1,hj.2,fun i hi=>?_⟩
 have hj1:=hj.1
 have h9:i<l.length:=by omega
 have:l[i]∈l.take j:=List.mem_of_getElem? (i:=i) (by rw [List.getElem?_take_of_lt hi,List.getElem?_eq_getElem h9])
 simpa using hn _ this
def tg (w:World) (l:List Itm) (c:Hsh) (w':World) (e:Ending):Prop:=∃ u1 u2,e=.returned (.tuple #[.agg (dC (((l.find? fun x=>decide (x.1=c)).map (·.2)).getD (⟨#[]⟩,[],[])) u1 u2).toArray,.bool (l.find? fun x=>decide (x.1=c)).isSome])∧bx w' w.heap.size (((l.find? fun x=>decide (x.1=c)).map (·.2)).getD (⟨#[]⟩,[],[])) u1 u2∧Below w.heap.size w w'
set_option maxHeartbeats 4000000 in
theorem yP (w:World) (l:List Itm) (v:Value) (h:bz.At w w.heap.size [v] l) (c:Hsh) (hc:okH c) (hl:∀ x∈l,x.2.2.1.length≤1000000∧x.2.2.2.length≤1000000) :
  Calls Tryz.prog 31 #[v,.agg (bv c).toArray] w fun e w'=>tg w l c w' e:=by
 obtain ⟨A,cap,rfl,hcl,hcm,_,hA⟩:=ak h
 have k9:(l.length:Int)≤9223372036854775807:=by simp only [maxLen] at hcm;omega
 have HA:=ah hA
 obtain ⟨w1,hw1⟩:∃ w1,w1=w.alloc (.cells (bv c).toArray 34):=⟨_,rfl⟩
 obtain ⟨w2,hw2⟩:∃ w2,w2=w1.alloc (.cells zcD 26):=⟨_,rfl⟩
 have hb1:Below w.heap.size w w1:=by rw [hw1];exact (Below.refl _ w).alloc (Nat.le_refl _) _
 have hk1:Blk w1 w.heap.size 34 (bv c).toArray:=by rw [hw1];exact Blk.new _ _ _
 have hb2:Below w1.heap.size w1 w2:=by rw [hw2];exact (Below.refl _ w1).alloc (Nat.le_refl _) _
 have hk2:Blk w2 w1.heap.size 26 zcD:=by rw [hw2];exact Blk.new _ _ _
 have H2:=ah (And.intro (hk1.below hb2 hk1.lt) (And.intro hk2 (hb1.trans (Below.mono hb2 hb1.size))))
 have HZ:=ah (show w.heap.size≤w1.heap.size from hb1.size)
 have HW1:=ah hw1
 have HW2:=ah hw2
 clear hA h hcl hcm hw1 hw2 hb1 hk1 hb2 hk2
 go_enter Tryz.func31,Tryz.ntmps31
 go_wp2_with (first | ((with_reducible refine ag 3 ?_);refine aa (o:=⟨some 3,_,_,_,_,_⟩) rfl (.pointer (some ⟨w.heap.size,0,none⟩)) w1 (by rw [HW1.out];kernel_rfl) ?_) | ((with_reducible refine ag 4 ?_);refine aa (o:=⟨some 4,_,_,_,_,_⟩) rfl (.pointer (some ⟨w1.heap.size,0,none⟩)) w2 (by rw [HW2.out];kernel_rfl) ?_))
 go_loopw [10] (fun y wr=>∃ j:Nat,j≤l.length∧y=.int .i64 (j:Int)∧(∀ x∈l.take j,x.1 ≠ c)∧Blk wr w.heap.size 34 (bv c).toArray∧Blk wr w1.heap.size 26 zcD∧Below w.heap.size w wr) (fun y _=>l.length-(intOf y).toNat)
 case atStart=>exact ⟨0,by omega,rfl,(fun x hx=>by simp at hx),H2.out.1,H2.out.2.1,H2.out.2.2⟩
 case round =>
  obtain ⟨wo,rfl⟩:∃ wo,wo=wr:=⟨_,rfl⟩
  obtain ⟨j,hj,rfl,hnot,hk,hr,hb⟩:=hrel
  have HI:=ah (And.intro hnot (And.intro hk (And.intro hr hb)))
  clear hnot hk hr hb
  have j0:(0:Int)≤(j:Int):=by omega
  by_cases hj2:j<l.length
  ·have j1:(j:Int)<(l.length:Int):=by omega
   obtain ⟨x,hx⟩:∃ x,l[j]?=some x:=⟨_,List.getElem?_eq_getElem hj2⟩
   obtain ⟨b,off,rfl,hlb,hE⟩:=HA.out (by omega)
   obtain ⟨cs,hr,hatx⟩:=hE j x hx
   obtain ⟨q1,q2,rfl,hxo,hxd⟩:=bT.1 hatx
   obtain ⟨B1,k1,rfl,_⟩:=ak hxd.ins
   obtain ⟨B2,k2,rfl,_⟩:=ak hxd.rcp
   obtain ⟨q1,hq1⟩:∃ q1,q1=Value.slice B1 x.2.2.1.length k1:=⟨_,rfl⟩
   obtain ⟨q2,hq2⟩:∃ q2,q2=Value.slice B2 x.2.2.2.length k2:=⟨_,rfl⟩
   have hone1:q1.oneCell'=true∧q2.oneCell'=true:=by rw [hq1,hq2];exact ⟨rfl,rfl⟩
   rw [← hq1,← hq2] at hr hatx
   rw [← hq1,← hq2] at hxd
   have hbnd:=hl x (List.mem_of_getElem? hx)
   have HX:=ah (And.intro (a8 hr (HI.out.2.2.2.block b (by omega))) (And.intro hxo hxd))
   have HXX:=ah hx
   have hszt2:(Tryz.prog.info? 59).map (·.size)=some (tC x q1 q2).toArray.size:=by rw [show (tC x q1 q2).toArray.size=23 by rw [List.size_toArray];exact dA hxo];kernel_rfl
   have hszt:(Tryz.prog.info? 59).map (·.size)=some (tC x q1 q2).length:=by simpa using hszt2
   have hszzt:zcT.size=(tC x q1 q2).toArray.size:=by rw [show (tC x q1 q2).toArray.size=23 by rw [List.size_toArray];exact dA hxo];kernel_rfl
   have honet:(tC x q1 q2).toArray.all (·.oneCell')=true:=all_oneCell_toArray (jh x hone1.1 hone1.2)
   have hszx:(Tryz.prog.info? 34).map (·.size)=some (bv x.1).length:=by have:=eR hxo;simpa using this
   clear hx hE hr hatx hxo hxd hq1 hq2
   by_cases hxc:x.1=c
   ·have hd:=decide_eq_true hxc
    go_wp2_with (first | ((with_reducible refine ag 12 ?_);(refine aa (o:=⟨some 12,_,_,_,_,_⟩) rfl (.pointer (some ⟨b,off+(j:Int).toNat*23,none⟩)) wo (aJ (o:=⟨some 12,_,_,_,_,_⟩) 22 59 (.tmp 8) (.tmp 10) rfl b off l.length cap (j:Int) .i64 rfl rfl ⟨j0,j1⟩ 23 Tryz.underlying22 cP wo) ?_;rw [show off+(j:Int).toNat*23=off+j*23 by omega])) | ((with_reducible refine ag 13 ?_);(refine aa (o:=⟨some 13,_,_,_,_,_⟩) rfl (.agg (tC x q1 q2).toArray) wo (ai (o:=⟨some 13,_,_,_,_,_⟩) 59 (.tmp 12) rfl b (off+j*23) rfl (tC x q1 q2) _ wo HX.out.1 Tryz.underlying59 rfl hszt) ?_)) | ((with_reducible refine ag 7 ?_);((with_reducible refine bn (o1:=⟨some 7,_,_,_,_,_⟩) (o2:=⟨none,_,_,_,_,_⟩) rfl rfl 59 (.tmp 7) (.tmp 13) ?_ zcT (tC x q1 q2).toArray ?_ hszt2 ?_ honet ?_ ?_ ?_);rfl;kernel_rfl;exact hszzt;rfl;rfl;intro w3 hmm hbb;have H3:=ah (And.intro hmm hbb);clear hmm hbb;simp only [Act.put,List.setIfInBounds_toArray,List.set_cons_zero,List.set_cons_succ])) | ((with_reducible refine ag 15 ?_);(refine aa (o:=⟨some 15,_,_,_,_,_⟩) rfl (.agg (bv x.1).toArray) w3 (ai (o:=⟨some 15,_,_,_,_,_⟩) 34 (.tmp 14) rfl wo.heap.size (0) rfl (bv x.1) _ w3 (fl HX.out.2.1 H3.out.1) Tryz.underlying34 rfl hszx) ?_)) | ((with_reducible refine ag 16 ?_);(refine aa (o:=⟨some 16,_,_,_,_,_⟩) rfl (.agg (bv c).toArray) w3 (au (o:=⟨some 16,_,_,_,_,_⟩) 34 (.tmp 3) rfl w.heap.size rfl 34 _ _ w3 ((HI.out.2.1.below H3.out.2 HI.out.2.1.lt)) Tryz.underlying34 rfl (eR hc)) ?_)) | ((with_reducible refine ag 17 ?_);(refine aa (o:=⟨some 17,_,_,_,_,_⟩) rfl (.bool true) w3 (bU (o:=⟨some 17,_,_,_,_,_⟩) .eql 34 (.tmp 15) (.tmp 16) _ rfl (bv x.1).toArray (bv c).toArray rfl rfl (by kernel_rfl) _ (fun W=>by have h:=dQ x.1 c HX.out.2.1 hc W;rw [hd] at h;exact h) w3) ?_)) | ((with_reducible refine ag 19 ?_);(refine aa (o:=⟨some 19,_,_,_,_,_⟩) rfl (.agg (dC x.2 q1 q2).toArray) w3 (ai (o:=⟨some 19,_,_,_,_,_⟩) 26 (.tmp 18) rfl wo.heap.size (20) rfl (dC x.2 q1 q2) _ w3 (fN HX.out.2.1 H3.out.1) Tryz.underlying26 rfl (by kernel_rfl)) ?_)))
    have hat3:aO w3 w3.heap.size x.2 q1 q2:=(HX.out.2.2.alike fun b hb=>(H3.out.2.block b (by have:=HI.out.2.2.2.size;omega)).trans (HI.out.2.2.2.block b hb)).dU (by have:=HI.out.2.2.2.size;have:=H3.out.2.size;omega)
    refine (vR w3 x.2 q1 q2 hat3 hbnd.1 hbnd.2).mono ?_
    rintro e w4 ⟨p1,p2,rfl,hown4,hb4⟩
    dsimp only
    have h43:=H3.out.2.trans (Below.mono hb4 H3.out.2.size)
    have H4:=ah (And.intro hown4 (And.intro (HI.out.2.2.1.below h43 HI.out.2.2.1.lt) (HI.out.2.2.2.trans (Below.mono h43 HI.out.2.2.2.size))))
    have hfd:l.find? (fun x=>decide (x.1=c))=some x:=uv HXX.out hxc HI.out.1
    have HFD:=ah hfd
    have HS:=ah (Nat.le_trans HI.out.2.2.2.size H3.out.2.size)
    obtain ⟨P1,m1,g1,P2,m2,g2,rfl,rfl⟩:=bx.form hown4
    clear hfd hown4 hb4 hat3 h43
    go_wp2_with ((with_reducible refine bI 4 20 ?_);(with_reducible refine al (o:=⟨none,_,_,_,_,_⟩) rfl 26 (.tmp 4) (.tmp 20) rfl w1.heap.size zcD (dC x.2 (.slice P1 m1 g1) (.slice P2 m2 g2)).toArray 26 H4.out.2.1 ?_ ?_ ?_ ?_ ?_ ?_);kernel_rfl;rfl;kernel_rfl;rfl;rfl;intro w5 hk5 hg5;have hb5:Below w.heap.size w w5:=(H4.out.2.2.grown hg5 H4.out.2.2.size (fun b hb=>(by injection hb with hb;have:=HZ.out;omega)));have ho5:bx w5 w.heap.size x.2 (.slice P1 m1 g1) (.slice P2 m2 g2):=((H4.out.1.xf (fun g hg hl=>hg5.block g hl (fun e=>(by have e:=Option.some.inj e;have:=H3.out.2.size;have:=HI.out.2.2.1.lt;omega)))).lower HS.out);have H5:=ah (And.intro hk5 (And.intro ho5 hb5));clear hk5 hg5 hb5 ho5;simp only [Act.put])
    refine bodyPost_ret (results_cell_tmp rfl _ _ w1.heap.size 26 (dC x.2 (.slice P1 m1 g1) (.slice P2 m2 g2)).toArray (0,0) _ rfl H5.out.1 Tryz.underlying26 rfl (by kernel_rfl)) rfl ?_
    unfold tg
    rw [HFD.out]
    exact ⟨_,_,rfl,H5.out.2.1,H5.out.2.2⟩
   ·have hd:=decide_eq_false hxc
    have HD:=ah hd
    have HNX:=ah hxc
    clear hxc
    go_wp2_with (first | ((with_reducible refine ag 12 ?_);(refine aa (o:=⟨some 12,_,_,_,_,_⟩) rfl (.pointer (some ⟨b,off+(j:Int).toNat*23,none⟩)) wo (aJ (o:=⟨some 12,_,_,_,_,_⟩) 22 59 (.tmp 8) (.tmp 10) rfl b off l.length cap (j:Int) .i64 rfl rfl ⟨j0,j1⟩ 23 Tryz.underlying22 cP wo) ?_;rw [show off+(j:Int).toNat*23=off+j*23 by omega])) | ((with_reducible refine ag 13 ?_);(refine aa (o:=⟨some 13,_,_,_,_,_⟩) rfl (.agg (tC x q1 q2).toArray) wo (ai (o:=⟨some 13,_,_,_,_,_⟩) 59 (.tmp 12) rfl b (off+j*23) rfl (tC x q1 q2) _ wo HX.out.1 Tryz.underlying59 rfl hszt) ?_)) | ((with_reducible refine ag 7 ?_);((with_reducible refine bn (o1:=⟨some 7,_,_,_,_,_⟩) (o2:=⟨none,_,_,_,_,_⟩) rfl rfl 59 (.tmp 7) (.tmp 13) ?_ zcT (tC x q1 q2).toArray ?_ hszt2 ?_ honet ?_ ?_ ?_);rfl;kernel_rfl;exact hszzt;rfl;rfl;intro w3 hmm hbb;have H3:=ah (And.intro hmm hbb);clear hmm hbb;simp only [Act.put,List.setIfInBounds_toArray,List.set_cons_zero,List.set_cons_succ])) | ((with_reducible refine ag 15 ?_);(refine aa (o:=⟨some 15,_,_,_,_,_⟩) rfl (.agg (bv x.1).toArray) w3 (ai (o:=⟨some 15,_,_,_,_,_⟩) 34 (.tmp 14) rfl wo.heap.size (0) rfl (bv x.1) _ w3 (fl HX.out.2.1 H3.out.1) Tryz.underlying34 rfl hszx) ?_)) | ((with_reducible refine ag 16 ?_);(refine aa (o:=⟨some 16,_,_,_,_,_⟩) rfl (.agg (bv c).toArray) w3 (au (o:=⟨some 16,_,_,_,_,_⟩) 34 (.tmp 3) rfl w.heap.size rfl 34 _ _ w3 ((HI.out.2.1.below H3.out.2 HI.out.2.1.lt)) Tryz.underlying34 rfl (eR hc)) ?_)) | ((with_reducible refine ag 17 ?_);(refine aa (o:=⟨some 17,_,_,_,_,_⟩) rfl (.bool false) w3 (bU (o:=⟨some 17,_,_,_,_,_⟩) .eql 34 (.tmp 15) (.tmp 16) _ rfl (bv x.1).toArray (bv c).toArray rfl rfl (by kernel_rfl) _ (fun W=>by have h:=dQ x.1 c HX.out.2.1 hc W;rw [HD.out] at h;exact h) w3) ?_)))
    go_roundw
    case rel=>exact ⟨j+1,by omega,by go_num,(fun y hy=>by rw [List.take_add_one,HXX.out] at hy;rcases List.mem_append.1 hy with hy | hy;exact HI.out.1 y hy;rw [show y=x from by simpa using hy];exact HNX.out),HI.out.2.1.below H3.out.2 HI.out.2.1.lt,HI.out.2.2.1.below H3.out.2 HI.out.2.2.1.lt,HI.out.2.2.2.trans (Below.mono H3.out.2 HI.out.2.2.2.size)⟩
    case measure=>simp [intOf];omega
  ·obtain rfl:j=l.length:=by omega
   have hnn:l.find? (fun x=>decide (x.1=c))=none:=List.find?_eq_none.2 fun x hx=>by simpa using HI.out.1 x (by rw [List.take_length];exact hx)
   have HNN:=ah hnn
   clear hnn
   go_wp2_with (first | ((with_reducible refine ag 22 ?_);(refine aa (o:=⟨some 22,_,_,_,_,_⟩) rfl (.agg zcD) wo (by kernel_rfl) ?_)) | ((with_reducible refine bI 4 22 ?_);(with_reducible refine al (o:=⟨none,_,_,_,_,_⟩) rfl 26 (.tmp 4) (.tmp 22) rfl w1.heap.size zcD zcD 26 HI.out.2.2.1 ?_ ?_ ?_ ?_ ?_ ?_);kernel_rfl;rfl;kernel_rfl;rfl;rfl;intro w5 hk5 hg5;have hb5:Below w.heap.size w w5:=(HI.out.2.2.2.grown hg5 HI.out.2.2.2.size (fun b hb=>(by injection hb with hb;have:=HZ.out;omega)));have H5:=ah (And.intro hk5 hb5);clear hk5 hg5 hb5;simp only [Act.put,List.setIfInBounds_toArray,List.set_cons_zero,List.set_cons_succ]))
   refine bodyPost_ret (results_cell_tmp rfl _ _ w1.heap.size 26 zcD (0,0) _ rfl H5.out.1 Tryz.underlying26 rfl (by kernel_rfl)) rfl ?_
   unfold tg
   rw [HNN.out]
   exact ⟨.slice none 0 0,.slice none 0 0,rfl,bx.nil _ _,H5.out.2⟩
end Go.Proofs.YtomnhnmciopiiaaGreat
end
section
namespace Go.Proofs.YtomnhnmciopiiaaGreat
open Go Go.RowKit
set_option maxRecDepth 100000
def lk (w:World) (B b:Nat) (p u:Value) (xs:List Value):Prop :=
 B≤b∧(p=.pointer none∨p=.pointer (some ⟨b,0,none⟩))∧Blk w b 288 #[p,u]∧w.ownsRow B 5 1 u xs.length xs
theorem lk.is {w:World} {B b:Nat} {p u:Value} {xs:List Value} (h:lk w B b p u xs):Lib.IsBuilder 288 5 B b xs w:=by
 obtain ⟨h1,h2,h3,h4⟩:=h
 have h5:=ew h4 h3 (by decide)
 rcases h2 with rfl | rfl
 ·exact .inl ⟨h1,u,h3,h4,h5⟩
 ·exact .inr ⟨h1,u,h3,h4,h5⟩
theorem oU:(Tryz.prog.info? 5).map (fun i=>(i.zero,i.size,i.bytes))=some (some (.int .u8 0),1,1):=by kernel_rfl
theorem pQ:∃ j,Tryz.prog.info? 288=some j∧j.size=2:=by
 obtain ⟨j,hj,e⟩:=Option.map_eq_some_iff.1 (show (Tryz.prog.info? 288).map (·.size)=some 2 by kernel_rfl)
 exact ⟨j,hj,e⟩
theorem wk (w:World) (B b:Nat) (p u:Value) (xs:List Value) (h:lk w B b p u xs) :
  Calls Tryz.prog 204 #[.pointer (some ⟨b,0,none⟩)] w fun e w'=>e=.returned (.tuple #[])∧lk w' B b (.pointer (some ⟨b,0,none⟩)) u xs∧Below B w w':=by
 obtain ⟨hB,hp,hb,ho⟩:=h
 obtain ⟨j,hj,hjs⟩:=pQ
 have c0:w.cell? ⟨b,0,none⟩=some p:=hb.cell 0
 rcases hp with rfl | rfl
 ·have hsh:w.shape? b=some (288,2):=by simp [World.shape?,show w.heap[b]?=_ from hb]
  have hfz:=hb.frozen 0
  have HB:=ah (And.intro hb ho)
  clear hb ho
  go_enter Tryz.func204,Tryz.ntmps204
  go_wp2_with fail
  rw [Lib.run_to_unsafe w ⟨b,0,none⟩ Tryz.underlying286 Tryz.underlying322 hj (by omega) hsh (Nat.zero_lt_succ 1),Result.andThen,Oper.upon_value]
  go_wp2_with fail
  rw [run_callFunc_extern Tryz.func215 (by kernel_rfl) (by kernel_rfl) (by kernel_rfl) (e:=Extern.AbiNoEscape.same) (by kernel_rfl),Lib.run_noEscape]
  rw [Result.andThen,Oper.upon_value]
  go_wp2_with fail
  rw [Lib.run_from_unsafe w ⟨b,0,none⟩ Tryz.underlying322 Tryz.underlying286 hj hsh (by kernel_rfl),Result.andThen,Oper.upon_value]
  go_wp2_with fail
  go_end0
  refine ⟨rfl,⟨hB,.inr rfl,HB.out.1.vZ 0 _,?_⟩,(Below.refl B w).setCell (p:=⟨b,0,none⟩) hB _⟩
  exact ao HB.out.2 fun g hg _=>Below.heap_setCell w _ _ g fun e=>ew HB.out.2 HB.out.1 (by decide) (by rw [hg];exact congrArg some e)
 ·have HB:=ah (And.intro hb ho)
  clear hb ho
  go_enter Tryz.func204,Tryz.ntmps204
  go_wp2_with fail
  rw [Lib.run_neq_ptr_same w _ Tryz.underlying286 hj]
  go_wp2_with fail
  go_end0
  exact ⟨rfl,⟨hB,.inr rfl,HB.out.1,HB.out.2⟩,Below.refl B _⟩
set_option maxHeartbeats 2000000 in
theorem sr (w:World) (B b:Nat) (p u:Value) (xs:List Value) (c:Int) (h:lk w B b p u xs) (hl:xs.length≤1000000) (hBw:B≤w.heap.size) :
  Calls Tryz.prog 203 #[.pointer (some ⟨b,0,none⟩),.int .u8 c] w fun e w'=>e=.returned .nilIface∧(∃ u',lk w' B b (.pointer (some ⟨b,0,none⟩)) u' (xs++[.int .u8 c]))∧Below B w w':=by
 obtain ⟨iu8,hih,hq0,hq1,hq2⟩:=info_parts oU
 have HK:=ah (And.intro hih (And.intro hq0 (And.intro hq1 hq2)))
 clear hih hq0 hq1 hq2
 go_enter Tryz.func203,Tryz.ntmps203
 go_wp2_with fail
 refine (wk w B b p u xs h).mono ?_
 rintro e w1 ⟨rfl,hk,hb1⟩
 dsimp only
 have c1:w1.cell? ⟨b,1,none⟩=some u:=hk.2.2.1.cell 1
 have HH:=ah (And.intro hk hb1)
 clear hk hb1 h
 obtain ⟨w2,hw2⟩:∃ w2,w2=w1.alloc (.cells #[.int .u8 c] 5):=⟨_,rfl⟩
 have hk2:Blk w2 w1.heap.size 5 #[.int .u8 c]:=by rw [hw2];exact Blk.new _ _ _
 have hb2:Below w1.heap.size w1 w2:=by rw [hw2];exact (Below.refl _ w1).alloc (Nat.le_refl _) _
 have HA:=ah (And.intro (show gd w2 1 (some ⟨w1.heap.size,0,none⟩) 1 1 [.int .u8 c] from qb hk2 (fun v hv=>by rw [List.mem_singleton.1 hv];rfl)) (And.intro (ao HH.out.1.2.2.2 fun g _ hl=>hb2.block g hl) hb2))
 rw [hw2] at HA
 clear hk2 hb2 hw2
 go_wp2_with (at_builtin;((with_reducible refine ag 14 ?_);refine aH (o:=⟨some 14,_,_,_,_,_⟩) rfl _ _ 24 rfl B 5 iu8 _ 1 1 Tryz.underlying24 HK.out.1 HK.out.2.1 HK.out.2.2.1 HK.out.2.2.2 rfl (by decide) _ xs.length xs HA.out.2.1 (some ⟨w1.heap.size,0,none⟩) 1 1 [.int .u8 c] HA.out.1 ?hm1 ?hb1 ?hz1 rfl rfl ?_))
 case hm1=>simp only [maxLen];omega
 case hb1=>omega
 case hz1=>have:=HH.out.2.size;have:=HA.out.2.2.size;omega
 intro u3 w3 own3 gr3 _
 have hlt:b<w1.heap.size:=HH.out.1.2.2.1.lt
 have hne:=ew HH.out.1.2.2.2 HH.out.1.2.2.1 (by decide)
 have hk3:Blk w3 b 288 #[.pointer (some ⟨b,0,none⟩),u]:=(gr3.block _ (by have:=HA.out.2.2.size;omega) (fun e=>hne e.symm)).trans ((HA.out.2.2.block b hlt).trans HH.out.1.2.2.1)
 have hb3:Below B w w3:=(HH.out.2.trans (Below.mono HA.out.2.2 (by have:=HH.out.2.size;omega))).grown gr3 (by have:=HH.out.2.size;have:=HA.out.2.2.size;omega) (fun k hk=>(aD HH.out.1.2.2.2 hk).1)
 have d1:w3.cell? ⟨b,1,none⟩=some u:=hk3.cell 1
 have f1:=hk3.frozen 1
 have l3:=hk3.lt
 obtain ⟨A3,n3,c3,rfl⟩:∃ A n c,u3=.slice A n c:=by
  rcases aU own3 with ⟨e,_⟩ | ⟨g,cap,cur,e,_⟩
  ·exact ⟨_,_,_,e⟩
  ·exact ⟨_,_,_,e⟩
 have H3:=ah (And.intro hk3 (And.intro hb3 own3))
 clear hk3 hb3 own3 gr3 hne c1
 go_wp2_with fail
 go_ret
 refine ⟨rfl,⟨_,HH.out.1.1,.inr rfl,H3.out.1.vZ 1 _,?_⟩,H3.out.2.1.setCell (p:=⟨b,1,none⟩) HH.out.1.1 _⟩
 have ho:=H3.out.2.2
 rw [List.length_append]
 exact ao ho fun g hg _=>Below.heap_setCell w3 _ _ g fun e=>ew ho H3.out.1 (by decide) (by rw [hg];exact congrArg some e)
end Go.Proofs.YtomnhnmciopiiaaGreat
end
section
namespace Go.Proofs.YtomnhnmciopiiaaGreat
open Go.Shelf
def Tryz.me:Go.Shelf.Ren:=⟨fun | 169=>185 | n=>n,fun | 70=>286 | 9=>9 | 0=>0 | 72=>288 | 37=>24 | 127=>310 | 3=>3 | 5=>5 | n=>n,fun | n=>n⟩
theorem Tryz.z7:Go.Proofs.Lays.n169 Tryz.prog Tryz.me:={
 mixed:=by kernel_rfl
 f169:=Tryz.func185.trans (congrArg some (by kernel_rfl))
 t0:=Tryz.underlying0
 a0:=Tryz.isAgg0
 z0:=Tryz.sizeOf0
 v0:=Tryz.zeroValue0
 t3:=Tryz.underlying3
 a3:=Tryz.isAgg3
 z3:=Tryz.sizeOf3
 v3:=Tryz.zeroValue3
 t9:=Tryz.underlying9
 a9:=Tryz.isAgg9
 z9:=Tryz.sizeOf9
 v9:=Tryz.zeroValue9
 t37:=Tryz.underlying24
 a37:=Tryz.isAgg24
 z37:=Tryz.sizeOf24
 v37:=Tryz.zeroValue24
 t70:=Tryz.underlying286
 a70:=Tryz.isAgg286
 z70:=Tryz.sizeOf286
 v70:=Tryz.zeroValue286
 t72:=Tryz.underlying288
 a72:=Tryz.isAgg288
 z72:=Tryz.sizeOf288
 v72:=Tryz.zeroValue288
 t127:=Tryz.underlying310
 a127:=Tryz.isAgg310
 z127:=Tryz.sizeOf310
 v127:=Tryz.zeroValue310 }
theorem Tryz.kB:Builder.Extra Tryz.prog Tryz.me:={
 sizeBuilder:=by kernel_rfl
 liesBuilder:=by kernel_rfl
 t5:=Tryz.underlying5
 a5:=Tryz.isAgg5
 z5:=Tryz.sizeOf5
 v5:=Tryz.zeroValue5
 infoByte:=by kernel_rfl
 cellsByte:=by kernel_rfl
 sizeByte:=by kernel_rfl
 neB5:=by decide }
open Go.RowKit in
theorem Tryz.Builder_String_any (B b:Nat) (l:List UInt8) (w:World) (h:Lib.IsBuilder 288 5 B b (Lib.byteCells l) w) (hBw:B≤w.heap.size) :
  Calls Tryz.prog 185 #[.pointer (some ⟨b,0,none⟩)] w fun e w'=>e=.returned (.string ⟨l.toArray⟩)∧Below B w w':=Any.Builder_String_any Tryz.z7 Tryz.kB B b l w h hBw
def Tryz.mc:Go.Shelf.Ren:=⟨fun | 156=>161 | 165=>183 | 166=>184 | 169=>185 | 240=>204 | 241=>205 | 276=>215 | 277=>216 | n=>n,fun | 31=>60 | 9=>9 | 3=>3 | 4=>4 | 0=>0 | 20=>20 | 72=>288 | 76=>292 | 70=>286 | 37=>24 | 75=>291 | 127=>310 | 164=>322 | 5=>5 | 80=>294 | n=>n,fun | n=>n⟩
theorem Tryz.AP:Go.Proofs.Lays.n156 Tryz.prog Tryz.mc:={
 mixed:=by kernel_rfl
 f156:=Tryz.func161.trans (congrArg some (by kernel_rfl))
 f165:=Tryz.func183.trans (congrArg some (by kernel_rfl))
 f166:=Tryz.func184.trans (congrArg some (by kernel_rfl))
 f169:=Tryz.func185.trans (congrArg some (by kernel_rfl))
 f240:=Tryz.func204.trans (congrArg some (by kernel_rfl))
 f241:=Tryz.func205.trans (congrArg some (by kernel_rfl))
 f276:=Tryz.func215.trans (congrArg some (by kernel_rfl))
 f277:=Tryz.func216.trans (congrArg some (by kernel_rfl))
 t0:=Tryz.underlying0
 a0:=Tryz.isAgg0
 z0:=Tryz.sizeOf0
 v0:=Tryz.zeroValue0
 t3:=Tryz.underlying3
 a3:=Tryz.isAgg3
 z3:=Tryz.sizeOf3
 v3:=Tryz.zeroValue3
 t4:=Tryz.underlying4
 a4:=Tryz.isAgg4
 z4:=Tryz.sizeOf4
 v4:=Tryz.zeroValue4
 t9:=Tryz.underlying9
 a9:=Tryz.isAgg9
 z9:=Tryz.sizeOf9
 v9:=Tryz.zeroValue9
 t20:=Tryz.underlying20
 a20:=Tryz.isAgg20
 z20:=Tryz.sizeOf20
 v20:=Tryz.zeroValue20
 t31:=Tryz.underlying60
 a31:=Tryz.isAgg60
 z31:=Tryz.sizeOf60
 v31:=Tryz.zeroValue60
 t37:=Tryz.underlying24
 a37:=Tryz.isAgg24
 z37:=Tryz.sizeOf24
 v37:=Tryz.zeroValue24
 t70:=Tryz.underlying286
 a70:=Tryz.isAgg286
 z70:=Tryz.sizeOf286
 v70:=Tryz.zeroValue286
 t72:=Tryz.underlying288
 a72:=Tryz.isAgg288
 z72:=Tryz.sizeOf288
 v72:=Tryz.zeroValue288
 t75:=Tryz.underlying291
 a75:=Tryz.isAgg291
 z75:=Tryz.sizeOf291
 v75:=Tryz.zeroValue291
 t76:=Tryz.underlying292
 a76:=Tryz.isAgg292
 z76:=Tryz.sizeOf292
 v76:=Tryz.zeroValue292
 t127:=Tryz.underlying310
 a127:=Tryz.isAgg310
 z127:=Tryz.sizeOf310
 v127:=Tryz.zeroValue310
 t164:=Tryz.underlying322
 a164:=Tryz.isAgg322
 z164:=Tryz.sizeOf322
 v164:=Tryz.zeroValue322 }
theorem Tryz.kq:Builder.Extra Tryz.prog Tryz.mc:={
 sizeBuilder:=by kernel_rfl
 liesBuilder:=by kernel_rfl
 t5:=Tryz.underlying5
 a5:=Tryz.isAgg5
 z5:=Tryz.sizeOf5
 v5:=Tryz.zeroValue5
 infoByte:=by kernel_rfl
 cellsByte:=by kernel_rfl
 sizeByte:=by kernel_rfl
 neB5:=by decide }
open Go.RowKit in
theorem Tryz.strings_Join (bk o c:Nat) (xs:List ByteArray) (sep:ByteArray) (w:World) (hcells:∀ (j:Nat) x,xs[j]?=some x→w.cell? ⟨bk,o+j,none⟩=some (.string x)) (hbk:bk<w.heap.size) (hN:xs.length≤140737488355328) (hcap:xs.length≤c) (hlen:(Lib.join (xs.map (·.data.toList)) sep.data.toList).length≤140737488355328) :
  Calls Tryz.prog 161 #[.slice (some ⟨bk,o,none⟩) xs.length c,.string sep] w fun e w'=>e=.returned (.string ⟨(Lib.join (xs.map (·.data.toList)) sep.data.toList).toArray⟩)∧Below w.heap.size w w':=Any.strings_Join Tryz.AP Tryz.kq bk o c xs sep w hcells hbk hN hcap hlen
end Go.Proofs.YtomnhnmciopiiaaGreat
end
section
namespace Go.Proofs.YtomnhnmciopiiaaGreat
open Go Go.RowKit
set_option maxRecDepth 100000
def yw:List UInt8:=[48,49,50,51,52,53,54,55,56,57,97,98,99,100,102,103,104,105,106,107,108,109,110,112,113,114,115,118,119,120,121,122]
def cK (k:Nat):UInt8:=yw.getD k 0
def drain:Nat→Nat→Nat→List UInt8→Nat×Nat×List UInt8
 | 0,h,m,o=>(h,m,o)
 | f+1,h,m,o=>if 5≤m then drain f (h / 32) (m-5) (o++[cK (h % 32)]) else (h,m,o)
def fR (s:Nat×Nat×List UInt8) (x:UInt8):Nat×Nat×List UInt8:=drain 2 (s.1+x.toNat*2 ^ s.2.1) (s.2.1+8) s.2.2
def aQ (h:List UInt8):List UInt8:=(h.foldl fR (0,0,[])).2.2
theorem o0:∀ (f h m:Nat) (o:List UInt8),(drain f h m o).2.2.length≤o.length+f
 | 0,h,m,o=>by simp [drain]
 | f+1,h,m,o=>by
  rw [drain]
  split
  ·refine Nat.le_trans (o0 f _ _ _) ?_
   rw [List.length_append,List.length_singleton]
   omega
  ·dsimp only
   omega
theorem dr (h:List UInt8):(aQ h).length≤2*h.length:=by
 have key:∀ (h:List UInt8) (s:Nat×Nat×List UInt8),(h.foldl fR s).2.2.length≤s.2.2.length+2*h.length:=by
  intro h
  induction h with
  | nil=>intro s;simp
  | cons x h ih =>
   intro s
   refine Nat.le_trans (ih _) ?_
   have:=o0 2 (s.1+x.toNat*2 ^ s.2.1) (s.2.1+8) s.2.2
   rw [List.length_cons]
   unfold fR
   omega
 have:=key h (0,0,[])
 unfold aQ
 simpa using this
theorem wg (held many x:Nat) (h1:held<2 ^ many) (h2:many<5) (h3:x≤255):bits .or .u32 (held:Int) ((x:Int)*2 ^ many % 4294967296)=((held+x*2 ^ many:Nat):Int):=by
 have h4:(2:Nat) ^ many≤16:=by
  have:many=0∨many=1∨many=2∨many=3∨many=4:=by omega
  rcases this with rfl | rfl | rfl | rfl | rfl<;>decide
 have h5:x*2 ^ many≤255*16:=Nat.mul_le_mul h3 h4
 have e1:(x:Int)*2 ^ many=((x*2 ^ many:Nat):Int):=by rw [Int.natCast_mul,Int.natCast_pow];rfl
 have e2:((2:Int) ^ many)=((2 ^ many:Nat):Int):=by rw [Int.natCast_pow];rfl
 have e3:(x*2 ^ many) % 2 ^ many=0:=Nat.mul_mod_left _ _
 rw [e1]
 generalize x*2 ^ many=n at h5 e3 ⊢
 rw [show (n:Int) % 4294967296=(n:Int) by omega,bits_join_low .u32 32 (by decide) wraps_u32 many _ _ (by omega) (by rw [e2];omega) (by omega) (by omega) (by rw [e2,← Int.natCast_emod,e3];rfl) (by omega)]
 omega
theorem yy (hd:Nat) (h:hd<4294967296):bits .and .u32 (hd:Int) 31=((hd % 32:Nat):Int):=by
 have h1:=bits_mask .u32 32 (by decide) wraps_u32 5 (by decide) (hd:Int) (by omega) (by omega)
 rw [show (2:Int) ^ 5-1=31 by decide] at h1
 rw [h1]
 omega
def kl:ByteArray:=⟨#[48,49,50,51,52,53,54,55,56,57,97,98,99,100,102,103,104,105,106,107,108,109,110,112,113,114,115,118,119,120,121,122]⟩
theorem zn (k:Nat) (hk:k<32) (t:TypeId) (ht:Tryz.prog.underlying t=some .string) (w:World):(Instr.index t (.string kl) (.int .u32 (k:Int))).run Tryz.prog w=.ok (.int .u8 ((cK k).toNat:Int)) w:=by
 have h:=run_index_string (P:=Tryz.prog) w t kl .u32 (k:Int) ht
 have h3:∀ k:Fin 32,(kl[k.val]'(k.isLt)).toNat=(cK k.val).toNat:=by decide
 have h2:0≤(k:Int)∧(k:Int)<(kl.size:Int):=⟨by omega,by rw [show kl.size=32 from rfl];omega⟩
 rw [h,dif_pos h2]
 have h4:=h3 ⟨k,hk⟩
 dsimp only at h4
 have h5:(kl[(k:Int).toNat]'(by rw [Int.toNat_natCast];exact hk)).toNat=(cK k).toNat:=h4
 rw [h5]
theorem l7 (w:World) (h:Hsh) (hh:okH h) :
  Calls Tryz.prog 181 #[.agg (bv h).toArray] w fun e w'=>e=.returned (.string ⟨(aQ h).toArray⟩)∧Below w.heap.size w w':=by
 have hsz:=hsz hh
 obtain ⟨w1,hw1⟩:∃ w1,w1=w.alloc (.cells (bv h).toArray 34):=⟨_,rfl⟩
 obtain ⟨w2,hw2⟩:∃ w2,w2=w1.alloc (.cells #[.pointer none,.slice none 0 0] 288):=⟨_,rfl⟩
 have hb1:Below w.heap.size w w1:=by rw [hw1];exact (Below.refl _ w).alloc (Nat.le_refl _) _
 have hk1:Blk w1 w.heap.size 34 (bv h).toArray:=by rw [hw1];exact Blk.new _ _ _
 have hb2:Below w1.heap.size w1 w2:=by rw [hw2];exact (Below.refl _ w1).alloc (Nat.le_refl _) _
 have hk2:Blk w2 w1.heap.size 288 #[.pointer none,.slice none 0 0]:=by rw [hw2];exact Blk.new _ _ _
 have hbd:lk w2 w1.heap.size w1.heap.size (.pointer none) (.slice none 0 0) []:=⟨Nat.le_refl _,.inl rfl,hk2,World.ownsRow_nil _ _ _ _⟩
 have H2:=ah (And.intro (hk1.below hb2 hk1.lt) (And.intro hbd (hb1.trans (Below.mono hb2 hb1.size))))
 have hz:=ah hb1.size
 have HW1:=ah hw1
 have HW2:=ah hw2
 have HSZ:=ah hsz
 clear hsz hb1 hk1 hb2 hk2 hbd hw1 hw2
 go_enter Tryz.func181,Tryz.ntmps181
 go_wp2_with (first | ((with_reducible refine ag 1 ?_);refine aa (o:=⟨some 1,_,_,_,_,_⟩) rfl (.pointer (some ⟨w.heap.size,0,none⟩)) w1 (by rw [HW1.out];kernel_rfl) ?_) | ((with_reducible refine ag 3 ?_);refine aa (o:=⟨some 3,_,_,_,_,_⟩) rfl (.pointer (some ⟨w1.heap.size,0,none⟩)) w2 (by rw [HW2.out];kernel_rfl) ?_) | ((with_reducible refine ag 8 ?_);refine aa (o:=⟨some 8,_,_,_,_,_⟩) rfl (.agg (bv h).toArray) w2 (au (o:=⟨some 8,_,_,_,_,_⟩) 34 (.tmp 1) rfl w.heap.size rfl 34 _ _ w2 H2.out.1 Tryz.underlying34 rfl HSZ.out) ?_))
 go_loopw [4,5,9] (fun x4 x5 x9 wr=>∃ (j held many:Nat) (out:List UInt8) (p u:Value),j≤20∧x9=.int .i64 (j:Int)∧x4=.int .u32 (held:Int)∧x5=.int .u32 (many:Int)∧(h.take j).foldl fR (0,0,[])=(held,many,out)∧held<2 ^ many∧many<5∧out.length≤2*j∧lk wr w1.heap.size w1.heap.size p u (Lib.byteCells out)∧Below w1.heap.size w2 wr) (fun _ _ x9 _=>20-(intOf x9).toNat)
 case atStart=>exact ⟨0,0,0,[],_,_,by omega,rfl,rfl,rfl,rfl,by decide,by decide,by decide,H2.out.2.1,Below.refl _ _⟩
 case round =>
  obtain ⟨wo,rfl⟩:∃ wo,wo=wr:=⟨_,rfl⟩
  obtain ⟨j,held,many,out,p,u,hj,rfl,rfl,rfl,hfo,hhe,hma,hol,hbd,hb⟩:=hrel
  have HI:=ah (And.intro hfo (And.intro hbd hb))
  clear hfo hbd hb
  have j0:(0:Int)≤(j:Int):=by omega
  by_cases hj2:j<20
  ·have j1:(j:Int)<20:=by omega
   obtain ⟨x,hx⟩:∃ x,h[j]?=some x:=⟨_,List.getElem?_eq_getElem (by rw [show h.length=20 from hh];exact hj2)⟩
   have HXX:=ah hx
   have hv:=BH h j (by rw [show h.length=20 from hh];exact hj2)
   have hxd:h.getD j 0=x:=by rw [List.getD_eq_getElem?_getD,hx];rfl
   rw [hxd] at hv
   have hidx:=oz (P:=Tryz.prog) 34 5 20 .u8 Tryz.underlying34 Tryz.underlying5 (by kernel_rfl) (bv h).toArray j hj2 _ hv
   clear hx hv hxd
   have x0:(0:Int)≤(x.toNat:Int):=by omega
   have x1:(x.toNat:Int)≤255:=by have:=x.toNat_lt;omega
   obtain ⟨hd,hhd⟩:∃ hd,hd=held+x.toNat*2 ^ many:=⟨_,rfl⟩
   have hor:=wg held many x.toNat hhe hma (by omega)
   rw [← hhd] at hor
   obtain ⟨D,hD⟩:∃ D,D=drain 2 hd (many+8) out:=⟨_,rfl⟩
   have hstep:(h.take (j+1)).foldl fR (0,0,[])=D:=by
    rw [List.take_add_one,HXX.out,List.foldl_append,HI.out.1,hD,hhd]
    rfl
   have hlt:hd<2 ^ (many+8):=by
    have h4:x.toNat<256:=by omega
    have h5:x.toNat*2 ^ many≤255*2 ^ many:=Nat.mul_le_mul_right _ (by omega)
    rw [hhd,Nat.pow_add]
    omega
   have HS:=ah (And.intro hstep (And.intro hD hlt))
   clear hstep hD hlt hhd
   go_wp2_with fail
   go_loopw [4,5] (fun x4 x5 wr=>∃ (f hd mn:Nat) (o:List UInt8) (p u:Value),x4=.int .u32 (hd:Int)∧x5=.int .u32 (mn:Int)∧drain f hd mn o=D∧hd<2 ^ mn∧mn≤5*f+4∧mn≤12∧o.length+f≤2*j+2∧lk wr w1.heap.size w1.heap.size p u (Lib.byteCells o)∧Below w1.heap.size w2 wr) (fun _ x5 _=>(intOf x5).toNat)
   case atStart=>exact ⟨2,hd,many+8,out,p,u,rfl,by go_num,HS.out.2.1.symm,HS.out.2.2,by omega,by omega,by omega,HI.out.2.1,HI.out.2.2⟩
   case round =>
    obtain ⟨wi,rfl⟩:∃ wi,wi=wr:=⟨_,rfl⟩
    obtain ⟨f,hd2,mn,o,p2,u2,rfl,rfl,hdr,hlt2,hmf,hm12,hof,hbd2,hb2⟩:=hrel
    have HJ:=ah (And.intro hdr (And.intro hbd2 hb2))
    clear hdr hbd2 hb2
    have h32:hd2<4294967296:=Nat.lt_of_lt_of_le hlt2 (Nat.le_trans (Nat.pow_le_pow_right (by decide) hm12) (by decide))
    by_cases hm5:5≤mn
    ·obtain ⟨f,rfl⟩:∃ f',f=f'+1:=⟨f-1,by omega⟩
     have hand:=yy hd2 h32
     obtain ⟨k,hk⟩:∃ k,k=hd2 % 32:=⟨_,rfl⟩
     rw [← hk] at hand
     have hk32:k<32:=by omega
     have hix:=fun W=>zn k hk32 9 Tryz.underlying9 W
     unfold kl at hix
     have hdr2:drain f (hd2 / 32) (mn-5) (o++[cK k])=D:=by
      have:=HJ.out.1
      rw [drain,if_pos hm5,← hk] at this
      exact this
     have hlt3:hd2 / 32<2 ^ (mn-5):=by
      rw [Nat.div_lt_iff_lt_mul (by decide),show (32:Nat)=2 ^ 5 from rfl,← Nat.pow_add,show mn-5+5=mn by omega]
      exact hlt2
     have HR:=ah (And.intro hdr2 hlt3)
     clear hdr2 hlt3 hk
     go_wp2_with fail
     refine (sr wi w1.heap.size w1.heap.size p2 u2 (Lib.byteCells o) _ HJ.out.2.1 (by simp [Lib.byteCells];omega) (Nat.le_of_lt HJ.out.2.1.2.2.1.lt)).mono ?_
     rintro e w5 ⟨rfl,⟨u5,hbd5⟩,hb5⟩
     dsimp only
     have hbc:Lib.byteCells o++[Value.int .u8 ((cK k).toNat:Int)]=Lib.byteCells (o++[cK k]):=by simp [Lib.byteCells]
     rw [hbc] at hbd5
     have H5:=ah (And.intro hbd5 (HJ.out.2.2.trans hb5))
     clear hbd5 hb5 hbc
     go_wp2_with fail
     go_roundw
     case rel=>exact ⟨f,hd2 / 32,mn-5,o++[cK k],_,u5,by go_num,by go_num,HR.out.1,HR.out.2,by omega,by omega,by rw [List.length_append,List.length_singleton];omega,H5.out.1,H5.out.2⟩
     case measure=>simp [intOf];omega
    ·have hf:drain f hd2 mn o=(hd2,mn,o):=by
      cases f with
      | zero=>rfl
      | succ f=>rw [drain,if_neg hm5]
     have HF:=ah (hf.symm.trans HJ.out.1)
     clear hf
     go_wp2_with fail
     go_roundw
     case rel=>exact ⟨j+1,hd2,mn,o,p2,u2,by omega,by go_num,rfl,rfl,HS.out.1.trans HF.out.symm,hlt2,by omega,by omega,HJ.out.2.1,HJ.out.2.2⟩
     case measure=>simp [intOf];omega
  ·obtain rfl:j=20:=by omega
   have e9:aQ h=out:=by
    unfold aQ
    rw [← List.take_of_length_le (l:=h) (i:=20) (by rw [show h.length=20 from hh];exact Nat.le_refl _),HI.out.1]
   have HE:=ah e9
   clear e9
   go_wp2_with fail
   refine (Tryz.Builder_String_any w1.heap.size w1.heap.size out wo HI.out.2.1.is (by have:=HI.out.2.1.2.2.1.lt;omega)).mono ?_
   rintro e w5 ⟨rfl,hb5⟩
   dsimp only
   have H5:=ah (H2.out.2.2.trans (Below.mono (HI.out.2.2.trans hb5) hz.out))
   go_wp2_with fail
   go_ret
   exact ⟨by rw [HE.out];rfl,H5.out⟩
end Go.Proofs.YtomnhnmciopiiaaGreat
end
section
namespace Go.Proofs.YtomnhnmciopiiaaGreat.Fre
open Go Go.RowKit
class cV (X:World→World→Prop):Prop where
 refl:∀ w,X w w
 trans:∀ a b c,X a b→X b c→X a c
 drew:∀ w,X w w.drew
def Ext (X:World→World→Prop) (w w':World):Prop:=X w w'
theorem Ext.refl {X:World→World→Prop} [cV X] (w:World):Ext X w w:=cV.refl (X:=X) w
theorem Ext.trans {X:World→World→Prop} [cV X] {a b c:World} (h:Ext X a b) (k:Ext X b c):Ext X a c:=cV.trans (X:=X) a b c h k
theorem Ext.drew {X:World→World→Prop} [cV X] (w:World):Ext X w w.drew:=cV.drew (X:=X) w
abbrev Made:=Tmp→Option (Value→World→Prop)
section
variable {P:Program} {ops:Array Oper} {md:Region.Mode} {F:Made} {w0:World} {X:World→World→Prop} [cV X]
def stays (X:World→World→Prop) (F:Made):Prop:=∀ t V,F t=some V→∀ u w w',V u w→Ext X w w'→V u w'
def uP (X:World→World→Prop) (P:Program) (v:Value) (w:World):Result Next→Prop
 | .ok (.value u) w'=>w'=w∧u=v
 | .ok .skip w'=>w'=w∧v=undef
 | .ok (.enter f args) w'=>w'=w∧Calls P f args w (fun e w''=>e=.returned v∧Ext X w w'')
 | _=>False
def pG (_:Made) (_:Option Tmp) (_:World) (_:Value):Prop:=True
def uL (X:World→World→Prop) (P:Program) (F:Made) (d:Option Tmp) (V:Value→World→Prop) (w:World):Result Next→Prop
 | .ok (.value u) w'=>Ext X w w'∧V u w'∧pG F d w u
 | .ok (.enter f args) w'=>w'=w∧Calls P f args w (fun e w''=>∃ u,e=.returned u∧Ext X w w''∧V u w''∧pG F d w u)
 | _=>False
def qn (X:World→World→Prop) (P:Program) (F:Made) (d:Option Tmp) (V?:Option (Value→World→Prop)) (v:Value) (w:World) (r:Result Next):Prop :=
 match V? with
 | some V=>v=undef∧uL X P F d V w r
 | none=>uP X P v w r
def fF (F:Made) (a b:Act):Prop:=a.defers=b.defers∧a.tmps.size=b.tmps.size∧∀ t,F t=none→a.tmps[t]?=b.tmps[t]?
def Holds (F:Made) (l:List Tmp) (b:Act) (w:World):Prop:=∀ t∈l,∀ V,F t=some V→∃ u,b.tmps[t]?=some u∧V u w
def kQ (X:World→World→Prop) (P:Program) (ops:Array Oper) (F:Made) (w0:World) (o:Oper) (v:Value) (a:Act):Prop :=
 ∀ b w,Ext X w0 w→fF F b a→Holds F (o.looksAt ops) b w →
  (Region.wanted o (yielded ops b.tmps)=true→qn X P F o.dst (o.dst.bind F) v w ((execOp b.eval o).run P w)) ∧
  (Region.wanted o (yielded ops b.tmps)=false→v=undef∧o.dst.bind F=none)
theorem ed (a:Act) (d:Tmp) (x:Value) (t:Tmp) (h:t ≠ d):(a.put (some d) x).tmps[t]?=a.tmps[t]?:=by
 simp only [Act.put]
 rw [Array.getElem?_setIfInBounds_ne (Ne.symm h)]
theorem size_put (a:Act) (dst:Option Tmp) (x:Value):(a.put dst x).tmps.size=a.tmps.size:=by cases dst<;>simp [Act.put]
theorem eo (a:Act) (dst:Option Tmp) (x:Value):(a.put dst x).defers=a.defers:=by cases dst<;>rfl
theorem dM (a:Act) (d:Tmp) (x:Value):(a.put (some d) x).tmps[d]?=if d<a.tmps.size then some x else none:=by
 simp only [Act.put,Array.getElem?_setIfInBounds,if_true]
theorem fF.put {a b:Act} (h:fF F a b) (dst:Option Tmp) (x:Value):fF F (a.put dst x) (b.put dst x):=by
 refine ⟨by rw [eo,eo,h.1],by rw [size_put,size_put,h.2.1],fun t ht=>?_⟩
 cases dst with
 | none=>exact h.2.2 t ht
 | some d =>
  by_cases e:t=d
  ·subst e
   rw [dM,dM,h.2.1]
  ·rw [ed _ _ _ _ e,ed _ _ _ _ e]
   exact h.2.2 t ht
theorem Holds.put {l:List Tmp} {b:Act} {w:World} (dst:Option Tmp) (x:Value) (hl:∀ d,dst=some d→d ∉ l):Holds F l (b.put dst x) w↔Holds F l b w:=by
 unfold Holds
 constructor
 ·intro h t ht V hV
  obtain ⟨u,hu,hv⟩:=h t ht V hV
  refine ⟨u,?_,hv⟩
  cases dst with
  | none=>exact hu
  | some d=>rwa [ed _ _ _ _ (fun e=>hl d rfl (by rw [← e];exact ht))] at hu
 ·intro h t ht V hV
  obtain ⟨u,hu,hv⟩:=h t ht V hV
  refine ⟨u,?_,hv⟩
  cases dst with
  | none=>exact hu
  | some d=>rw [ed _ _ _ _ (fun e=>hl d rfl (by rw [← e];exact ht))];exact hu
omit [cV X] in
theorem kQ.Be {o:Oper} (hs:∀ cs b,o.op ≠ .select cs b) {v:Value} {a:Act} {dst:Option Tmp} {x:Value} (hd:∀ d,dst=some d→d ∉ o.looksAt ops) (h:kQ X P ops F w0 o v (a.put dst x)):kQ X P ops F w0 o v a:=by
 intro b w hw hb hh
 have h2:=h (b.put dst x) w hw (hb.put dst x) ((Holds.put dst x hd).2 hh)
 rwa [wanted_put o b dst x hd,execOp_put o hs b dst x hd] at h2
omit [cV X] in
theorem kQ.put {o:Oper} (hs:∀ cs b,o.op ≠ .select cs b) {v:Value} {a:Act} {dst:Option Tmp} {x:Value} (hd:∀ d,dst=some d→d ∉ o.looksAt ops) (h:kQ X P ops F w0 o v a):kQ X P ops F w0 o v (a.put dst x):=by
 cases dst with
 | none=>exact h
 | some d =>
  intro b w hw hb hh
  have hsame:fF F (b.put (some d) (a.tmps.getD d undef)) a:=by
   refine ⟨by rw [eo,hb.1,eo],by rw [size_put,hb.2.1,size_put],fun t ht=>?_⟩
   by_cases e:t=d
   ·subst e
    rw [dM,hb.2.1,size_put]
    split
    ·rename_i hlt;simp [hlt]
    ·rename_i hlt;rw [Array.getElem?_eq_none (Nat.le_of_not_lt hlt)]
   ·rw [ed _ _ _ _ e,hb.2.2 t ht,ed _ _ _ _ e]
  have h2:=h (b.put (some d) (a.tmps.getD d undef)) w hw hsame ((Holds.put (some d) _ hd).2 hh)
  rwa [wanted_put o b (some d) _ hd,execOp_put o hs b (some d) _ hd] at h2
def iH (X:World→World→Prop) (P:Program) (ops:Array Oper) (F:Made) (w0:World) (i:Nat) (K:Act→Prop) (a:Act):Prop :=
 match ops[i]? with
 | none=>K a
 | some o=>∃ v,kQ X P ops F w0 o v a∧K (a.put o.dst v)
omit [cV X] in
theorem na {i:Nat} {a:Act} {K K':Act→Prop} (h:∀ a,K a→K' a) (hh:iH X P ops F w0 i K a):iH X P ops F w0 i K' a:=by
 unfold iH at *
 cases ho:ops[i]? with
 | none=>simp only [ho] at hh;exact h _ hh
 | some o =>
  simp only [ho] at hh
  obtain ⟨v,h1,h2⟩:=hh
  exact ⟨v,h1,h _ h2⟩
omit [cV X] in
theorem pz {j:Nat} {oi oj:Oper} {v:Value} (hj:ops[j]?=some oj) (hap:oi.apart ops oj=true)
  (hsi:∀ cs b,oi.op ≠ .select cs b) (hsj:∀ cs b,oj.op ≠ .select cs b) {K:Act→Prop} {a:Act}
  (hy:kQ X P ops F w0 oi v a) (h:iH X P ops F w0 j K (a.put oi.dst v)) :
  iH X P ops F w0 j (fun a'=>kQ X P ops F w0 oi v a'∧K (a'.put oi.dst v)) a:=by
 obtain ⟨h1,h2,h3⟩:=Oper.apart_spec hap
 unfold iH at *
 simp only [hj] at *
 obtain ⟨u,hu,hk⟩:=h
 exact ⟨u,hu.Be hsj h1,hy.put hsi h3,by rw [← Act.put_comm a v u h2];exact hk⟩
def l4 (X:World→World→Prop) (P:Program) (md:Region.Mode) (ops:Array Oper) (F:Made) (w0:World) (n:Nat) (L:Array Bool→Act→Prop):Nat→Array Bool→Act→Prop
 | 0,d,a=>L d a
 | f+1,d,a=>Region.ready md ops d ≠ []∧∀ i∈Region.ready md ops d,i<n∧iH X P ops F w0 i (l4 X P md ops F w0 n L f (d.setIfInBounds i true)) a
omit [cV X] in
theorem ss {n i:Nat} {oi:Oper} {v:Value} {L:Array Bool→Act→Prop} (hi:ops[i]?=some oi) (hsel:∀ (j:Nat) (o:Oper) cs b,ops[j]?=some o→o.op ≠ .select cs b)
  (hs:Region.sinkB md ops n=true) (hc:Region.chainB md ops n=true) (hn:n<ops.size) (hin:i<n) (hdone:∀ d a,L d a→∀ j∈Region.ready md ops d,n≤j) (f:Nat) :
  ∀ (d:Array Bool) (a:Act),HeadInv md ops n d →
   (∀ j oj,ops[j]?=some oj→j ≠ i→d.getD j true=false→(∀ e∈oj.after,Region.binds md e=true→e.on ≠ i)→oi.apart ops oj=true) →
   i∈Region.ready md ops d→kQ X P ops F w0 oi v a →
   l4 X P md ops F w0 n L f (d.setIfInBounds i true) (a.put oi.dst v)→l4 X P md ops F w0 n L (f+1) d a:=by
 have own:∀ (K:Act→Prop) (a:Act),kQ X P ops F w0 oi v a→K (a.put oi.dst v)→iH X P ops F w0 i K a:=by
  intro K a hy hk
  unfold iH
  simp only [hi]
  exact ⟨v,hy,hk⟩
 induction f with
 | zero =>
  intro d a inv _ hr hy H
  refine ⟨List.ne_nil_of_mem hr,fun j hj=>?_⟩
  have hjn:=sI hs hc hn inv hin (mem_ready.1 hr).1 hj
  refine ⟨hjn,?_⟩
  rcases Nat.decEq j i with hji | hji
  ·exact absurd (hdone _ _ H j (ready_mono hj hji)) (by omega)
  ·subst hji
   exact own _ _ hy H
 | succ f ih =>
  intro d a inv hfree hr hy H
  refine ⟨List.ne_nil_of_mem hr,fun j hj=>?_⟩
  have hjn:=sI hs hc hn inv hin (mem_ready.1 hr).1 hj
  refine ⟨hjn,?_⟩
  rcases Nat.decEq j i with hji | hji
  ·obtain ⟨hjun,oj,hoj,hall⟩:=mem_ready.1 hj
   have hnot:∀ e∈oj.after,Region.binds md e=true→e.on ≠ i:=by
    intro e he hb heq
    have h1:=hall e he hb
    rw [heq,getD_both (mem_ready.1 hr).1] at h1
    cases h1
   have hstep:=pz hoj (hfree j oj hoj hji hjun hnot) (fun cs b=>hsel i oi cs b hi) (fun cs b=>hsel j oj cs b hoj) hy (H.2 j (ready_mono hj hji)).2
   refine na (fun a' h3=>ih (d.setIfInBounds j true) a' (inv.set hj hjn) ?_ (ready_mono hr (Ne.symm hji)) h3.1 ?_) hstep
   ·intro k ok hk hki hunk hno
    refine hfree k ok hk hki ?_ hno
    rcases Nat.decEq j k with hjk | hjk
    ·rwa [getD_set_ne true hjk] at hunk
    ·subst hjk
     exact hjun
   ·rw [Array.setIfInBounds_comm _ _ hji]
    exact h3.2
  ·subst hji
   exact own _ _ hy H
def bN (X:World→World→Prop) (P:Program) (ops:Array Oper) (F:Made) (w0:World) (Q:Act→Prop):List Oper→Act→Prop
 | [],a=>Q a
 | o :: rest,a=>∃ v,kQ X P ops F w0 o v a∧bN X P ops F w0 Q rest (a.put o.dst v)
omit [cV X] in
theorem pd {n g:Nat} {Lq:Act→Prop} (hsel:Region.noSelect ops=true) (hs:Region.sinkB md ops n=true) (hc:Region.chainB md ops n=true) (hn:n<ops.size) :
  ∀ (l:List Oper) (k:Nat) (d:Array Bool) (a:Act),(∀ j,j<l.length→l[j]?=ops[k+j]?)→k+l.length=n→HeadInv md ops n d→(∀ i,i<k→d.getD i false=true) →
  Region.lexHead md ops g l.length k d=true→bN X P ops F w0 Lq l a →
  l4 X P md ops F w0 n (fun d' a'=>(Region.seqB md ops g n d'=true∧∀ i,i<n→d'.getD i false=true)∧Lq a') l.length d a
 | [],k,d,a,_,hk,_,hd,hB,h=>by
  obtain rfl:k=n:=by simpa using hk
  exact ⟨⟨by simpa [Region.lexHead] using hB,hd⟩,h⟩
 | o :: l,k,d,a,hl,hk,inv,hd,hB,h=>by
  have h0:ops[k]?=some o:=by simpa using (hl 0 (by simp)).symm
  simp only [List.length_cons,Region.lexHead,Bool.and_eq_true] at hB
  obtain ⟨⟨hr,hf⟩,hB'⟩:=hB
  have hkn:k<n:=by simp only [List.length_cons] at hk;omega
  have hr':k∈Region.ready md ops d:=by simpa using hr
  obtain ⟨v,hy,hK⟩:=h
  refine ss h0 (Region.noSelect_spec hsel) hs hc hn hkn (fun d' a' hL=>seqB_ready hL.1.1) l.length d a inv (Region.free_spec h0 hf) hr' hy ?_
  refine pd hsel hs hc hn l (k+1) _ _ (fun j hj=>?_) (by simp only [List.length_cons] at hk;omega) (inv.set hr' hkn) (fun i hi=>?_) hB' hK
  ·have:=hl (j+1) (by simp;omega)
   simpa [Nat.add_assoc,Nat.add_comm 1 j] using this
  ·by_cases e:k=i
   ·subst e
    have:k<d.size:=by rw [inv.size];omega
    simp [this]
   ·rw [getD_set_ne false e]
    exact hd i (by omega)
def pa (md:Region.Mode) (ops:Array Oper) (keys:List Tmp) (n:Nat):Bool :=
 (List.range n).all fun j=>match ops[j]? with
  | none=>true
  | some o=>(o.looksAt ops).all fun t=>!keys.contains t||(List.range n).any fun i=>(ops[i]?).bind (·.dst) == some t&&Region.waitsFor md ops j i
def iO (ops:Array Oper) (keys:List Tmp) (n:Nat):Bool:=keys.all fun t=>(List.range n).any fun i=>(ops[i]?).bind (·.dst) == some t
def Sim (X:World→World→Prop) (ops:Array Oper) (F:Made) (w0:World) (d:Array Bool) (a b:Act) (w:World):Prop :=
 Ext X w0 w∧fF F b a∧∀ i o t V,ops[i]?=some o→d.getD i false=true→o.dst=some t→F t=some V→∃ u,b.tmps[t]?=some u∧V u w
theorem ir {n g:Nat} {keys:List Tmp} (hF:stays X F) (hkeys:∀ t V,F t=some V→t∈keys) (hmade:pa md ops keys n=true) (hsz:∀ t∈keys,∀ a:Act,∀ b:Act,fF F b a→True)
  {L:Array Bool→Act→Prop} {Q':Exit→Act→World→Prop} {size:Nat} (hrange:∀ t V,F t=some V→t<size)
  (hL:∀ d a b w,b.tmps.size=size→Sim X ops F w0 d a b w→L d a→wpAny P md ops Q' g d b w) :
  ∀ (f:Nat) (d:Array Bool) (a b:Act) (w:World),b.tmps.size=size→HeadInv md ops n d→Sim X ops F w0 d a b w→l4 X P md ops F w0 n L f d a→wpAny P md ops Q' (f+g) d b w
 | 0,d,a,b,w,hb,_,hs,h=>by
  rw [Nat.zero_add]
  exact hL _ _ _ _ hb hs h
 | f+1,d,a,b,w,hb,inv,hs,h=>by
  rw [Nat.add_right_comm]
  refine ⟨fun he=>absurd he h.1,fun i hi=>?_⟩
  obtain ⟨hin,hop⟩:=h.2 i hi
  obtain ⟨hun,oi,hoi,hall⟩:=mem_ready.1 hi
  obtain ⟨hw,hsame,hV⟩:=hs
  unfold iH at hop
  simp only [hoi] at hop
  obtain ⟨v,hdo,hk⟩:=hop
  have hhold:Holds F (oi.looksAt ops) b w:=by
   intro t ht V hFt
   have h1:=List.all_eq_true.1 hmade i (List.mem_range.2 hin)
   simp only [hoi] at h1
   have h2:=List.all_eq_true.1 h1 t ht
   have hk2:keys.contains t=true:=by simpa using hkeys t V hFt
   simp only [hk2,Bool.not_true,Bool.false_or] at h2
   obtain ⟨j,_,hj2⟩:=List.any_eq_true.1 h2
   simp only [Bool.and_eq_true,beq_iff_eq] at hj2
   obtain ⟨hj3,hj4⟩:=hj2
   obtain ⟨oi',hoi',e,he,hbd,hon⟩:=Region.waitsFor_spec hj4
   obtain rfl:oi'=oi:=Option.some.inj (hoi'.symm.trans hoi)
   cases hoj:ops[j]? with
   | none=>simp [hoj] at hj3
   | some oj =>
    have hdst:oj.dst=some t:=by simpa [hoj] using hj3
    exact (hV j oj t V hoj (by have:=hall e he hbd;rwa [hon] at this) hdst hFt)
  obtain ⟨hyes,hno⟩:=hdo b w hw hsame hhold
  have next:∀ (x:Value) (w':World),Ext X w w'→(∀ t V,oi.dst=some t→F t=some V→V x w'∧pG F oi.dst w x)→(oi.dst.bind F=none→x=v) →
    wpAny P md ops Q' (f+g) (d.setIfInBounds i true) (b.put oi.dst x) w':=by
   intro x w' hx hVx hxv
   refine ir hF hkeys hmade hsz hrange hL f _ (a.put oi.dst v) _ w' (by rw [size_put];exact hb) (inv.set hi hin) ⟨hw.trans hx,?_,?_⟩ hk
   ·refine ⟨by rw [eo,eo,hsame.1],by rw [size_put,size_put,hsame.2.1],fun t ht=>?_⟩
    cases hd:oi.dst with
    | none=>exact hsame.2.2 t ht
    | some dd =>
     by_cases e:t=dd
     ·subst e
      rw [hxv (by simp [hd,ht]),dM,dM,hsame.2.1]
     ·rw [ed _ _ _ _ e,ed _ _ _ _ e]
      exact hsame.2.2 t ht
   ·
    have at_new:∀ t V,oi.dst=some t→F t=some V→(b.put oi.dst x).tmps[t]?=some x:=by
     intro t V e hFt
     rw [e,dM,if_pos (by rw [hb];exact hrange t V hFt)]
    have at_old:∀ t,oi.dst ≠ some t→(b.put oi.dst x).tmps[t]?=b.tmps[t]?:=by
     intro t e
     cases hd:oi.dst with
     | none=>rfl
     | some dd=>exact ed _ _ _ _ (fun e3=>e (by rw [hd,e3]))
    have was:∀ j oj t V,ops[j]?=some oj→(d.setIfInBounds i true).getD j false=true→oj.dst=some t→F t=some V→oi.dst ≠ some t→d.getD j false=true:=by
     intro j oj t V hoj hlj hdj hFt e
     have hji:j ≠ i:=by
      intro e2
      subst e2
      obtain rfl:oj=oi:=Option.some.inj (hoj.symm.trans hoi)
      exact e hdj
     rwa [getD_set_ne false (Ne.symm hji)] at hlj
    intro j oj t V hoj hlj hdj hFt
    by_cases e:oi.dst=some t
    ·exact ⟨x,at_new t V e hFt,(hVx t V e hFt).1⟩
    ·obtain ⟨u,hu,hVu⟩:=hV j oj t V hoj (was j oj t V hoj hlj hdj hFt e) hdj hFt
     exact ⟨u,by rw [at_old t e];exact hu,hF t V hFt u w w' hVu hx⟩
  unfold wpOp
  simp only [hoi]
  by_cases hwt:Region.wanted oi (yielded ops b.tmps)=true
  ·rw [if_pos hwt]
   refine .inl ?_
   have hm:=hyes hwt
   unfold Oper.wp
   generalize (execOp b.eval oi).run P w=r at hm
   cases hbind:oi.dst.bind F with
   | none =>
    simp only [qn,hbind] at hm
    have hVx:∀ (x:Value) (w':World) t V,oi.dst=some t→F t=some V→V x w'∧pG F oi.dst w x:=by
     intro x w' t V h1 h2
     simp [h1,h2] at hbind
    cases r with
    | halt x w'=>exact hm.elim
    | ok nx w' =>
     cases nx<;>simp only [uP] at hm
     case value u =>
      obtain ⟨rfl,rfl⟩:=hm
      exact next _ _ (Ext.refl _) (hVx _ _) (fun _=>rfl)
     case skip =>
      obtain ⟨rfl,rfl⟩:=hm
      exact next _ _ (Ext.refl _) (hVx _ _) (fun _=>rfl)
     case enter fn args =>
      obtain ⟨rfl,hcall⟩:=hm
      refine hcall.mono ?_
      rintro e w'' ⟨rfl,hx⟩
      exact next _ _ hx (hVx _ _) (fun _=>rfl)
   | some V =>
    simp only [qn,hbind] at hm
    obtain ⟨_,hm⟩:=hm
    have hnone:oi.dst.bind F=none→∀ x:Value,x=v:=fun h=>by rw [hbind] at h;cases h
    have hVx:∀ (x:Value) (w':World),V x w'∧pG F oi.dst w x→∀ t V',oi.dst=some t→F t=some V'→V' x w'∧pG F oi.dst w x:=by
     intro x w' hx t V' h1 h2
     simp only [h1,Option.bind_some,h2,Option.some.injEq] at hbind
     rw [hbind];exact hx
    cases r with
    | halt x w'=>exact hm.elim
    | ok nx w' =>
     cases nx<;>simp only [uL] at hm
     case value u=>exact next _ _ hm.1 (hVx _ _ hm.2) (fun h=>hnone h _)
     case enter fn args =>
      obtain ⟨rfl,hcall⟩:=hm
      refine hcall.mono ?_
      rintro e w'' ⟨u,rfl,hx,hVu⟩
      exact next _ _ hx (hVx _ _ hVu) (fun h=>hnone h _)
  ·rw [if_neg hwt]
   have h3:=hno (by simpa using hwt)
   refine next _ _ (Ext.refl _) ?_ (fun _=>h3.1.symm)
   intro t V h1 h2
   have h4:=h3.2
   simp [h1,h2] at h4
theorem lD {Q:Exit→Act→World→Prop} {a:Act} {w:World} {l:List Oper} (n:Nat) (keys:List Tmp) (F:Made) (_:P.follows .mixedOrders=true)
  (hB:(Region.lexTailB .any l.toArray n&&pa .any l.toArray keys n&&iO l.toArray keys n)=true) (hkeys:∀ t V,F t=some V→t∈keys) (hF:stays X F) (hrange:∀ t∈keys,t<a.tmps.size)
  (h:bN X P l.toArray F w (fun a'=>∀ b w',Ext X w w'→fF F b a'→(∀ t V,F t=some V→∃ u,b.tmps[t]?=some u∧V u w')→wpList P l.toArray Q (l.drop n) b w') (l.take n) a) :
  wpAny P .any l.toArray Q l.toArray.size (Array.replicate l.toArray.size false) a w.drew:=by
 simp only [Bool.and_eq_true] at hB
 obtain ⟨⟨hB,hmade⟩,hallm⟩:=hB
 simp only [Region.lexTailB,Bool.and_eq_true,decide_eq_true_eq] at hB
 obtain ⟨⟨⟨⟨hsel,hn⟩,hs⟩,hc⟩,hlex⟩:=hB
 have hn':n<l.length:=by simpa using hn
 have htl:(l.take n).length=n:=by simp;omega
 have hdl:(l.drop n).length=l.toArray.size-n:=by simp
 have inv0:HeadInv .any l.toArray n (Array.replicate l.toArray.size false) :=
  ⟨by simp,fun j oj _ hl=>(by rw [getD_replicate_false] at hl;cases hl),fun t _ ht=>getD_in (by simpa using ht) (getD_replicate_false _ _)⟩
 have H:=pd (md:=.any) (g:=l.toArray.size-n) hsel hs hc hn (l.take n) 0 _ a (fun j hj=>by
  have hj':j<n:=by rw [htl] at hj;exact hj
  simp [hj']) (by simpa using htl) inv0 (fun i hi=>absurd hi (Nat.not_lt_zero _)) (by rw [htl];exact hlex) h
 have hfin:=ir (Q':=Q) (g:=l.toArray.size-n) (size:=a.tmps.size) hF hkeys hmade (fun _ _ _ _ _=>trivial) (fun t V h=>hrange t (hkeys t V h)) (fun d a' b w' _ hsim hL=>by
  have mk:∀ t V,F t=some V→∃ i oi,l.toArray[i]?=some oi∧d.getD i false=true∧oi.dst=some t:=by
   intro t V hFt
   have h5:=List.all_eq_true.1 hallm t (hkeys t V hFt)
   obtain ⟨i,hi,hi2⟩:=List.any_eq_true.1 h5
   simp only [beq_iff_eq] at hi2
   cases hoi:l.toArray[i]? with
   | none=>simp [hoi] at hi2
   | some oi=>exact ⟨i,oi,hoi,hL.1.2 i (List.mem_range.1 hi),by simpa [hoi] using hi2⟩
  have h2:=hL.2 b w' hsim.1 hsim.2.1 (fun t V hFt=>by
   obtain ⟨i,oi,hoi,hdn,hdst⟩:=mk t V hFt
   exact hsim.2.2 i oi t V hoi hdn hdst hFt)
  have h4:=wpAny_of_seq (md:=.any) (Q':=Q) (l.drop n) n d b w' (fun j=>by simp [List.getElem?_drop]) (by rw [hdl];exact hL.1.1) h2
  rwa [hdl] at h4) _ _ a a w.drew rfl inv0 ⟨Ext.drew w,⟨rfl,rfl,fun _ _=>rfl⟩,fun i o t V _ hd=>by rw [getD_replicate_false] at hd;cases hd⟩ H
 rw [htl,show n+(l.toArray.size-n)=l.toArray.size by omega] at hfin
 exact hfin
theorem fF.fix {a b:Act} {t:Tmp} {u:Value} (h:fF F b a) (hu:b.tmps[t]?=some u):fF (fun s=>if s=t then none else F s) b (a.put (some t) u):=by
 have ht:t<b.tmps.size:=by
  rcases Nat.lt_or_ge t b.tmps.size with h | h
  ·exact h
  ·rw [Array.getElem?_eq_none h] at hu;cases hu
 refine ⟨by rw [eo];exact h.1,by rw [size_put];exact h.2.1,fun s hs=>?_⟩
 by_cases e:s=t
 ·subst e
  rw [dM,if_pos (by rw [← h.2.1];exact ht),hu]
 ·rw [ed _ _ _ _ e]
  exact h.2.2 s (by simpa [e] using hs)
theorem fF.eq {a b:Act} (h:fF F b a) (hF:∀ s,F s=none):b=a:=by
 obtain ⟨bt,bd⟩:=b
 obtain ⟨at',ad⟩:=a
 obtain ⟨h1,_,h3⟩:=h
 have h4:bt=at':=Array.ext_getElem? fun i=>h3 i (hF i)
 cases h1;cases h4;rfl
theorem fF.eval {a b:Act} (h:fF F b a) {x:Operand} (hx:∀ t,x=.tmp t→F t=none):b.eval x=a.eval x:=by
 cases x with
 | tmp t =>
  have h1:=h.2.2 t (hx t rfl)
  show b.tmps.getD t undef=a.tmps.getD t undef
  rw [Array.getD_eq_getD_getElem?,Array.getD_eq_getD_getElem?,h1]
 | _=>rfl
end
end Go.Proofs.YtomnhnmciopiiaaGreat.Fre
end
