/- Part 15 of the texts of one proof. -/
import Derived.Test.YtomnhnmciopiiaaGreatMMT14
set_option maxRecDepth 100000
set_option linter.unusedVariables false
set_option linter.unusedSimpArgs false
set_option maxHeartbeats 40000000
open Go.Act renaming put → xae
open And renaming intro → xad
open Go.RowKit.Below renaming mono → xar, refl → xao
open Go.IntWalk renaming i64_in → xbe
open List renaming drop → xaE, drop_succ_cons → xay, drop_zero → xaK, eq_nil_of_length_eq_zero → xaT, filter_eq_self → xcJ, flatMap_cons → xbf, getElem?_cons_zero → xa3, getElem?_eq_getElem → xai, getElem?_eq_some_iff → xah, getElem?_of_mem → xaP, length_cons → xaF, length_map → xap, length_set → xbh, length_take → xaN, map_cons → xa9, mem_append → xax, mem_cons → xaD, mem_map → xaA, mem_of_getElem? → xaj, not_mem_nil → xaS, replicate → xaz, setIfInBounds_toArray → xaa, set_cons_succ → xac, set_cons_zero → xab, size_toArray → xal, take_add_one → xaB, take_length → xaG, take_of_length_le → xav, take_succ_cons → xau, take_zero → xaC
open Nat renaming add_mul → xbK, le_of_ble_eq_true → xaW, le_refl → xag, le_trans → xaH, lt_of_lt_of_le → xaZ, mod_eq_of_lt → xbx
open Option.some renaming inj → xam
open UInt8 renaming ofNat → xaJ
open Go.Value renaming cells → xaU
open Go.World renaming block_lt_of_cell? → xa5, cell?_of_block → xaV, ownsRow_nil → xbg
section
namespace Go.Proofs.YtomnhnmciopiiaaGreat
open Go Go.RowKit Go.Maps
theorem zD {w:World} {B n c:Nat} {A:Option Addr} {l:List Itm} (h:aH.At w B [.slice A n c] l):n=l.length∧∃ ls:List bI,ls.map (·.1)=l∧(∀ p∈ls,okH p.1.1∧au w B p.1.2 p.2.1 p.2.2)∧eZ w 23 A ls.length c (ls.flatMap tV):=by
 obtain ⟨A',c',e,h1,h2,h3,h4⟩:=h
 simp only [List.cons.injEq,Value.slice.injEq,and_true] at e
 obtain ⟨rfl,rfl,rfl⟩:=e
 refine ⟨rfl,?_⟩
 have hex:∀ (k:Nat),k≤l.length→∃ ls:List bI,ls.map (·.1)=l.take k∧∀ (j:Nat) (p:bI),ls[j]?=some p→okH p.1.1∧au w B p.1.2 p.2.1 p.2.2∧∀ ad,A=some ad→∀ i u,(tV p)[i]?=some u→w.cell? (ad.add (j*23+i))=some u:=by
  intro k
  induction k with
  | zero=>intro _;exact ⟨[],by simp,fun j p hp=>by simp at hp⟩
  | succ k ih =>
   intro hk
   obtain ⟨ls,e1,e2⟩:=ih (by omega)
   obtain ⟨b,off,e3,hb,hE⟩:=h4 (by omega)
   obtain ⟨cs,hr,hat⟩:=hE k l[k] (xai (by omega))
   obtain ⟨v1,v2,rfl,ho,hd⟩:=cF.1 hat
   have hl:ls.length=k:=by
    have:=congrArg List.length e1
    rw [xap,xaN] at this
    omega
   refine ⟨ls++[(l[k],v1,v2)],?_,fun j p hp=>?_⟩
   ·rw [List.map_append,e1,xaB,xai (by omega)]
    rfl
   ·rw [List.getElem?_append] at hp
    split at hp
    ·exact e2 j p hp
    ·have hj:j=k:=by
      have:=(xah.1 hp).1
      simp at this
      omega
     subst hj
     rw [hl,Nat.sub_self] at hp
     simp only [xa3,Option.some.injEq] at hp
     subst hp
     refine ⟨ho,hd,fun ad had i u hu=>?_⟩
     rw [e3] at had
     injection had with had
     subst had
     have:=hr i u hu
     rw [Addr.add_mid]
     rwa [Nat.add_assoc] at this
 obtain ⟨ls,e1,e2⟩:=hex l.length (xag _)
 rw [xaG] at e1
 have hlen:∀ p∈ls,(tV p).length=23:=fun p hp=>by
  obtain ⟨j,hj⟩:=xaP hp
  exact cl (e2 j p hj).1
 refine ⟨ls,e1,fun p hp=>?_,?_⟩
 ·obtain ⟨j,hj⟩:=xaP hp
  exact ⟨(e2 j p hj).1,(e2 j p hj).2.1⟩
 ·have hll:ls.length=l.length:=by rw [← e1,xap]
  refine ⟨gV ls hlen,fun hA=>⟨by rw [hll];have:=h3 hA;omega,h3 hA⟩,fun u hu=>?_,fun ad had j u hu=>?_⟩
  ·obtain ⟨p,hp,hup⟩:=List.mem_flatMap.1 hu
   obtain ⟨j,hj⟩:=xaP hp
   obtain ⟨o1,o2⟩:=(e2 j p hj).2.1.dK
   exact gQ _ o1 o2 u hup
  ·obtain ⟨p,h6,h7⟩:=kC (by decide) ls hlen j u hu
   have:=(e2 _ p h6).2.2 ad had _ u h7
   rwa [show j / 23*23+j % 23=j by rw [Nat.mul_comm];exact Nat.div_add_mod j 23] at this
theorem Ai {w w':World} {t:TypeId} (hn:fy w w' t #[]) (s:Nat):Mem w w' [ax w.heap.size t s (.slice (some ⟨w.heap.size,0,none⟩) 0 0) 0 []] :=
 (Mem.start w).new hn.below (gz _ _ _ _ _ _) ⟨by simp,.inr ⟨w.heap.size,0,#[],rfl,xag _,hn.blk,xag _,Nat.zero_le _,by simp,by simp⟩⟩ fun b hf=>by
  have e:w.heap.size=b:=xam hf
  have:=hn.size
  omega
theorem uk (w:World) (ls:List bI) (ad:Addr) (cap:Nat) (hs:eZ w 23 (some ad) ls.length cap (ls.flatMap tV)) (hl:ls.length≤1000000) :
  Calls Tryz.prog 64 #[.slice (some ad) ls.length cap] w fun e w'=>∃ u,e=.returned u∧Mem w w' [ax w.heap.size 59 23 u ls.length (ls.flatMap tV)]:=by
 have HS:=ab hs
 clear hs
 obtain ⟨inm,hih,hq0,hq1,hq2⟩:=info_parts kF
 have HJ:=ab (xad hih (xad hq0 (xad hq1 hq2)))
 clear hih hq0 hq1 hq2
 have H0:=ab (Mem.start w)
 go_enter Tryz.func64,Tryz.ntmps64
 go_wp2_with (first | ((with_reducible refine ae 4 ?_);(refine aa rfl (.bool false) w (by kernel_rfl) ?_)) | ((with_reducible refine ae 5 ?_);(refine kr rfl 0 59 #[] (by kernel_rfl) ?_);intro w1 hn;have H1:=ab (Mem.seq H0.out (Ai hn 23));clear hn;simp only [xae,xaa,xab,xac]) | (at_builtin;((with_reducible refine ae 7 ?_);refine aE rfl _ _ 22 rfl w.heap.size 59 _ _ 23 88 Tryz.underlying22 HJ.out.1 HJ.out.2.1 HJ.out.2.2.1 HJ.out.2.2.2 rfl (by decide) ((.slice (some ⟨w.heap.size,0,none⟩) 0 0)) (0) ([]) (Mem.own H1.out 0 rfl) ((some ad)) (ls.length) (cap) (ls.flatMap tV) (eZ.below HS.out (Mem.below H1.out)) ?hm1 ?hb1 ?hz1 rfl rfl ?_)))
 case hm1=>simp only [maxLen];omega
 case hb1=>omega
 case hz1=>exact (Mem.below H1.out).size
 intro u9 w2 own9 gr9 hp9
 have own8:w2.ownsRow w.heap.size 59 23 u9 ls.length (ls.flatMap tV):=by simpa using own9
 have H2:=ab (Mem.app H1.out 0 rfl own8 gr9 hp9)
 clear own9 own8 gr9 hp9
 go_wp2_with fail
 go_ret
 exact ⟨u9,rfl,H2.out⟩
theorem uj (w:World) :
  Calls Tryz.prog 64 #[.slice none 0 0] w fun e w'=>e=.returned (.slice none 0 0)∧Below w.heap.size w w':=by
 go_enter Tryz.func64,Tryz.ntmps64
 go_wp2_with (((with_reducible refine ae 4 ?_);(refine aa rfl (.bool true) w (by kernel_rfl) ?_)))
 go_ret
 exact ⟨rfl,xao _ _⟩
theorem wu (w:World) (ls:List bI) (A:Option Addr) (cap:Nat) (hs:eZ w 23 A ls.length cap (ls.flatMap tV)) (hl:ls.length≤1000000) :
  Calls Tryz.prog 64 #[.slice A ls.length cap] w fun e w'=>∃ u,e=.returned u∧Mem w w' [ax w.heap.size 59 23 u ls.length (ls.flatMap tV)]:=by
 cases A with
 | some ad=>exact uk w ls ad cap hs hl
 | none =>
  obtain ⟨h1,rfl⟩:=hs.none_ rfl
  obtain rfl:=xaT h1
  refine (uj w).mono ?_
  rintro e w' ⟨rfl,hb⟩
  exact ⟨_,rfl,((Mem.start w).call hb).dE _ _ _⟩
def jP (m:List (Hsh×Nat)) (f:Hsh→Bool):Prop:=∀ c,((cg m c).map evN).getD (.int .i64 0)=.int .i64 (if f c then 1 else 0)
theorem jP.nil:jP [] (fun _=>false):=fun _=>rfl
theorem jP.put {m:List (Hsh×Nat)} {f:Hsh→Bool} (h:jP m f) (x:Hsh):jP (kT m x 1) (fun c=>f c||decide (c=x)):=fun c=>by
 show _=Value.int .i64 (if (f c||decide (c=x))=true then 1 else 0)
 rw [zP]
 by_cases e:c=x
 ·rw [if_pos e,decide_eq_true e,Bool.or_true]
  rfl
 ·rw [if_neg e,decide_eq_false e,Bool.or_false]
  exact h c
theorem zd (w0 w:World) (g mb:Nat) (m:List (Hsh×Nat)) (f:Hsh→Bool) (hc:w0.rangeAt g 0 [.map (some mb)]) (hg:g<w0.heap.size) (hm:b5 hV okH evN w0 mb m) (hf:jP m f) (hb:Below w0.heap.size w0 w) (x:Itm) (v1 v2:Value) (hx:okH x.1) (_o1:v1.oneCell'=true) (_o2:v2.oneCell'=true) :
  Calls Tryz.prog 65 #[.agg (tC x v1 v2).toArray,.pointer (some ⟨g,0,none⟩)] w fun e w'=>e=.returned (.bool (!f x.1))∧Below w.heap.size w w':=by
 have HC:=ab (qu hc (hb.block g hg))
 have HM:=ab (hm.below hb hm.lt)
 have HG:=ab (xaZ hg hb.size)
 have HF:=ab (hf x.1)
 clear hc hm hg hb hf
 cases hfx:f x.1
 ·have HFX:=ab hfx
  clear hfx
  have H0:=ab (Mem.start w)
  go_enter Tryz.func65,Tryz.ntmps65
  go_wp2_with (first | ((with_reducible refine ae 2 ?_);(refine aF rfl 59 (.tmp 0) rfl (tC x v1 v2).toArray rfl ?_);intro w1 hn;have H1:=ab (Mem.aM H0.out hn);clear hn;simp only [xae,xaa,xab,xac]) | ((with_reducible refine ae 4 ?_);(refine aa rfl (.map (some mb)) w1 (exec_load_cell 99 (.tmp 1) rfl ⟨g,0,none⟩ rfl _ _ w1 Tryz.underlying99 rfl (range_cell (Mem.range H1.out HC.out HG.out))) ?_)) | ((with_reducible refine ae 6 ?_);(refine aa rfl (.agg (bv x.1).toArray) w1 (ai 34 (.tmp 5) rfl w.heap.size (0) rfl (bv x.1) _ w1 (cz (Blk.range (Mem.blk H1.out 0 rfl))) Tryz.underlying34 rfl (bN hx)) ?_)) | ((with_reducible refine ae 7 ?_);(refine aa rfl (.int .i64 0) w1 (eJ 99 (.tmp 4) (.tmp 6) false rfl (.map (some mb)) (.agg (bv x.1).toArray) _ rfl rfl ((b5.look (b5.below HM.out (Mem.below H1.out) HM.out.lt) ed hx Tryz.underlying99 (qK w1)).trans (by rw [HF.out,HFX.out];rfl))) ?_)))
  go_ret
  exact ⟨rfl,Mem.below H1.out⟩
 ·have HFX:=ab hfx
  clear hfx
  have H0:=ab (Mem.start w)
  go_enter Tryz.func65,Tryz.ntmps65
  go_wp2_with (first | ((with_reducible refine ae 2 ?_);(refine aF rfl 59 (.tmp 0) rfl (tC x v1 v2).toArray rfl ?_);intro w1 hn;have H1:=ab (Mem.aM H0.out hn);clear hn;simp only [xae,xaa,xab,xac]) | ((with_reducible refine ae 4 ?_);(refine aa rfl (.map (some mb)) w1 (exec_load_cell 99 (.tmp 1) rfl ⟨g,0,none⟩ rfl _ _ w1 Tryz.underlying99 rfl (range_cell (Mem.range H1.out HC.out HG.out))) ?_)) | ((with_reducible refine ae 6 ?_);(refine aa rfl (.agg (bv x.1).toArray) w1 (ai 34 (.tmp 5) rfl w.heap.size (0) rfl (bv x.1) _ w1 (cz (Blk.range (Mem.blk H1.out 0 rfl))) Tryz.underlying34 rfl (bN hx)) ?_)) | ((with_reducible refine ae 7 ?_);(refine aa rfl (.int .i64 1) w1 (eJ 99 (.tmp 4) (.tmp 6) false rfl (.map (some mb)) (.agg (bv x.1).toArray) _ rfl rfl ((b5.look (b5.below HM.out (Mem.below H1.out) HM.out.lt) ed hx Tryz.underlying99 (qK w1)).trans (by rw [HF.out,HFX.out];rfl))) ?_)))
  go_ret
  exact ⟨rfl,Mem.below H1.out⟩
end Go.Proofs.YtomnhnmciopiiaaGreat
end
section
namespace Go.Proofs.YtomnhnmciopiiaaGreat
open Go Go.RowKit Go.Maps
def AS (w0:World) (gp:Nat) (ls:List bI) (q:Itm→Bool):Prop:=∀ (W:World) (p:bI),Below w0.heap.size w0 W→p∈ls→Calls Tryz.prog 65 #[.agg (tV p).toArray,.pointer (some ⟨gp,0,none⟩)] W fun e w'=>e=.returned (.bool (q p.1))∧Below W.heap.size W w'
theorem kU {α:Type} {f:α→List Value} {s:Nat}:∀ (l:List α) (k:Nat),(∀ x∈l,(f x).length=s)→(l.flatMap f).take (k*s)=(l.take k).flatMap f
 | [],k,_=>by simp
 | x :: l,0,_=>by simp
 | x :: l,k+1,h=>by
  have hx:=h x (by simp)
  rw [xbf,xau,xbf,← kU l k (fun y hy=>h y (by simp [hy])),List.take_append,hx,xav (by rw [hx,xbK];omega)]
  congr 2
  rw [xbK];omega
def IxI (ls:List bI) (q:Itm→Bool) (e:Ending):Prop:=(e=.returned (.int .i64 (-1))∧∀ p∈ls,q p.1=false)∨∃ j:Nat,j<ls.length∧e=.returned (.int .i64 (j:Int))∧(∀ p∈ls.take j,q p.1=false)∧(∀ p,ls[j]?=some p→q p.1=true)
theorem qk {α:Type} {f:α→List Value} {w:World} {B s:Nat} {t:TypeId} {A:Option Addr} {cap:Nat} {l:List α} {x:α} {j:Nat} (h0:0<s) (h:w.ownsRow B t s (.slice A l.length cap) l.length (l.flatMap f)) (hl:∀ x∈l,(f x).length=s) (hx:l[j]?=some x):∃ g,A=some ⟨g,0,none⟩∧g<w.heap.size∧l.length≤cap∧w.rangeAt g (j*s) (f x):=by
 have hj:=(xah.1 hx).1
 have hh:=h
 obtain ⟨g,cap',e,hg⟩:=CQ h (by omega)
 injection e with e1 e2 e3
 subst e1 e3
 refine ⟨g,rfl,hg,?_,dQ h0 h hl hx⟩
 rcases hh with ⟨_,⟨h,_⟩ | ⟨g',cap',cur,h,hb,hn,hc,_⟩⟩
 ·cases h
 ·injection h with _ _ e3
  omega
theorem IxI.in_ {ls:List bI} {q:Itm→Bool} {j:Nat} {p:bI} (hp:ls[j]?=some p) (hn:∀ p∈ls.take j,q p.1=false) (hq:q p.1=true):IxI ls q (.returned (.int .i64 (j:Int))) :=
 .inr ⟨j,(xah.1 hp).1,rfl,hn,fun p' hp'=>by rw [hp] at hp';injection hp' with e;rwa [← e]⟩
theorem Dl {ls:List bI} {q:Itm→Bool} {j:Nat} {p:bI} (hp:ls[j]?=some p) (hn:∀ p∈ls.take j,q p.1=false) (hq:q p.1=false):∀ p∈ls.take (j+1),q p.1=false:=fun y hy=>by
 rw [xaB,hp] at hy
 rcases xax.1 hy with hy | hy
 ·exact hn y hy
 ·rw [show y=p from by simpa using hy]
  exact hq
theorem Ca (w0 w:World) (B cap gp:Nat) (A:Option Addr) (ls:List bI) (q:Itm→Bool) (hm:Mem w0 w [ax B 59 23 (.slice A ls.length cap) ls.length (ls.flatMap tV)]) (hok:∀ p∈ls,okH p.1.1∧p.2.1.oneCell'=true∧p.2.2.oneCell'=true) (hcl:AS w0 gp ls q) (hn:ls.length≤1000000) :
  Calls Tryz.prog 97 #[.slice A ls.length cap,.func (.func 65) #[] #[.pointer (some ⟨gp,0,none⟩)]] w fun e w'=>IxI ls q e∧Below w.heap.size w w':=by
 have HOK:=ab hok
 have HCL:=ab hcl
 have H1:=ab hm
 clear hm hok hcl
 have k9:(ls.length:Int)≤9223372036854775807:=by omega
 go_enter Tryz.func97,Tryz.ntmps97
 go_wp2_with fail
 go_loopw [8] (fun x8 wr=>∃ j:Nat,j≤ls.length∧x8=.int .i64 (j:Int)∧(∀ p∈ls.take j,q p.1=false)∧Mem w0 wr [ax B 59 23 (.slice A ls.length cap) ls.length (ls.flatMap tV)]∧Below w.heap.size w wr) (fun x8 _=>ls.length-(intOf x8).toNat)
 case atStart=>exact ⟨0,by omega,rfl,(fun p hp=>by simp at hp),H1.out,xao _ _⟩
 case round =>
  obtain ⟨wo,rfl⟩:∃ wo,wo=wr:=⟨_,rfl⟩
  obtain ⟨j,hj,rfl,hall,hm,hb⟩:=hrel
  have HM:=ab hm
  have HB:=ab (xad hall hb)
  clear hm hall hb
  have j0:(0:Int)≤(j:Int):=by omega
  by_cases hj2:j<ls.length
  ·have j1:(j:Int)<(ls.length:Int):=by omega
   obtain ⟨x,hx⟩:∃ x,ls[j]?=some x:=⟨_,xai (by omega)⟩
   obtain ⟨ho,o1,o2⟩:=HOK.out x (xaj hx)
   obtain ⟨g,rfl,hg,hcap,_⟩:=qk (by decide) (Mem.own HM.out 0 rfl) (fun p hp=>cl (HOK.out p hp).1) hx
   have HX:=ab hx
   clear hx
   go_wp2_with (first | ((with_reducible refine ae 14 ?_);(refine aa rfl (.pointer (some ⟨g,j*23,none⟩)) wo (jd 22 59 (.tmp 12) (.tmp 13) rfl g ls.length cap j rfl rfl hj2 23 Tryz.underlying22 cJ wo) ?_)) | ((with_reducible refine ae 15 ?_);(refine aa rfl (.agg (tV x).toArray) wo (ai 59 (.tmp 14) rfl g (j*23) rfl (tV x) _ wo (dQ (l:=ls) (f:=tV) (x:=x) (k:=j) (by decide) (Mem.own HM.out 0 rfl) (fun p hp=>cl (HOK.out p hp).1) HX.out) Tryz.underlying59 rfl (ny ho)) ?_)))
   refine (HCL.out wo x (Mem.below HM.out) (xaj HX.out)).mono ?_
   rintro e w1 ⟨rfl,hb⟩
   dsimp only
   have H1:=ab (Mem.call HM.out hb)
   have HZ:=ab (Below.trans HB.out.2 (xar hb HB.out.2.size))
   clear hb
   cases hq:q x.1
   ·have HQ:=ab hq
    clear hq
    go_wp2_with fail
    go_roundw
    case rel=>exact ⟨j+1,by omega,by go_num,Dl HX.out HB.out.1 HQ.out,H1.out,HZ.out⟩
    case measure=>simp [intOf];omega
   ·have HQ:=ab hq
    clear hq
    go_wp2_with fail
    go_ret
    exact ⟨IxI.in_ HX.out HB.out.1 HQ.out,HZ.out⟩
  ·obtain rfl:j=ls.length:=by omega
   go_wp2_with fail
   go_ret
   exact ⟨.inl ⟨rfl,fun p hp=>HB.out.1 p (by rw [xaG];exact hp)⟩,HB.out.2⟩
structure nW (ls cur:List bI) (q:Itm→Bool) (i m:Nat):Prop where
 lt:i<m
 le:m≤ls.length
 len:cur.length=ls.length
 head:cur.take i=(ls.take m).filter fun p=>!q p.1
 tail:cur.drop m=ls.drop m
 mem:∀ p∈cur,p∈ls
theorem nW.start {ls:List bI} {q:Itm→Bool} {j:Nat} {p:bI} (hp:ls[j]?=some p) (hn:∀ p∈ls.take j,q p.1=false) (hq:q p.1=true):nW ls ls q j (j+1):=by
 refine ⟨by omega,(xah.1 hp).1,rfl,?_,rfl,fun _ h=>h⟩
 rw [xaB,hp,List.filter_append,xcJ.2 fun y hy=>by rw [hn y hy];rfl]
 simp [hq]
theorem nW.at_ {ls cur:List bI} {q:Itm→Bool} {i m:Nat} (h:nW ls cur q i m) (hm:m<ls.length):∃ p,cur[m]?=some p∧ls[m]?=some p:=by
 refine ⟨ls[m],?_,xai hm⟩
 have:=congrArg (fun l=>l[0]?) h.tail
 simpa [List.getElem?_drop,xai hm] using this
theorem nW.out {ls cur:List bI} {q:Itm→Bool} {i m:Nat} {p:bI} (h:nW ls cur q i m) (hp:ls[m]?=some p) (hq:q p.1=true):nW ls cur q i (m+1):=by
 refine ⟨by have:=h.lt;omega,(xah.1 hp).1,h.len,?_,?_,h.mem⟩
 ·rw [h.head,xaB,hp,List.filter_append]
  simp [hq]
 ·rw [← List.drop_drop,← List.drop_drop,h.tail]
theorem nW.in_ {ls cur:List bI} {q:Itm→Bool} {i m:Nat} {p:bI} (h:nW ls cur q i m) (hp:ls[m]?=some p) (hq:q p.1=false):nW ls (cur.set i p) q (i+1) (m+1):=by
 have hl:=h.lt
 have hm:=(xah.1 hp).1
 refine ⟨by omega,hm,by rw [xbh,h.len],?_,?_,fun y hy=>?_⟩
 ·have hi:i<cur.length:=by rw [h.len];omega
  rw [xaB,List.getElem?_set_self hi,List.take_set_of_le (xag _),h.head,xaB,hp,List.filter_append]
  simp [hq]
 ·rw [List.drop_set_of_lt (by omega),← List.drop_drop,← List.drop_drop,h.tail]
 ·rcases List.mem_or_eq_of_mem_set hy with hy | rfl
  ·exact h.mem y hy
  ·exact xaj hp
theorem G1:∀ v∈xaU (.agg zcT),v.oneCell'=true:=fun v hv=>by
 have:=Array.all_eq_true_iff_forall_mem.1 (show zcT.all (·.oneCell')=true by kernel_rfl) v
 exact this hv
theorem nZ {P:Program} {ρ:Operand→Value} {o:Oper} (t e s:Nat) (x y:Operand) (ho:o.op=.slice t x (some y) none none) (b len cap n:Nat) (hx:ρ x=.slice (some ⟨b,0,none⟩) len cap) (hy:ρ y=.int .i64 (n:Int)) (ht:P.underlying t=some (.slice e)) (hs:(P.info? e).map (·.size)=some s) (hn:n≤len) (hl:len≤cap) (hc:n<cap) (w:World) :
  (execOp ρ o).run P w=.ok (.value (.slice (some ⟨b,n*s,none⟩) (len-n) (cap-n))) w:=by
 have h:=pt t e s x y ho b 0 len cap n hx hy ht hs hn hl hc w
 rwa [Nat.zero_add] at h
theorem BC (w0 w:World) (B cap gp:Nat) (A:Option Addr) (ls:List bI) (q:Itm→Bool) (hm:Mem w0 w [ax B 59 23 (.slice A ls.length cap) ls.length (ls.flatMap tV)]) (hok:∀ p∈ls,okH p.1.1∧p.2.1.oneCell'=true∧p.2.2.oneCell'=true) (hcl:AS w0 gp ls q) (hn:ls.length≤1000000) :
  Calls Tryz.prog 63 #[.slice A ls.length cap,.func (.func 65) #[] #[.pointer (some ⟨gp,0,none⟩)]] w fun e w'=>∃ u,e=.returned u∧Mem w0 w' [ax B 59 23 u (ls.filter fun p=>!q p.1).length ((ls.filter fun p=>!q p.1).flatMap tV)]:=by
 have HOK:=ab hok
 have HCL:=ab hcl
 have H1:=ab hm
 clear hm hok hcl
 have k9:(ls.length:Int)≤9223372036854775807:=by omega
 go_enter Tryz.func63,Tryz.ntmps63
 go_wp2_with fail
 refine (Ca w0 w B cap gp A ls q H1.out HOK.out HCL.out hn).mono ?_
 rintro e w1 ⟨hix,hb⟩
 have H2:=ab (Mem.call H1.out hb)
 clear hb
 rcases hix with ⟨rfl,hall⟩ | ⟨j,hj,rfl,hall,hq⟩
 ·have he:(ls.filter fun p=>!q p.1)=ls:=xcJ.2 fun p hp=>by rw [hall p hp];rfl
  have HE:=ab he
  clear he hall
  go_wp2_with fail
  go_ret
  exact ⟨_,rfl,by rw [HE.out];exact H2.out⟩
 ·obtain ⟨x0,hx0⟩:∃ x,ls[j]?=some x:=⟨_,xai hj⟩
  obtain ⟨g,rfl,hg,hcap,_⟩:=qk (by decide) (Mem.own H2.out 0 rfl) (fun p hp=>cl (HOK.out p hp).1) hx0
  have HD0:=ab (nW.start hx0 hall (hq x0 hx0))
  clear hx0 hall hq
  have j0:(0:Int)≤(j:Int):=by omega
  have jn:¬ (j:Int)=-1:=by omega
  go_wp2_with fail
  have hjf:((j:Int) == -1)=false:=beq_eq_false_iff_ne.2 jn
  rw [hjf]
  clear jn hjf
  go_loopw [5,6] (fun x5 x6 wr=>∃ (i m:Nat) (cur:List bI),x5=.int .i64 (i:Int)∧x6=.int .i64 (m:Int)∧nW ls cur q i m∧Mem w0 wr [ax B 59 23 (.slice (some ⟨g,0,none⟩) ls.length cap) ls.length (cur.flatMap tV)]) (fun _ x6 _=>ls.length-(intOf x6).toNat)
  case atStart=>exact ⟨j,j+1,ls,rfl,by go_num,HD0.out,H2.out⟩
  case round =>
   obtain ⟨wo,rfl⟩:∃ wo,wo=wr:=⟨_,rfl⟩
   obtain ⟨i,m,cur,rfl,rfl,hd,hm⟩:=hrel
   have HM:=ab hm
   have HD:=ab hd
   clear hm
   have i0:(0:Int)≤(i:Int):=by omega
   have m0:(0:Int)≤(m:Int):=by omega
   have hi:=hd.lt
   have hm1:=hd.le
   have hcl:=hd.len
   clear hd
   by_cases hm2:m<ls.length
   ·have m1:(m:Int)<(ls.length:Int):=by omega
    have i1:i<ls.length:=by omega
    have i2:(i:Int)<(ls.length:Int):=by omega
    obtain ⟨x,hx,hxl⟩:=HD.out.at_ hm2
    obtain ⟨ho,o1,o2⟩:=HOK.out x (xaj hxl)
    have HX:=ab (xad hx hxl)
    clear hx hxl
    have hcn:∀ p∈cur,(tV p).length=23:=fun p hp=>cl (HOK.out p (HD.out.mem p hp)).1
    have HCN:=ab hcn
    clear hcn
    go_wp2_with (first | ((with_reducible refine ae 24 ?_);(refine aa rfl (.pointer (some ⟨g,m*23,none⟩)) wo (jd 22 59 (.tmp 22) (.tmp 23) rfl g ls.length cap m rfl rfl hm2 23 Tryz.underlying22 cJ wo) ?_)) | ((with_reducible refine ae 25 ?_);(refine aa rfl (.agg (tV x).toArray) wo (ai 59 (.tmp 24) rfl g (m*23) rfl (tV x) _ wo (dQ (l:=cur) (f:=tV) (x:=x) (k:=m) (by decide) (by rw [hcl];exact (Mem.own HM.out 0 rfl)) HCN.out HX.out.1) Tryz.underlying59 rfl (ny ho)) ?_)) | ((with_reducible refine ae 7 ?_);(refine aC rfl 59 zcT (by kernel_rfl) ?_);intro w1 hn;have H1:=ab (Mem.aM HM.out hn);clear hn;simp only [xae,xaa,xab,xac]) | ((with_reducible refine aV 7 25 ?_);(with_reducible refine ak rfl 59 (.tmp 7) (.tmp 25) rfl wo.heap.size zcT (tV x).toArray 59 (Mem.blk H1.out 0 rfl) ?_ ?_ ?_ ?_ ?_ ?_);(exact (vI ho));(exact bP Dw (vI ho));(exact (Gt x.1 o1 o2));rfl;rfl;intro w2 hk hg;have H2:=ab (Mem.st H1.out 0 rfl hk hg);clear hk hg;simp only [xae]) | ((with_reducible refine ae 27 ?_);(refine aa rfl (.agg (tV x).toArray) w2 (ai 59 (.tmp 7) rfl wo.heap.size (0) rfl (tV x) _ w2 (Blk.range (Mem.blk H2.out 0 rfl)) Tryz.underlying59 rfl (ny ho)) ?_)))
    refine (HCL.out w2 x (Mem.below H2.out) (xaj HX.out.2)).mono ?_
    rintro e w3 ⟨rfl,hb⟩
    dsimp only
    have H3:=ab (Mem.call H2.out hb)
    clear hb
    cases hq:q x.1
    ·have HQ:=ab hq
     clear hq
     go_wp2_with (first | ((with_reducible refine ae 32 ?_);(refine aa rfl (.agg (tV x).toArray) w3 (ai 59 (.tmp 7) rfl wo.heap.size (0) rfl (tV x) _ w3 (Blk.range (Mem.blk H3.out 0 rfl)) Tryz.underlying59 rfl (ny ho)) ?_)) | ((with_reducible refine ae 33 ?_);(refine aa rfl (.pointer (some ⟨g,i*23,none⟩)) w3 (jd 22 59 (.tmp 30) (.tmp 31) rfl g ls.length cap i rfl rfl i1 23 Tryz.underlying22 cJ w3) ?_)) | ((with_reducible refine aV 33 32 ?_);(refine eC rfl 59 (.tmp 33) (.tmp 32) rfl (Mem.own H3.out 1 rfl) (tV x) i1 (cl ho) (vI ho) (Gt x.1 o1 o2) rfl rfl ?_);intro w9 ho9 hg9 hz9;simp only [xae,xaa,xab,xac]))
     rw [← nF cur i x HCN.out (by omega)] at ho9
     have H9:=ab (Mem.app H3.out 1 rfl ho9 hg9 (.inl rfl))
     clear ho9 hg9 hz9
     go_wp2_with fail
     go_roundw
     case rel=>exact ⟨i+1,m+1,cur.set i x,by go_num,by go_num,HD.out.in_ HX.out.2 HQ.out,Mem.pick H9.out [1] (by decide) rfl⟩
     case measure=>simp [intOf];omega
    ·have HQ:=ab hq
     clear hq
     go_wp2_with fail
     go_roundw
     case rel=>exact ⟨i,m+1,cur,rfl,by go_num,HD.out.out HX.out.2 HQ.out,Mem.pick H3.out [1] (by decide) rfl⟩
     case measure=>simp [intOf];omega
   ·obtain rfl:m=ls.length:=by omega
    have i1:i<ls.length:=by omega
    have i3:i<cap:=by omega
    have i2:(i:Int)<(ls.length:Int):=by omega
    go_wp2_with (first | ((with_reducible refine ae 38 ?_);(refine aa rfl (.slice (some ⟨g,i*23,none⟩) (ls.length-i) (cap-i)) wo (nZ 22 59 23 (.tmp 36) (.tmp 37) rfl g ls.length cap i rfl rfl Tryz.underlying22 cJ (Nat.le_of_lt i1) hcap i3 wo) ?_)) | ((refine oq rfl 22 59 (.tmp 38) rfl Tryz.underlying22 (z:=.agg zcT) (fun w=>by kernel_rfl) G1 (s:=23) rfl (by decide) (Mem.own HM.out 0 rfl) i1 (c:=cap-i) rfl ?_);intro w9 ho9 hg9;simp only [xae,xaa,xab,xac]))
    have hcn:∀ p∈cur,(tV p).length=23:=fun p hp=>cl (HOK.out p (HD.out.mem p hp)).1
    rw [show (cur.flatMap tV).take (i*23)=(ls.filter fun p=>!q p.1).flatMap tV from by rw [kU cur i hcn,HD.out.head,xaG]] at ho9
    have hil:i=(ls.filter fun p=>!q p.1).length:=by have:=congrArg List.length HD.out.head;rw [xaG,xaN] at this;omega
    have H9:=ab (Mem.app HM.out 0 rfl ho9 hg9 (.inl rfl))
    clear ho9 hg9
    go_wp2_with (((with_reducible refine ae 41 ?_);(refine aa rfl (.slice (some ⟨g,0,none⟩) i cap) w9 (D1 22 59 23 (.tmp 39) (.tmp 40) rfl (some ⟨g,0,none⟩) ls.length cap i rfl rfl Tryz.underlying22 cJ (by omega) w9) ?_)))
    go_ret
    exact ⟨_,rfl,by rw [← hil];exact Mem.pick H9.out [0] (by decide) rfl⟩
end Go.Proofs.YtomnhnmciopiiaaGreat
end
section
namespace Go.Proofs.YtomnhnmciopiiaaGreat
open Go Go.RowKit Go.Maps
theorem jP.same {m:List (Hsh×Nat)} {f g:Hsh→Bool} (h:jP m f) (e:∀ c,f c=g c):jP m g:=fun c=>by rw [← e c];exact h c
theorem DF (l:List Itm) (c:Hsh):fQ l [] c=false:=rfl
theorem Bs {l:List Itm} {aL:List Hsh} {j:Nat} {k:Hsh} (h:aL[j]?=some k) (c:Hsh):fQ l (aL.take (j+1)) c=(fQ l (aL.take j) c||decide (c∈aP l k)):=by
 unfold fQ
 rw [xaB,h,List.any_append]
 simp
def tX (l:List Itm) (aL ns:List Hsh) (j i:Nat) (c:Hsh):Bool:=fQ l (aL.take j) c||decide (c∈ns.take i)
theorem Fw (l:List Itm) (aL ns:List Hsh) (j:Nat) (c:Hsh):fQ l (aL.take j) c=tX l aL ns j 0 c:=by unfold tX;simp
theorem yX {l:List Itm} {aL ns:List Hsh} {j i:Nat} {x:Hsh} (h:ns[i]?=some x) (c:Hsh):(tX l aL ns j i c||decide (c=x))=tX l aL ns j (i+1) c:=by
 unfold tX
 rw [Bool.or_assoc,xaB,h]
 congr 1
 by_cases h1:c∈ns.take i<;>by_cases h2:c=x<;>simp [h1,h2]
theorem Br {l:List Itm} {aL:List Hsh} {j:Nat} {k:Hsh} (h:aL[j]?=some k) (c:Hsh):tX l aL (aP l k) j (aP l k).length c=fQ l (aL.take (j+1)) c:=by
 unfold tX
 rw [xaG,Bs h]
theorem nH {l:List Itm} {aL:List Hsh} {ls:List bI} (h:ls.map (·.1)=l):(ls.filter fun p=>!(!fQ l aL p.1.1)).map (·.1)=fc l aL:=by
 subst h
 unfold fc
 rw [List.filter_map]
 simp only [Bool.not_not]
 rfl
theorem BH (w:World) (l:List Itm) (A:Option Addr) (cap:Nat) (h:aH.At w w.heap.size [.slice A l.length cap] l) (hl:∀ x∈l,x.2.2.1.length≤1000000∧x.2.2.2.length≤1000000) (hn:l.length≤1000000) (aL:List Hsh) (K:Option Addr) (kc:Nat) (hk:cT.At w w.heap.size [.slice K aL.length kc] aL) (hkn:aL.length≤1000000) (ht:dp bA l=true) :
  Calls Tryz.prog 17 #[.slice A l.length cap,.slice K aL.length kc] w fun e w'=>∃ A' c' ls,e=.returned (.tuple #[.slice A' (fc l aL).length c',.int .i64 0])∧ls.map (·.1)=fc l aL∧Mem w w' (gE w.heap.size (.slice A' (fc l aL).length c') ls):=by
 obtain ⟨_,ls,hls,hok,hsrc⟩:=zD h
 have hokl:∀ x∈l,okH x.1:=fun x hx=>by
  rw [← hls] at hx
  obtain ⟨p,hp,rfl⟩:=xaA.1 hx
  exact (hok p hp).1
 have HIT:=ab h
 have HLS:=ab hls
 have HOK:=ab hok
 have HSR:=ab hsrc
 have HOL:=ab hokl
 have HT:=ab ht
 have hlsn:ls.length=l.length:=by rw [← hls,xap]
 obtain ⟨K',kc',e,_,_,_,hK⟩:=aj hk
 injection e with e1 e2 e3
 subst e1 e3
 have HK:=ab hK
 clear h hls hok hsrc hokl ht hk hK e2
 have H0:=ab (Mem.start w)
 go_enter Tryz.func17,Tryz.ntmps17
 go_wp2_with fail
 refine (ya w l A cap (fW HIT.out (Mem.below H0.out)) (fun x hx=>(hl x hx).1) true HT.out).mono ?_
 rintro e w1 ⟨rfl,hb⟩
 dsimp only
 have H1:=ab (Mem.call H0.out hb)
 clear hb
 go_wp2_with (first | ((with_reducible refine vY 16 ?_);((with_reducible refine ae 16 ?_);refine ot hV okH evN rfl 99 rfl ?_);intro w2 hn;have H2:=ab (Mem.F6 H1.out hn);clear hn;simp only [xae,xaa,xab,xac]) | ((with_reducible refine ae 6 ?_);(refine aC rfl 99 #[.map none] (by kernel_rfl) ?_);intro w3 hn;have H3:=ab (Mem.aM H2.out hn);clear hn;simp only [xae,xaa,xab,xac]) | ((with_reducible refine aV 6 16 ?_);(refine bD rfl 99 (.tmp 6) (.tmp 16) rfl w2.heap.size (0) 99 #[.map none] (Mem.blk H3.out 0 rfl) (xaW rfl) (by kernel_rfl) (.map (some w1.heap.size)) rfl rfl rfl ?_);intro w4 hk hg hz;have H4:=ab (Mem.st (cs':=([.map (some w1.heap.size)]).toArray) H3.out 0 rfl hk hg);clear hk hg hz;simp only [xae]))
 go_wp2_with fail
 go_loopw [19] (fun x19 wr=>∃ (j:Nat) (m:List (Hsh×Nat)),j≤aL.length∧x19=.int .i64 (j:Int)∧jP m (fQ l (aL.take j))∧Mem w wr [bh w2.heap.size 99 [.map (some w1.heap.size)].toArray,xp hV okH evN w1.heap.size m]) (fun x19 _=>aL.length-(intOf x19).toNat)
 case atStart=>exact ⟨0,[],by omega,rfl,jP.nil.same (fun c=>(DF l c).symm),H4.out⟩
 case round =>
  obtain ⟨wo,rfl⟩:∃ wo,wo=wr:=⟨_,rfl⟩
  obtain ⟨j,m,hj,rfl,hmk,hm⟩:=hrel
  have HM:=ab hm
  have HMK:=ab hmk
  clear hm hmk
  have j0:(0:Int)≤(j:Int):=by omega
  by_cases hj2:j<aL.length
  ·have j1:(j:Int)<(aL.length:Int):=by omega
   obtain ⟨k,hk⟩:∃ k,aL[j]?=some k:=⟨_,xai (by omega)⟩
   obtain ⟨b,off,rfl,hltb,hE⟩:=HK.out (by omega)
   obtain ⟨cs,hrk,hatk⟩:=hE j k hk
   clear hE
   obtain ⟨rfl,hko⟩:=ep.1 hatk
   have HX:=ab (xad hrk (xad hltb hk))
   clear hrk hltb hk hatk
   go_wp2_with (first | ((with_reducible refine ae 21 ?_);(refine aa rfl (.pointer (some ⟨b,off+j*20,none⟩)) wo (bQ 27 34 (.tmp 17) (.tmp 19) rfl b off aL.length kc j rfl rfl hj2 20 Tryz.underlying27 cr wo) ?_)) | ((with_reducible refine ae 22 ?_);(refine aa rfl (.agg (bv k).toArray) wo (ai 34 (.tmp 21) rfl b (off+j*20) rfl (bv k) _ wo (Mem.range HM.out HX.out.1 HX.out.2.1) Tryz.underlying34 rfl (bN hko)) ?_)) | ((with_reducible refine ae 8 ?_);(refine aC rfl 34 zcH (by kernel_rfl) ?_);intro w5 hn;have H5:=ab (Mem.aM HM.out hn);clear hn;simp only [xae,xaa,xab,xac]) | ((with_reducible refine aV 8 22 ?_);(with_reducible refine ak rfl 34 (.tmp 8) (.tmp 22) rfl wo.heap.size zcH (bv k).toArray 34 (Mem.blk H5.out 0 rfl) ?_ ?_ ?_ ?_ ?_ ?_);(exact (bB hko));(exact bP cK (bB hko));(exact (fa k));rfl;rfl;intro w6 hk hg;have H6:=ab (Mem.st H5.out 0 rfl hk hg);clear hk hg;simp only [xae]) | ((with_reducible refine ae 25 ?_);(refine aa rfl (.agg (bv k).toArray) w6 (ai 34 (.tmp 8) rfl wo.heap.size (0) rfl (bv k) _ w6 (Blk.range (Mem.blk H6.out 0 rfl)) Tryz.underlying34 rfl (bN hko)) ?_)))
   refine (z7 w6 l A cap (fW HIT.out (Mem.below H6.out)) (fun x hx=>(hl x hx).1) hn k hko).mono ?_
   rintro e w7 ⟨u7,rfl,hu,hb⟩
   dsimp only
   have H7:=ab (Mem.seq H6.out (vo hu hb))
   obtain ⟨A2,c2,rfl⟩:=aI hu
   clear hu hb
   go_wp2_with fail
   go_loopw [31] (fun x31 wr=>∃ (i:Nat) (m2:List (Hsh×Nat)),i≤(aP l k).length∧x31=.int .i64 (i:Int)∧jP m2 (tX l aL (aP l k) j i)∧Mem w wr [ax w6.heap.size 34 20 (.slice A2 (aP l k).length c2) (aP l k).length ((aP l k).flatMap bv),bh w2.heap.size 99 [.map (some w1.heap.size)].toArray,xp hV okH evN w1.heap.size m2]) (fun x31 _=>(aP l k).length-(intOf x31).toNat)
   case atStart=>exact ⟨0,m,by omega,rfl,HMK.out.same (Fw l aL _ j),Mem.pick H7.out [0,2,3] (by decide) rfl⟩
   case round =>
    obtain ⟨wi,rfl⟩:∃ wi,wi=wr:=⟨_,rfl⟩
    obtain ⟨i,m2,hi,rfl,hmk,hm⟩:=hrel
    have HI:=ab hm
    have HIK:=ab hmk
    clear hm hmk
    have hnl:=qd (l:=l) k
    have i0:(0:Int)≤(i:Int):=by omega
    by_cases hi2:i<(aP l k).length
    ·have i1:(i:Int)<((aP l k).length:Int):=by omega
     obtain ⟨z,hz⟩:∃ z,(aP l k)[i]?=some z:=⟨_,xai hi2⟩
     have hzo:okH z:=na HOL.out k z (xaj hz)
     have hbl:∀ x∈aP l k,(bv x).length=20:=fun x hx=>by rw [bvL];exact na HOL.out k x hx
     have HBL:=ab hbl
     clear hbl
     obtain ⟨g,rfl,hg,hcap,_⟩:=qk (by decide) (Mem.own HI.out 0 rfl) HBL.out hz
     have HZ:=ab hz
     clear hz
     go_wp2_with (first | ((with_reducible refine ae 33 ?_);(refine aa rfl (.pointer (some ⟨g,i*20,none⟩)) wi (jd 27 34 (.tmp 29) (.tmp 31) rfl g (aP l k).length c2 i rfl rfl hi2 20 Tryz.underlying27 cr wi) ?_)) | ((with_reducible refine ae 34 ?_);(refine aa rfl (.agg (bv z).toArray) wi (ai 34 (.tmp 33) rfl g (i*20) rfl (bv z) _ wi (dQ (l:=aP l k) (f:=bv) (x:=z) (k:=i) (by decide) (Mem.own HI.out 0 rfl) HBL.out HZ.out) Tryz.underlying34 rfl (bN hzo)) ?_)) | ((with_reducible refine ae 12 ?_);(refine aC rfl 34 zcH (by kernel_rfl) ?_);intro w8 hn;have H8:=ab (Mem.aM HI.out hn);clear hn;simp only [xae,xaa,xab,xac]) | ((with_reducible refine aV 12 34 ?_);(with_reducible refine ak rfl 34 (.tmp 12) (.tmp 34) rfl wi.heap.size zcH (bv z).toArray 34 (Mem.blk H8.out 0 rfl) ?_ ?_ ?_ ?_ ?_ ?_);(exact (bB hzo));(exact bP cK (bB hzo));(exact (fa z));rfl;rfl;intro w9 hk hg;have H9:=ab (Mem.st H8.out 0 rfl hk hg);clear hk hg;simp only [xae]) | ((with_reducible refine ae 35 ?_);(refine aa rfl (.map (some w1.heap.size)) w9 (exec_load_cell 99 (.tmp 6) rfl ⟨w2.heap.size,0,none⟩ rfl _ _ w9 Tryz.underlying99 rfl (range_cell (Blk.range (Mem.blk H9.out 2 rfl)))) ?_)) | ((with_reducible refine ae 36 ?_);(refine aa rfl (.agg (bv z).toArray) w9 (ai 34 (.tmp 12) rfl wi.heap.size (0) rfl (bv z) _ w9 (Blk.range (Mem.blk H9.out 0 rfl)) Tryz.underlying34 rfl (bN hzo)) ?_)) | ((with_reducible refine sB 35 36 ?_);(refine rm rfl 99 (.tmp 35) (.tmp 36) (.const (.int .i64 1)) rfl ed (Mem.map H9.out 3 rfl) (key:=z) hzo Tryz.underlying99 (1:Nat) rfl rfl rfl ?_);intro w10 hm9 ht9;have H10:=ab (Mem.Gj H9.out 3 rfl hm9 ht9);clear hm9 ht9;simp only [xae,xaa,xab,xac]))
     go_wp2_with fail
     go_roundw
     case rel=>exact ⟨i+1,kT m2 z 1,by omega,by go_num,(HIK.out.put z).same (yX HZ.out),Mem.pick H10.out [1,2,3] (by decide) rfl⟩
     case measure=>simp [intOf];omega
    ·obtain rfl:i=(aP l k).length:=by omega
     go_wp2_with fail
     go_roundw
     case rel=>exact ⟨j+1,m2,by omega,by go_num,HIK.out.same (Br HX.out.2.2),Mem.pick HI.out [1,2] (by decide) rfl⟩
     case measure=>simp [intOf];omega
  ·obtain rfl:j=aL.length:=by omega
   rw [xaG] at HMK
   go_wp2_with fail
   have hc:=wu wo ls A cap (eZ.below HSR.out (Mem.below HM.out)) (by omega)
   rw [hlsn] at hc
   refine hc.mono ?_
   rintro e w7 ⟨u7,rfl,hm7⟩
   dsimp only
   obtain ⟨A7,c7,rfl⟩:=aI (Mem.own hm7 0 rfl)
   have H7:=ab hm7
   clear hm7 hc
   go_wp2_with fail
   have hcl:AS wo w2.heap.size ls (fun x=>!fQ l aL x.1):=fun W p hb hp=>zd wo W w2.heap.size (w1.heap.size) m (fQ l aL) (Blk.range (cs:=[.map (some w1.heap.size)]) (Mem.blk HM.out 0 rfl)) (Blk.lt (Mem.blk HM.out 0 rfl)) (Mem.map HM.out 1 rfl) HMK.out hb p.1 p.2.1 p.2.2 (HOK.out p hp).1 (HOK.out p hp).2.dK.1 (HOK.out p hp).2.dK.2
   have hd:=BC wo w7 wo.heap.size c7 (w2.heap.size) A7 ls (fun x=>!fQ l aL x.1) (by rw [hlsn];exact H7.out) (fun p hp=>⟨(HOK.out p hp).1,(HOK.out p hp).2.dK⟩) hcl (by omega)
   rw [hlsn] at hd
   refine hd.mono ?_
   rintro e w8 ⟨u8,rfl,hm8⟩
   dsimp only
   have hk8:(ls.filter fun p=>!(!fQ l aL p.1.1)).length=(fc l aL).length:=by rw [← nH HLS.out,xap]
   have hi8:aH.At w8 w8.heap.size [u8] (fc l aL):=by
    rw [← nH HLS.out]
    exact jK (by decide) (Mem.own hm8 0 rfl) _ (xag _) (fun p hp=>cF.2 ⟨p.2.1,p.2.2,rfl,(HOK.out p (List.mem_filter.1 hp).1).1,(HOK.out p (List.mem_filter.1 hp).1).2.eD ((Mem.below HM.out).trans (xar (Mem.below hm8) (Mem.below HM.out).size))⟩)
   rw [hk8] at hm8
   obtain ⟨A8,c8,rfl⟩:=aI (Mem.own hm8 0 rfl)
   have H8:=ab ((Mem.below HM.out).trans (xar (Mem.below hm8) (Mem.below HM.out).size))
   have HI8:=ab hi8
   clear hm8 hi8 hd hcl
   go_wp2_with fail
   refine (pd w8 (fc l aL) A8 c8 HI8.out (fun x hx=>hl x (Cj.1 hx).1) (by have:=List.length_filter_le (fun x=>fQ l aL x.1) l;unfold fc;omega)).mono ?_
   rintro e w9 ⟨u9,ls9,rfl,hls9,hm9⟩
   dsimp only
   obtain ⟨A9,c9,rfl⟩:=aI (Mem.own hm9 0 rfl)
   have hn9:ls9.length=(fc l aL).length:=by rw [← hls9,xap]
   rw [hn9] at hm9
   rw [hn9]
   have H9:=ab hm9
   have HL9:=ab hls9
   clear hm9 hls9
   go_wp2_with fail
   refine bodyPost_ret (bu (r1:=.tmp 4) (r2:=.tmp 5) rfl ⟨rfl,rfl,trivial⟩) rfl ?_
   exact ⟨A9,c9,ls9,rfl,HL9.out,Mem.pick (Mem.seq ((Mem.start w).call H8.out) (fi H9.out H8.out.size)) [0,1] (by decide) rfl⟩
theorem DU (w:World) (l:List Itm) (A:Option Addr) (cap:Nat) (h:aH.At w w.heap.size [.slice A l.length cap] l) (hl:∀ x∈l,x.2.2.1.length≤1000000∧x.2.2.2.length≤1000000) (u:Value) (ht:dp bA l=false) :
  Calls Tryz.prog 17 #[.slice A l.length cap,u] w fun e w'=>e=.returned (.tuple #[.slice none 0 0,.int .i64 2])∧Below w.heap.size w w':=by
 have H0:=ab (Mem.start w)
 go_enter Tryz.func17,Tryz.ntmps17
 go_wp2_with fail
 refine (ya w l A cap (fW h (Mem.below H0.out)) (fun x hx=>(hl x hx).1) false ht).mono ?_
 rintro e w1 ⟨rfl,hb⟩
 dsimp only
 have H1:=ab (Mem.call H0.out hb)
 clear hb
 go_wp2_with fail
 refine bodyPost_ret (bu (r1:=.tmp 4) (r2:=.tmp 5) rfl ⟨rfl,rfl,trivial⟩) rfl ?_
 exact ⟨rfl,Mem.below H1.out⟩
end Go.Proofs.YtomnhnmciopiiaaGreat
end
section
namespace Go.Proofs.YtomnhnmciopiiaaGreat
open Go Go.RowKit Go.Maps Go.WideShapes Go.ChangeShapes
def ll {α:Type} (f:α→Nat) (most:Nat):Nat→List α→Nat
 | n,[]=>n
 | n,x :: l=>if n≤most then ll f most (n+f x) l else n
section
variable {α:Type} {f:α→Nat} {most:Nat}
theorem y9 {l:List α} {k:Nat} {x:α} {n:Nat} (h:l[k]?=some x) (hn:n≤most):ll f most n (l.drop k)=ll f most (n+f x) (l.drop (k+1)):=by
 have hj:=(xah.1 h)
 rw [List.drop_eq_getElem_cons hj.1,hj.2,ll,if_pos hn]
theorem za {l:List α} {n:Nat} (hn:¬ n≤most):ll f most n l=n:=by
 cases l with
 | nil=>rfl
 | cons x l=>rw [ll,if_neg hn]
theorem yp (h1:∀ x,1≤f x):∀ (l:List α) (n:Nat),ll f most n l≤most→n+l.length≤most∧n+(l.map f).sum≤most∧∀ x∈l,f x≤most
 | [],n,h=>⟨h,by simpa using (show n≤most from h),fun x hx=>by cases hx⟩
 | x :: l,n,h=>by
  unfold ll at h
  split at h
  ·have h2:=yp h1 l _ h
   have:=h1 x
   rw [xaF,xa9,List.sum_cons]
   refine ⟨by omega,by omega,fun y hy=>?_⟩
   rcases xaD.1 hy with rfl | hy
   ·omega
   ·exact h2.2.2 y hy
  ·omega
end
theorem wD (most:Nat) (d:Drv):1≤eo most d:=xaH (by omega) (se most d.2.1 (1+d.1.size+d.2.2.length))
theorem sd (most:Nat):∀ (l:List Nam) (n:Nat),(∀ x∈l,x.1.size≤140737488355328∧x.2.1.2.size≤140737488355328)→n≤most+300000000000000→fH most n l≤most+300000000000000
 | [],n,_,h=>h
 | x :: l,n,hl,h=>by
  unfold fH
  split
  ·refine sd most l _ (fun y hy=>hl y (List.mem_cons_of_mem _ hy)) ?_
   have:=hl x (List.mem_cons_self ..)
   omega
  ·exact h
theorem rL (most:Nat) {d:Drv} (h:iU d):eo most d≤most+300000000000000:=sd most _ _ h.each (by have:=h.name;have:=h.rcp;omega)
theorem l6 {most:Nat} {d:Drv} (h:eo most d≤most):d.2.1.length≤most∧d.2.2.length≤most∧d.1.size≤most:=by
 have h1:=qg most _ _ h
 omega
theorem ph (w:World) (most:Nat) (hmo:most≤1000000) (d:Drv) (v1 v2:Value) (h:au w w.heap.size d v1 v2) (hl:iU d) :
  Calls Tryz.prog 8 #[.agg (dC d v1 v2).toArray,.int .i64 (most:Int)] w fun e w'=>e=.returned (.int .i64 (eo most d:Int))∧Below w.heap.size w w':=by
 obtain ⟨A,cap,rfl,hcl,hcm,_,hA⟩:=aj h.ins
 obtain ⟨A2,cap2,rfl,hcl2,hcm2,_,_⟩:=aj h.rcp
 have hl1:=hl.name
 have hl2:=hl.ins
 have hl3:=hl.rcp
 have i9:(d.2.1.length:Int)≤140737488355328:=by omega
 have i8:(d.2.2.length:Int)≤140737488355328:=by omega
 have i7:(d.1.size:Int)≤140737488355328:=by omega
 have HA:=ab hA
 have HL:=ab hl.each
 clear hA h hcl hcm hcl2 hcm2 hl
 go_enter Tryz.func8,Tryz.ntmps8
 go_wp2_with (first | ((with_reducible refine ae 2 ?_);(refine aF rfl 26 (.tmp 0) rfl (dC d (.slice A d.2.1.length cap) (.slice A2 d.2.2.length cap2)).toArray rfl ?_);intro w1 hn;have H1:=ab hn;clear hn;simp only [xae,xaa,xab,xac]) | ((with_reducible refine ae 8 ?_);(refine aa rfl (.string d.1) w1 (exec_load_cell 9 (.tmp 7) rfl ⟨w.heap.size,0,none⟩ rfl _ _ w1 Tryz.underlying9 rfl (show w1.cell? ⟨w.heap.size,0,none⟩=some (.string d.1) from H1.out.blk.cell 0)) ?_)) | ((with_reducible refine ae 12 ?_);(refine aa rfl (.slice A2 d.2.2.length cap2) w1 (exec_load_cell 24 (.tmp 11) rfl ⟨w.heap.size,2,none⟩ rfl _ _ w1 Tryz.underlying24 rfl (show w1.cell? ⟨w.heap.size,2,none⟩=some (.slice A2 d.2.2.length cap2) from H1.out.blk.cell 2)) ?_)))
 have c1:w1.cell? ⟨w.heap.size,1,none⟩=some (.slice A d.2.1.length cap):=H1.out.blk.cell 1
 go_loopw [5,6] (fun x5 x6 wr=>∃ (n k:Nat),k≤d.2.1.length∧n≤most+300000000000000∧x5=.int .i64 (n:Int)∧x6=.int .i64 (k:Int)∧eo most d=fH most n (d.2.1.drop k)∧Below w1.heap.size w1 wr) (fun _ x6 _=>d.2.1.length-(intOf x6).toNat)
 case atStart=>exact ⟨1+d.1.size+d.2.2.length,0,by omega,by omega,by go_num,rfl,rfl,xao _ _⟩
 case round =>
  obtain ⟨wo,rfl⟩:∃ wo,wo=wr:=⟨_,rfl⟩
  obtain ⟨n,j,hj,hn,rfl,rfl,hof,hb⟩:=hrel
  have HB:=ab (xad hof hb)
  clear hof hb
  have c1':wo.cell? ⟨w.heap.size,1,none⟩=some (.slice A d.2.1.length cap):=(xaV (HB.out.2.block _ H1.out.blk.lt)).trans c1
  have HC1:=ab c1'
  have j0:(0:Int)≤(j:Int):=by omega
  have n0:(0:Int)≤(n:Int):=by omega
  have n9:(n:Int)≤300000001000000:=by omega
  by_cases hj2:j<d.2.1.length
  ·have j1:(j:Int)<(d.2.1.length:Int):=by omega
   by_cases hn3:n≤most
   ·have n3:(n:Int)≤(most:Int):=by omega
    obtain ⟨x,hx⟩:∃ x,d.2.1[j]?=some x:=⟨_,xai hj2⟩
    obtain ⟨b,off,rfl,hlb,hE⟩:=HA.out (by omega)
    obtain ⟨cs,hr,hatx⟩:=hE j x hx
    obtain ⟨rfl,hxo⟩:=bZ.1 hatx
    have hr0:=bX hr (((HB.out.2.block b (by have:=H1.out.size;omega)).trans (H1.out.below.block b hlb)))
    have d0:wo.cell? ⟨b,off+j*43,none⟩=some (.string x.1):=hr0 0 _ rfl
    have d21:wo.cell? ⟨b,off+j*43+21,none⟩=some (.string x.2.1.2):=hr0 21 _ (F5 hxo)
    have hxl:=HL.out x (xaj hx)
    have x1:(x.1.size:Int)≤140737488355328:=by omega
    have x2:(x.2.1.2.size:Int)≤140737488355328:=by omega
    have hst:=ve hx hn3
    have HST:=ab hst
    have HD0:=ab (xad d0 d21)
    clear hx hE hr hatx hxo hr0 d0 d21 hst hxl
    go_wp2_with fail
    refine Fre.b4 (X:=Bel) 19 [] (by kernel_rfl) (by kernel_rfl) (by simp) (by simp) (by simp) ?_
    simp only [xau,xaC,xay,xaK]
    refine Fre.ag (.int .i64 (n:Int)) (by kernel_rfl) (by kernel_rfl) (by kernel_rfl) (fun _ _=>by kernel_rfl) ?_
    simp only [xae,xaa,xab,xac]
    refine Fre.ag (.int .i64 ((n:Int)+1)) (by kernel_rfl) (by kernel_rfl) (by kernel_rfl) (fun W9 hW9=>?hs1) ?_
    case hs1 =>
     go_simp
     all_goals exact xbe _ (by omega)
    simp only [xae,xaa,xab,xac]
    refine Fre.ag (.pointer (some ⟨w.heap.size,1,none⟩)) (by kernel_rfl) (by kernel_rfl) (by kernel_rfl) (fun _ _=>by kernel_rfl) ?_
    simp only [xae,xaa,xab,xac]
    refine Fre.ag (.slice (some ⟨b,off,none⟩) d.2.1.length cap) (by kernel_rfl) (by kernel_rfl) (by kernel_rfl) (fun W9 hW9=>exec_load_cell 23 (.tmp 29) rfl ⟨w.heap.size,1,none⟩ rfl _ _ W9 Tryz.underlying23 rfl (((xaV (Below.block hW9 _ (xa5 wo _ HC1.out))).trans HC1.out))) ?_
    simp only [xae,xaa,xab,xac]
    refine Fre.ag (.int .i64 (j:Int)) (by kernel_rfl) (by kernel_rfl) (by kernel_rfl) (fun _ _=>by kernel_rfl) ?_
    simp only [xae,xaa,xab,xac]
    refine Fre.ag (.pointer (some ⟨b,off+j*43,none⟩)) (by kernel_rfl) (by kernel_rfl) (by kernel_rfl) (fun W9 hW9=>bQ 23 87 (.tmp 30) (.tmp 31) rfl b off d.2.1.length cap j rfl rfl hj2 43 Tryz.underlying23 bz W9) ?_
    simp only [xae,xaa,xab,xac]
    refine Fre.ag (.pointer (some ⟨b,off+j*43,none⟩)) (by kernel_rfl) (by kernel_rfl) (by kernel_rfl) (fun _ _=>by kernel_rfl) ?_
    simp only [xae,xaa,xab,xac]
    refine Fre.ag (.string x.1) (by kernel_rfl) (by kernel_rfl) (by kernel_rfl) (fun W9 hW9=>exec_load_cell 9 (.tmp 33) rfl ⟨b,off+j*43,none⟩ rfl _ _ W9 Tryz.underlying9 rfl (((xaV (Below.block hW9 _ (xa5 wo _ HD0.out.1))).trans HD0.out.1))) ?_
    simp only [xae,xaa,xab,xac]
    refine Fre.ag (.int .i64 (x.1.size:Int)) (by kernel_rfl) (by kernel_rfl) (by kernel_rfl) (fun W9 hW9=>?hs2) ?_
    case hs2 =>
     go_simp
    simp only [xae,xaa,xab,xac]
    refine Fre.ag (.int .i64 ((n:Int)+1+(x.1.size:Int))) (by kernel_rfl) (by kernel_rfl) (by kernel_rfl) (fun W9 hW9=>?hs3) ?_
    case hs3 =>
     go_simp
     all_goals exact xbe _ (by omega)
    simp only [xae,xaa,xab,xac]
    refine Fre.ag (.pointer (some ⟨w.heap.size,1,none⟩)) (by kernel_rfl) (by kernel_rfl) (by kernel_rfl) (fun _ _=>by kernel_rfl) ?_
    simp only [xae,xaa,xab,xac]
    refine Fre.ag (.slice (some ⟨b,off,none⟩) d.2.1.length cap) (by kernel_rfl) (by kernel_rfl) (by kernel_rfl) (fun W9 hW9=>exec_load_cell 23 (.tmp 37) rfl ⟨w.heap.size,1,none⟩ rfl _ _ W9 Tryz.underlying23 rfl (((xaV (Below.block hW9 _ (xa5 wo _ HC1.out))).trans HC1.out))) ?_
    simp only [xae,xaa,xab,xac]
    refine Fre.ag (.int .i64 (j:Int)) (by kernel_rfl) (by kernel_rfl) (by kernel_rfl) (fun _ _=>by kernel_rfl) ?_
    simp only [xae,xaa,xab,xac]
    refine Fre.ag (.pointer (some ⟨b,off+j*43,none⟩)) (by kernel_rfl) (by kernel_rfl) (by kernel_rfl) (fun W9 hW9=>bQ 23 87 (.tmp 38) (.tmp 39) rfl b off d.2.1.length cap j rfl rfl hj2 43 Tryz.underlying23 bz W9) ?_
    simp only [xae,xaa,xab,xac]
    refine Fre.ag (.pointer (some ⟨b,off+j*43+1,none⟩)) (by kernel_rfl) (by kernel_rfl) (by kernel_rfl) (fun _ _=>by kernel_rfl) ?_
    simp only [xae,xaa,xab,xac]
    refine Fre.ag (.pointer (some ⟨b,off+j*43+1,none⟩)) (by kernel_rfl) (by kernel_rfl) (by kernel_rfl) (fun _ _=>by kernel_rfl) ?_
    simp only [xae,xaa,xab,xac]
    refine Fre.ag (.pointer (some ⟨b,off+j*43+21,none⟩)) (by kernel_rfl) (by kernel_rfl) (by kernel_rfl) (fun _ _=>by kernel_rfl) ?_
    simp only [xae,xaa,xab,xac]
    refine Fre.ag (.string x.2.1.2) (by kernel_rfl) (by kernel_rfl) (by kernel_rfl) (fun W9 hW9=>exec_load_cell 9 (.tmp 43) rfl ⟨b,off+j*43+21,none⟩ rfl _ _ W9 Tryz.underlying9 rfl (((xaV (Below.block hW9 _ (xa5 wo _ HD0.out.2))).trans HD0.out.2))) ?_
    simp only [xae,xaa,xab,xac]
    refine Fre.ag (.int .i64 (x.2.1.2.size:Int)) (by kernel_rfl) (by kernel_rfl) (by kernel_rfl) (fun W9 hW9=>?hs4) ?_
    case hs4 =>
     go_simp
    simp only [xae,xaa,xab,xac]
    intro w5 hx5
    have H5:=ab (HB.out.2.trans (xar hx5 HB.out.2.size))
    clear hx5
    dsimp only [Fre.ended,xaE]
    go_wp2_with fail
    go_roundw
    case rel=>exact ⟨n+1+x.1.size+x.2.1.2.size,j+1,by omega,by omega,by go_num,by go_num,by rw [HB.out.1];exact HST.out,H5.out⟩
    case measure=>simp [intOf];omega
   ·have n3:¬ (n:Int)≤(most:Int):=by omega
    have hfin:eo most d=n:=by rw [HB.out.1];exact vf hn3
    have HF:=ab hfin
    clear hfin
    go_wp2_with fail
    go_ret
    exact ⟨by rw [HF.out];rfl,H1.out.below.trans (xar HB.out.2 H1.out.below.size)⟩
  ·obtain rfl:j=d.2.1.length:=by omega
   have hfin:eo most d=n:=by rw [HB.out.1,List.drop_length];rfl
   have HF:=ab hfin
   clear hfin
   go_wp2_with fail
   go_ret
   exact ⟨by rw [HF.out];rfl,H1.out.below.trans (xar HB.out.2 H1.out.below.size)⟩
end Go.Proofs.YtomnhnmciopiiaaGreat
end
section
namespace Go.Proofs.YtomnhnmciopiiaaGreat
open Go Go.RowKit Go.Maps
theorem uD (w:World) (l:List Itm) (A:Option Addr) (cap:Nat) (h:aH.At w w.heap.size [.slice A l.length cap] l) (hl:∀ x∈l,iU x.2) :
  Calls Tryz.prog 7 #[.slice A l.length cap] w fun e w'=>e=.returned (.bool (decide (1500<ll (fun x:Itm=>eo 1500 x.2) 1500 0 l)))∧Below w.heap.size w w':=by
 obtain ⟨A',cap',e,_,hcm9,_,hA⟩:=aj h
 injection e with e1 e2 e3
 subst e1 e3
 have k9:(l.length:Int)≤9223372036854775807:=by simp only [maxLen] at hcm9;omega
 have HA:=ab hA
 have HL:=ab hl
 clear hA h e2 hl hcm9
 have H0:=ab (Mem.start w)
 go_enter Tryz.func7,Tryz.ntmps7
 go_wp2_with fail
 go_loopw [3,4] (fun xn xi wr=>∃ (n j:Nat),j≤l.length∧n≤600000000000000∧xn=.int .i64 (n:Int)∧xi=.int .i64 (j:Int)∧ll (fun x:Itm=>eo 1500 x.2) 1500 0 l=ll (fun x:Itm=>eo 1500 x.2) 1500 n (l.drop j)∧Mem w wr []) (fun _ xi _=>l.length-(intOf xi).toNat)
 case atStart=>exact ⟨0,0,by omega,by omega,rfl,rfl,rfl,H0.out⟩
 case round =>
  obtain ⟨wo,rfl⟩:∃ wo,wo=wr:=⟨_,rfl⟩
  obtain ⟨n,j,hj,hn,rfl,rfl,hcn,hm⟩:=hrel
  have HM:=ab hm
  have HC:=ab hcn
  clear hm hcn
  have j0:(0:Int)≤(j:Int):=by omega
  have n0:(0:Int)≤(n:Int):=by omega
  have n9:(n:Int)≤600000000000000:=by omega
  by_cases hj2:j<l.length
  ·have j1:(j:Int)<(l.length:Int):=by omega
   by_cases hn3:n≤1500
   ·have n3:(n:Int)≤(1500:Int):=by omega
    obtain ⟨x,hx⟩:∃ x,l[j]?=some x:=⟨_,xai (by omega)⟩
    obtain ⟨b,off,rfl,hltb,hE⟩:=HA.out (by omega)
    obtain ⟨cs,hrx,hatx⟩:=hE j x hx
    clear hE
    obtain ⟨q1,q2,rfl,hxo,hxd⟩:=cF.1 hatx
    obtain ⟨ho1,ho2⟩:=hxd.dK
    have hlx:=HL.out x (xaj hx)
    have hbd:=rL 1500 hlx
    have hst:=y9 (f:=(fun x:Itm=>eo 1500 x.2)) (most:=1500) hx hn3
    have HST:=ab hst
    have HX:=ab (xad hrx (xad hltb hxd))
    have HXL:=ab hlx
    clear hrx hltb hxd hatx hx hlx
    clear hst
    go_wp2_with (first | ((with_reducible refine ae 18 ?_);(refine aa rfl (.pointer (some ⟨b,off+j*23,none⟩)) wo (bQ 22 59 (.tmp 16) (.tmp 17) rfl b off l.length cap j rfl rfl hj2 23 Tryz.underlying22 cJ wo) ?_)) | ((with_reducible refine ae 20 ?_);(refine aa rfl (.agg (dC x.2 q1 q2).toArray) wo (ai 26 (.tmp 19) rfl b (off+j*23+20) rfl (dC x.2 q1 q2) _ wo (de hxo (Mem.range HM.out HX.out.1 HX.out.2.1)) Tryz.underlying26 rfl (aS x.2 q1 q2)) ?_)))
    refine (ph wo 1500 (by omega) x.2 q1 q2 (Mem.drv HM.out HX.out.2.2) HXL.out).mono ?_
    rintro e w1 ⟨rfl,hb⟩
    dsimp only
    have H1:=ab (Mem.call HM.out hb)
    clear hb
    go_wp2_with fail
    go_roundw
    case rel=>exact ⟨n+eo 1500 x.2,j+1,by omega,by omega,by go_num,by go_num,by rw [HC.out];exact HST.out,H1.out⟩
    case measure=>simp [intOf];omega
   ·have n3:¬ (n:Int)≤(1500:Int):=by omega
    have hfin:ll (fun x:Itm=>eo 1500 x.2) 1500 0 l=n:=by rw [HC.out];exact za hn3
    have HF:=ab hfin
    clear hfin
    cases hgr:decide ((n:Int) > 1500)
    ·have hgn:¬ (n:Int) > 1500:=of_decide_eq_false hgr
     clear hgr
     go_wp2_with fail
     go_ret
     exact ⟨by rw [HF.out,decide_eq_false (by omega)];rfl,Mem.below HM.out⟩
    ·have hgn:(n:Int) > 1500:=of_decide_eq_true hgr
     clear hgr
     go_wp2_with fail
     go_ret
     exact ⟨by rw [HF.out,decide_eq_true (by omega)];rfl,Mem.below HM.out⟩
  ·obtain rfl:j=l.length:=by omega
   have hfin:ll (fun x:Itm=>eo 1500 x.2) 1500 0 l=n:=by rw [HC.out,List.drop_length];rfl
   have HF:=ab hfin
   clear hfin
   cases hgr:decide ((n:Int) > 1500)
   ·have hgn:¬ (n:Int) > 1500:=of_decide_eq_false hgr
    clear hgr
    go_wp2_with fail
    go_ret
    exact ⟨by rw [HF.out,decide_eq_false (by omega)];rfl,Mem.below HM.out⟩
   ·have hgn:(n:Int) > 1500:=of_decide_eq_true hgr
    clear hgr
    go_wp2_with fail
    go_ret
    exact ⟨by rw [HF.out,decide_eq_true (by omega)];rfl,Mem.below HM.out⟩
end Go.Proofs.YtomnhnmciopiiaaGreat
end
section
namespace Go.Proofs.YtomnhnmciopiiaaGreat
open Go Go.RowKit Go.Maps
attribute [local irreducible] wpList
def hG (j:Nat) (h:Hsh):Nam:=(⟨#[xaJ (97+j)]⟩,(xaz 20 0,⟨#[]⟩),h,true)
def qa (hs:List Hsh):List Nam:=hs.zipIdx.map fun p=>hG p.2 p.1
def bM (s:ByteArray) (hs:List Hsh):Drv:=(s,qa hs,[])
def iP (s:ByteArray):Drv:=(s,[],[])
theorem hH (j:Nat) {h:Hsh} (hh:okH h):okN (hG j h):=⟨by show 1≤maxLen;decide,⟨rfl,by show 0≤maxLen;decide⟩,hh⟩
theorem u0 (hs:List Hsh):(qa hs).length=hs.length:=by simp [qa]
theorem kL {hs:List Hsh} {j:Nat} {h:Hsh} (hh:hs[j]?=some h):(qa (hs.take (j+1))).flatMap nC=(qa (hs.take j)).flatMap nC++nC (hG j h):=by
 have hl:(hs.take j).length=j:=by
  rw [xaN]
  have:=(xah.1 hh).1
  omega
 unfold qa
 rw [xaB,hh]
 simp only [Option.toList_some,List.zipIdx_append,hl,List.map_append,List.flatMap_append]
 simp
theorem Eu {hs:List Hsh} (h:∀ x∈hs,okH x):∀ x∈qa hs,okN x:=fun x hx=>by
 obtain ⟨p,hp,rfl⟩:=xaA.1 hx
 exact hH _ (h _ (xaj (List.mk_mem_zipIdx_iff_getElem?.1 hp)))
theorem zf {ρ:Operand→Value} {o:Oper} (x y:Operand) (ho:o.op=.build 85 #[(1,x),(2,y)]) {h:Hsh} (hh:okH h) (h1:ρ x=.agg (bv h).toArray) (h2:ρ y=.bool true) (w:World) :
  (execOp ρ o).run Tryz.prog w=.ok (.value (.agg (iC ((xaz 20 0,⟨#[]⟩),h,true)).toArray)) w :=
 qS 85 _ ho [pC (xaz 20 0,⟨#[]⟩),bv (xaz 20 0),[.bool false]] [21,20,1] rfl (places:=#[(0,21),(21,20),(41,1)]) Tryz.underlying85 (fun w=>by kernel_rfl) (fun w=>by kernel_rfl) rfl [(1,.agg (bv h).toArray),(2,.bool true)] (by simp [h1,h2]) (fun p hp=>by
  simp only [xaD,xaS,or_false] at hp
  rcases hp with rfl | rfl
  ·simp only [xaU,xal,bvL]
   rw [show h.length=20 from hh]
   rfl
  ·rfl) (by simp [kO,xaU,iC]) w
theorem mT {ρ:Operand→Value} {o:Oper} (x y:Operand) (ho:o.op=.build 87 #[(0,x),(1,y)]) {j:Nat} {h:Hsh} (hh:okH h) (h1:ρ x=.string ⟨#[xaJ (97+j)]⟩) (h2:ρ y=.agg (iC ((xaz 20 0,⟨#[]⟩),h,true)).toArray) (w:World) :
  (execOp ρ o).run Tryz.prog w=.ok (.value (.agg (nC (hG j h)).toArray)) w:=by
 refine Eq.trans (gC 87 x y ho (n1:=1) (n2:=42) (z:=.agg zcN) h1 h2 Tryz.underlying87 (fun w=>by kernel_rfl) (by kernel_rfl) (fun w=>by kernel_rfl) (by rfl) (by simp [xaU,iC,pC,bvL];rw [show h.length=20 from hh]) w) ?_
 simp [xaU,nC,hG]
theorem mO {r:Nat} {W:World} {j:Nat} (hj:97+j<256) (hb:Blk W r 5 #[.int .u8 ((97+j:Nat):Int)]):(convert 24 9 (.slice (some ⟨r,0,none⟩) 1 1)).run Tryz.prog W=.ok (.string ⟨#[xaJ (97+j)]⟩) W:=by
 have e:((xaJ (97+j)).toNat:Int)=((97+j:Nat):Int):=by
  rw [UInt8.toNat_ofNat',xbx (by omega)]
 refine run_convert_bytes_back (P:=Tryz.prog) W 24 9 5 ⟨r,0,none⟩ 1 [xaJ (97+j)] Tryz.underlying24 Tryz.underlying5 Tryz.underlying9 fun k hk=>?_
 have hk0:k=0:=by simp at hk;omega
 subst hk0
 rw [Addr.add_mid,Nat.zero_add]
 show W.cell? ⟨r,0,none⟩=some (.int .u8 ((xaJ (97+j)).toNat:Int))
 rw [e]
 exact hb.cell 0
theorem zW {w w':World} {u:Value} (s:ByteArray) (hs:List Hsh) (hso:s.size≤maxLen) (hho:∀ h∈hs,okH h) (hm:Mem w w' [ax w.heap.size 87 43 u hs.length ((qa (hs.take hs.length)).flatMap nC)]):Mem w w' [lq w.heap.size (bM s hs) u (.slice none 0 0)]:=by
 have h1:=hm.own 0 rfl
 rw [xaG] at h1
 refine hm.mD (e':=lq w.heap.size (bM s hs) u (.slice none 0 0)) 0 rfl (ky _ _ _ _) ⟨hso,Eu hho,(fun x hx=>by cases hx),(show w'.ownsRow _ _ _ _ (qa hs).length _ by rw [u0];exact h1),xbg _ _ _ _⟩ fun b hf=>?_
 rcases hf with hf | hf
 ·exact hf
 ·cases hf
theorem zV (w:World) (s:ByteArray) (hso:s.size≤maxLen) (hs:List Hsh) (A:Option Addr) (cap:Nat) (h:cT.At w w.heap.size [.slice A hs.length cap] hs) (hl9:hs.length≤100) :
  Calls Tryz.prog 26 #[.string s,.slice A hs.length cap] w fun e w'=>∃ u,e=.returned (.agg (dC (bM s hs) u (.slice none 0 0)).toArray)∧u.oneCell'=true∧Mem w w' [lq w.heap.size (bM s hs) u (.slice none 0 0)]:=by
 have hho9:∀ h∈hs,okH h:=fun x hx=>by
  obtain ⟨cs,hat⟩:=fo h hx
  exact (ep.1 hat).2
 obtain ⟨A',cap',e,_,_,_,hA⟩:=aj h
 injection e with e1 e2 e3
 subst e1 e3
 clear h e2
 have H0:=Mem.start w
 go_enter Tryz.func26,Tryz.ntmps26
 refine sk fun _ K1=>rl ?_
 refine nz 26 zcD fun w2 hn_=>?_
 have H3:=Mem.aM H0 hn_
 refine rn ?_
 refine nt (K1 _ _ (sk fun _ K4=>rl ?_))
 refine rv (v:=.agg (dC (iP s) (.slice none 0 0) (.slice none 0 0)).toArray) (by kernel_rfl) ?_
 refine nz 26 zcD fun w5 hn_=>?_
 have H6:=Mem.aM H3 hn_
 refine rn ?_
 refine stb (Mem.blk H6 0 rfl) (dS (iP s) (.slice none 0 0) (.slice none 0 0)) (bP gq (dS (iP s) (.slice none 0 0) (.slice none 0 0))) (lp (iP s) rfl rfl) fun w7 hk_ hg_=>?_
 have H8:=Mem.st H6 0 rfl hk_ hg_
 refine rn ?_
 refine nt (K4 _ _ (sk fun _ K9=>sk fun _ K10=>rl ?_))
 refine nt (K10 _ _ (wp_block ?_))
 have H11:=Mem.dE H8 w.heap.size 87 43
 go_loopw [6] (fun x6 wr=>∃ j:Nat,∃ A9:Option Addr,∃ c9:Nat,x6=.int .i64 (j:Int)∧(j≤hs.length)∧Mem w wr [ax w.heap.size 87 43 (.slice A9 j c9) j ((qa (hs.take j)).flatMap nC),bh (w2.heap.size) 26 (dC (iP s) (.slice A9 j c9) (.slice none 0 0)).toArray,bh (w.heap.size) 26 zcD]) (fun x6 _=>hs.length-(intOf x6).toNat)
 case atStart=>exact ⟨0,none,0,rfl,by omega,H11⟩
 case round =>
  obtain ⟨wo12,rfl⟩:∃ wo12,wo12=wr:=⟨_,rfl⟩
  obtain ⟨j,A9,c9,rfl,hj,H13⟩:=hrel
  refine sk fun _ K15=>sk fun _ K16=>rl ?_
  by_cases p17:(j:Int)<((hs.length:Nat):Int)
  ·refine rv (aK (decide_eq_true p17)) ?_
   refine nt (K16 _ _ (ct (ks (K15 _ _ (sk fun _ K18=>wp_block ?_)))))
   obtain ⟨b19,o20,rfl,hlt22,hE21⟩:=hA (by omega)
   obtain ⟨x23,hx24⟩:=gx (l:=hs) (j:=j)
   have hd25:=aD hx24
   obtain ⟨cs,hr26,ha27⟩:=hE21 (j) x23 hx24
   obtain ⟨rfl,ok28⟩:=ep.1 ha27
   have HS29:=Mem.pick H13 [] (by decide) rfl
   refine mj 17 rfl (by kernel_rfl) (fun d _ _ _ _ h=>by cases d<;>exact h) (by kernel_rfl) HS29 ?_
   intro w30 hb33 HS32
   have H31:=Mem.call H13 hb33
   clear HS29
   refine bn 0 1 _ (.pointer (some ⟨w2.heap.size,1,none⟩)) rfl (by kernel_rfl) (fun W9 hW9=>(by kernel_rfl)) HS32 ?_
   simp only [xaa,xae,xab,xac]
   refine bn 2 5 _ (.int .i64 (j:Int)) rfl (by kernel_rfl) (fun W9 hW9=>(gu (.tmp 6) rfl _ rfl W9)) HS32 ?_
   simp only [xaa,xae,xab,xac]
   refine bn 3 13 _ (.int .i64 ((97+j:Nat):Int)) rfl (by kernel_rfl) (fun W9 hW9=>(BK 3 3 (.const (.int .i64 97)) (.tmp 17) rfl .i64 (97) ((j:Int)) (((97+j:Nat):Int)) rfl rfl (by first | (rw [xbe _ (by omega)];done) | (rw [xbe _ (by omega)];omega) | (rw [xbe _ (by omega)];push_cast;omega)) W9)) HS32 ?_
   simp only [xaa,xae,xab,xac]
   refine bn 4 29 _ (.int .u8 ((97+j:Nat):Int)) rfl (by kernel_rfl) (fun W9 hW9=>(by go_simp;all_goals (rw [Go.IntWalk.u8_in _ (by omega)]))) HS32 ?_
   simp only [xaa,xae,xab,xac]
   refine bn 7 157 _ (.slice (some ⟨b19,o20,none⟩) hs.length cap) rfl (by kernel_rfl) (fun W9 hW9=>(gu (.tmp 1) rfl _ rfl W9)) HS32 ?_
   simp only [xaa,xae,xab,xac]
   refine bn 8 413 _ (.int .i64 (j:Int)) rfl (by kernel_rfl) (fun W9 hW9=>(gu (.tmp 6) rfl _ rfl W9)) HS32 ?_
   simp only [xaa,xae,xab,xac]
   refine bn 9 925 _ (.pointer (some ⟨b19,o20+j*20,none⟩)) rfl (by kernel_rfl) (fun W9 hW9=>(bQ 27 34 (.tmp 22) (.tmp 23) rfl b19 o20 (hs.length) cap (j) rfl rfl (by omega) 20 Tryz.underlying27 cr W9)) HS32 ?_
   simp only [xaa,xae,xab,xac]
   refine bn 10 1949 _ (.agg (bv x23).toArray) rfl (by kernel_rfl) (fun W9 hW9=>(ai 34 (.tmp 24) rfl b19 (o20+j*20) rfl (bv x23) _ W9 (Mem.range hW9 hr26 hlt22) Tryz.underlying34 rfl (bN ok28))) HS32 ?_
   simp only [xaa,xae,xab,xac]
   refine bn 11 3997 _ (.agg (iC ((xaz 20 0,⟨#[]⟩),x23,true)).toArray) rfl (by kernel_rfl) (fun W9 hW9=>(zf (.tmp 25) (.const (.bool true)) rfl ok28 rfl rfl W9)) HS32 ?_
   simp only [xaa,xae,xab,xac]
   refine pI [1,5] (by kernel_rfl) ?_
   intro z hz
   simp only [xaD,xaS,or_false] at hz
   rcases hz with rfl | rfl
   ·refine iL 1 3999 _ (.slice A9 j c9) w30 rfl (by kernel_rfl) (exec_load_cell 23 (.tmp 15) rfl ⟨w2.heap.size,1,none⟩ rfl _ _ _ Tryz.underlying23 rfl (range_cell (dg (Blk.range (Mem.blk H31 1 rfl))))) HS32 ?_
    simp only [xaa,xae,xab,xac]
    obtain ⟨w34,hw8⟩:∃ w8,w8=w30.alloc (.cells #[.int .u8 ((97+j:Nat):Int)] 5):=⟨_,rfl⟩
    have hn8:fy w30 w34 5 #[.int .u8 ((97+j:Nat):Int)]:=hw8▸bS _ _ _
    have H35:=Mem.aM H31 hn8
    have HS36:=Mem.pick H35 [] (by decide) rfl
    refine gY 5 4031 _ (.slice (some ⟨w30.heap.size,0,none⟩) 1 1) w34 rfl (by kernel_rfl) (by rw [hw8];exact bl (v:=.int .u8 ((97+j:Nat):Int)) 24 (.tmp 19) rfl rfl Tryz.underlying24 (e:=5) (n:=1) (by kernel_rfl) (by omega) (by omega) (z:=(.int .u8 0)) (fun w=>by kernel_rfl) rfl w30) HS36 ?_
    clear hw8 hn8 HS32
    simp only [xaa,xae,xab,xac]
    refine gY 6 4095 _ (.string ⟨#[xaJ (97+j)]⟩) w34 rfl (by kernel_rfl) (eS 24 9 (.tmp 20) rfl _ rfl _ (mO (by omega) (Mem.blk H35 0 rfl))) HS36 ?_
    simp only [xaa,xae,xab,xac]
    refine bn 12 8191 _ (.agg (nC (hG j x23)).toArray) rfl (by kernel_rfl) (fun W9 hW9=>(mT (.tmp 21) (.tmp 26) rfl ok28 rfl rfl W9)) HS36 ?_
    simp only [xaa,xae,xab,xac]
    obtain ⟨w37,hw8⟩:∃ w8,w8=w34.alloc (.cells (nC (hG j x23)).toArray 87):=⟨_,rfl⟩
    have hn8:fy w34 w37 87 (nC (hG j x23)).toArray:=hw8▸bS _ _ _
    have H38:=Mem.aM H35 hn8
    have HS39:=Mem.pick H38 [] (by decide) rfl
    refine gY 13 16383 _ (.slice (some ⟨w34.heap.size,0,none⟩) 1 1) w37 rfl (by kernel_rfl) (by rw [hw8];exact bl (v:=.agg (nC (hG j x23)).toArray) 23 (.tmp 27) rfl rfl Tryz.underlying23 (e:=87) (n:=43) bz (by omega) (by omega) (z:=(.agg zcN)) (fun w=>by kernel_rfl) (by rw [xaU,xal];exact cV (hH j ok28)) w34) HS39 ?_
    clear hw8 hn8 HS36
    simp only [xaa,xae,xab,xac]
    obtain ⟨inm87,iq87,ir87,is87,it87⟩:=info_parts fV
    refine mi 14 32767 _ rfl (by kernel_rfl) _ _ 23 rfl w.heap.size 87 _ _ 43 80 Tryz.underlying23 iq87 ir87 is87 it87 rfl (by decide) (Mem.own H38 2 rfl) (bU (n:=43) (m:=1) (Mem.blk H38 0 rfl) (cV (hH j ok28)) (fj (hG j x23))) (by simp only [maxLen];omega) (by omega) (Mem.below H38).size rfl rfl ?_
    intro u8 w40 ow gr hp8
    rw [← kL hx24] at ow
    have H41:=Mem.app H38 2 rfl ow gr hp8
    obtain ⟨A8,c8,rfl⟩:=aI ow
    have HS42:=Mem.pick H41 [] (by decide) rfl
    refine ⟨HS42,?_⟩
    clear ow gr hp8 HS39
    simp only [xaa,xae,xab,xac]
    refine bn 15 65535 _ (.pointer (some ⟨w2.heap.size,1,none⟩)) rfl (by kernel_rfl) (fun W9 hW9=>(by kernel_rfl)) HS42 ?_
    simp only [xaa,xae,xab,xac]
    refine kE 16 131071 _ rfl (by kernel_rfl) 23 (.tmp 30) (.tmp 29) rfl (Mem.blk H41 3 rfl) (xaW rfl) (by kernel_rfl) (.slice A8 (j+1) c8) rfl rfl rfl ?_
    intro w43 hk8 hg8
    have H44:=Mem.st (cs':=(dC (iP s) (.slice A8 (j+1) c8) (.slice none 0 0)).toArray) H41 3 rfl hk8 hg8
    have HS45:=Mem.pick H44 [] (by decide) rfl
    refine ⟨HS45,?_⟩
    clear hk8 hg8 HS42
    simp only [xaa,xae,xab,xac]
    refine gX (by kernel_rfl) ?_
    refine ar (ah (K18 _ _ (rl ?_)))
    refine rv (bp (((j+1:Nat):Int))) ?_
    refine wpList_nil ?_
    have H46:=Mem.pick H44 [2,3,4] (by decide) rfl
    refine ah ?_
    show _∧_
    go_roundw
    case rel=>exact ⟨(j+1),A8,c8,rfl,by omega,H46⟩
    case measure=>simp [intOf];omega
   ·obtain ⟨w47,hw8⟩:∃ w8,w8=w30.alloc (.cells #[.int .u8 ((97+j:Nat):Int)] 5):=⟨_,rfl⟩
    have hn8:fy w30 w47 5 #[.int .u8 ((97+j:Nat):Int)]:=hw8▸bS _ _ _
    have H48:=Mem.aM H31 hn8
    have HS49:=Mem.pick H48 [] (by decide) rfl
    refine iL 5 4029 _ (.slice (some ⟨w30.heap.size,0,none⟩) 1 1) w47 rfl (by kernel_rfl) (by rw [hw8];exact bl (v:=.int .u8 ((97+j:Nat):Int)) 24 (.tmp 19) rfl rfl Tryz.underlying24 (e:=5) (n:=1) (by kernel_rfl) (by omega) (by omega) (z:=(.int .u8 0)) (fun w=>by kernel_rfl) rfl w30) HS49 ?_
    clear hw8 hn8 HS32
    simp only [xaa,xae,xab,xac]
    refine pI [1,6] (by kernel_rfl) ?_
    intro z hz
    simp only [xaD,xaS,or_false] at hz
    rcases hz with rfl | rfl
    ·refine iL 1 4031 _ (.slice A9 j c9) w47 rfl (by kernel_rfl) (exec_load_cell 23 (.tmp 15) rfl ⟨w2.heap.size,1,none⟩ rfl _ _ _ Tryz.underlying23 rfl (range_cell (dg (Blk.range (Mem.blk H48 2 rfl))))) HS49 ?_
     simp only [xaa,xae,xab,xac]
     refine gY 6 4095 _ (.string ⟨#[xaJ (97+j)]⟩) w47 rfl (by kernel_rfl) (eS 24 9 (.tmp 20) rfl _ rfl _ (mO (by omega) (Mem.blk H48 0 rfl))) HS49 ?_
     simp only [xaa,xae,xab,xac]
     refine bn 12 8191 _ (.agg (nC (hG j x23)).toArray) rfl (by kernel_rfl) (fun W9 hW9=>(mT (.tmp 21) (.tmp 26) rfl ok28 rfl rfl W9)) HS49 ?_
     simp only [xaa,xae,xab,xac]
     obtain ⟨w50,hw8⟩:∃ w8,w8=w47.alloc (.cells (nC (hG j x23)).toArray 87):=⟨_,rfl⟩
     have hn8:fy w47 w50 87 (nC (hG j x23)).toArray:=hw8▸bS _ _ _
     have H51:=Mem.aM H48 hn8
     have HS52:=Mem.pick H51 [] (by decide) rfl
     refine gY 13 16383 _ (.slice (some ⟨w47.heap.size,0,none⟩) 1 1) w50 rfl (by kernel_rfl) (by rw [hw8];exact bl (v:=.agg (nC (hG j x23)).toArray) 23 (.tmp 27) rfl rfl Tryz.underlying23 (e:=87) (n:=43) bz (by omega) (by omega) (z:=(.agg zcN)) (fun w=>by kernel_rfl) (by rw [xaU,xal];exact cV (hH j ok28)) w47) HS52 ?_
     clear hw8 hn8 HS49
     simp only [xaa,xae,xab,xac]
     obtain ⟨inm87,iq87,ir87,is87,it87⟩:=info_parts fV
     refine mi 14 32767 _ rfl (by kernel_rfl) _ _ 23 rfl w.heap.size 87 _ _ 43 80 Tryz.underlying23 iq87 ir87 is87 it87 rfl (by decide) (Mem.own H51 2 rfl) (bU (n:=43) (m:=1) (Mem.blk H51 0 rfl) (cV (hH j ok28)) (fj (hG j x23))) (by simp only [maxLen];omega) (by omega) (Mem.below H51).size rfl rfl ?_
     intro u8 w53 ow gr hp8
     rw [← kL hx24] at ow
     have H54:=Mem.app H51 2 rfl ow gr hp8
     obtain ⟨A8,c8,rfl⟩:=aI ow
     have HS55:=Mem.pick H54 [] (by decide) rfl
     refine ⟨HS55,?_⟩
     clear ow gr hp8 HS52
     simp only [xaa,xae,xab,xac]
     refine bn 15 65535 _ (.pointer (some ⟨w2.heap.size,1,none⟩)) rfl (by kernel_rfl) (fun W9 hW9=>(by kernel_rfl)) HS55 ?_
     simp only [xaa,xae,xab,xac]
     refine kE 16 131071 _ rfl (by kernel_rfl) 23 (.tmp 30) (.tmp 29) rfl (Mem.blk H54 3 rfl) (xaW rfl) (by kernel_rfl) (.slice A8 (j+1) c8) rfl rfl rfl ?_
     intro w56 hk8 hg8
     have H57:=Mem.st (cs':=(dC (iP s) (.slice A8 (j+1) c8) (.slice none 0 0)).toArray) H54 3 rfl hk8 hg8
     have HS58:=Mem.pick H57 [] (by decide) rfl
     refine ⟨HS58,?_⟩
     clear hk8 hg8 HS55
     simp only [xaa,xae,xab,xac]
     refine gX (by kernel_rfl) ?_
     refine ar (ah (K18 _ _ (rl ?_)))
     refine rv (bp (((j+1:Nat):Int))) ?_
     refine wpList_nil ?_
     have H59:=Mem.pick H57 [2,3,4] (by decide) rfl
     refine ah ?_
     show _∧_
     go_roundw
     case rel=>exact ⟨(j+1),A8,c8,rfl,by omega,H59⟩
     case measure=>simp [intOf];omega
    ·refine iL 6 4093 _ (.string ⟨#[xaJ (97+j)]⟩) w47 rfl (by kernel_rfl) (eS 24 9 (.tmp 20) rfl _ rfl _ (mO (by omega) (Mem.blk H48 0 rfl))) HS49 ?_
     simp only [xaa,xae,xab,xac]
     refine bn 12 8189 _ (.agg (nC (hG j x23)).toArray) rfl (by kernel_rfl) (fun W9 hW9=>(mT (.tmp 21) (.tmp 26) rfl ok28 rfl rfl W9)) HS49 ?_
     simp only [xaa,xae,xab,xac]
     refine pI [1,13] (by kernel_rfl) ?_
     intro z hz
     simp only [xaD,xaS,or_false] at hz
     rcases hz with rfl | rfl
     ·refine iL 1 8191 _ (.slice A9 j c9) w47 rfl (by kernel_rfl) (exec_load_cell 23 (.tmp 15) rfl ⟨w2.heap.size,1,none⟩ rfl _ _ _ Tryz.underlying23 rfl (range_cell (dg (Blk.range (Mem.blk H48 2 rfl))))) HS49 ?_
      simp only [xaa,xae,xab,xac]
      obtain ⟨w60,hw8⟩:∃ w8,w8=w47.alloc (.cells (nC (hG j x23)).toArray 87):=⟨_,rfl⟩
      have hn8:fy w47 w60 87 (nC (hG j x23)).toArray:=hw8▸bS _ _ _
      have H61:=Mem.aM H48 hn8
      have HS62:=Mem.pick H61 [] (by decide) rfl
      refine gY 13 16383 _ (.slice (some ⟨w47.heap.size,0,none⟩) 1 1) w60 rfl (by kernel_rfl) (by rw [hw8];exact bl (v:=.agg (nC (hG j x23)).toArray) 23 (.tmp 27) rfl rfl Tryz.underlying23 (e:=87) (n:=43) bz (by omega) (by omega) (z:=(.agg zcN)) (fun w=>by kernel_rfl) (by rw [xaU,xal];exact cV (hH j ok28)) w47) HS62 ?_
      clear hw8 hn8 HS49
      simp only [xaa,xae,xab,xac]
      obtain ⟨inm87,iq87,ir87,is87,it87⟩:=info_parts fV
      refine mi 14 32767 _ rfl (by kernel_rfl) _ _ 23 rfl w.heap.size 87 _ _ 43 80 Tryz.underlying23 iq87 ir87 is87 it87 rfl (by decide) (Mem.own H61 2 rfl) (bU (n:=43) (m:=1) (Mem.blk H61 0 rfl) (cV (hH j ok28)) (fj (hG j x23))) (by simp only [maxLen];omega) (by omega) (Mem.below H61).size rfl rfl ?_
      intro u8 w63 ow gr hp8
      rw [← kL hx24] at ow
      have H64:=Mem.app H61 2 rfl ow gr hp8
      obtain ⟨A8,c8,rfl⟩:=aI ow
      have HS65:=Mem.pick H64 [] (by decide) rfl
      refine ⟨HS65,?_⟩
      clear ow gr hp8 HS62
      simp only [xaa,xae,xab,xac]
      refine bn 15 65535 _ (.pointer (some ⟨w2.heap.size,1,none⟩)) rfl (by kernel_rfl) (fun W9 hW9=>(by kernel_rfl)) HS65 ?_
      simp only [xaa,xae,xab,xac]
      refine kE 16 131071 _ rfl (by kernel_rfl) 23 (.tmp 30) (.tmp 29) rfl (Mem.blk H64 3 rfl) (xaW rfl) (by kernel_rfl) (.slice A8 (j+1) c8) rfl rfl rfl ?_
      intro w66 hk8 hg8
      have H67:=Mem.st (cs':=(dC (iP s) (.slice A8 (j+1) c8) (.slice none 0 0)).toArray) H64 3 rfl hk8 hg8
      have HS68:=Mem.pick H67 [] (by decide) rfl
      refine ⟨HS68,?_⟩
      clear hk8 hg8 HS65
      simp only [xaa,xae,xab,xac]
      refine gX (by kernel_rfl) ?_
      refine ar (ah (K18 _ _ (rl ?_)))
      refine rv (bp (((j+1:Nat):Int))) ?_
      refine wpList_nil ?_
      have H69:=Mem.pick H67 [2,3,4] (by decide) rfl
      refine ah ?_
      show _∧_
      go_roundw
      case rel=>exact ⟨(j+1),A8,c8,rfl,by omega,H69⟩
      case measure=>simp [intOf];omega
     ·obtain ⟨w70,hw8⟩:∃ w8,w8=w47.alloc (.cells (nC (hG j x23)).toArray 87):=⟨_,rfl⟩
      have hn8:fy w47 w70 87 (nC (hG j x23)).toArray:=hw8▸bS _ _ _
      have H71:=Mem.aM H48 hn8
      have HS72:=Mem.pick H71 [] (by decide) rfl
      refine iL 13 16381 _ (.slice (some ⟨w47.heap.size,0,none⟩) 1 1) w70 rfl (by kernel_rfl) (by rw [hw8];exact bl (v:=.agg (nC (hG j x23)).toArray) 23 (.tmp 27) rfl rfl Tryz.underlying23 (e:=87) (n:=43) bz (by omega) (by omega) (z:=(.agg zcN)) (fun w=>by kernel_rfl) (by rw [xaU,xal];exact cV (hH j ok28)) w47) HS72 ?_
      clear hw8 hn8 HS49
      simp only [xaa,xae,xab,xac]
      refine gY 1 16383 _ (.slice A9 j c9) w70 rfl (by kernel_rfl) (exec_load_cell 23 (.tmp 15) rfl ⟨w2.heap.size,1,none⟩ rfl _ _ _ Tryz.underlying23 rfl (range_cell (dg (Blk.range (Mem.blk H71 3 rfl))))) HS72 ?_
      simp only [xaa,xae,xab,xac]
      obtain ⟨inm87,iq87,ir87,is87,it87⟩:=info_parts fV
      refine mi 14 32767 _ rfl (by kernel_rfl) _ _ 23 rfl w.heap.size 87 _ _ 43 80 Tryz.underlying23 iq87 ir87 is87 it87 rfl (by decide) (Mem.own H71 2 rfl) (bU (n:=43) (m:=1) (Mem.blk H71 0 rfl) (cV (hH j ok28)) (fj (hG j x23))) (by simp only [maxLen];omega) (by omega) (Mem.below H71).size rfl rfl ?_
      intro u8 w73 ow gr hp8
      rw [← kL hx24] at ow
      have H74:=Mem.app H71 2 rfl ow gr hp8
      obtain ⟨A8,c8,rfl⟩:=aI ow
      have HS75:=Mem.pick H74 [] (by decide) rfl
      refine ⟨HS75,?_⟩
      clear ow gr hp8 HS72
      simp only [xaa,xae,xab,xac]
      refine bn 15 65535 _ (.pointer (some ⟨w2.heap.size,1,none⟩)) rfl (by kernel_rfl) (fun W9 hW9=>(by kernel_rfl)) HS75 ?_
      simp only [xaa,xae,xab,xac]
      refine kE 16 131071 _ rfl (by kernel_rfl) 23 (.tmp 30) (.tmp 29) rfl (Mem.blk H74 3 rfl) (xaW rfl) (by kernel_rfl) (.slice A8 (j+1) c8) rfl rfl rfl ?_
      intro w76 hk8 hg8
      have H77:=Mem.st (cs':=(dC (iP s) (.slice A8 (j+1) c8) (.slice none 0 0)).toArray) H74 3 rfl hk8 hg8
      have HS78:=Mem.pick H77 [] (by decide) rfl
      refine ⟨HS78,?_⟩
      clear hk8 hg8 HS75
      simp only [xaa,xae,xab,xac]
      refine gX (by kernel_rfl) ?_
      refine ar (ah (K18 _ _ (rl ?_)))
      refine rv (bp (((j+1:Nat):Int))) ?_
      refine wpList_nil ?_
      have H79:=Mem.pick H77 [2,3,4] (by decide) rfl
      refine ah ?_
      show _∧_
      go_roundw
      case rel=>exact ⟨(j+1),A8,c8,rfl,by omega,H79⟩
      case measure=>simp [intOf];omega
  ·have he80:=bE (l:=hs) (j:=j) (by omega)
   refine rv (aK (decide_eq_false p17)) ?_
   refine nt (K16 _ _ (cf (wp_exit (an (an (aB (ah (K9 _ _ (sk fun _ K81=>rl ?_)))))))))
   refine rv (xld (Blk.range (Mem.blk H13 1 rfl)) Tryz.underlying26 (aS (iP s) (.slice A9 j c9) (.slice none 0 0))) ?_
   refine stb (Mem.blk H13 2 rfl) (dS (iP s) (.slice A9 j c9) (.slice none 0 0)) (bP gq (dS (iP s) (.slice A9 j c9) (.slice none 0 0))) (lp (iP s) rfl rfl) fun w82 hk_ hg_=>?_
   have H83:=Mem.st H13 2 rfl hk_ hg_
   refine rn ?_
   refine nt (K81 _ _ ?_)
   refine wp_ret ?_
   refine bodyPost_ret (gK (r1:=.cell 4 26) rfl ⟨⟨_,rfl,dP (Blk.range (Mem.blk H83 2 rfl)) Tryz.underlying26 rfl (aS (iP s) (.slice A9 j c9) (.slice none 0 0))⟩,trivial⟩) rfl ?_
   have hje:j=hs.length:=by omega
   subst hje
   exact ⟨_,rfl,rfl,zW s hs hso hho9 (Mem.pick H83 [0] (by decide) rfl)⟩
end Go.Proofs.YtomnhnmciopiiaaGreat
end
section
namespace Go.Proofs.YtomnhnmciopiiaaGreat
open Go Go.RowKit Go.Maps
theorem Gb (w:World) (d:Drv) (v1 v2:Value) (h:au w w.heap.size d v1 v2) (hp:bF d=0) (c:Hsh) (hc:bA d=c) :
  Calls Tryz.prog 56 #[.agg (dC d v1 v2).toArray] w fun e w'=>e=.returned (.agg (bv c).toArray)∧Below w.heap.size w w':=hc▸Fh w d v1 v2 h hp
theorem DC (w w1:World) (g0 g2 g3 g4 g5:Nat) (l:List Itm) (A:Option Addr) (cap:Nat) (d:Drv) (v1 v2:Value) (_:v1.oneCell'=true) (_:v2.oneCell'=true) (h:aH.At w w.heap.size [.slice A l.length cap] l) (hl:∀ x∈l,x.2.2.1.length≤1000000∧x.2.2.2.length≤1000000) (hn:l.length≤1000000) (hd:au w w.heap.size d v1 v2) (hdl:d.2.1.length≤1000000∧d.2.2.length≤1000000) (c:Hsh) (hc:bA d=c) (nl:List Itm) (hr:dq bA l d=(nl,c,0))
  (hm:Mem w w1 [bh g0 35 #[.int .i64 0],bh g5 34 zcH,bh g4 22 #[.slice none 0 0],bh g3 26 (dC d v1 v2).toArray,bh g2 22 #[.slice A l.length cap]]) :
  Calls Tryz.prog 59 #[.pointer (some ⟨g2,0,none⟩),.pointer (some ⟨g3,0,none⟩),.pointer (some ⟨g4,0,none⟩),.pointer (some ⟨g5,0,none⟩)] w1 fun e w'=>e=.returned (.tuple #[])∧∃ u ls,ls.map (·.1)=nl∧Mem w w' (gE w.heap.size u ls++[bh g0 35 #[.int .i64 0],bh g5 34 (bv c).toArray,bh g4 22 #[u],bh g3 26 (dC d v1 v2).toArray,bh g2 22 #[.slice A l.length cap]]):=by
 have hcc:okH c:=hc▸gy d
 have HAT:=ab h
 have HL:=ab hl
 have HD:=ab hd
 have HC:=ab hc
 have HR:=ab hr
 have HM:=ab hm
 clear h hl hd hc hr hm
 go_enter Tryz.func59,Tryz.ntmps59
 go_wp2_with (first | ((with_reducible refine ae 5 ?_);(refine aa rfl (.slice A l.length cap) w1 (exec_load_cell 22 (.tmp 0) rfl ⟨g2,0,none⟩ rfl _ _ w1 Tryz.underlying22 rfl (range_cell (Blk.range (Mem.blk HM.out 4 rfl)))) ?_)) | ((with_reducible refine ae 6 ?_);(refine aa rfl (.agg (dC d v1 v2).toArray) w1 (ai 26 (.tmp 1) rfl g3 (0) rfl (dC d v1 v2) _ w1 (Blk.range (Mem.blk HM.out 3 rfl)) Tryz.underlying26 rfl (aS d v1 v2)) ?_)))
 refine (tT w1 l A cap (Mem.lay HM.out HAT.out) HL.out hn d v1 v2 (Mem.drv HM.out HD.out) hdl c HC.out (nl,c,0) HR.out).mono ?_
 rintro e w2 hq
 unfold ld at hq
 rw [if_pos rfl] at hq
 obtain ⟨u,ls,rfl,hls,hm⟩:=hq
 have hu1:u.oneCell'=true:=by obtain ⟨A9,c9,e9⟩:=aI (Mem.own hm 0 rfl);rw [e9];rfl
 dsimp only
 have H2:=ab (Mem.seq HM.out (fi hm (Mem.below HM.out).size))
 have HLS:=ab hls
 clear hm hls
 go_wp2_with (first | ((with_reducible refine aV 2 8 ?_);(refine bD rfl 22 (.tmp 2) (.tmp 8) rfl g4 (0) 22 ([.slice none 0 0]).toArray (Mem.blk H2.out 4 rfl) (xaW rfl) (by kernel_rfl) (u) hu1 rfl rfl ?_);intro w3 hk hg hz;have H3:=ab (Mem.st (cs':=([u]).toArray) H2.out 4 rfl hk hg);clear hk hg hz;simp only [xae]) | ((with_reducible refine aV 3 9 ?_);(with_reducible refine ak rfl 34 (.tmp 3) (.tmp 9) rfl g5 zcH (bv c).toArray 34 (Mem.blk H3.out 3 rfl) ?_ ?_ ?_ ?_ ?_ ?_);(exact (bB hcc));(exact bP cK (bB hcc));(exact (fa c));rfl;rfl;intro w4 hk hg;have H4:=ab (Mem.st H3.out 3 rfl hk hg);clear hk hg;simp only [xae]))
 go_end0
 exact ⟨rfl,u,ls,HLS.out,Mem.pick H4.out [0,1,2,3,4,5,6] (by decide) rfl⟩
theorem DB (w w1:World) (g0 g2 g3 g4 g5:Nat) (l:List Itm) (A:Option Addr) (cap:Nat) (d:Drv) (v1 v2:Value) (_:v1.oneCell'=true) (_:v2.oneCell'=true) (h:aH.At w w.heap.size [.slice A l.length cap] l) (hl:∀ x∈l,x.2.2.1.length≤1000000∧x.2.2.2.length≤1000000) (hn:l.length≤1000000) (hd:au w w.heap.size d v1 v2) (hdl:d.2.1.length≤1000000∧d.2.2.length≤1000000) (c:Hsh) (hc:bA d=c) (nl:List Itm) (c2:Hsh) (k:Int) (hk:k ≠ 0) (hr:dq bA l d=(nl,c2,k))
  (hm:Mem w w1 [bh g0 35 #[.int .i64 0],bh g5 34 zcH,bh g4 22 #[.slice none 0 0],bh g3 26 (dC d v1 v2).toArray,bh g2 22 #[.slice A l.length cap]]) :
  Calls Tryz.prog 59 #[.pointer (some ⟨g2,0,none⟩),.pointer (some ⟨g3,0,none⟩),.pointer (some ⟨g4,0,none⟩),.pointer (some ⟨g5,0,none⟩)] w1 fun e w'=>e=.panicked [{ v:=eO k,recovered:=false }]∧Mem w w' [bh g0 35 #[.int .i64 0],bh g5 34 zcH,bh g4 22 #[.slice none 0 0],bh g3 26 (dC d v1 v2).toArray,bh g2 22 #[.slice A l.length cap]]:=by
 have HAT:=ab h
 have HL:=ab hl
 have HD:=ab hd
 have HC:=ab hc
 have HR:=ab hr
 have HM:=ab hm
 have HK:=ab hk
 clear h hl hd hc hr hm hk
 go_enter Tryz.func59,Tryz.ntmps59
 go_wp2_with (first | ((with_reducible refine ae 5 ?_);(refine aa rfl (.slice A l.length cap) w1 (exec_load_cell 22 (.tmp 0) rfl ⟨g2,0,none⟩ rfl _ _ w1 Tryz.underlying22 rfl (range_cell (Blk.range (Mem.blk HM.out 4 rfl)))) ?_)) | ((with_reducible refine ae 6 ?_);(refine aa rfl (.agg (dC d v1 v2).toArray) w1 (ai 26 (.tmp 1) rfl g3 (0) rfl (dC d v1 v2) _ w1 (Blk.range (Mem.blk HM.out 3 rfl)) Tryz.underlying26 rfl (aS d v1 v2)) ?_)))
 refine (tT w1 l A cap (Mem.lay HM.out HAT.out) HL.out hn d v1 v2 (Mem.drv HM.out HD.out) hdl c HC.out (nl,c2,k) HR.out).mono ?_
 rintro e wz hq
 unfold ld at hq
 rw [if_neg HK.out] at hq
 obtain ⟨rfl,hb⟩:=hq
 dsimp only
 change bodyPost Tryz.prog Tryz.f59 _ _ _ _
 simp only [bodyPost]
 exact ⟨trivial,trivial,Mem.call HM.out hb⟩
theorem yi (w:World) (l:List Itm) (A:Option Addr) (cap:Nat) (d:Drv) (v1 v2:Value) (h:aH.At w w.heap.size [.slice A l.length cap] l) (hl:∀ x∈l,x.2.2.1.length≤1000000∧x.2.2.2.length≤1000000) (hn9:l.length≤1000000) (hd:au w w.heap.size d v1 v2) (hdl:d.2.1.length≤1000000∧d.2.2.length≤1000000) (c:Hsh) (hc:bA d=c) (nl:List Itm) (hr:dq bA l d=(nl,c,0)) :
  Calls Tryz.prog 14 #[.slice A l.length cap,.agg (dC d v1 v2).toArray] w fun e w'=>∃ u ls,e=.returned (.tuple #[u,.agg (bv c).toArray,.int .i64 0])∧ls.map (·.1)=nl∧Mem w w' (gE w.heap.size u ls):=by
 have hcc:okH c:=hc▸gy d
 obtain ⟨ho1,ho2⟩:=hd.dK
 have HAT:=ab h
 have HL:=ab hl
 have HD:=ab hd
 have HC:=ab hc
 have HR:=ab hr
 clear h hl hd hc hr
 have H0:=ab (Mem.start w)
 go_enter Tryz.func14,Tryz.ntmps14
 go_wp2_with (first | ((with_reducible refine ae 2 ?_);(refine nU rfl 22 (.tmp 0) rfl (.slice A l.length cap) rfl rfl ?_);intro w1 hn;have H1:=ab (Mem.aM H0.out hn);clear hn;simp only [xae,xaa,xab,xac]) | ((with_reducible refine ae 3 ?_);(refine aF rfl 26 (.tmp 1) rfl (dC d v1 v2).toArray rfl ?_);intro w2 hn;have H2:=ab (Mem.aM H1.out hn);clear hn;simp only [xae,xaa,xab,xac]) | ((with_reducible refine ae 4 ?_);(refine aC rfl 22 #[.slice none 0 0] (by kernel_rfl) ?_);intro w3 hn;have H3:=ab (Mem.aM H2.out hn);clear hn;simp only [xae,xaa,xab,xac]) | ((with_reducible refine ae 5 ?_);(refine aC rfl 34 zcH (by kernel_rfl) ?_);intro w4 hn;have H4:=ab (Mem.aM H3.out hn);clear hn;simp only [xae,xaa,xab,xac]))
 refine (vO 59 #[.pointer (some ⟨w.heap.size,0,none⟩),.pointer (some ⟨w1.heap.size,0,none⟩),.pointer (some ⟨w2.heap.size,0,none⟩),.pointer (some ⟨w3.heap.size,0,none⟩)] (fun wR=>∃ u ls,ls.map (·.1)=nl∧Mem w wR (gE w.heap.size u ls++[bh w4.heap.size 35 #[.int .i64 0],bh w3.heap.size 34 (bv c).toArray,bh w2.heap.size 22 #[u],bh w1.heap.size 26 (dC d v1 v2).toArray,bh w.heap.size 22 #[.slice A l.length cap]])) w4 (fun _ _=>by kernel_rfl) (fun wN hn=>(DC w wN w4.heap.size w.heap.size w1.heap.size w2.heap.size w3.heap.size l A cap d v1 v2 ho1 ho2 HAT.out HL.out hn9 HD.out hdl c HC.out nl HR.out (Mem.pick (Mem.aM H4.out hn) [0,1,2,3,4] (by decide) rfl)).mono (fun e w' ⟨h1,u,ls,h2,h3⟩=>⟨h1,Mem.blk h3 2 rfl,u,ls,h2,h3⟩))).mono ?_
 rintro e w5 ⟨rfl,wR,⟨u,ls,hls,hm⟩,hg⟩
 dsimp only
 have H5:=ab (Mem.Eo hm 2 rfl hg)
 have HLS:=ab hls
 have hu1:u.oneCell'=true:=by obtain ⟨A9,c9,e9⟩:=aI (Mem.own hm 0 rfl);rw [e9];rfl
 clear hm hg hls
 go_wp2_with fail
 refine Fre.cC (X:=Bel) [] (by kernel_rfl) (by kernel_rfl) (by simp) (by simp) (by simp) ?_
 refine Fre.ag (u) (by kernel_rfl) (by kernel_rfl) (by kernel_rfl) (fun W9 hW9=>(exec_load_cell 22 (.tmp 4) rfl ⟨w2.heap.size,0,none⟩ rfl _ _ W9 Tryz.underlying22 rfl (range_cell (Blk.range (Mem.blk (Mem.call H5.out hW9) 4 rfl))))) ?_
 simp only [xae,xaa,xab,xac]
 refine Fre.ag (.agg (bv c).toArray) (by kernel_rfl) (by kernel_rfl) (by kernel_rfl) (fun W9 hW9=>(ai 34 (.tmp 5) rfl w3.heap.size (0) rfl (bv c) _ W9 (Blk.range (Mem.blk (Mem.call H5.out hW9) 3 rfl)) Tryz.underlying34 rfl (bN hcc))) ?_
 simp only [xae,xaa,xab,xac]
 refine Fre.ag (.int .i64 0) (by kernel_rfl) (by kernel_rfl) (by kernel_rfl) (fun _ _=>by kernel_rfl) ?_
 simp only [xae,xaa,xab,xac]
 refine Fre.kI (by kernel_rfl) (by kernel_rfl) (by kernel_rfl) (fun W9 hW9=>je 22 (.tmp 4) (.tmp 9) rfl (i:=0) (v:=u) (Mem.blk (Mem.call H5.out hW9) 4 rfl) rfl (by kernel_rfl) hu1 rfl rfl) ?_
 simp only [xae]
 refine Fre.kI (by kernel_rfl) (by kernel_rfl) (by kernel_rfl) (fun W9 hW9=>jQ 34 (.tmp 5) (.tmp 10) rfl (Mem.blk (Mem.call H5.out hW9) 3 rfl) (bB hcc) (fa c) rfl rfl) ?_
 simp only [xae]
 refine Fre.ag (.int .i64 0) (by kernel_rfl) (by kernel_rfl) (by kernel_rfl) (fun _ _=>by kernel_rfl) ?_
 simp only [xae,xaa,xab,xac]
 intro w6 hx
 dsimp only [Fre.ended,xaE]
 have H6:=ab (Mem.call H5.out hx)
 clear hx
 go_wp2_with fail
 refine bodyPost_ret (dw (r1:=.cell 4 22) (r2:=.cell 5 34) (r3:=.tmp 6) rfl ⟨⟨_,rfl,ld_cell Tryz.underlying22 rfl ((Mem.blk H6.out 4 rfl).cell 0)⟩,⟨_,rfl,dP (Blk.range (Mem.blk H6.out 3 rfl)) Tryz.underlying34 rfl (bN hcc)⟩,rfl,trivial⟩) rfl ?_
 exact ⟨u,ls,rfl,HLS.out,Mem.pick H6.out [0,1] (by decide) rfl⟩
theorem add_not (w:World) (l:List Itm) (A:Option Addr) (cap:Nat) (d:Drv) (v1 v2:Value) (h:aH.At w w.heap.size [.slice A l.length cap] l) (hl:∀ x∈l,x.2.2.1.length≤1000000∧x.2.2.2.length≤1000000) (hn9:l.length≤1000000) (hd:au w w.heap.size d v1 v2) (hdl:d.2.1.length≤1000000∧d.2.2.length≤1000000) (c:Hsh) (hc:bA d=c) (nl:List Itm) (c2:Hsh) (k:Int) (hk:k ≠ 0) (hr:dq bA l d=(nl,c2,k)) :
  Calls Tryz.prog 14 #[.slice A l.length cap,.agg (dC d v1 v2).toArray] w fun e w'=>e=.returned (.tuple #[.slice none 0 0,.agg (bv aW).toArray,.int .i64 k])∧Below w.heap.size w w':=by
 obtain ⟨ho1,ho2⟩:=hd.dK
 have HAT:=ab h
 have HL:=ab hl
 have HD:=ab hd
 have HC:=ab hc
 have HR:=ab hr
 have HK:=ab hk
 clear h hl hd hc hr hk
 have H0:=ab (Mem.start w)
 go_enter Tryz.func14,Tryz.ntmps14
 go_wp2_with (first | ((with_reducible refine ae 2 ?_);(refine nU rfl 22 (.tmp 0) rfl (.slice A l.length cap) rfl rfl ?_);intro w1 hn;have H1:=ab (Mem.aM H0.out hn);clear hn;simp only [xae,xaa,xab,xac]) | ((with_reducible refine ae 3 ?_);(refine aF rfl 26 (.tmp 1) rfl (dC d v1 v2).toArray rfl ?_);intro w2 hn;have H2:=ab (Mem.aM H1.out hn);clear hn;simp only [xae,xaa,xab,xac]) | ((with_reducible refine ae 4 ?_);(refine aC rfl 22 #[.slice none 0 0] (by kernel_rfl) ?_);intro w3 hn;have H3:=ab (Mem.aM H2.out hn);clear hn;simp only [xae,xaa,xab,xac]) | ((with_reducible refine ae 5 ?_);(refine aC rfl 34 zcH (by kernel_rfl) ?_);intro w4 hn;have H4:=ab (Mem.aM H3.out hn);clear hn;simp only [xae,xaa,xab,xac]))
 refine (vN 59 #[.pointer (some ⟨w.heap.size,0,none⟩),.pointer (some ⟨w1.heap.size,0,none⟩),.pointer (some ⟨w2.heap.size,0,none⟩),.pointer (some ⟨w3.heap.size,0,none⟩)] k (fun wR=>Mem w wR [bh w4.heap.size 35 #[.int .i64 0],bh w3.heap.size 34 zcH,bh w2.heap.size 22 #[.slice none 0 0],bh w1.heap.size 26 (dC d v1 v2).toArray,bh w.heap.size 22 #[.slice A l.length cap]]) w4 (fun _ _=>by kernel_rfl) (fun wN hn=>(DB w wN w4.heap.size w.heap.size w1.heap.size w2.heap.size w3.heap.size l A cap d v1 v2 ho1 ho2 HAT.out HL.out hn9 HD.out hdl c HC.out nl c2 k HK.out HR.out (Mem.pick (Mem.aM H4.out hn) [0,1,2,3,4] (by decide) rfl)).mono (fun e w' ⟨h1,h3⟩=>⟨h1,Mem.blk h3 0 rfl,h3⟩))).mono ?_
 rintro e w5 ⟨rfl,wR,hm,hg⟩
 dsimp only
 have H5:=ab (Mem.Eo hm 0 rfl hg)
 clear hm hg
 go_wp2_with fail
 refine Fre.cC (X:=Bel) [] (by kernel_rfl) (by kernel_rfl) (by simp) (by simp) (by simp) ?_
 refine Fre.ag (.slice none 0 0) (by kernel_rfl) (by kernel_rfl) (by kernel_rfl) (fun W9 hW9=>(exec_load_cell 22 (.tmp 4) rfl ⟨w2.heap.size,0,none⟩ rfl _ _ W9 Tryz.underlying22 rfl (range_cell (Blk.range (Mem.blk (Mem.call H5.out hW9) 2 rfl))))) ?_
 simp only [xae,xaa,xab,xac]
 refine Fre.ag (.agg (bv aW).toArray) (by kernel_rfl) (by kernel_rfl) (by kernel_rfl) (fun W9 hW9=>(ai 34 (.tmp 5) rfl w3.heap.size (0) rfl (bv aW) _ W9 (Blk.range (Mem.blk (Mem.call H5.out hW9) 1 rfl)) Tryz.underlying34 rfl (bN aX))) ?_
 simp only [xae,xaa,xab,xac]
 refine Fre.ag (.int .i64 k) (by kernel_rfl) (by kernel_rfl) (by kernel_rfl) (fun _ _=>by kernel_rfl) ?_
 simp only [xae,xaa,xab,xac]
 refine Fre.kI (by kernel_rfl) (by kernel_rfl) (by kernel_rfl) (fun W9 hW9=>je 22 (.tmp 4) (.tmp 9) rfl (i:=0) (v:=.slice none 0 0) (Mem.blk (Mem.call H5.out hW9) 2 rfl) rfl (by kernel_rfl) rfl rfl rfl) ?_
 simp only [xae]
 refine Fre.kI (by kernel_rfl) (by kernel_rfl) (by kernel_rfl) (fun W9 hW9=>jQ 34 (.tmp 5) (.tmp 10) rfl (Mem.blk (Mem.call H5.out hW9) 1 rfl) (bB aX) (fa aW) rfl rfl) ?_
 simp only [xae]
 refine Fre.ag (.int .i64 k) (by kernel_rfl) (by kernel_rfl) (by kernel_rfl) (fun _ _=>by kernel_rfl) ?_
 simp only [xae,xaa,xab,xac]
 intro w6 hx
 dsimp only [Fre.ended,xaE]
 have H6:=ab (Mem.call H5.out hx)
 clear hx
 go_wp2_with fail
 refine bodyPost_ret (dw (r1:=.cell 4 22) (r2:=.cell 5 34) (r3:=.tmp 6) rfl ⟨⟨_,rfl,ld_cell Tryz.underlying22 rfl ((Mem.blk H6.out 2 rfl).cell 0)⟩,⟨_,rfl,dP (Blk.range (Mem.blk H6.out 1 rfl)) Tryz.underlying34 rfl (bN aX)⟩,rfl,trivial⟩) rfl ?_
 exact ⟨rfl,Mem.below H6.out⟩
theorem Ga (w w1:World) (g0 g1 g2:Nat) (d:Drv) (v1 v2:Value) (_:v1.oneCell'=true) (_:v2.oneCell'=true) (hd:au w w.heap.size d v1 v2) (c:Hsh) (hc:bA d=c) (hp:bF d=0) (hm:Mem w w1 [bh g0 35 #[.int .i64 0],bh g2 34 zcH,bh g1 26 (dC d v1 v2).toArray]) :
  Calls Tryz.prog 55 #[.pointer (some ⟨g1,0,none⟩),.pointer (some ⟨g2,0,none⟩)] w1 fun e w'=>e=.returned (.tuple #[])∧Mem w w' [bh g0 35 #[.int .i64 0],bh g2 34 (bv c).toArray,bh g1 26 (dC d v1 v2).toArray]:=by
 have hcc:okH c:=hc▸gy d
 have HD:=ab hd
 have HC:=ab hc
 have HP:=ab hp
 have HM:=ab hm
 clear hd hc hp hm
 go_enter Tryz.func55,Tryz.ntmps55
 go_wp2_with (((with_reducible refine ae 2 ?_);(refine aa rfl (.agg (dC d v1 v2).toArray) w1 (ai 26 (.tmp 0) rfl g1 (0) rfl (dC d v1 v2) _ w1 (Blk.range (Mem.blk HM.out 2 rfl)) Tryz.underlying26 rfl (aS d v1 v2)) ?_)))
 refine (Gb w1 d v1 v2 (Mem.drv HM.out HD.out) HP.out c HC.out).mono ?_
 rintro e w2 ⟨rfl,hb⟩
 dsimp only
 have H2:=ab (Mem.call HM.out hb)
 clear hb
 go_wp2_with (((with_reducible refine aV 1 3 ?_);(with_reducible refine ak rfl 34 (.tmp 1) (.tmp 3) rfl g2 zcH (bv c).toArray 34 (Mem.blk H2.out 1 rfl) ?_ ?_ ?_ ?_ ?_ ?_);(exact (bB hcc));(exact bP cK (bB hcc));(exact (fa c));rfl;rfl;intro w3 hk hg;have H3:=ab (Mem.st H2.out 1 rfl hk hg);clear hk hg;simp only [xae]))
 go_end0
 exact ⟨rfl,H3.out⟩
theorem F9 (w w1:World) (g0 g1 g2:Nat) (d:Drv) (v1 v2:Value) (_:v1.oneCell'=true) (_:v2.oneCell'=true) (hd:au w w.heap.size d v1 v2) (hp:¬ bF d=0) (hm:Mem w w1 [bh g0 35 #[.int .i64 0],bh g2 34 zcH,bh g1 26 (dC d v1 v2).toArray]) :
  Calls Tryz.prog 55 #[.pointer (some ⟨g1,0,none⟩),.pointer (some ⟨g2,0,none⟩)] w1 fun e w'=>e=.panicked [{ v:=eO (bF d),recovered:=false }]∧Mem w w' [bh g0 35 #[.int .i64 0],bh g2 34 zcH,bh g1 26 (dC d v1 v2).toArray]:=by
 have HD:=ab hd
 have HP:=ab hp
 have HM:=ab hm
 clear hd hp hm
 go_enter Tryz.func55,Tryz.ntmps55
 go_wp2_with (((with_reducible refine ae 2 ?_);(refine aa rfl (.agg (dC d v1 v2).toArray) w1 (ai 26 (.tmp 0) rfl g1 (0) rfl (dC d v1 v2) _ w1 (Blk.range (Mem.blk HM.out 2 rfl)) Tryz.underlying26 rfl (aS d v1 v2)) ?_)))
 refine (GK w1 d v1 v2 (Mem.drv HM.out HD.out) HP.out).mono ?_
 rintro e wz ⟨rfl,hb⟩
 dsimp only
 change bodyPost Tryz.prog Tryz.f55 _ _ _ _
 simp only [bodyPost]
 exact ⟨trivial,trivial,Mem.call HM.out hb⟩
theorem Gd (w:World) (d:Drv) (v1 v2:Value) (hd:au w w.heap.size d v1 v2) (c:Hsh) (hc:bA d=c) (hp:bF d=0) :
  Calls Tryz.prog 12 #[.agg (dC d v1 v2).toArray] w fun e w'=>e=.returned (.tuple #[.agg (bv c).toArray,.int .i64 0])∧Below w.heap.size w w':=by
 have hcc:okH c:=hc▸gy d
 obtain ⟨ho1,ho2⟩:=hd.dK
 have HD:=ab hd
 have HC:=ab hc
 have HP:=ab hp
 clear hd hc hp
 have H0:=ab (Mem.start w)
 go_enter Tryz.func12,Tryz.ntmps12
 go_wp2_with (first | ((with_reducible refine ae 1 ?_);(refine aF rfl 26 (.tmp 0) rfl (dC d v1 v2).toArray rfl ?_);intro w1 hn;have H1:=ab (Mem.aM H0.out hn);clear hn;simp only [xae,xaa,xab,xac]) | ((with_reducible refine ae 2 ?_);(refine aC rfl 34 zcH (by kernel_rfl) ?_);intro w2 hn;have H2:=ab (Mem.aM H1.out hn);clear hn;simp only [xae,xaa,xab,xac]))
 refine (vO 55 #[.pointer (some ⟨w.heap.size,0,none⟩),.pointer (some ⟨w1.heap.size,0,none⟩)] (fun wR=>Mem w wR [bh w2.heap.size 35 #[.int .i64 0],bh w1.heap.size 34 (bv c).toArray,bh w.heap.size 26 (dC d v1 v2).toArray]) w2 (fun _ _=>by kernel_rfl) (fun wN hn=>(Ga w wN w2.heap.size w.heap.size w1.heap.size d v1 v2 ho1 ho2 HD.out c HC.out HP.out (Mem.pick (Mem.aM H2.out hn) [0,1,2] (by decide) rfl)).mono (fun e w' ⟨h1,h3⟩=>⟨h1,Mem.blk h3 0 rfl,h3⟩))).mono ?_
 rintro e w3 ⟨rfl,wR,hm,hg⟩
 dsimp only
 have H3:=ab (Mem.Eo hm 0 rfl hg)
 clear hm hg
 go_wp2_with (first | ((with_reducible refine ae 6 ?_);(refine aa rfl (.agg (bv c).toArray) w3 (ai 34 (.tmp 2) rfl w1.heap.size (0) rfl (bv c) _ w3 (Blk.range (Mem.blk H3.out 1 rfl)) Tryz.underlying34 rfl (bN hcc)) ?_)) | ((with_reducible refine aV 2 6 ?_);(with_reducible refine ak rfl 34 (.tmp 2) (.tmp 6) rfl w1.heap.size (bv c).toArray (bv c).toArray 34 (Mem.blk H3.out 1 rfl) ?_ ?_ ?_ ?_ ?_ ?_);(exact (bB hcc));(exact bP (bB hcc) (bB hcc));(exact (fa c));rfl;rfl;intro w4 hk hg;have H4:=ab (Mem.st H3.out 1 rfl hk hg);clear hk hg;simp only [xae]))
 refine bodyPost_ret (bu (r1:=.cell 2 34) (r2:=.tmp 3) rfl ⟨⟨_,rfl,dP (Blk.range (Mem.blk H4.out 1 rfl)) Tryz.underlying34 rfl (bN hcc)⟩,rfl,trivial⟩) rfl ⟨rfl,Mem.below H4.out⟩
theorem Gc (w:World) (d:Drv) (v1 v2:Value) (hd:au w w.heap.size d v1 v2) (hp:¬ bF d=0) :
  Calls Tryz.prog 12 #[.agg (dC d v1 v2).toArray] w fun e w'=>e=.returned (.tuple #[.agg (bv aW).toArray,.int .i64 (bF d)])∧Below w.heap.size w w':=by
 obtain ⟨ho1,ho2⟩:=hd.dK
 have HD:=ab hd
 have HP:=ab hp
 clear hd hp
 have H0:=ab (Mem.start w)
 go_enter Tryz.func12,Tryz.ntmps12
 go_wp2_with (first | ((with_reducible refine ae 1 ?_);(refine aF rfl 26 (.tmp 0) rfl (dC d v1 v2).toArray rfl ?_);intro w1 hn;have H1:=ab (Mem.aM H0.out hn);clear hn;simp only [xae,xaa,xab,xac]) | ((with_reducible refine ae 2 ?_);(refine aC rfl 34 zcH (by kernel_rfl) ?_);intro w2 hn;have H2:=ab (Mem.aM H1.out hn);clear hn;simp only [xae,xaa,xab,xac]))
 refine (vN 55 #[.pointer (some ⟨w.heap.size,0,none⟩),.pointer (some ⟨w1.heap.size,0,none⟩)] (bF d) (fun wR=>Mem w wR [bh w2.heap.size 35 #[.int .i64 0],bh w1.heap.size 34 zcH,bh w.heap.size 26 (dC d v1 v2).toArray]) w2 (fun _ _=>by kernel_rfl) (fun wN hn=>(F9 w wN w2.heap.size w.heap.size w1.heap.size d v1 v2 ho1 ho2 HD.out HP.out (Mem.pick (Mem.aM H2.out hn) [0,1,2] (by decide) rfl)).mono (fun e w' ⟨h1,h3⟩=>⟨h1,Mem.blk h3 0 rfl,h3⟩))).mono ?_
 rintro e w3 ⟨rfl,wR,hm,hg⟩
 dsimp only
 have H3:=ab (Mem.Eo hm 0 rfl hg)
 clear hm hg
 go_wp2_with (first | ((with_reducible refine ae 6 ?_);(refine aa rfl (.agg (bv aW).toArray) w3 (ai 34 (.tmp 2) rfl w1.heap.size (0) rfl (bv aW) _ w3 (Blk.range (Mem.blk H3.out 1 rfl)) Tryz.underlying34 rfl (bN aX)) ?_)) | ((with_reducible refine aV 2 6 ?_);(with_reducible refine ak rfl 34 (.tmp 2) (.tmp 6) rfl w1.heap.size (bv aW).toArray (bv aW).toArray 34 (Mem.blk H3.out 1 rfl) ?_ ?_ ?_ ?_ ?_ ?_);(exact (bB aX));(exact bP (bB aX) (bB aX));(exact (fa aW));rfl;rfl;intro w4 hk hg;have H4:=ab (Mem.st H3.out 1 rfl hk hg);clear hk hg;simp only [xae]))
 refine bodyPost_ret (bu (r1:=.cell 2 34) (r2:=.tmp 3) rfl ⟨⟨_,rfl,dP (Blk.range (Mem.blk H4.out 1 rfl)) Tryz.underlying34 rfl (bN aX)⟩,rfl,trivial⟩) rfl ⟨rfl,Mem.below H4.out⟩
end Go.Proofs.YtomnhnmciopiiaaGreat
end
