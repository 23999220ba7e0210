/- Part 11 of the texts of one proof. -/
import Derived.Test.YtomnhnmciopiiaaGreatMMT10
set_option maxRecDepth 100000
set_option linter.unusedVariables false
set_option linter.unusedSimpArgs false
set_option maxHeartbeats 40000000
open Go.Act renaming put → xae
open And renaming intro → xad
open Go.RowKit.Below renaming grown → xb9, refl → xao
open BitVec renaming add_comm → xbR, eq_of_getLsbD_eq → xcu
open Bool renaming and_eq_true → xaw, true_and → xa8
open Go.IntKind renaming u32 → xcb
open Go.IntWalk renaming i64_in → xbP
open List renaming append_assoc → xaR, drop → xaE, drop_succ_cons → xay, drop_zero → xaK, find?_cons → xck, getElem?_eq_some_iff → xah, getElem?_of_mem → xaP, idxOf_lt_length_iff → xbp, length_append → xak, length_cons → xaF, length_map → xap, length_take → xaN, mem_append → xax, mem_cons → xaD, mem_map → xaA, mem_of_getElem? → xaj, mem_singleton → xan, nodup_append → xb5, range → xaf, replicate → xaz, setIfInBounds_toArray → xaa, set_cons_succ → xac, set_cons_zero → xab, size_toArray → xal, take_add_one → xaB, take_length → xaG, take_of_length_le → xav, take_succ_cons → xau, take_succ_eq_append_getElem → xbb, take_zero → xaC
open Nat renaming le_of_ble_eq_true → xaW, le_refl → xag, le_trans → xaH, lt_of_lt_of_le → xaZ, mod_eq_of_lt → xbx, two_pow_add_eq_or_of_lt → xcg
open Go.Value renaming cells → xaU, slice → xas
open Go.World renaming block_lt_of_cell? → xa5
section
namespace Go.Proofs.YtomnhnmciopiiaaGreat
open Go Go.RowKit Go.Maps
attribute [local irreducible] wpList
def eW (j:Nat):Int:=((mgB 1 j).toNat:Int)
abbrev vi (x:Int):Prop:=(Lit.int .u8 x).wf=true
theorem uW (j:Nat):vi (eW j):=by
 have:=(mgB 1 j).toNat_lt
 simp [vi,eW,Lit.wf,IntKind.min,IntKind.max,IntKind.signed,IntKind.bits]
 omega
theorem D9 {x:Int} (_:vi x):(ib x).length=1:=rfl
theorem Ea (x:Int):∀ v∈ib x,v.oneCell'=true:=fun v hv=>by
 rw [xan.1 hv]
 rfl
theorem lL:(Tryz.prog.info? 5).map (·.size)=some 1:=by kernel_rfl
theorem Ce:(Tryz.prog.info? 5).map (fun i=>(i.zero,i.size,i.bytes))=some (some (.int .u8 0),1,1):=by kernel_rfl
theorem m6 (j:Nat) (hj:j<12) (w:World):Calls Tryz.prog 83 #[.int .i64 1,.int .i64 (j:Int)] w fun e w'=>e=.returned (.int .u8 (eW j))∧Below w.heap.size w w':=iO 1 j (by omega) (by omega) w
def jm (B:Nat) (A:Option Addr) (cap:Nat) (l:List Int):Ent:=ax B 5 1 (.slice A (l++(xaf 12).map eW).length cap) (l++(xaf 12).map eW).length ((l++(xaf 12).map eW).flatMap ib)
theorem tc (w:World) (l:List Int) (v:Value) (h:cA.At w w.heap.size [v] l) (hl:l.length≤1000000) :
  Calls Tryz.prog 53 #[v] w fun e w'=>∃ A cap,e=.returned (.slice A l.length cap)∧Mem w w' [jm w.heap.size A cap l]:=by
 obtain ⟨A0,cap,rfl,_,hcm,_,hA⟩:=aj h
 simp only [maxLen] at hcm
 unfold jm
 have H0:=Mem.start w
 go_enter Tryz.func53,Tryz.ntmps53
 refine sk fun _ K1=>rl ?_
 refine nt (K1 _ _ (sk fun _ K2=>rl ?_))
 refine rv (bp (((l.length+12:Nat):Int))) ?_
 obtain ⟨inm5,iq5,ir5,is5,it5⟩:=info_parts Ce
 refine wpList_make_own _ rfl _ _ 24 rfl w.heap.size 5 _ _ 1 Tryz.underlying24 iq5 ir5 is5 _ _ _ (l.length+12) rfl rfl rfl (by rw [it5];omega) (by simp only [maxLen];omega) (Mem.below H0).size ?_
 intro w3 ow gr
 refine rn ?_
 have H4:=Mem.make H0 ow gr
 clear ow gr
 refine rn ?_
 refine nt (K2 _ _ (sk fun _ K6=>rl ?_))
 refine aE rfl _ _ 24 rfl (w.heap.size) 5 _ _ 1 1 Tryz.underlying24 iq5 ir5 is5 it5 rfl (by decide) (.slice (some ⟨w.heap.size,0,none⟩) 0 (l.length+12)) (0) ([]) (Mem.own H4 0 rfl) (A0) (l.length) (cap) ((l).flatMap ib) (ij (L:=(Lay.int 5 .u8)) (f:=ib) (by decide) (fun h=>(lZ.1 h).1) Ea (Mem.lay H4 h)).2 ?hmt7 ?hbt7 ?hzt7 rfl rfl ?_
 case hmt7=>simp only [maxLen];omega
 case hbt7=>omega
 case hzt7=>exact (Mem.below H4).size
 intro u10 w8 ow13 gr14 hp15
 refine rn ?_
 have ow13:w8.ownsRow (w.heap.size) 5 1 u10 (l).length ((l).flatMap ib):=by first | simpa using ow13 | (simp at ow13 ⊢;exact ow13)
 obtain ⟨A11,c12,rfl⟩:=aI ow13
 have H9:=Mem.app H4 0 rfl ow13 gr14 hp15
 clear ow13 gr14 hp15
 refine rn ?_
 refine nt (K6 _ _ (sk fun _ K16=>sk fun _ K17=>rl ?_))
 refine nt (K17 _ _ (wp_block ?_))
 go_loopw [3,4] (fun x3 x4 wr=>∃ j:Nat,∃ kn:List Int,∃ A9:Option Addr,∃ c9:Nat,x3=.slice A9 kn.length c9∧x4=.int .i64 (j:Int)∧(j≤12)∧(kn=l++(xaf j).map eW)∧Mem w wr [ax (w.heap.size) 5 1 (.slice A9 kn.length c9) (kn).length ((kn).flatMap ib)]) (fun x3 x4 _=>12-(intOf x4).toNat)
 case atStart=>exact ⟨0,((l)),A11,c12,rfl,rfl,by omega,(by simp),H9⟩
 case round =>
  obtain ⟨wo18,rfl⟩:∃ wo18,wo18=wr:=⟨_,rfl⟩
  obtain ⟨j,kn,A9,c9,rfl,rfl,hj,hkn,H19⟩:=hrel
  have hln:kn.length=l.length+j:=by rw [hkn];simp
  refine sk fun _ K21=>sk fun _ K22=>rl ?_
  by_cases p23:(j:Int)<12
  ·refine rv (aK (decide_eq_true p23)) ?_
   refine nt (K22 _ _ (ct (ks (K21 _ _ (sk fun _ K24=>wp_block (rl ?_))))))
   refine ac (m6 j (by omega) wo18) ?_
   rintro e w25 ⟨rfl,hb27⟩
   refine ⟨_,rfl,rn ?_⟩
   have H26:=Mem.call H19 hb27
   refine aO rfl 24 (.tmp 18) rfl 5 1 (.int .u8 0) (.int .u8 ((eW j))) rfl Tryz.underlying24 lL (by decide) (by decide) (fun w=>by kernel_rfl) rfl ?_
   intro w28 hn
   have H29:=Mem.aM H26 hn
   clear hn
   refine rn ?_
   refine aE rfl _ _ 24 rfl (w.heap.size) 5 _ _ 1 1 Tryz.underlying24 iq5 ir5 is5 it5 rfl (by decide) (.slice A9 kn.length c9) ((kn).length) ((kn).flatMap ib) (Mem.own H29 1 rfl) ((some ⟨w25.heap.size,0,none⟩)) (1) (1) ([.int .u8 ((eW j))]) (bU (n:=1) (m:=1) (Mem.blk H29 0 rfl) rfl (fun u hu=>by rw [xan.1 hu];rfl)) ?hmt30 ?hbt30 ?hzt30 rfl rfl ?_
   case hmt30=>simp only [maxLen];omega
   case hbt30=>omega
   case hzt30=>exact (Mem.below H29).size
   intro u33 w31 ow36 gr37 hp38
   refine rn ?_
   have ow36:w31.ownsRow (w.heap.size) 5 1 u33 (kn++[(eW j)]).length ((kn++[(eW j)]).flatMap ib):=by first | simpa using ow36 | (simp at ow36 ⊢;exact ow36)
   obtain ⟨A34,c35,rfl⟩:=aI ow36
   have H32:=Mem.app H29 1 rfl ow36 gr37 hp38
   clear ow36 gr37 hp38
   refine rn ?_
   refine wpList_nil ?_
   refine ar (ah (K24 _ _ (rl ?_)))
   refine rv (bp (((j+1:Nat):Int))) ?_
   refine wpList_nil ?_
   have H39:=Mem.pick H32 [1] (by decide) rfl
   refine ah ?_
   show _∧_
   go_roundw
   case rel=>exact ⟨(j+1),((kn++[(eW j)])),A34,c35,rfl,rfl,by omega,(by rw [hkn,xaR,pY]),H39⟩
   case measure=>simp [intOf];omega
  ·refine rv (aK (decide_eq_false p23)) ?_
   refine nt (K22 _ _ (cf (wp_exit (an (an (aB (ah (K16 _ _ (sk fun _ K40=>rl ?_)))))))))
   obtain ⟨b41,rfl,hlt44⟩:=aR (Mem.own H19 0 rfl) (by omega)
   refine rv (jD 24 5 (.tmp 21) (.tmp 23) rfl (some ⟨b41,0,none⟩) (kn.length) c9 (l.length) rfl rfl (by have h9:=oK (Mem.own H19 0 rfl);(try simp only [xak,xap,List.length_range] at h9);omega) Tryz.underlying24 lL wo18) ?_
   refine nt (K40 _ _ (rt ?_))
   have hje:j=12:=by omega
   subst hje hkn
   exact ⟨_,_,rfl,H19⟩
theorem ta (w:World) (l:List Int) (v:Value) (h:cA.At w w.heap.size [v] l) (hall:∀ x∈l++(xaf 12).map eW,vi x) (hl:l.length≤1000000) (B:Nat) (A9:Option Addr) (c9:Nat) (ho:(jm B A9 c9 l).P w) :
  Calls Tryz.prog 69 #[.slice A9 l.length c9,v] w fun e w'=>e=.returned (.bool true)∧Below w.heap.size w w':=by
 have ho:w.ownsRow B 5 1 (.slice A9 (l++(xaf 12).map eW).length c9) (l++(xaf 12).map eW).length ((l++(xaf 12).map eW).flatMap ib):=ho
 have hln:(l++(xaf 12).map eW).length=l.length+12:=by simp
 obtain ⟨g,rfl,hg9⟩:=aR ho (by omega)
 have hc9:=(oK ho).1
 rw [hln] at hc9
 have ho9:=ho
 rw [hln] at ho9
 rw [← hln] at ho9
 have hlen9:∀ x∈l++(xaf 12).map eW,(ib x).length=1:=fun x hx=>D9 (hall x hx)
 obtain ⟨A0,cap,rfl,_,hcm,_,hA⟩:=aj h
 simp only [maxLen] at hcm
 have H0:=Mem.start w
 go_enter Tryz.func69,Tryz.ntmps69
 refine sk fun _ K1=>rl ?_
 refine nt (K1 _ _ (sk fun _ K2=>sk fun _ K3=>rl ?_))
 refine rv (mK (decide_eq_true rfl)) ?_
 refine nt (K3 _ _ (cf (ks (K2 _ _ (sk fun _ K4=>rl ?_)))))
 refine rv (bp (((l.length+12:Nat):Int))) ?_
 refine rv (jD 24 5 (.tmp 12) (.tmp 15) rfl (some ⟨g,0,none⟩) (l.length) c9 (l.length+12) rfl rfl hc9 Tryz.underlying24 lL w) ?_
 refine nt (K4 _ _ (sk fun _ K5=>sk fun _ K6=>rl ?_))
 refine nt (K6 _ _ (wp_block ?_))
 go_loopw [6] (fun x6 wr=>∃ j:Nat,x6=.int .i64 (j:Int)∧(j≤l.length+12)∧Mem w wr []) (fun x6 _=>l.length+12-(intOf x6).toNat)
 case atStart=>exact ⟨0,rfl,by omega,H0⟩
 case round =>
  obtain ⟨wo7,rfl⟩:∃ wo7,wo7=wr:=⟨_,rfl⟩
  obtain ⟨j,rfl,hj,H8⟩:=hrel
  refine sk fun _ K10=>sk fun _ K11=>rl ?_
  by_cases p12:(j:Int)<((l.length+12:Nat):Int)
  ·refine rv (aK (decide_eq_true p12)) ?_
   refine nt (K11 _ _ (ct (ks (K10 _ _ (sk fun _ K13=>wp_block (sk fun _ K14=>?_))))))
   refine Fre.cC (X:=Bel) [] (by kernel_rfl) (by kernel_rfl) (by simp) (by simp) (by simp) ?_
   refine Fre.rmd ?_
   by_cases p15:(j:Int)<((l.length:Nat):Int)
   ·refine Fre.mvv (fun _ _=>aK (decide_eq_true p15)) ?_
    obtain ⟨x16,hx17⟩:=gx (l:=(l++(xaf 12).map eW)) (j:=j)
    have hd18:=aD hx17
    have ok19:=hall _ (xaj hx17)
    refine Fre.mvv (fun _ _=>bT (j) Tryz.underlying24 lL) ?_
    refine Fre.mvv (fun W9 hW9=>xlc (range_cell (Mem.range (Mem.call H8 hW9) (dQ (f:=ib) (by decide) ho9 hlen9 hx17) hg9)) Tryz.underlying5) ?_
    obtain ⟨b20,o21,rfl,hlt23,hE22⟩:=hA (by omega)
    obtain ⟨x24,hx25⟩:=gx (l:=l) (j:=j)
    have hd26:=aD hx25
    obtain ⟨cs,hr27,ha28⟩:=hE22 (j) x24 hx25
    obtain ⟨rfl,ok29⟩:=lZ.1 ha28
    have hxy9:=uB hx17 hx25
    refine Fre.mvv (fun _ _=>fw (j) Tryz.underlying24 lL) ?_
    refine Fre.mvv (fun W9 hW9=>xlc (range_cell (Mem.range (Mem.call H8 hW9) hr27 hlt23)) Tryz.underlying5) ?_
    refine Fre.mvv (fun _ _=>vR (decide_eq_true hxy9)) ?_
    by_cases p30:((l.length:Nat):Int)≤(j:Int)
    ·refine Fre.mvv (fun _ _=>vS (decide_eq_true p30)) ?_
     refine Fre.mvv (fun _ _=>bT (j) Tryz.underlying24 lL) ?_
     refine Fre.mvv (fun W9 hW9=>xlc (range_cell (Mem.range (Mem.call H8 hW9) (dQ (f:=ib) (by decide) ho9 hlen9 hx17) hg9)) Tryz.underlying5) ?_
     refine Fre.mvv (fun _ _=>Du (((j-l.length:Nat):Int))) ?_
     have hmk9:=mo hx17 (by omega)
     refine Fre.mc (fun W9 hW9=>m6 (j-l.length) (by omega) W9) ?_
     refine Fre.rmd ?_
     refine Fre.mvv (fun _ _=>vR (decide_eq_true hmk9)) ?_
     intro w31 hx33
     dsimp only [Fre.ended,xaE]
     have H32:=Mem.call H8 hx33
     refine ah (K14 _ _ (cf ?_))
     refine wp_skip ?_
     refine ar (ah (K13 _ _ (rl ?_)))
     refine rv (bp (((j+1:Nat):Int))) ?_
     refine wpList_nil ?_
     refine ah ?_
     show _∧_
     go_roundw
     case rel=>exact ⟨(j+1),rfl,by omega,H32⟩
     case measure=>simp [intOf];omega
    ·refine Fre.mvv (fun _ _=>vS (decide_eq_false p30)) ?_
     intro w34 hx36
     dsimp only [Fre.ended,xaE]
     have H35:=Mem.call H8 hx36
     refine ah (K14 _ _ (cf ?_))
     refine wp_skip ?_
     refine ar (ah (K13 _ _ (rl ?_)))
     refine rv (bp (((j+1:Nat):Int))) ?_
     refine wpList_nil ?_
     refine ah ?_
     show _∧_
     go_roundw
     case rel=>exact ⟨(j+1),rfl,by omega,H35⟩
     case measure=>simp [intOf];omega
   ·have he37:=bE (l:=l) (j:=j) (by omega)
    refine Fre.mvv (fun _ _=>aK (decide_eq_false p15)) ?_
    by_cases p38:((l.length:Nat):Int)≤(j:Int)
    ·refine Fre.mvv (fun _ _=>vS (decide_eq_true p38)) ?_
     obtain ⟨x39,hx40⟩:=gx (l:=(l++(xaf 12).map eW)) (j:=j)
     have hd41:=aD hx40
     have ok42:=hall _ (xaj hx40)
     refine Fre.mvv (fun _ _=>bT (j) Tryz.underlying24 lL) ?_
     refine Fre.mvv (fun W9 hW9=>xlc (range_cell (Mem.range (Mem.call H8 hW9) (dQ (f:=ib) (by decide) ho9 hlen9 hx40) hg9)) Tryz.underlying5) ?_
     refine Fre.mvv (fun _ _=>Du (((j-l.length:Nat):Int))) ?_
     have hmk9:=mo hx40 (by omega)
     refine Fre.mc (fun W9 hW9=>m6 (j-l.length) (by omega) W9) ?_
     refine Fre.rmd ?_
     refine Fre.mvv (fun _ _=>vR (decide_eq_true hmk9)) ?_
     intro w43 hx45
     dsimp only [Fre.ended,xaE]
     have H44:=Mem.call H8 hx45
     refine ah (K14 _ _ (cf ?_))
     refine wp_skip ?_
     refine ar (ah (K13 _ _ (rl ?_)))
     refine rv (bp (((j+1:Nat):Int))) ?_
     refine wpList_nil ?_
     refine ah ?_
     show _∧_
     go_roundw
     case rel=>exact ⟨(j+1),rfl,by omega,H44⟩
     case measure=>simp [intOf];omega
    ·refine Fre.mvv (fun _ _=>vS (decide_eq_false p38)) ?_
     intro w46 hx48
     dsimp only [Fre.ended,xaE]
     have H47:=Mem.call H8 hx48
     refine ah (K14 _ _ (cf ?_))
     refine wp_skip ?_
     refine ar (ah (K13 _ _ (rl ?_)))
     refine rv (bp (((j+1:Nat):Int))) ?_
     refine wpList_nil ?_
     refine ah ?_
     show _∧_
     go_roundw
     case rel=>exact ⟨(j+1),rfl,by omega,H47⟩
     case measure=>simp [intOf];omega
  ·refine rv (aK (decide_eq_false p12)) ?_
   refine nt (K11 _ _ (cf (wp_exit (an (an (aB (ah (K5 _ _ (sk fun _ K49=>rl ?_)))))))))
   refine nt (K49 _ _ (rt ?_))
   exact ⟨rfl,Mem.below H8⟩
end Go.Proofs.YtomnhnmciopiiaaGreat
end
section
namespace Go.Proofs.YtomnhnmciopiiaaGreat
open Go Go.RowKit Go.Maps
theorem yM (w:World) (a b:List Nam) (u v:Value) (ha:dW.At w w.heap.size [u] a) (hb:dW.At w w.heap.size [v] b) (c:Bool) (hc:decide (a=b)=c) :
  Calls Tryz.prog 77 #[u,v] w fun e w'=>e=.returned (.bool c)∧Below w.heap.size w w':=by
 subst hc
 obtain ⟨A,ca,rfl,_⟩:=aj ha
 obtain ⟨B,cb,rfl,_⟩:=aj hb
 exact AL w a b A B ca cb ha hb
theorem EO (w:World) (a b:List Int) (u v:Value) (ha:cA.At w w.heap.size [u] a) (hb:cA.At w w.heap.size [v] b) (c:Bool) (hc:decide (a=b)=c) :
  Calls Tryz.prog 78 #[u,v] w fun e w'=>e=.returned (.bool c)∧Below w.heap.size w w':=by
 subst hc
 obtain ⟨A,ca,rfl,_⟩:=aj ha
 obtain ⟨B,cb,rfl,_⟩:=aj hb
 exact AK w a b A B ca cb ha hb
theorem nu (w:World) (a b:Drv) (u1 u2 v1 v2:Value) (ha:au w w.heap.size a u1 u2) (hb:au w w.heap.size b v1 v2) :
  Calls Tryz.prog 37 #[.agg (dC a u1 u2).toArray,.agg (dC b v1 v2).toArray] w fun e w'=>e=.returned (.bool (decide (a=b)))∧Below w.heap.size w w':=by
 obtain ⟨oa1,oa2⟩:=ha.dK
 obtain ⟨ob1,ob2⟩:=hb.dK
 have HA:=ab (xad ha.ins ha.rcp)
 have HB:=ab (xad hb.ins hb.rcp)
 clear ha hb
 have he:decide (a=b)=(decide (a.1=b.1)&&(decide (a.2.1=b.2.1)&&decide (a.2.2=b.2.2))):=by
  rw [Bool.eq_iff_iff]
  simp only [xaw,decide_eq_true_iff]
  exact ⟨fun h=>by rw [h];exact ⟨rfl,rfl,rfl⟩,fun h=>Prod.ext h.1 (Prod.ext h.2.1 h.2.2)⟩
 cases hn:decide (a.1=b.1)
 ·have HN:=ab hn
  have HE:=ab (show decide (a=b)=false by rw [he,hn];rfl)
  clear he hn
  have H0:=ab (Mem.start w)
  go_enter Tryz.func37,Tryz.ntmps37
  go_wp2_with (first | ((with_reducible refine ae 2 ?_);(refine aF rfl 26 (.tmp 0) rfl (dC a u1 u2).toArray rfl ?_);intro w1 hn;have H1:=ab (Mem.aM H0.out hn);clear hn;simp only [xae,xaa,xab,xac]) | ((with_reducible refine ae 3 ?_);(refine aF rfl 26 (.tmp 1) rfl (dC b v1 v2).toArray rfl ?_);intro w2 hn;have H2:=ab (Mem.aM H1.out hn);clear hn;simp only [xae,xaa,xab,xac]) | ((with_reducible refine ae 6 ?_);(refine aa rfl (.string a.1) w2 (exec_load_cell 9 (.tmp 5) rfl ⟨w.heap.size,0,none⟩ rfl _ _ w2 Tryz.underlying9 rfl (range_cell (iJ (Blk.range (Mem.blk H2.out 1 rfl))))) ?_)) | ((with_reducible refine ae 8 ?_);(refine aa rfl (.string b.1) w2 (exec_load_cell 9 (.tmp 7) rfl ⟨w1.heap.size,0,none⟩ rfl _ _ w2 Tryz.underlying9 rfl (range_cell (iJ (Blk.range (Mem.blk H2.out 0 rfl))))) ?_)) | ((with_reducible refine ae 9 ?_);(refine aa rfl (.bool false) w2 (j5 9 9 (.tmp 6) (.tmp 8) rfl a.1 b.1 rfl rfl false HN.out w2) ?_)))
  go_ret
  exact ⟨by rw [HE.out];rfl,Mem.below H2.out⟩
 ·cases hi:decide (a.2.1=b.2.1)
  ·have HN:=ab hn
   have HI:=ab hi
   have HE:=ab (show decide (a=b)=false by rw [he,hn,hi];rfl)
   clear he hn hi
   have H0:=ab (Mem.start w)
   go_enter Tryz.func37,Tryz.ntmps37
   go_wp2_with (first | ((with_reducible refine ae 2 ?_);(refine aF rfl 26 (.tmp 0) rfl (dC a u1 u2).toArray rfl ?_);intro w1 hn;have H1:=ab (Mem.aM H0.out hn);clear hn;simp only [xae,xaa,xab,xac]) | ((with_reducible refine ae 3 ?_);(refine aF rfl 26 (.tmp 1) rfl (dC b v1 v2).toArray rfl ?_);intro w2 hn;have H2:=ab (Mem.aM H1.out hn);clear hn;simp only [xae,xaa,xab,xac]) | ((with_reducible refine ae 6 ?_);(refine aa rfl (.string a.1) w2 (exec_load_cell 9 (.tmp 5) rfl ⟨w.heap.size,0,none⟩ rfl _ _ w2 Tryz.underlying9 rfl (range_cell (iJ (Blk.range (Mem.blk H2.out 1 rfl))))) ?_)) | ((with_reducible refine ae 8 ?_);(refine aa rfl (.string b.1) w2 (exec_load_cell 9 (.tmp 7) rfl ⟨w1.heap.size,0,none⟩ rfl _ _ w2 Tryz.underlying9 rfl (range_cell (iJ (Blk.range (Mem.blk H2.out 0 rfl))))) ?_)) | ((with_reducible refine ae 9 ?_);(refine aa rfl (.bool true) w2 (j5 9 9 (.tmp 6) (.tmp 8) rfl a.1 b.1 rfl rfl true HN.out w2) ?_)) | ((with_reducible refine ae 12 ?_);(refine ay (by kernel_rfl) (u1) w2 (exec_load_cell 23 (.tmp 11) rfl ⟨w.heap.size,1,none⟩ rfl _ _ w2 Tryz.underlying23 rfl (range_cell (dg (Blk.range (Mem.blk H2.out 1 rfl))))) ?_)) | ((with_reducible refine ae 14 ?_);(refine ay (by kernel_rfl) (v1) w2 (exec_load_cell 23 (.tmp 13) rfl ⟨w1.heap.size,1,none⟩ rfl _ _ w2 Tryz.underlying23 rfl (range_cell (dg (Blk.range (Mem.blk H2.out 0 rfl))))) ?_)))
   refine (yM w2 a.2.1 b.2.1 u1 v1 (Mem.lay H2.out HA.out.1) (Mem.lay H2.out HB.out.1) _ HI.out).mono ?_
   rintro e w3 ⟨rfl,hb⟩
   dsimp only
   have H3:=ab (Mem.call H2.out hb)
   clear hb
   go_wp2_with fail
   go_ret
   exact ⟨by rw [HE.out];rfl,Mem.below H3.out⟩
  ·have HN:=ab hn
   have HI:=ab hi
   have HE:=ab (show decide (a=b)=decide (a.2.2=b.2.2) by rw [he,hn,hi];rfl)
   clear he hn hi
   have H0:=ab (Mem.start w)
   go_enter Tryz.func37,Tryz.ntmps37
   go_wp2_with (first | ((with_reducible refine ae 2 ?_);(refine aF rfl 26 (.tmp 0) rfl (dC a u1 u2).toArray rfl ?_);intro w1 hn;have H1:=ab (Mem.aM H0.out hn);clear hn;simp only [xae,xaa,xab,xac]) | ((with_reducible refine ae 3 ?_);(refine aF rfl 26 (.tmp 1) rfl (dC b v1 v2).toArray rfl ?_);intro w2 hn;have H2:=ab (Mem.aM H1.out hn);clear hn;simp only [xae,xaa,xab,xac]) | ((with_reducible refine ae 6 ?_);(refine aa rfl (.string a.1) w2 (exec_load_cell 9 (.tmp 5) rfl ⟨w.heap.size,0,none⟩ rfl _ _ w2 Tryz.underlying9 rfl (range_cell (iJ (Blk.range (Mem.blk H2.out 1 rfl))))) ?_)) | ((with_reducible refine ae 8 ?_);(refine aa rfl (.string b.1) w2 (exec_load_cell 9 (.tmp 7) rfl ⟨w1.heap.size,0,none⟩ rfl _ _ w2 Tryz.underlying9 rfl (range_cell (iJ (Blk.range (Mem.blk H2.out 0 rfl))))) ?_)) | ((with_reducible refine ae 9 ?_);(refine aa rfl (.bool true) w2 (j5 9 9 (.tmp 6) (.tmp 8) rfl a.1 b.1 rfl rfl true HN.out w2) ?_)) | ((with_reducible refine ae 12 ?_);(refine ay (by kernel_rfl) (u1) w2 (exec_load_cell 23 (.tmp 11) rfl ⟨w.heap.size,1,none⟩ rfl _ _ w2 Tryz.underlying23 rfl (range_cell (dg (Blk.range (Mem.blk H2.out 1 rfl))))) ?_)) | ((with_reducible refine ae 14 ?_);(refine ay (by kernel_rfl) (v1) w2 (exec_load_cell 23 (.tmp 13) rfl ⟨w1.heap.size,1,none⟩ rfl _ _ w2 Tryz.underlying23 rfl (range_cell (dg (Blk.range (Mem.blk H2.out 0 rfl))))) ?_)))
   refine (yM w2 a.2.1 b.2.1 u1 v1 (Mem.lay H2.out HA.out.1) (Mem.lay H2.out HB.out.1) _ HI.out).mono ?_
   rintro e w3 ⟨rfl,hb⟩
   dsimp only
   have H3:=ab (Mem.call H2.out hb)
   clear hb
   go_wp2_with (first | ((with_reducible refine ae 19 ?_);(refine ay (by kernel_rfl) (u2) w3 (exec_load_cell 24 (.tmp 18) rfl ⟨w.heap.size,2,none⟩ rfl _ _ w3 Tryz.underlying24 rfl (range_cell (jZ (Blk.range (Mem.blk H3.out 1 rfl))))) ?_)) | ((with_reducible refine ae 21 ?_);(refine ay (by kernel_rfl) (v2) w3 (exec_load_cell 24 (.tmp 20) rfl ⟨w1.heap.size,2,none⟩ rfl _ _ w3 Tryz.underlying24 rfl (range_cell (jZ (Blk.range (Mem.blk H3.out 0 rfl))))) ?_)))
   refine (EO w3 a.2.2 b.2.2 u2 v2 (Mem.lay H3.out HA.out.2) (Mem.lay H3.out HB.out.2) _ rfl).mono ?_
   rintro e w4 ⟨rfl,hb⟩
   dsimp only
   have H4:=ab (Mem.call H3.out hb)
   clear hb
   go_wp2_with fail
   go_ret
   exact ⟨by rw [HE.out];rfl,Mem.below H4.out⟩
theorem EP (w:World) (a b:Drv) (u1 u2 v1 v2:Value) (ha:au w w.heap.size a u1 u2) (hb:au w w.heap.size b v1 v2) (c:Bool) (hc:decide (a=b)=c) :
  Calls Tryz.prog 37 #[.agg (dC a u1 u2).toArray,.agg (dC b v1 v2).toArray] w fun e w'=>e=.returned (.bool c)∧Below w.heap.size w w':=hc▸nu w a b u1 u2 v1 v2 ha hb
end Go.Proofs.YtomnhnmciopiiaaGreat
end
section
namespace Go.Proofs.YtomnhnmciopiiaaGreat
open Go Go.RowKit Go.Maps
attribute [local irreducible] wpList
theorem tY {α:Type} {t:TypeId} {L:Lay α} {w:World} {N cap:Nat} {A:Option Addr} {l r:List α} (h:(Lay.slice t L).At w N [.slice A (l++r).length cap] (l++r)):(Lay.slice t L).At w N [.slice A l.length cap] l:=by
 obtain ⟨A',cap',e,h1,h2,h3,h4⟩:=aj h
 injection e with e1 e2 e3
 subst e1 e3
 rw [xak] at h1 h4
 refine ⟨A,cap,rfl,by omega,h2,h3,fun h0=>?_⟩
 obtain ⟨b,off,e,hb,hE⟩:=h4 (by omega)
 refine ⟨b,off,e,hb,fun i x hx=>hE i x ?_⟩
 rw [List.getElem?_append_left (xah.1 hx).1]
 exact hx
structure bY (w:World) (B:Nat) (d:Drv) (u1 u2:Value):Prop where
 name:d.1.size≤maxLen
 okn:∀ x∈d.2.1,okN x
 okb:∀ x∈d.2.2,vi x
 AD:∃ A c,u1=.slice A d.2.1.length c∧(gF B A c d.2.1).P w
 AE:∃ A c,u2=.slice A d.2.2.length c∧(jm B A c d.2.2).P w
def ldE (B:Nat) (d:Drv) (u1 u2:Value):Ent:=⟨fun b=>u1.ownBlock=some b∨u2.ownBlock=some b,fun w=>bY w B d u1 u2⟩
theorem iX (A:Option Addr) (n m c:Nat):(xas A n c).ownBlock=(xas A m c).ownBlock:=by
 rcases A with _ | ⟨g,o,p⟩
 ·rfl
 ·cases o<;>cases p<;>rfl
theorem bY.aL {w w':World} {B:Nat} {d:Drv} {u1 u2:Value} (h:bY w B d u1 u2) (hk:∀ b,(ldE B d u1 u2).F b→b<w.heap.size→w'.heap[b]?=w.heap[b]?):bY w' B d u1 u2:=by
 obtain ⟨A,c,e,h1⟩:=h.AD
 obtain ⟨A2,c2,e2,h2⟩:=h.AE
 exact ⟨h.name,h.okn,h.okb,⟨A,c,e,ao h1 fun g hg hl=>hk g (.inl (by rw [e];exact (iX ..).trans hg)) hl⟩,⟨A2,c2,e2,ao h2 fun g hg hl=>hk g (.inr (by rw [e2];exact (iX ..).trans hg)) hl⟩⟩
theorem xj (B:Nat) (d:Drv) (u1 u2:Value):(ldE B d u1 u2).Ok:=fun _ _ h hk=>bY.aL h hk
theorem bY.base {w:World} {B B':Nat} {d:Drv} {u1 u2:Value} (h:bY w B d u1 u2) (hB:∀ b,(ldE B d u1 u2).F b→B'≤b):bY w B' d u1 u2:=by
 obtain ⟨A,c,e,h1⟩:=h.AD
 obtain ⟨A2,c2,e2,h2⟩:=h.AE
 exact ⟨h.name,h.okn,h.okb,⟨A,c,e,bH h1 fun g hg=>hB g (.inl (by rw [e];exact (iX ..).trans hg))⟩,⟨A2,c2,e2,bH h2 fun g hg=>hB g (.inr (by rw [e2];exact (iX ..).trans hg))⟩⟩
theorem bY.at_ {w:World} {B:Nat} {d:Drv} {u1 u2:Value} (h:bY w B d u1 u2) {N:Nat} (hN:w.heap.size≤N):au w N d u1 u2:=by
 obtain ⟨A,c,rfl,h1⟩:=h.AD
 obtain ⟨A2,c2,rfl,h2⟩:=h.AE
 refine ⟨h.name,tY (r:=(xaf 12).map dU) (ie (L:=gO) (f:=nC) (by decide) h1 _ hN fun x hx=>bZ.2 ⟨rfl,?_⟩),tY (r:=(xaf 12).map eW) (ie (L:=Lay.int 5 .u8) (f:=ib) (by decide) h2 _ hN fun x hx=>⟨rfl,?_⟩)⟩
 ·rcases xax.1 hx with hx | hx
  ·exact h.okn x hx
  ·obtain ⟨j,_,rfl⟩:=xaA.1 hx
   exact fG j
 ·rcases xax.1 hx with hx | hx
  ·exact h.okb x hx
  ·obtain ⟨j,_,rfl⟩:=xaA.1 hx
   exact uW j
theorem au.oks {w:World} {N:Nat} {d:Drv} {v1 v2:Value} (h:au w N d v1 v2):(∀ x∈d.2.1,okN x)∧∀ x∈d.2.2,vi x :=
 ⟨fun x hx=>by obtain ⟨cs,h9⟩:=fo h.ins hx;exact (bZ.1 h9).2,fun x hx=>by obtain ⟨cs,h9⟩:=fo h.rcp hx;exact h9.2⟩
theorem Mem.Dc {w0 w w':World} {L:List Ent} {B s n:Nat} {t:TypeId} {u:Value} {xs:List Value} (h:Mem w0 w L) (k:Mem w w' [ax B t s u n xs]):Mem w0 w' (ax w0.heap.size t s u n xs :: L) :=
 (h.seq k).mD 0 rfl (gz _ _ _ _ _ _) (bH ((h.seq k).own 0 rfl) fun _ hg=>xaH h.below.size (k.from_ (e:=ax B t s u n xs) 0 rfl hg).1) (fun _ hf=>hf)
theorem zJ {w0 w:World} {L:List Ent} {d:Drv} {B c1 c2:Nat} {A1 A2:Option Addr} (h:Mem w0 w (jm B A2 c2 d.2.2 :: gF B A1 c1 d.2.1 :: L)) (hn:d.1.size≤maxLen) (ho:(∀ x∈d.2.1,okN x)∧∀ x∈d.2.2,vi x):Mem w0 w (ldE B d (.slice A1 d.2.1.length c1) (.slice A2 d.2.2.length c2) :: L) :=
 h.join.mD (e':=ldE B d (.slice A1 d.2.1.length c1) (.slice A2 d.2.2.length c2)) 0 rfl (xj _ _ _ _) ⟨hn,ho.1,ho.2,⟨_,_,rfl,h.holds _ (.tail _ (.head _))⟩,⟨_,_,rfl,h.holds _ (.head _)⟩⟩ fun b hf=>by
  rcases hf with hf | hf
  ·exact .inr ((iX ..).trans hf)
  ·exact .inl ((iX ..).trans hf)
theorem nK (w:World) (d:Drv) (v1 v2:Value) (h:au w w.heap.size d v1 v2) (hl1:d.2.1.length≤1000000) (hl2:d.2.2.length≤1000000) :
  Calls Tryz.prog 11 #[.agg (dC d v1 v2).toArray] w fun e w'=>∃ u1 u2,e=.returned (.agg (dC d u1 u2).toArray)∧Mem w w' [ldE w.heap.size d u1 u2]:=by
 obtain ⟨ho1,ho2⟩:=h.dK
 have H0:=Mem.start w
 go_enter Tryz.func11,Tryz.ntmps11
 refine sk fun _ K1=>rl ?_
 refine bx 26 (dC d v1 v2) fun w2 hn_=>?_
 have H3:=Mem.aM H0 hn_
 refine rn ?_
 refine nz 26 zcD fun w4 hn_=>?_
 have H5:=Mem.aM H3 hn_
 refine rn ?_
 refine nt (K1 _ _ (sk fun _ K6=>rl ?_))
 refine rp w.heap.size 1 ?_
 refine rv (xlc (range_cell (dg (Blk.range (Mem.blk H5 1 rfl)))) Tryz.underlying23) ?_
 refine ac (pS w4 d.2.1 _ (Mem.lay H5 h.ins) hl1) ?_
 rintro e w7 ⟨A1,c1,rfl,hm8⟩
 refine ⟨_,rfl,rn ?_⟩
 have H8:=Mem.Dc H5 hm8
 refine rp w.heap.size 1 ?_
 refine bD rfl 23 (.tmp 6) (.tmp 5) rfl w.heap.size (1) 26 (dC d v1 v2).toArray (Mem.blk H8 2 rfl) (xaW rfl) (by kernel_rfl) ((.slice A1 d.2.1.length c1)) rfl rfl rfl ?_
 intro w10 hk hg hz
 have H11:=Mem.st (cs':=(dC d (.slice A1 d.2.1.length c1) v2).toArray) H8 2 rfl hk hg
 clear hk hg hz
 refine rn ?_
 refine nt (K6 _ _ (sk fun _ K12=>rl ?_))
 refine rp w.heap.size 2 ?_
 refine rv (xlc (range_cell (jZ (Blk.range (Mem.blk H11 2 rfl)))) Tryz.underlying24) ?_
 refine ac (tc w10 d.2.2 _ (Mem.lay H11 h.rcp) hl2) ?_
 rintro e w13 ⟨A2,c2,rfl,hm9⟩
 refine ⟨_,rfl,rn ?_⟩
 have H14:=Mem.Dc H11 hm9
 refine rp w.heap.size 2 ?_
 refine bD rfl 24 (.tmp 10) (.tmp 9) rfl w.heap.size (2) 26 (dC d (.slice A1 d.2.1.length c1) v2).toArray (Mem.blk H14 3 rfl) (xaW rfl) (by kernel_rfl) ((.slice A2 d.2.2.length c2)) rfl rfl rfl ?_
 intro w16 hk hg hz
 have H17:=Mem.st (cs':=(dC d (.slice A1 d.2.1.length c1) (.slice A2 d.2.2.length c2)).toArray) H14 3 rfl hk hg
 clear hk hg hz
 refine rn ?_
 refine nt (K12 _ _ (sk fun _ K18=>rl ?_))
 refine rv (xld (Blk.range (Mem.blk H17 3 rfl)) Tryz.underlying26 (aS d (.slice A1 d.2.1.length c1) (.slice A2 d.2.2.length c2))) ?_
 refine stb (Mem.blk H17 2 rfl) (dS d (.slice A1 d.2.1.length c1) (.slice A2 d.2.2.length c2)) (bP gq (dS d (.slice A1 d.2.1.length c1) (.slice A2 d.2.2.length c2))) (lp d rfl rfl) fun w19 hk_ hg_=>?_
 have H20:=Mem.st H17 2 rfl hk_ hg_
 refine rn ?_
 refine nt (K18 _ _ ?_)
 refine wp_ret ?_
 refine bodyPost_ret (gK (r1:=.cell 2 26) rfl ⟨⟨_,rfl,dP (Blk.range (Mem.blk H20 2 rfl)) Tryz.underlying26 rfl (aS d (.slice A1 d.2.1.length c1) (.slice A2 d.2.2.length c2))⟩,trivial⟩) rfl ?_
 exact ⟨_,_,rfl,zJ (Mem.pick H20 [0,1] (by decide) rfl) h.name h.oks⟩
theorem yB {w0 w:World} {L:List Ent} {B s n:Nat} {t:TypeId} {u:Value} {xs:List Value} (h:Mem w0 w L) (ho:(ax B t s u n xs).P w0):(ax B t s u n xs).P w :=
 ao ho fun g _ hl=>h.below.block g hl
theorem kb (w:World) (d:Drv) (u1 u2 v1 v2:Value) (B:Nat) (hx9:bY w B d u1 u2) (h:au w w.heap.size d v1 v2) (hl1:d.2.1.length≤1000000) (hl2:d.2.2.length≤1000000) :
  Calls Tryz.prog 23 #[.agg (dC d u1 u2).toArray,.agg (dC d v1 v2).toArray] w fun e w'=>e=.returned (.bool true)∧Below w.heap.size w w':=by
 obtain ⟨ho1,ho2⟩:=h.dK
 have hx:=hx9.at_ (xag _)
 obtain ⟨hok1,hok2⟩:=h.oks
 have hall1:∀ x∈d.2.1++(xaf 12).map dU,okN x:=fun x hx=>by
  rcases xax.1 hx with hx | hx
  ·exact hok1 x hx
  ·obtain ⟨j,_,rfl⟩:=xaA.1 hx
   exact fG j
 have hall2:∀ x∈d.2.2++(xaf 12).map eW,vi x:=fun x hx=>by
  rcases xax.1 hx with hx | hx
  ·exact hok2 x hx
  ·obtain ⟨j,_,rfl⟩:=xaA.1 hx
   exact uW j
 obtain ⟨A1,c1,rfl,hr1⟩:=hx9.AD
 obtain ⟨A2,c2,rfl,hr2⟩:=hx9.AE
 have H0:=Mem.start w
 go_enter Tryz.func23,Tryz.ntmps23
 refine sk fun _ K1=>rl ?_
 refine bx 26 (dC d (.slice A1 d.2.1.length c1) (.slice A2 d.2.2.length c2)) fun w2 hn_=>?_
 have H3:=Mem.aM H0 hn_
 refine rn ?_
 refine bx 26 (dC d v1 v2) fun w4 hn_=>?_
 have H5:=Mem.aM H3 hn_
 refine rn ?_
 refine nt (K1 _ _ (sk fun _ K6=>rl ?_))
 refine rv (xld (Blk.range (Mem.blk H5 1 rfl)) Tryz.underlying26 (aS d (.slice A1 d.2.1.length c1) (.slice A2 d.2.2.length c2))) ?_
 refine rv (xld (Blk.range (Mem.blk H5 0 rfl)) Tryz.underlying26 (aS d v1 v2)) ?_
 refine ac ((Calls.mono (nu w4 d d _ _ _ _ (Mem.drv H5 hx) (Mem.drv H5 h)) fun e w' h=>⟨h.1.trans (by rw [decide_eq_true rfl]),h.2⟩:Calls _ _ _ _ fun e w'=>e=.returned (.bool true)∧Below _ _ w')) ?_
 rintro e w7 ⟨rfl,hb9⟩
 refine ⟨_,rfl,rn ?_⟩
 have H8:=Mem.call H5 hb9
 refine rn ?_
 refine rp w.heap.size 1 ?_
 refine rv (xlc (range_cell (dg (Blk.range (Mem.blk H8 1 rfl)))) Tryz.underlying23) ?_
 refine rp w2.heap.size 1 ?_
 refine rv (xlc (range_cell (dg (Blk.range (Mem.blk H8 0 rfl)))) Tryz.underlying23) ?_
 refine ac (pQ w7 d.2.1 _ (Mem.lay H8 h.ins) hall1 hl1 B A1 c1 (yB H8 hr1)) ?_
 rintro e w10 ⟨rfl,hb12⟩
 refine ⟨_,rfl,rn ?_⟩
 have H11:=Mem.call H8 hb12
 refine rn ?_
 refine rp w.heap.size 2 ?_
 refine rv (xlc (range_cell (jZ (Blk.range (Mem.blk H11 1 rfl)))) Tryz.underlying24) ?_
 refine rp w2.heap.size 2 ?_
 refine rv (xlc (range_cell (jZ (Blk.range (Mem.blk H11 0 rfl)))) Tryz.underlying24) ?_
 refine ac (ta w10 d.2.2 _ (Mem.lay H11 h.rcp) hall2 hl2 B A2 c2 (yB H11 hr2)) ?_
 rintro e w13 ⟨rfl,hb15⟩
 refine ⟨_,rfl,rn ?_⟩
 have H14:=Mem.call H11 hb15
 refine rn ?_
 refine nt (K6 _ _ (rt ?_))
 exact ⟨rfl,Mem.below H14⟩
end Go.Proofs.YtomnhnmciopiiaaGreat
end
section
namespace Go.Proofs.YtomnhnmciopiiaaGreat.Dr
open Go Go.RowKit Go.Maps
variable {H:Type} [DecidableEq H]
def jB (all:List H) (c:H):List H:=if c∈all then all else all++[c]
def cv (all cs:List H):List H:=cs.foldl jB all
theorem nA {all cs:List H} {k:Nat} {c:H} (h:cs[k]?=some c):cv all (cs.take (k+1))=jB (cv all (cs.take k)) c:=by
 unfold cv
 rw [xaB,h,List.foldl_append]
 rfl
theorem AW {all:List H} {c h:H}:h∈jB all c↔h∈all∨h=c:=by
 unfold jB
 split
 ·rename_i hc
  exact ⟨.inl,fun h=>h.elim id fun e=>by rw [e];exact hc⟩
 ·simp
theorem vV {all:List H} {c:H} (h:all.Nodup):(jB all c).Nodup:=by
 unfold jB
 split
 ·exact h
 ·rename_i hc
  rw [xb5]
  exact ⟨h,by simp,fun a ha b hb e=>hc (by rw [xan.1 hb] at e;exact e▸ha)⟩
theorem AX (all:List H) (c:H):∃ t,jB all c=all++t:=by
 unfold jB
 split
 ·exact ⟨[],by simp⟩
 ·exact ⟨[c],rfl⟩
theorem fP:∀ {cs all:List H} {h:H},h∈cv all cs↔h∈all∨h∈cs
 | [],all,h=>by simp [cv]
 | c :: cs,all,h=>by
  show h∈cv (jB all c) cs↔_
  rw [fP,AW,xaD,or_assoc]
theorem lW:∀ {cs all:List H},all.Nodup→(cv all cs).Nodup
 | [],_,h=>h
 | _ :: cs,_,h=>lW (cs:=cs) (vV h)
theorem lg:∀ (cs all:List H),∃ t,cv all cs=all++t
 | [],all=>⟨[],by simp [cv]⟩
 | c :: cs,all=>by
  obtain ⟨t,ht⟩:=AX all c
  obtain ⟨u,hu⟩:=lg cs (jB all c)
  exact ⟨t++u,by show cv (jB all c) cs=_;rw [hu,ht,xaR]⟩
structure lT (l:List (It H)) (c:H) (i:Nat) (all:List H):Prop where
 has:c∈all
 nd:all.Nodup
 sub:∀ a∈all,a∈cE l c
 done:∀ (j:Nat) (a:H),j<i→all[j]?=some a→∀ x∈l,x.cls=a→∀ d∈x.ins,d∈all
theorem wP {l:List (It H)} (hr:gS l) {c:H} (hc:c∈css l):lT l c 0 [c] :=
 ⟨List.mem_cons_self ..,by simp,fun a ha=>by rw [xan.1 ha];exact xaj (xw hr hc).2,fun j a hj=>absurd hj (Nat.not_lt_zero _)⟩
theorem zq {l:List (It H)} (hr:gS l) {c a:H} {i:Nat} {all:List H} (h:lT l c i all) (ha:all[i]?=some a) {x:It H} (hx:x∈l) (hxa:x.cls=a):lT l c (i+1) (cv all x.ins):=by
 have hm:=h.sub a (xaj ha)
 have hcl:=rf hr (k:=c) hx (by rw [hxa];exact hm)
 obtain ⟨t,ht⟩:=lg x.ins all
 refine ⟨fP.2 (.inl h.has),lW h.nd,fun b hb=>?_,fun j b hj hb y hy hyb d hd=>?_⟩
 ·rcases fP.1 hb with hb | hb
  ·exact h.sub b hb
  ·exact hcl b hb
 ·have hlt:i<all.length:=(xah.1 ha).1
  rw [ht,List.getElem?_append_left (by omega)] at hb
  rcases Nat.lt_or_ge j i with hji | hji
  ·exact fP.2 (.inl (h.done j b hji hb y hy hyb d hd))
  ·obtain rfl:j=i:=by omega
   rw [ha] at hb
   injection hb with hb
   have e:=rM hr hx hy (by rw [hxa,hyb,hb])
   exact fP.2 (.inr (by rw [e];exact hd))
theorem xX {s l:List H} (h:s.Sublist l):l.Nodup→(l.filter fun x=>decide (x∈s))=s:=by
 induction h with
 | slnil=>intro _;rfl
 | cons a hs ih =>
  intro hn
  obtain ⟨h1,h2⟩:=List.nodup_cons.1 hn
  rw [List.filter_cons_of_neg (by simpa using fun hm=>h1 (hs.subset hm))]
  exact ih h2
 | cons_cons a hs ih =>
  intro hn
  obtain ⟨h1,h2⟩:=List.nodup_cons.1 hn
  rw [List.filter_cons_of_pos (by simp)]
  congr 1
  refine Eq.trans (List.filter_congr fun x hx=>?_) (ih h2)
  have hxa:x ≠ a:=fun e=>h1 (e▸hx)
  simp [hxa]
theorem B0 {l:List (It H)} (hr:gS l) {c:H} {all:List H} (h:lT l c all.length all):∀ b∈cE l c,b∈all:=fun b hb=>by
 obtain ⟨i,hi⟩:=xaP hb
 obtain ⟨n,y,hy,hm,h1,_,_⟩:=nc hr (c:=c) i (xah.1 hi).1
 rw [hi] at h1
 injection h1 with h1
 subst h1
 have hl:∀ a∈all,∀ x∈l,x.cls=a→∀ d∈x.ins,d∈all:=fun a ha=>by
  obtain ⟨j,hj⟩:=xaP ha
  exact h.done j a (xah.1 hj).1 hj
 have key:∀ n,Mk (cH l ((css l).idxOf c)) n→∀ x,l[n]?=some x→x.cls∈all:=by
  refine iN (l:=l) (fun n=>∀ x,l[n]?=some x→x.cls∈all) (fun n hn d hd y hy=>?_) _ _ fun k hk x hx=>?_
  ·cases e:l[n]? with
   | none=>unfold jj at hd;rw [e] at hd;cases hd
   | some x =>
    have hdx:d∈x.ins:=by unfold jj at hd;rw [e] at hd;exact hd
    have h2:=hl x.cls (hn x e) x (xaj e) rfl d hdx
    have h3:=hr.ins n x e d hdx
    have hdc:d∈css l:=xbp.1 (xaZ h3 (by have:=(xah.1 e).1;simp [css];omega))
    obtain ⟨z,hz,hzd⟩:=o3 hdc
    rw [hz] at hy
    injection hy with hy
    rw [← hy,hzd]
    exact h2
  ·have e:=s0 hk
   subst e
   have hcc:c∈css l:=xbp.1 (by have:=(xah.1 hx).1;simpa [css] using this)
   obtain ⟨z,hz,hzc⟩:=o3 hcc
   rw [hz] at hx
   injection hx with hx
   rw [← hx,hzc]
   exact h.has
 exact key n hm y hy
theorem zo {l:List (It H)} (hr:gS l) {c:H} {all:List H} (h:lT l c all.length all):((css l).filter fun b=>decide (b∈all))=cE l c:=by
 have e:=xX (js (css l) (cH l ((css l).idxOf c))) hr.nodup
 refine Eq.trans (List.filter_congr fun x _=>?_) e
 exact decide_eq_decide.2 ⟨fun hm=>h.sub x hm,fun hm=>B0 hr h x hm⟩
theorem sR {l:List (It H)} {c:H} {i:Nat} {all:List H} (h:lT l c i all):all.length≤l.length:=by
 have h1:=vc h.nd fun x hx=>kM (h.sub x hx)
 have e:(css l).length=l.length:=by simp [css]
 omega
end Go.Proofs.YtomnhnmciopiiaaGreat.Dr
end
section
namespace Go.Proofs.YtomnhnmciopiiaaGreat
open Go Go.RowKit Go.Maps
def nb (n:Nat):List Value:=[.int .i64 (n:Int)]
namespace Dr
variable {H:Type} [DecidableEq H]
end Dr
theorem oy (l:List Itm):Dr.css (l.map itP)=l.map (·.1):=by
 unfold Dr.css
 rw [List.map_map]
 rfl
end Go.Proofs.YtomnhnmciopiiaaGreat
end
section
namespace Go.Proofs.YtomnhnmciopiiaaGreat
open Go Go.RowKit Go.Maps
attribute [local irreducible] wpList
theorem pz (x:Itm) (l:List Itm) (c:Hsh):aY (x :: l) c=if x.1=c then some x else aY l c:=by
 unfold aY
 rw [xck]
 by_cases h:x.1=c
 ·rw [if_pos h,decide_eq_true h]
 ·rw [if_neg h,decide_eq_false h]
theorem zh (c:Hsh):aY [] c=none:=rfl
theorem tz (w:World) (B:Nat) (hB:B≤w.heap.size) (l:List Itm) (v:Value) (h:eg.At w B [v] l) (c:Hsh) (hc:okH c) (d:Drv) (hd:findD l c=d) (b9:Bool) (hb:(aY l c).isSome=b9) :
  Calls Tryz.prog 32 #[v,.agg (bv c).toArray] w fun e w'=>∃ u1 u2,e=.returned (.tuple #[.agg (dC d u1 u2).toArray,.bool b9])∧au w B d u1 u2∧Below w.heap.size w w':=by
 obtain ⟨A0,cap,rfl,_,hcm,_,hA⟩:=aj h
 simp only [maxLen] at hcm
 have H0:=Mem.start w
 go_enter Tryz.func32,Tryz.ntmps32
 refine sk fun _ K1=>rl ?_
 refine bx 34 (bv c) fun w2 hn_=>?_
 have H3:=Mem.aM H0 hn_
 refine rn ?_
 refine nz 26 zcD fun w4 hn_=>?_
 have H5:=Mem.aM H3 hn_
 refine rn ?_
 refine nt (K1 _ _ (sk fun _ K6=>sk fun _ K7=>rl ?_))
 refine nt (K7 _ _ (wp_block ?_))
 go_loopw [6] (fun x6 wr=>∃ j:Nat,x6=.int .i64 (j:Int)∧(j≤l.length)∧(aY l c=aY (l.drop j) c)∧Mem w wr [bh (w2.heap.size) 26 zcD,bh (w.heap.size) 34 (bv c).toArray]) (fun x6 _=>l.length-(intOf x6).toNat)
 case atStart=>exact ⟨0,rfl,by omega,rfl,H5⟩
 case round =>
  obtain ⟨wo8,rfl⟩:∃ wo8,wo8=wr:=⟨_,rfl⟩
  obtain ⟨j,rfl,hj,hf,H9⟩:=hrel
  refine sk fun _ K11=>sk fun _ K12=>rl ?_
  by_cases p13:(j:Int)<((l.length:Nat):Int)
  ·refine rv (aK (decide_eq_true p13)) ?_
   refine nt (K12 _ _ (ct (ks (K11 _ _ (sk fun _ K14=>wp_block (sk fun _ K15=>?_))))))
   obtain ⟨b16,o17,rfl,hlt19,hE18⟩:=hA (by omega)
   have hlt19:=xaZ hlt19 hB
   obtain ⟨x20,hx21⟩:=gx (l:=l) (j:=j)
   have hd22:=aD hx21
   obtain ⟨cs,hr23,ha24⟩:=hE18 (j) x20 hx21
   obtain ⟨v25,v26,rfl,xo27,xd28⟩:=eN.1 ha24
   obtain ⟨A29,c30,rfl,hlc30,hmc30,_,hA31⟩:=aj xd28.ins
   obtain ⟨A32,c33,rfl,hlc33,hmc33,_,hA34⟩:=aj xd28.rcp
   simp only [maxLen] at hmc30 hmc33
   refine Fre.cC (X:=Bel) [] (by kernel_rfl) (by kernel_rfl) (by simp) (by simp) (by simp) ?_
   refine Fre.rmd ?_
   refine Fre.mvv (fun _ _=>fw (j) Tryz.underlying40 dM) ?_
   refine Fre.mvv (v:=.pointer (some ⟨b16,o17+j*23,none⟩)) (fun _ _=>by kernel_rfl) ?_
   refine Fre.mvv (fun W9 hW9=>xld (cz (Mem.range (Mem.call H9 hW9) hr23 hlt19)) Tryz.underlying34 (bN xo27)) ?_
   refine Fre.mvv (fun W9 hW9=>xld (Blk.range (Mem.blk (Mem.call H9 hW9) 1 rfl)) Tryz.underlying34 (bN hc)) ?_
   by_cases p35:x20.1=c
   ·refine Fre.mvv (fun W9 _=>dG 34 34 (.tmp 17) (.tmp 18) rfl (bv x20.1).toArray (bv c).toArray rfl rfl (by kernel_rfl) _ W9 (by have h9:=dc (x20.1) (c) xo27 hc W9;rwa [show decide _=true from (decide_eq_true p35)] at h9)) ?_
    intro w36 hx38
    dsimp only [Fre.ended,xaE]
    have H37:=Mem.call H9 hx38
    refine ah (K15 _ _ (ct (sk fun _ K39=>rl ?_)))
    refine rv (fw (j) Tryz.underlying40 dM) ?_
    refine rp b16 (o17+j*23+20) ?_
    refine rv (xld (de xo27 (Mem.range H37 hr23 hlt19)) Tryz.underlying26 (aS x20.2 (.slice A29 x20.2.2.1.length c30) (.slice A32 x20.2.2.2.length c33))) ?_
    refine stb (Mem.blk H37 0 rfl) (dS x20.2 (.slice A29 x20.2.2.1.length c30) (.slice A32 x20.2.2.2.length c33)) (bP gq (dS x20.2 (.slice A29 x20.2.2.1.length c30) (.slice A32 x20.2.2.2.length c33))) (lp x20.2 rfl rfl) fun w40 hk_ hg_=>?_
    have H41:=Mem.st H37 0 rfl hk_ hg_
    refine rn ?_
    refine nt (K39 _ _ ?_)
    refine wp_ret ?_
    simp only [Exit.then,Exit.inBlock]
    refine bodyPost_ret (bu (r1:=.cell 4 26) (r2:=.tmp 5) rfl ⟨⟨_,rfl,dP (Blk.range (Mem.blk H41 0 rfl)) Tryz.underlying26 rfl (aS x20.2 (.slice A29 x20.2.2.1.length c30) (.slice A32 x20.2.2.2.length c33))⟩,rfl,trivial⟩) rfl ?_
    have h:=hf
    simp only [pz,hd22,p35,↓reduceIte] at h
    have hbt:b9=true:=hb.symm.trans (by rw [h];rfl)
    have hdt:d=x20.2:=hd.symm.trans (mf h)
    subst hdt hbt
    exact ⟨_,_,rfl,xd28,Mem.below H41⟩
   ·refine Fre.mvv (fun W9 _=>dG 34 34 (.tmp 17) (.tmp 18) rfl (bv x20.1).toArray (bv c).toArray rfl rfl (by kernel_rfl) _ W9 (by have h9:=dc (x20.1) (c) xo27 hc W9;rwa [show decide _=false from (decide_eq_false p35)] at h9)) ?_
    intro w42 hx44
    dsimp only [Fre.ended,xaE]
    have H43:=Mem.call H9 hx44
    refine ah (K15 _ _ (cf ?_))
    refine wp_skip ?_
    refine ar (ah (K14 _ _ (rl ?_)))
    refine rv (bp (((j+1:Nat):Int))) ?_
    refine wpList_nil ?_
    refine ah ?_
    show _∧_
    go_roundw
    case rel=>exact ⟨(j+1),rfl,by omega,(by have h:=hf;simp only [pz,hd22,p35,↓reduceIte] at h;exact h),H43⟩
    case measure=>simp [intOf];omega
  ·have he45:=bE (l:=l) (j:=j) (by omega)
   refine rv (aK (decide_eq_false p13)) ?_
   refine nt (K12 _ _ (cf (wp_exit (an (an (aB (ah (K6 _ _ (sk fun _ K46=>rl ?_)))))))))
   refine rv (v:=.agg (dC (⟨#[]⟩,[],[]) (.slice none 0 0) (.slice none 0 0)).toArray) (by kernel_rfl) ?_
   refine stb (Mem.blk H9 0 rfl) (dS (⟨#[]⟩,[],[]) (.slice none 0 0) (.slice none 0 0)) (bP gq (dS (⟨#[]⟩,[],[]) (.slice none 0 0) (.slice none 0 0))) (lp (⟨#[]⟩,[],[]) rfl rfl) fun w47 hk_ hg_=>?_
   have H48:=Mem.st H9 0 rfl hk_ hg_
   refine rn ?_
   refine nt (K46 _ _ ?_)
   refine wp_ret ?_
   refine bodyPost_ret (bu (r1:=.cell 4 26) (r2:=.tmp 5) rfl ⟨⟨_,rfl,dP (Blk.range (Mem.blk H48 0 rfl)) Tryz.underlying26 rfl (aS (⟨#[]⟩,[],[]) (.slice none 0 0) (.slice none 0 0))⟩,rfl,trivial⟩) rfl ?_
   have h:=hf
   simp only [zh,he45] at h
   have hbt:b9=false:=hb.symm.trans (by rw [h];rfl)
   have hdt:d=(⟨#[]⟩,[],[]):=hd.symm.trans (BS h)
   subst hdt hbt
   exact ⟨_,_,rfl,Gz _ _,Mem.below H48⟩
end Go.Proofs.YtomnhnmciopiiaaGreat
end
section
namespace Go.Proofs.YtomnhnmciopiiaaGreat
open Go Go.RowKit Go.Maps
attribute [local irreducible] wpList
theorem xt {l:List Itm} {c:Hsh} (h:Dr.bO (l.map itP)=false):eF l c=2∧aP l c=[]:=by
 unfold eF aP
 rw [h]
 exact ⟨rfl,rfl⟩
theorem lu {l:List Itm} {c:Hsh}:(cg (ew l) c).isSome=(aY l c).isSome:=by
 cases h1:(aY l c).isSome
 ·cases h2:(cg (ew l) c).isSome
  ·rfl
  ·exfalso
   have h3:=jl h2
   rw [oy] at h3
   obtain ⟨x,hx,hxc⟩:=xaA.1 h3
   have h5:aY l c=none:=by
    cases h6:aY l c with
    | none=>rfl
    | some _=>rw [h6] at h1;cases h1
   exact List.find?_eq_none.1 h5 x hx (decide_eq_true hxc)
 ·cases h2:(cg (ew l) c).isSome
  ·exfalso
   obtain ⟨x,hx⟩:=Option.isSome_iff_exists.1 h1
   have h3:=List.find?_some hx
   have h4:=List.mem_of_find?_eq_some hx
   refine mZ h2 ?_
   rw [oy]
   exact xaA.2 ⟨x,h4,of_decide_eq_true h3⟩
  ·rfl
theorem zY {l:List Itm} {c:Hsh} (h:Dr.bO (l.map itP)=true) (hf:(aY l c).isSome=false):eF l c=5∧aP l c=[]:=by
 unfold eF aP
 rw [if_pos h,if_pos h,lu,hf]
 exact ⟨rfl,rfl⟩
theorem xu {l:List Itm} {c:Hsh} (h:Dr.bO (l.map itP)=true) (hf:(aY l c).isSome=true):eF l c=0∧aP l c=Dr.cE (l.map itP) c:=by
 unfold eF aP
 rw [if_pos h,if_pos h,lu,if_pos hf,if_pos hf]
 exact ⟨rfl,rfl⟩
theorem BV {l:List Itm} {c:Hsh} (hf:(aY l c).isSome=true):c∈Dr.css (l.map itP):=jl (lu.trans hf)
theorem zp {l:List Itm} {c:Hsh} {i:Nat} {all:List Hsh} {a:Hsh} (hg:Dr.lT (l.map itP) c i all) (ha:all[i]?=some a):∃ x,x∈l∧x.1=a∧findD l a=x.2∧(aY l a).isSome=true:=by
 have h1:=kM (hg.sub a (xaj ha))
 have h2:(aY l a).isSome=true:=by
  rw [oy] at h1
  obtain ⟨x,hx,hxa⟩:=xaA.1 h1
  cases h:aY l a with
  | some _=>rfl
  | none=>exact absurd (decide_eq_true hxa) (List.find?_eq_none.1 h x hx)
 obtain ⟨x,hx⟩:=Option.isSome_iff_exists.1 h2
 have h3:=List.find?_some hx
 exact ⟨x,List.mem_of_find?_eq_some hx,of_decide_eq_true h3,mf hx,h2⟩
theorem yh (all:List Hsh) (c:Hsh) (b:Bool) (hb:decide (c∈all)=b):Dr.jB all c=if b=true then all else all++[c]:=by
 unfold Dr.jB
 cases b
 ·have:=of_decide_eq_false hb
  rw [if_neg this];rfl
 ·have:=of_decide_eq_true hb
  rw [if_pos this];rfl
theorem BQ {l:List Itm} {k:Nat} {x:Itm} (all:List Hsh) (h:l[k]?=some x) (b:Bool) (hb:decide (x.1∈all)=b):((l.take (k+1)).map (·.1)).filter (fun z=>decide (z∈all))=if b=true then ((l.take k).map (·.1)).filter (fun z=>decide (z∈all))++[x.1] else ((l.take k).map (·.1)).filter (fun z=>decide (z∈all)):=by
 rw [xaB,h,List.map_append,List.filter_append]
 cases b
 ·simp [of_decide_eq_false hb]
 ·simp [of_decide_eq_true hb]
def jf (l:List Itm) (all:List Hsh) (k:Nat):List Hsh:=((l.take k).map (·.1)).filter (fun z=>decide (z∈all))
theorem BP (l:List Itm) (all:List Hsh) (k:Nat):(jf l all k).length≤k:=by
 have h1:=List.length_filter_le (fun z=>decide (z∈all)) ((l.take k).map (·.1))
 rw [xap,xaN] at h1
 unfold jf
 omega
theorem rO {l:List Itm} {k:Nat} {x:Itm} (all:List Hsh) (h:l[k]?=some x) (b:Bool) (hb:decide (x.1∈all)=b):jf l all (k+1)=if b=true then jf l all k++[x.1] else jf l all k:=BQ all h b hb
theorem BO {l:List Itm} {all:List Hsh} {c:Hsh} (hr:Dr.bO (l.map itP)=true) (hg:Dr.lT (l.map itP) c all.length all):jf l all l.length=Dr.cE (l.map itP) c:=by
 have h:=Dr.zo ((Dr.iA _).1 hr) hg
 rw [oy] at h
 unfold jf
 rw [xaG,← h]
 refine List.filter_congr fun x _=>?_
 exact mQ _ _ _
theorem Mem.DV {w0 w w2:World} {L:List Ent} {d:Drv} {v1 v2:Value} (h:Mem w0 w L) (hx:au w w0.heap.size d v1 v2):au w0 w0.heap.size d v1 v2 :=
 au.alike hx fun _ hk=>(h.old hk).symm
theorem yj {all cs:List Hsh} (h:∀ z∈all,okH z) (hc:∀ z∈cs,okH z):∀ z∈Dr.cv all cs,okH z:=fun z hz=>by
 rcases Dr.fP.1 hz with hz | hz
 ·exact h z hz
 ·exact hc z hz
theorem tU (all:List Hsh):∀ cs:List Hsh,(Dr.cv all cs).length≤all.length+cs.length
 | []=>xag _
 | c :: cs=>by
  have h1:=tU (Dr.jB all c) cs
  have h2:(Dr.jB all c).length≤all.length+1:=by
   unfold Dr.jB
   split
   ·omega
   ·simp
  show (Dr.cv (Dr.jB all c) cs).length≤_
  rw [xaF]
  omega
theorem Ex {c:Hsh} (hc:okH c):∀ z∈[c],okH z:=fun z hz=>by rw [xan.1 hz];exact hc
theorem oD {α:Type} {M:Lay α} {w0 w:World} {L:List Ent} {cs:List Value} {x:α} (h:Mem w0 w L) (hx:M.At w0 w0.heap.size cs x):M.At w w0.heap.size cs x:=M.alike hx h.alike
theorem Mem.sG {α:Type} {f:α→List Value} {l:List α} {w0 w:World} {L:List Ent} {g B s cap:Nat} {t:TypeId} {cs:Array Value} (h:Mem w0 w L) (i:Nat) (hi:L[i]?=some (bh g t cs)) (hcs:cs.toList=l.flatMap f) (hl:(l.flatMap f).length=cap*s) (hc:l.length=cap) (h24:cap≤maxLen) (hB:B=w0.heap.size:=by rfl) :
  Mem w0 w (L.set i (ax B t s (.slice (some ⟨g,0,none⟩) l.length cap) l.length (l.flatMap f))) :=
 h.mD i hi (gz _ _ _ _ _ _) ⟨by rw [hl,hc],.inr ⟨g,cap,cs,rfl,hB▸(h.from_ i hi rfl).1,h.blk i hi,by omega,h24,by rw [← Array.length_toList,hcs,hl],by rw [hcs,hc,xav (by omega)]⟩⟩ fun b hb=>by
  have e:some g=some b:=hb
  injection e with e
  exact e.symm
theorem xO (w:World) (l:List Itm) (v:Value) (h:eg.At w w.heap.size [v] l) (hl:∀ x∈l,x.2.2.1.length≤1000000) (hlen:l.length≤1000000) (c:Hsh) (hc:okH c) :
  Calls Tryz.prog 34 #[v,.agg (bv c).toArray] w fun e w'=>∃ A cap,e=.returned (.tuple #[.slice A (aP l c).length cap,.int .i64 (eF l c)])∧Mem w w' [ax w.heap.size 34 20 (.slice A (aP l c).length cap) (aP l c).length ((aP l c).flatMap bv)]:=by
 obtain ⟨A0,cap,rfl,_,hcm,_,hA⟩:=aj h
 simp only [maxLen] at hcm
 have H0:=Mem.start w
 go_enter Tryz.func34,Tryz.ntmps34
 refine sk fun _ K1=>rl ?_
 refine bx 34 (bv c) fun w2 hn_=>?_
 have H3:=Mem.aM H0 hn_
 refine rn ?_
 refine nt (K1 _ _ (sk fun _ K4=>sk fun _ K5=>rl ?_))
 obtain ⟨br,hbr⟩:∃ b,Dr.bO (l.map itP)=b:=⟨_,rfl⟩
 refine ac (qz w2 l _ (Mem.lay H3 h) hl hlen br hbr) ?_
 rintro e w6 ⟨rfl,hb8⟩
 refine ⟨_,rfl,rn ?_⟩
 have H7:=Mem.call H3 hb8
 cases br
 ·refine rn ?_
  refine nt (K5 _ _ (ct (sk fun _ K9=>rl ?_)))
  refine nt (K9 _ _ ?_)
  refine wp_ret ?_
  simp only [Exit.then]
  refine bodyPost_ret (bu (r1:=.tmp 4) (r2:=.tmp 5) rfl ⟨rfl,rfl,trivial⟩) rfl ?_
  obtain ⟨e1,e2⟩:=xt (c:=c) hbr
  rw [e1,e2]
  exact ⟨_,_,rfl,Mem.pick (Mem.dE H7 _ _ _) [0] (by decide) rfl⟩
 ·refine rn ?_
  refine nt (K5 _ _ (cf (ks (K4 _ _ (sk fun _ K10=>rl ?_)))))
  refine rv (xld (Blk.range (Mem.blk H7 0 rfl)) Tryz.underlying34 (bN hc)) ?_
  obtain ⟨bf,hbf⟩:∃ b,(aY l c).isSome=b:=⟨_,rfl⟩
  obtain ⟨d13,hd13⟩:∃ d,findD l c=d:=⟨_,rfl⟩
  refine ac (tz w6 w.heap.size (Mem.below H7).size l _ (oD H7 h) c hc d13 hd13 bf hbf) ?_
  rintro e w15 ⟨u11,u12,rfl,xd14,hb17⟩
  refine ⟨_,rfl,rn ?_⟩
  have H16:=Mem.call H7 hb17
  have xd14:=Mem.DV (w2:=w) H7 xd14
  refine rn ?_
  refine nz 26 zcD fun w18 hn_=>?_
  have H19:=Mem.aM H16 hn_
  refine rn ?_
  refine stb (Mem.blk H19 0 rfl) (dS d13 u11 u12) (bP gq (dS d13 u11 u12)) (lp d13 (au.dK xd14).1 (au.dK xd14).2) fun w20 hk_ hg_=>?_
  have H21:=Mem.st H19 0 rfl hk_ hg_
  refine rn ?_
  refine nt (K10 _ _ (sk fun _ K22=>sk fun _ K23=>rl ?_))
  refine rv GZ ?_
  refine nt (K23 _ _ ?_)
  cases bf
  ·refine ct (sk fun _ K24=>rl ?_)
   refine nt (K24 _ _ ?_)
   refine wp_ret ?_
   simp only [Exit.then]
   refine bodyPost_ret (bu (r1:=.tmp 4) (r2:=.tmp 5) rfl ⟨rfl,rfl,trivial⟩) rfl ?_
   obtain ⟨e1,e2⟩:=zY hbr hbf
   rw [e1,e2]
   exact ⟨_,_,rfl,Mem.pick (Mem.dE H21 _ _ _) [0] (by decide) rfl⟩
  ·refine cf (ks (K22 _ _ (sk fun _ K25=>rl ?_)))
   refine rv (xld (Blk.range (Mem.blk H21 1 rfl)) Tryz.underlying34 (bN hc)) ?_
   refine aO rfl 27 (.tmp 27) rfl 34 20 (.agg zcH) (.agg (bv c).toArray) rfl Tryz.underlying27 cr (by decide) (by decide) (fun w=>by kernel_rfl) (by rw [xaU,xal,bvL];exact hc) ?_
   intro w26 hn
   have H27:=Mem.aM H21 hn
   clear hn
   refine rn ?_
   refine nt (K25 _ _ (sk fun _ K28=>sk fun _ K29=>rl ?_))
   refine nt (K29 _ _ (wp_block ?_))
   have H30:=Mem.sG H27 0 rfl (f:=bv) (l:=[c]) (B:=w.heap.size) (t:=34) (s:=20) (cap:=1) (by simp [xaU]) (by simp [bvL,show c.length=20 from hc]) rfl (by decide)
   have H31:=Mem.pick H30 [0,2] (by decide) rfl
   go_loopw [8,9] (fun x8 x9 wr=>∃ i:Nat,∃ all:List Hsh,∃ A:Option Addr,∃ c9:Nat,x8=.slice A all.length c9∧x9=.int .i64 (i:Int)∧(i≤all.length)∧(∀ z∈all,okH z)∧(Dr.lT (l.map itP) c i all)∧Mem w wr [ax (w.heap.size) 34 20 (.slice A all.length c9) (all).length ((all).flatMap bv),bh (w.heap.size) 34 (bv c).toArray]) (fun x8 x9 _=>l.length+1-(intOf x9).toNat)
   case atStart=>exact ⟨0,([c]),((some ⟨w20.heap.size,0,none⟩)),1,rfl,rfl,by omega,(Ex hc),Dr.wP ((Dr.iA _).1 hbr) (BV hbf),H31⟩
   case round =>
    obtain ⟨wo32,rfl⟩:∃ wo32,wo32=wr:=⟨_,rfl⟩
    obtain ⟨i,all,A,c9,rfl,rfl,hi,hall,hg,H33⟩:=hrel
    have hgl:=Dr.sR hg
    rw [xap] at hgl
    refine sk fun _ K35=>sk fun _ K36=>rl ?_
    by_cases p37:(i:Int)<((all.length:Nat):Int)
    ·refine rv (aK (decide_eq_true p37)) ?_
     refine nt (K36 _ _ (ct (ks (K35 _ _ (sk fun _ K38=>wp_block (sk fun _ K39=>rl ?_))))))
     obtain ⟨b40,rfl,hlt43⟩:=aR (Mem.own H33 0 rfl) (by omega)
     obtain ⟨x44,hx45⟩:=gx (l:=all) (j:=i)
     have hd46:=aD hx45
     have ok47:=hall _ (xaj hx45)
     refine rv (bT (i) Tryz.underlying27 cr) ?_
     refine rv (xld (dQ (f:=bv) (by decide) (Mem.own H33 0 rfl) (fun z hz=>by rw [bvL];exact hall z hz) hx45) Tryz.underlying34 (bN ok47)) ?_
     obtain ⟨x48,hx49,hxa50,hfd51,hfi52⟩:=zp hg hx45
     have hcs:(aA x48.2.2.1).length≤1000000:=by have h1:=im x48.2.2.1 x48.2.2.1.length;rw [xaG] at h1;have h2:=hl _ hx49;omega
     refine ac (tz wo32 w.heap.size (Mem.below H33).size l _ (oD H33 h) x44 ok47 x48.2 hfd51 true hfi52) ?_
     rintro e w56 ⟨u53,u54,rfl,xd55,hb58⟩
     refine ⟨_,rfl,rn ?_⟩
     have H57:=Mem.call H33 hb58
     have xd55:=Mem.DV (w2:=w) H33 xd55
     refine rn ?_
     refine nz 26 zcD fun w59 hn_=>?_
     have H60:=Mem.aM H57 hn_
     refine rn ?_
     refine stb (Mem.blk H60 0 rfl) (dS x48.2 u53 u54) (bP gq (dS x48.2 u53 u54)) (lp x48.2 (au.dK xd55).1 (au.dK xd55).2) fun w61 hk_ hg_=>?_
     have H62:=Mem.st H60 0 rfl hk_ hg_
     refine rn ?_
     refine nt (K39 _ _ (sk fun _ K63=>rl ?_))
     refine rv (xld (Blk.range (Mem.blk H62 0 rfl)) Tryz.underlying26 (aS x48.2 u53 u54)) ?_
     refine ac (jL w61 x48.2 _ _ (Mem.drv H62 xd55) (hl _ hx49)) ?_
     rintro e w68 ⟨A64,c65,rfl,hm66⟩
     refine ⟨_,rfl,rn ?_⟩
     have H69:=Mem.seq H62 hm66
     refine rn ?_
     refine nt (K63 _ _ (sk fun _ K71=>rl ?_))
     refine nt (K71 _ _ (wp_block ?_))
     have H72:=Mem.pick H69 [2,0,3] (by decide) rfl
     go_loopw [8,13] (fun x8 x13 wr=>∃ k:Nat,∃ A2:Option Addr,∃ c2:Nat,x8=.slice A2 (Dr.cv all ((aA x48.2.2.1).take k)).length c2∧x13=.int .i64 (k:Int)∧(k≤(aA x48.2.2.1).length)∧Mem w wr [ax (w.heap.size) 34 20 (.slice A2 (Dr.cv all ((aA x48.2.2.1).take k)).length c2) ((Dr.cv all ((aA x48.2.2.1).take k))).length (((Dr.cv all ((aA x48.2.2.1).take k))).flatMap bv),ax (w61.heap.size) 34 20 (.slice A64 (aA x48.2.2.1).length c65) ((aA x48.2.2.1)).length (((aA x48.2.2.1)).flatMap bv),bh (w.heap.size) 34 (bv c).toArray]) (fun x8 x13 _=>(aA x48.2.2.1).length-(intOf x13).toNat)
     case atStart=>exact ⟨0,((some ⟨b40,0,none⟩)),c9,rfl,rfl,by omega,H72⟩
     case round =>
      obtain ⟨wo73,rfl⟩:∃ wo73,wo73=wr:=⟨_,rfl⟩
      obtain ⟨k,A2,c2,rfl,rfl,hk,H74⟩:=hrel
      have hal:=tU all ((aA x48.2.2.1).take k)
      rw [xaN] at hal
      refine sk fun _ K76=>sk fun _ K77=>rl ?_
      by_cases p78:(k:Int)<(((aA x48.2.2.1).length:Nat):Int)
      ·refine rv (aK (decide_eq_true p78)) ?_
       refine nt (K77 _ _ (ct (ks (K76 _ _ (sk fun _ K79=>wp_block (sk fun _ K80=>rl ?_))))))
       obtain ⟨b81,rfl,hlt84⟩:=aR (Mem.own H74 1 rfl) (by omega)
       obtain ⟨x85,hx86⟩:=gx (l:=(aA x48.2.2.1)) (j:=k)
       have hd87:=aD hx86
       have ok88:=(gU xd55) _ (xaj hx86)
       refine rv (bT (k) Tryz.underlying27 cr) ?_
       refine rv (xld (dQ (f:=bv) (by decide) (Mem.own H74 1 rfl) (fun z hz=>by rw [bvL];exact (gU xd55) z hz) hx86) Tryz.underlying34 (bN ok88)) ?_
       obtain ⟨ba,hba⟩:∃ b,decide (x85∈(Dr.cv all ((aA x48.2.2.1).take k)))=b:=⟨_,rfl⟩
       refine ac (jv wo73 ((Dr.cv all ((aA x48.2.2.1).take k))) _ (nr (Mem.own H74 0 rfl) (yj hall (fun z hz=>(gU xd55) z (List.mem_of_mem_take hz)))) x85 ok88 ba hba) ?_
       rintro e w89 ⟨rfl,hb91⟩
       refine ⟨_,rfl,rn ?_⟩
       have H90:=Mem.call H74 hb91
       cases ba
       ·refine rn ?_
        refine nt (K80 _ _ (ct (rl ?_)))
        refine rv (bT (k) Tryz.underlying27 cr) ?_
        refine rv (xld (dQ (f:=bv) (by decide) (Mem.own H90 1 rfl) (fun z hz=>by rw [bvL];exact (gU xd55) z hz) hx86) Tryz.underlying34 (bN ok88)) ?_
        refine aO rfl 27 (.tmp 63) rfl 34 20 (.agg zcH) (.agg (bv x85).toArray) rfl Tryz.underlying27 cr (by decide) (by decide) (fun w=>by kernel_rfl) (by rw [xaU,xal,bvL];exact ok88) ?_
        intro w92 hn
        have H93:=Mem.aM H90 hn
        clear hn
        refine rn ?_
        obtain ⟨inm34,iq34,ir34,is34,it34⟩:=info_parts fU
        refine aE rfl _ _ 27 rfl (w.heap.size) 34 _ _ 20 20 Tryz.underlying27 iq34 ir34 is34 it34 rfl (by decide) (.slice A2 (Dr.cv all ((aA x48.2.2.1).take k)).length c2) (((Dr.cv all ((aA x48.2.2.1).take k))).length) (((Dr.cv all ((aA x48.2.2.1).take k))).flatMap bv) (Mem.own H93 1 rfl) ((some ⟨w89.heap.size,0,none⟩)) (1) (1) (bv x85) (bU (n:=20) (m:=1) (Mem.blk H93 0 rfl) (by rw [bvL];exact ok88) (bv1 _)) ?hmt94 ?hbt94 ?hzt94 rfl rfl ?_
        case hmt94=>simp only [maxLen];omega
        case hbt94=>omega
        case hzt94=>exact (Mem.below H93).size
        intro u97 w95 ow100 gr101 hp102
        refine rn ?_
        have ow100:w95.ownsRow (w.heap.size) 34 20 u97 ((Dr.cv all ((aA x48.2.2.1).take k))++[x85]).length (((Dr.cv all ((aA x48.2.2.1).take k))++[x85]).flatMap bv):=by first | simpa using ow100 | (simp at ow100 ⊢;exact ow100)
        obtain ⟨A98,c99,rfl⟩:=aI ow100
        have H96:=Mem.app H93 1 rfl ow100 gr101 hp102
        clear ow100 gr101 hp102
        refine rn ?_
        refine wpList_nil ?_
        refine ar (ah (K79 _ _ (rl ?_)))
        refine rv (bp (((k+1:Nat):Int))) ?_
        refine wpList_nil ?_
        have et103:((Dr.cv all ((aA x48.2.2.1).take k))++[x85])=(Dr.cv all ((aA x48.2.2.1).take (k+1))):=by rw [Dr.nA hx86,yh _ _ false hba];rfl
        rw [et103] at H96 ⊢
        have H104:=Mem.pick H96 [1,2,3] (by decide) rfl
        refine ah ?_
        show _∧_
        go_roundw
        case rel=>exact ⟨(k+1),A98,c99,rfl,rfl,by omega,H104⟩
        case measure=>simp [intOf];omega
       ·refine rn ?_
        refine nt (K80 _ _ (cf ?_))
        refine wp_skip ?_
        refine ar (ah (K79 _ _ (rl ?_)))
        refine rv (bp (((k+1:Nat):Int))) ?_
        refine wpList_nil ?_
        have et105:(Dr.cv all ((aA x48.2.2.1).take k))=(Dr.cv all ((aA x48.2.2.1).take (k+1))):=by rw [Dr.nA hx86,yh _ _ true hba];rfl
        rw [et105] at H90 ⊢
        refine ah ?_
        show _∧_
        go_roundw
        case rel=>exact ⟨(k+1),A2,c2,rfl,rfl,by omega,H90⟩
        case measure=>simp [intOf];omega
      ·have he106:=bE (l:=(aA x48.2.2.1)) (j:=k) (by omega)
       refine rv (aK (decide_eq_false p78)) ?_
       refine nt (K77 _ _ (cf (wp_exit (an (an (aB (ar (ah (K38 _ _ (rl ?_))))))))))
       refine rv (bp (((i+1:Nat):Int))) ?_
       refine wpList_nil ?_
       have hke:k=(aA x48.2.2.1).length:=by omega
       have et107:(Dr.cv all ((aA x48.2.2.1).take k))=(Dr.cv all (aA x48.2.2.1)):=by rw [hke,xaG]
       rw [et107] at H74 ⊢
       have hgn:=Dr.zq ((Dr.iA _).1 hbr) hg hx45 (x:=itP x48) (xaA.2 ⟨_,hx49,rfl⟩) hxa50
       have hgnl:=Dr.sR hgn
       rw [xap] at hgnl
       have hil:i+1≤(Dr.cv all (aA x48.2.2.1)).length:=by obtain ⟨t,ht⟩:=Dr.lg (aA x48.2.2.1) all;rw [ht,xak];omega
       have H108:=Mem.pick H74 [0,2] (by decide) rfl
       refine ah ?_
       show _∧_
       go_roundw
       case rel=>exact ⟨(i+1),((Dr.cv all (aA x48.2.2.1))),A2,c2,rfl,rfl,by omega,(yj hall (gU xd55)),hgn,H108⟩
       case measure=>simp [intOf];omega
    ·have he109:=bE (l:=all) (j:=i) (by omega)
     refine rv (aK (decide_eq_false p37)) ?_
     refine nt (K36 _ _ (cf (wp_exit (an (an (aB (ah (K28 _ _ (sk fun _ K110=>rl ?_)))))))))
     refine nt (K110 _ _ (sk fun _ K111=>sk fun _ K112=>rl ?_))
     refine nt (K112 _ _ (wp_block ?_))
     have hie:i=all.length:=by omega
     have hg2:=hg
     rw [hie] at hg2
     have hgl2:=Dr.sR hg2
     rw [xap] at hgl2
     have H113:=Mem.dE H33 w.heap.size 34 20
     go_loopw [14,15] (fun x14 x15 wr=>∃ j:Nat,∃ A3:Option Addr,∃ c3:Nat,x14=.slice A3 (jf l all j).length c3∧x15=.int .i64 (j:Int)∧(j≤l.length)∧Mem w wr [ax (w.heap.size) 34 20 (.slice A3 (jf l all j).length c3) ((jf l all j)).length (((jf l all j)).flatMap bv),ax (w.heap.size) 34 20 (.slice A all.length c9) (all).length ((all).flatMap bv),bh (w.heap.size) 34 (bv c).toArray]) (fun x14 x15 _=>l.length-(intOf x15).toNat)
     case atStart=>exact ⟨0,none,0,rfl,rfl,by omega,H113⟩
     case round =>
      obtain ⟨wo114,rfl⟩:∃ wo114,wo114=wr:=⟨_,rfl⟩
      obtain ⟨j,A3,c3,rfl,rfl,hj,H115⟩:=hrel
      have hfl:=BP l all j
      refine sk fun _ K117=>sk fun _ K118=>rl ?_
      by_cases p119:(j:Int)<((l.length:Nat):Int)
      ·refine rv (aK (decide_eq_true p119)) ?_
       refine nt (K118 _ _ (ct (ks (K117 _ _ (sk fun _ K120=>wp_block (sk fun _ K121=>rl ?_))))))
       obtain ⟨b122,o123,rfl,hlt125,hE124⟩:=hA (by omega)
       obtain ⟨x126,hx127⟩:=gx (l:=l) (j:=j)
       have hd128:=aD hx127
       obtain ⟨cs,hr129,ha130⟩:=hE124 (j) x126 hx127
       obtain ⟨v131,v132,rfl,xo133,xd134⟩:=eN.1 ha130
       obtain ⟨A135,c136,rfl,hlc136,hmc136,_,hA137⟩:=aj xd134.ins
       obtain ⟨A138,c139,rfl,hlc139,hmc139,_,hA140⟩:=aj xd134.rcp
       simp only [maxLen] at hmc136 hmc139
       refine rv (fw (j) Tryz.underlying40 dM) ?_
       refine rp b122 (o123+j*23) ?_
       refine rv (xld (cz (Mem.range H115 hr129 hlt125)) Tryz.underlying34 (bN xo133)) ?_
       obtain ⟨bo,hbo⟩:∃ b,decide (x126.1∈all)=b:=⟨_,rfl⟩
       refine ac (jv wo114 (all) _ (nr (Mem.own H115 1 rfl) hall) x126.1 xo133 bo hbo) ?_
       rintro e w141 ⟨rfl,hb143⟩
       refine ⟨_,rfl,rn ?_⟩
       have H142:=Mem.call H115 hb143
       cases bo
       ·refine nt (K121 _ _ (cf ?_))
        refine wp_skip ?_
        refine ar (ah (K120 _ _ (rl ?_)))
        refine rv (bp (((j+1:Nat):Int))) ?_
        refine wpList_nil ?_
        have et144:(jf l all j)=(jf l all (j+1)):=by rw [rO all hx127 false hbo];rfl
        rw [et144] at H142 ⊢
        refine ah ?_
        show _∧_
        go_roundw
        case rel=>exact ⟨(j+1),A3,c3,rfl,rfl,by omega,H142⟩
        case measure=>simp [intOf];omega
       ·refine nt (K121 _ _ (ct (rl ?_)))
        refine rv (fw (j) Tryz.underlying40 dM) ?_
        refine rp b122 (o123+j*23) ?_
        refine rv (xld (cz (Mem.range H142 hr129 hlt125)) Tryz.underlying34 (bN xo133)) ?_
        refine aO rfl 27 (.tmp 84) rfl 34 20 (.agg zcH) (.agg (bv x126.1).toArray) rfl Tryz.underlying27 cr (by decide) (by decide) (fun w=>by kernel_rfl) (by rw [xaU,xal,bvL];exact xo133) ?_
        intro w145 hn
        have H146:=Mem.aM H142 hn
        clear hn
        refine rn ?_
        obtain ⟨inm34,iq34,ir34,is34,it34⟩:=info_parts fU
        refine aE rfl _ _ 27 rfl (w.heap.size) 34 _ _ 20 20 Tryz.underlying27 iq34 ir34 is34 it34 rfl (by decide) (.slice A3 (jf l all j).length c3) (((jf l all j)).length) (((jf l all j)).flatMap bv) (Mem.own H146 1 rfl) ((some ⟨w141.heap.size,0,none⟩)) (1) (1) (bv x126.1) (bU (n:=20) (m:=1) (Mem.blk H146 0 rfl) (by rw [bvL];exact xo133) (bv1 _)) ?hmt147 ?hbt147 ?hzt147 rfl rfl ?_
        case hmt147=>simp only [maxLen];omega
        case hbt147=>omega
        case hzt147=>exact (Mem.below H146).size
        intro u150 w148 ow153 gr154 hp155
        refine rn ?_
        have ow153:w148.ownsRow (w.heap.size) 34 20 u150 ((jf l all j)++[x126.1]).length (((jf l all j)++[x126.1]).flatMap bv):=by first | simpa using ow153 | (simp at ow153 ⊢;exact ow153)
        obtain ⟨A151,c152,rfl⟩:=aI ow153
        have H149:=Mem.app H146 1 rfl ow153 gr154 hp155
        clear ow153 gr154 hp155
        refine rn ?_
        refine wpList_nil ?_
        refine ar (ah (K120 _ _ (rl ?_)))
        refine rv (bp (((j+1:Nat):Int))) ?_
        refine wpList_nil ?_
        have et156:((jf l all j)++[x126.1])=(jf l all (j+1)):=by rw [rO all hx127 true hbo];rfl
        rw [et156] at H149 ⊢
        have H157:=Mem.pick H149 [1,2,3] (by decide) rfl
        refine ah ?_
        show _∧_
        go_roundw
        case rel=>exact ⟨(j+1),A151,c152,rfl,rfl,by omega,H157⟩
        case measure=>simp [intOf];omega
      ·have he158:=bE (l:=l) (j:=j) (by omega)
       refine rv (aK (decide_eq_false p119)) ?_
       refine nt (K118 _ _ (cf (wp_exit (an (an (aB (ah (K111 _ _ (sk fun _ K159=>rl ?_)))))))))
       refine nt (K159 _ _ ?_)
       refine wp_ret ?_
       refine bodyPost_ret (bu (r1:=.tmp 4) (r2:=.tmp 5) rfl ⟨rfl,rfl,trivial⟩) rfl ?_
       have hje:j=l.length:=by omega
       obtain ⟨e1,e2⟩:=xu hbr hbf
       have e3:=BO hbr hg2
       rw [← hje] at e3
       rw [e1,e2,← e3]
       exact ⟨_,_,rfl,(Mem.pick H115 [0] (by decide) rfl)⟩
end Go.Proofs.YtomnhnmciopiiaaGreat
end
section
namespace Go.Proofs.YtomnhnmciopiiaaGreat
open Go.RowKit
theorem EE (w:World):Calls Tryz.prog 176 #[] w fun e w'=>e=.returned (.agg (uv Sha.ks))∧Below w.heap.size w w':=by
 go_enter Tryz.func176,Tryz.ntmps176
 go_step
 go_step
 apply wp_region_lit
 refine aa rfl (.pointer (some ⟨w.heap.size,0,none⟩)) (w.alloc (.cells uz 279)) ?ha ?_
 case ha=>kernel_rfl
 dsimp only [xae,xaa,xab,xac]
 go_step
 go_step
 go_step
 go_step
 apply wp_region_lit
 refine aa rfl (.agg (uv Sha.ks)) (w.alloc (.cells uz 279)) ?hb ?_
 case hb=>kernel_rfl
 dsimp only [xae,xaa,xab,xac]
 refine eV rfl 279 _ _ rfl w.heap.size uz (uv Sha.ks) 279 (Blk.new _ _ _) (by rw [dY];exact jO) (by rw [dY,uz,dY,List.length_replicate];rfl) (ko _) rfl rfl ?_
 rw [World.setRow_alloc_new]
 dsimp only [xae]
 go_wp2
 exact bodyPost_ret (results_cell_row rfl _ _ w.heap.size 279 _ (0,0) _ rfl (heap_alloc_new _ _) Tryz.underlying279 rfl jO) rfl ⟨rfl,(xao _ _).alloc (xag _) _⟩
theorem E1 (x:Sha.W) (k:Nat) (h1:1≤k) (h2:k≤31):bits BinOp.or xcb (U x / 2 ^ k) (U x*2 ^ (32-k) % 4294967296)=U (x.rotateRight k):=by
 rw [tN,tO,oU,BitVec.rotateRight_def,xbx (by omega)]
theorem Dn (x:Sha.W) (k:Nat) (h1:1≤k) (h2:k≤31) (w:World) :
  Calls Tryz.prog 175 #[.int .u32 (U x),.int .i64 (k:Int)] w fun e w'=>e=.returned (.int .u32 (U (x.rotateRight k)))∧∃ n,w'=w.drewN n:=by
 have q1:(0:Int)≤(k:Int):=by omega
 have q2:(k:Int)≤32:=by omega
 have q3:(0:Int)≤32-(k:Int):=by omega
 have q4:32-(k:Int)≤32:=by omega
 have q5:IntKind.i64.wrap (32-(k:Int))=32-(k:Int):=xbP _ (by omega)
 have q6:(32-(k:Int)).toNat=32-k:=by omega
 have ht:=E1 x k h1 h2
 go_enter Tryz.func175,Tryz.ntmps175
 go_wp2_with fail
 go_quiet (fail)
 go_wp2_with fail
 go_ret
 exact ⟨oM (by first | rfl | exact ht),_,rfl⟩
def hv (l:List UInt8):Nat:=l.foldl (fun n x=>256*n+x.toNat) 0
theorem yx (l:List UInt8) (x:UInt8):hv (l++[x])=256*hv l+x.toNat:=by simp [hv]
theorem E9 (B:List UInt8) (t:Nat) (x0 x1 x2 x3:UInt8) (h:B.getD (4*t) 0=x0∧B.getD (4*t+1) 0=x1∧B.getD (4*t+2) 0=x2∧B.getD (4*t+3) 0=x3):(hv [x0,x1,x2,x3]:Int)=U (Sha.word B t):=by
 obtain ⟨e0,e1,e2,e3⟩:=h
 have l0:=x0.toNat_lt
 have l1:=x1.toNat_lt
 have l2:=x2.toNat_lt
 have l3:=x3.toNat_lt
 have hw:(Sha.word B t).toNat=256*(256*(256*x0.toNat+x1.toNat)+x2.toNat)+x3.toNat:=by
  unfold Sha.word
  rw [e0,e1,e2,e3]
  simp only [BitVec.toNat_or,BitVec.toNat_shiftLeft,Sha.bw,BitVec.toNat_ofNat,Nat.shiftLeft_eq]
  rw [xbx (show x0.toNat<2 ^ 32 by omega),xbx (show x1.toNat<2 ^ 32 by omega),xbx (show x2.toNat<2 ^ 32 by omega),xbx (show x3.toNat<2 ^ 32 by omega),
   xbx (show x0.toNat*2 ^ 24<2 ^ 32 by omega),xbx (show x1.toNat*2 ^ 16<2 ^ 32 by omega),xbx (show x2.toNat*2 ^ 8<2 ^ 32 by omega)]
  have f1:x0.toNat*2 ^ 24 ||| x1.toNat*2 ^ 16=2 ^ 16*(256*x0.toNat+x1.toNat):=by
   rw [Nat.mul_comm x0.toNat,← xcg (show x1.toNat*2 ^ 16<2 ^ 24 by omega)];omega
  have f2:2 ^ 16*(256*x0.toNat+x1.toNat) ||| x2.toNat*2 ^ 8=2 ^ 8*(256*(256*x0.toNat+x1.toNat)+x2.toNat):=by
   rw [← xcg (show x2.toNat*2 ^ 8<2 ^ 16 by omega)];omega
  have f3:2 ^ 8*(256*(256*x0.toNat+x1.toNat)+x2.toNat) ||| x3.toNat=256*(256*(256*x0.toNat+x1.toNat)+x2.toNat)+x3.toNat:=by
   rw [← xcg (show x3.toNat<2 ^ 8 by omega)]
  rw [f1,f2,f3]
 unfold U
 rw [hw]
 simp [hv]
theorem GH (l:List UInt8) (k:Nat):hv (l.take k)<256 ^ k:=by
 induction k with
 | zero=>simp [hv]
 | succ k ih =>
  by_cases h:k<l.length
  ·rw [xbb h,yx,Nat.pow_succ]
   have:=(l[k]).toNat_lt
   omega
  ·rw [xav (by omega)]
   rw [xav (by omega)] at ih
   exact xaZ ih (Nat.pow_le_pow_right (by omega) (by omega))
theorem D8 (l:List UInt8) (k:Nat) (h:k<l.length):hv (l.take (k+1))=256*hv (l.take k)+(l.getD k 0).toNat:=by
 rw [xbb h,yx]
 simp [List.getD,h]
theorem AJ (l:List UInt8) (hl:l.length=4) (b off n cap:Nat) (h4:4≤n) (w:World) (hc:∀ j,j<4→w.cell? ⟨b,off+j,none⟩=some (.int .u8 ((l.getD j 0).toNat:Int))) :
  Calls Tryz.prog 174 #[.slice (some ⟨b,off,none⟩) n cap] w fun e w'=>e=.returned (.int .u32 (hv l:Int))∧w=w':=by
 have HC:=ab hc
 clear hc
 go_enter Tryz.func174,Tryz.ntmps174
 go_wp2_with fail
 go_loop [3,4] (fun s i=>∃ k m:Nat,k≤4∧i=.int .i64 (k:Int)∧s=.int .u32 (m:Int)∧m=hv (l.take k)) (fun _ i=>(4-intOf i).toNat)
 case atStart=>exact ⟨0,0,by omega,rfl,rfl,by simp [hv]⟩
 case round =>
  obtain ⟨k,m,hk,rfl,rfl,hm⟩:=hrel
  by_cases hlt:k<4
  ·have c:=HC.out k hlt
   obtain ⟨x,hx⟩:∃ x,x=l.getD k 0:=⟨_,rfl⟩
   rw [← hx] at c
   have hm2:m<16777216:=by
    rw [hm]
    have h1:=GH l k
    have h2:256 ^ k≤256 ^ 3:=Nat.pow_le_pow_right (by omega) (by omega)
    omega
   have hx2:=x.toNat_lt
   have i1:(0:Int)≤(k:Int):=by omega
   have i2:(k:Int)<(n:Int):=by omega
   have HM:=ab hm
   have HX:=ab hx
   clear hm hx
   go_wp2_with fail
   go_round
   case rel =>
    refine ⟨k+1,256*m+x.toNat,by omega,by go_num,?_,by rw [D8 l k (by omega),← HM.out,← HX.out]⟩
    first | go_num | (congr 1;omega)
   case measure=>simp [intOf];omega
  ·obtain rfl:k=4:=by omega
   go_wp2_with fail
   go_ret
   exact ⟨oM (by rw [xav (by omega)]),rfl⟩
end Go.Proofs.YtomnhnmciopiiaaGreat
end
section
namespace Go.Proofs.YtomnhnmciopiiaaGreat
open Go.RowKit
theorem EN (b off n cap t:Nat) (h1:4*t<n) (h2:n≤cap) (w:World) :
  (Instr.slice 24 (.slice (some ⟨b,off,none⟩) n cap) (some (.int .i64 (4*(t:Int)))) none none).run Tryz.prog w=.ok (.slice (some ⟨b,off+4*t,none⟩) (n-4*t) (cap-4*t)) w:=by
 have h:=iB (P:=Tryz.prog) 24 5 Tryz.underlying24 nS (some ⟨b,off,none⟩) n cap (4*t) (by omega) w
 rw [if_neg (by omega)] at h
 rw [show (4*(t:Int))=((4*t:Nat):Int) by omega,h]
 simp [Addr.add_mid]
theorem Da (b off n cap t:Nat) (h1:4*t<n) (h2:n≤cap) (w:World) :
  (Instr.sliceAt 24 (.slice (some ⟨b,off,none⟩) n cap) (some (.int .i64 (4*(t:Int)))) none none).run Tryz.prog w=.ok (.slice (some ⟨b,off+4*t,none⟩) (n-4*t) (cap-4*t)) w:=by
 have h:=jw (P:=Tryz.prog) 24 5 Tryz.underlying24 nS (some ⟨b,off,none⟩) n cap (4*t) (by omega) w
 rw [if_neg (by omega)] at h
 rw [show (4*(t:Int))=((4*t:Nat):Int) by omega,h]
 simp [Addr.add_mid]
theorem gB (x:Sha.W) (k:Nat) (K:Int) (hK:K=(k:Int)) (h1:1≤k) (h2:k≤31) (w:World) (n:Nat) :
  Calls Tryz.prog 175 #[.int .u32 (U x),.int .i64 K] (w.drewN n) fun e w'=>e=.returned (.int .u32 (U (x.rotateRight k)))∧∃ m,w'=w.drewN m:=by
 subst hK
 exact Calls.quiet_of (Dn x k h1 h2 _)
theorem Fa (x:Sha.W):bits .xor .u32 4294967295 (U x)=U (~~~x):=by
 have h:=iF (4294967295:Sha.W) x
 rw [show U (4294967295:Sha.W)=4294967295 from rfl] at h
 rw [h]
 exact congrArg U (BitVec.allOnes_xor (x:=x))
theorem GD (e f g:Sha.W):(e &&& f) ||| (~~~e &&& g)=g ^^^ (e &&& (f ^^^ g)):=by
 apply xcu
 intro i hi
 simp only [BitVec.getLsbD_or,BitVec.getLsbD_and,BitVec.getLsbD_xor,BitVec.getLsbD_not,hi,decide_true,xa8]
 cases e.getLsbD i<;>cases f.getLsbD i<;>cases g.getLsbD i<;>rfl
theorem F3 (a b c:Sha.W):((a &&& b) ||| (a &&& c)) ||| (b &&& c)=(a &&& (b ||| c)) ||| (b &&& c):=by
 apply xcu
 intro i hi
 simp only [BitVec.getLsbD_or,BitVec.getLsbD_and]
 cases a.getLsbD i<;>cases b.getLsbD i<;>cases c.getLsbD i<;>rfl
def pp (st:Sha.St) (kt wt:Sha.W):Sha.W:=st.h+(st.e.rotateRight 6 ^^^ st.e.rotateRight 11 ^^^ st.e.rotateRight 25)+((st.e &&& st.f) ||| (~~~st.e &&& st.g))+kt+wt
def qq (st:Sha.St):Sha.W:=(st.a.rotateRight 2 ^^^ st.a.rotateRight 13 ^^^ st.a.rotateRight 22)+(((st.a &&& st.b) ||| (st.a &&& st.c)) ||| (st.b &&& st.c))
theorem GN (st:Sha.St) (kt wt:Sha.W):pp st kt wt=Sha.rp st kt wt:=by simp [pp,Sha.rp,Sha.mix,GD]
theorem GP (st:Sha.St):qq st=Sha.rq st:=by simp [qq,Sha.rq,Sha.mix,F3]
theorem Gh (st:Sha.St) (kt wt:Sha.W) :
  ((U st.h+U (st.e.rotateRight 6 ^^^ st.e.rotateRight 11 ^^^ st.e.rotateRight 25) +
   bits BinOp.or xcb (U (st.e &&& st.f)) (bits BinOp.and xcb (bits BinOp.xor xcb (if IntKind.u32.signed=true then -1 else IntKind.u32.max) (U st.e)) (U st.g)) +
   U kt) % 4294967296+U wt) % 4294967296=U (pp st kt wt):=by
 rw [if_neg (by decide),show IntKind.u32.max=4294967295 from rfl,Fa,lV,oU]
 unfold pp
 rw [← eH,← eH,← eH,← eH]
 simp only [Int.emod_add_emod]
theorem oP (s:Sha.St):(Tryz.prog.info? 194).map (·.size)=some (x8 s).size:=by
 have h:(Tryz.prog.info? 194).map (·.size)=some 8:=by kernel_rfl
 rw [h];rfl
theorem yT (s t:Sha.St):(x8 s).size=(x8 t).size:=rfl
theorem yd (s:Sha.St):(x8 s).all (·.oneCell')=true:=by rw [← Dt];exact ko _
theorem AY (s t:Sha.St):kS t.list s.list 8=(s.add t).list:=by
 have e:kS t.list s.list 8=[t.a+s.a,t.b+s.b,t.c+s.c,t.d+s.d,t.e+s.e,t.f+s.f,t.g+s.g,t.h+s.h]:=rfl
 rw [e]
 simp only [xbR t.a,xbR t.b,xbR t.c,xbR t.d,xbR t.e,xbR t.f,xbR t.g,xbR t.h]
 rfl
theorem qH (l:List Sha.W) (h:l.length=8):(Tryz.prog.info? 194).map (·.size)=some (uv l).size:=by
 have h2:(Tryz.prog.info? 194).map (·.size)=some 8:=by kernel_rfl
 rw [h2,dY,h]
def z8:Array Value:=uv (xaz 8 0)
theorem yU (l:List Sha.W) (h:l.length=8):z8.size=(uv l).size:=by unfold z8;rw [dY,dY,h];rfl
theorem xK (s:Sha.St) (B:List UInt8) (_hB:B.length=64) (b off n cap:Nat) (hn:64≤n) (hcap:n≤cap) (w:World)
  (hc:∀ j,j<64→w.cell? ⟨b,off+j,none⟩=some (.int .u8 ((B.getD j 0).toNat:Int))) :
  Calls Tryz.prog 133 #[.agg (x8 s),.slice (some ⟨b,off,none⟩) n cap] w fun e w'=>e=.returned (.agg (x8 (Sha.comp s B)))∧Below w.heap.size w w':=by
 have hb:b<w.heap.size:=xa5 w _ (hc 0 (by omega))
 have HC:=ab hc
 clear hc
 obtain ⟨N,hN⟩:∃ N,N=w.heap.size:=⟨_,rfl⟩
 have HN:=ab hN
 clear hN
 obtain ⟨R,hR⟩:∃ R,R=Value.agg (x8 (Sha.comp s B)):=⟨_,rfl⟩
 rw [← hR]
 have HR:=ab hR
 clear hR
 go_enter Tryz.func133,Tryz.ntmps133
 unfold x8
 go_wp2_with (refine fL ?_;dsimp only [xae,xaa,xab,xac])
 rw [← HN.out]
 obtain ⟨w3,hw3⟩:∃ w3,w3=((w.alloc (.cells (x8 s) 194)).alloc (.cells z8 194)).alloc (.cells uz 279):=⟨_,rfl⟩
 have hs3:N+3=w3.heap.size:=by rw [hw3,HN.out];simp
 have hxs:Blk w3 N 194 (x8 s):=by rw [hw3,HN.out];exact ((Blk.new _ _ _).alloc _).alloc _
 have hxr:Blk w3 (N+1) 194 z8:=by rw [hw3,HN.out];exact (Blk.aM _ _ _ _).alloc _
 have hxw:Blk w3 (N+1+1) 279 (uv (wz B 0)):=by
  rw [hw3,HN.out,show w.heap.size+1+1=((w.alloc (.cells (x8 s) 194)).alloc (.cells z8 194)).heap.size by simp]
  exact Blk.new _ _ _
 have hb3:Below N w w3:=by rw [hw3,HN.out];exact (((xao _ _).alloc (xag _) _).alloc (by simp) _).alloc (by simp;omega) _
 refine Eq.mp (congrArg _ hw3) ?_
 clear hw3
 obtain ⟨X,hX⟩:∃ X,X=N+1+1:=⟨_,rfl⟩
 rw [← hX] at hxw ⊢
 have hNX:N+1<X:=by omega
 have hsX:X+1=w3.heap.size:=by omega
 have HX:=ab hX
 have HXS:=ab hxs
 have HXR:=ab hxr
 have HXW:=ab hxw
 have HB3:=ab hb3
 clear hX hxs hxr hxw hb3 hs3
 have hb0:b<N:=by rw [HN.out];exact hb
 go_loopw [6] (fun i wr=>∃ t:Nat,t≤16∧i=.int .i64 t∧Blk wr X 279 (uv (wz B t))∧Below X w3 wr) (fun i _=>16-(intOf i).toNat)
 case atStart=>exact ⟨0,by omega,rfl,HXW.out,xao _ _⟩
 case round =>
  obtain ⟨t,ht,rfl,hbk,hbel⟩:=hrel
  by_cases h16:t<16
  ·have hcell:∀ j,j<64→wr.cell? ⟨b,off+j,none⟩=some (.int .u8 ((B.getD j 0).toNat:Int)):=fun j hj=>(hbel.cell (show b<X by omega)).trans ((HB3.out.cell hb0).trans (HC.out j hj))
   have c0:=hcell (4*t) (by omega)
   have c1:=hcell (4*t+1) (by omega)
   have c2:=hcell (4*t+2) (by omega)
   have c3:=hcell (4*t+3) (by omega)
   clear hcell
   have cX:=hbk.cell t
   rw [gl _ _ (by rw [ic _ _ (by omega)];omega)] at cX
   have fX:=hbk.frozen t
   have hsl:=EN b off n cap t (by omega) hcap
   have hslA:=Da b off n cap t (by omega) hcap
   have i1:(0:Int)≤(t:Int):=by omega
   have i2:(t:Int)<64:=by omega
   have HBK:=ab hbk
   clear hbk
   generalize hx0:B.getD (4*t) 0=x0 at *
   generalize hx1:B.getD (4*t+1) 0=x1 at *
   generalize hx2:B.getD (4*t+2) 0=x2 at *
   generalize hx3:B.getD (4*t+3) 0=x3 at *
   have hrw:=AJ [x0,x1,x2,x3] rfl b (off+4*t) (n-4*t) (cap-4*t) (by omega) wr (by
    intro j hj
    match j,hj with
    | 0,_=>exact c0
    | 1,_=>exact c1
    | 2,_=>exact c2
    | 3,_=>exact c3)
   rw [E9 B t x0 x1 x2 x3 ⟨hx0,hx1,hx2,hx3⟩] at hrw
   have HRW:=ab hrw
   clear hx0 hx1 hx2 hx3 c0 c1 c2 c3 hrw
   go_wp2_with (go_at_call 174;refine HRW.out.mono ?_;rintro e w' ⟨rfl,rfl⟩)
   go_roundw
   case rel =>
    refine ⟨t+1,by omega,by go_num,?_,hbel.setCell (xag _) _⟩
    have:=HBK.out.gP t (.int .u32 (U (Sha.word B t)))
    rwa [qI,oO B t _ (by omega) (by simp [Sha.ws,h16])] at this
   case measure=>simp [intOf];omega
  ·obtain rfl:t=16:=by omega
   have HBK:=ab hbk
   clear hbk
   go_wp2_with fail
   clear h16
   go_loopw [7] (fun i wr=>∃ t:Nat,16≤t∧t≤64∧i=.int .i64 t∧Blk wr X 279 (uv (wz B t))∧Below X w3 wr) (fun i _=>64-(intOf i).toNat)
   case atStart=>exact ⟨16,by omega,by omega,rfl,HBK.out,hbel⟩
   case round =>
    clear hbel HBK ht
    obtain ⟨t,ht1,ht,rfl,hbk,hbel⟩:=hrel
    by_cases h64:t<64
    ·have h16:¬ t<16:=by omega
     have hl:=ic B t ht
     have hcell:∀ j,j<t→wr.cell? ⟨X,j,none⟩=some (.int .u32 (U ((Sha.ws B t).getD j 0))):=fun j hj=>by
      rw [hbk.cell,gl _ _ (by omega),yc _ _ _ hj]
     have c2:=hcell (t-2) (by omega)
     have c15:=hcell (t-15) (by omega)
     have c7:=hcell (t-7) (by omega)
     have c16:=hcell (t-16) (by omega)
     clear hcell
     obtain ⟨v0,hv0⟩:∃ v0,v0=Value.int .u32 (U ((wz B t).getD t 0)):=⟨_,rfl⟩
     have cX:=hbk.cell t
     rw [gl _ _ (by rw [hl];omega),← hv0] at cX
     clear hv0
     have fX:=hbk.frozen t
     generalize hx2:(Sha.ws B t).getD (t-2) 0=x2 at *
     generalize hx15:(Sha.ws B t).getD (t-15) 0=x15 at *
     generalize hx7:(Sha.ws B t).getD (t-7) 0=x7 at *
     generalize hx16:(Sha.ws B t).getD (t-16) 0=x16 at *
     have HX4:=ab (xad hx2 (xad hx15 (xad hx7 hx16)))
     clear hx2 hx15 hx7 hx16 hl
     have HB:=ab hbk
     clear hbk
     have i0:(0:Int)≤(t:Int):=by omega
     have i1:(t:Int)<64:=by omega
     have n15:(0:Int)≤(t:Int)-15:=by omega
     have l15:(t:Int)-15<64:=by omega
     have m15:IntKind.i64.wrap ((t:Int)-15)=(t:Int)-15:=xbP _ (by omega)
     have o15:((t:Int)-15).toNat=t-15:=by omega
     have n2:(0:Int)≤(t:Int)-2:=by omega
     have l2:(t:Int)-2<64:=by omega
     have m2:IntKind.i64.wrap ((t:Int)-2)=(t:Int)-2:=xbP _ (by omega)
     have o2:((t:Int)-2).toNat=t-2:=by omega
     have n7:(0:Int)≤(t:Int)-7:=by omega
     have l7:(t:Int)-7<64:=by omega
     have m7:IntKind.i64.wrap ((t:Int)-7)=(t:Int)-7:=xbP _ (by omega)
     have o7:((t:Int)-7).toNat=t-7:=by omega
     have n16:(0:Int)≤(t:Int)-16:=by omega
     have l16:(t:Int)-16<64:=by omega
     have m16:IntKind.i64.wrap ((t:Int)-16)=(t:Int)-16:=xbP _ (by omega)
     have o16:((t:Int)-16).toNat=t-16:=by omega
     have p15:(15:Int)≤(t:Int):=by omega
     have p2:(2:Int)≤(t:Int):=by omega
     have p7:(7:Int)≤(t:Int):=by omega
     have p16:(16:Int)≤(t:Int):=by omega
     have a1:=iF (x15.rotateRight 7) (x15.rotateRight 18)
     have a2:=iF (x15.rotateRight 7 ^^^ x15.rotateRight 18) (x15 >>> 3)
     have a3:=yg x15
     have a4:=iF (x2.rotateRight 17) (x2.rotateRight 19)
     have a5:=iF (x2.rotateRight 17 ^^^ x2.rotateRight 19) (x2 >>> 10)
     have a6:=tP x2
     go_wp2_with fail
     go_quiet (first
      | (go_at_call 175;with_reducible exact gB x15 7 7 rfl (by decide) (by decide) _ _)
      | (go_at_call 175;with_reducible exact gB x15 18 18 rfl (by decide) (by decide) _ _))
     obtain ⟨w6,hw6⟩:∃ w6,w6=wr.drewN nq:=⟨_,rfl⟩
     have d2:w6.cell? ⟨X,t-2,none⟩=some (.int .u32 (U x2)):=by rw [hw6];exact c2
     have d7:w6.cell? ⟨X,t-7,none⟩=some (.int .u32 (U x7)):=by rw [hw6];exact c7
     have d16:w6.cell? ⟨X,t-16,none⟩=some (.int .u32 (U x16)):=by rw [hw6];exact c16
     have dX:w6.cell? ⟨X,t,none⟩=some v0:=by rw [hw6];exact cX
     have eX:w6.frozen? ⟨X,t,none⟩=false:=by rw [hw6];exact fX
     have hb6:Blk w6 X 279 (uv (wz B t)):=by rw [hw6];exact HB.out.drewN _
     have hbel6:Below X w3 w6:=by rw [hw6];exact below_drewN hbel _
     rw [← hw6]
     have HB6:=ab hb6
     clear hw6 hb6 hbel c2 c7 c15 c16 cX fX HB
     go_wp2_with fail
     go_quiet (first
      | (go_at_call 175;with_reducible exact gB x2 17 17 rfl (by decide) (by decide) _ _)
      | (go_at_call 175;with_reducible exact gB x2 19 19 rfl (by decide) (by decide) _ _))
     rename_i n1
     have b1:=oT (x2.rotateRight 17 ^^^ x2.rotateRight 19 ^^^ x2 >>> 10) x7
     have b2:=oT ((x2.rotateRight 17 ^^^ x2.rotateRight 19 ^^^ x2 >>> 10)+x7) (x15.rotateRight 7 ^^^ x15.rotateRight 18 ^^^ x15 >>> 3)
     have b3:=oT ((x2.rotateRight 17 ^^^ x2.rotateRight 19 ^^^ x2 >>> 10)+x7+(x15.rotateRight 7 ^^^ x15.rotateRight 18 ^^^ x15 >>> 3)) x16
     go_wp2_with fail
     refine bK 15 (by kernel_rfl) (by kernel_rfl) ?_
     simp only [xau,xaC,xay,xaK]
     repeat (go_big_quiet_step (fail))
     refine wpQuiet_nil ?_
     intro n3
     go_wp2_with fail
     go_roundw
     case rel =>
      obtain ⟨g2,g15,g7,g16⟩:=HX4.out
      refine ⟨t+1,by omega,by omega,by go_num,?_,?_⟩
      ·rw [← oO B t ((x2.rotateRight 17 ^^^ x2.rotateRight 19 ^^^ x2 >>> 10)+x7+(x15.rotateRight 7 ^^^ x15.rotateRight 18 ^^^ x15 >>> 3)+x16) h64 (by rw [Sha.ws,if_neg h16,g2,g15,g7,g16];simp [Sha.mix]),← qI]
       first | exact (HB6.out.drewN _).gP t _ | (simp only [eH,oT];exact (HB6.out.drewN _).gP t _)
      ·exact (below_drewN hbel6 _).setCell (xag _) _
     case measure=>simp [intOf];omega
    ·obtain rfl:t=64:=by omega
     have HB:=ab hbk
     clear hbk
     go_wp2_with fail
     refine (EE _).mono ?_
     rintro e w5 ⟨rfl,hb5⟩
     dsimp only
     go_step
     refine fL ?_
     dsimp only [xae,xaa,xab,xac]
     refine ak (o:=⟨none,.store 279 (.tmp 10) (.tmp 80),_,_,_,_⟩) rfl 279 (.tmp 10) (.tmp 80) rfl w5.heap.size uz (uv Sha.ks) 279 (Blk.new w5 279 uz) yN Fl (ko _) rfl rfl ?_
     intro w6 hk6 hg6
     obtain ⟨Y,hY⟩:∃ Y,Y=w5.heap.size:=⟨_,rfl⟩
     have hl6:=hg6.size
     simp only [size_alloc] at hl6
     have hXr:X<wr.heap.size:=HB.out.lt
     have hs5:=hb5.size
     have hbel6:Below X w3 w6:=xb9 ((hbel.trans (hb5.mono (Nat.le_of_lt hXr))).alloc (by omega) _) hg6 (by simp only [size_alloc];omega) (by intro k hk;injection hk with hk;omega)
     have hws6:Blk w6 X 279 (uv (wz B 64)):=((HB.out.below hb5 hXr).alloc (.cells uz 279)).grown hg6 (by intro h;injection h with h;omega)
     have hxs6:Blk w6 N 194 (x8 s):=HXS.out.below hbel6 (by omega)
     have hxr6:Blk w6 (N+1) 194 z8:=HXR.out.below hbel6 hNX
     rw [← hY] at hk6 hl6 ⊢
     have hXY:X<Y:=by omega
     have c0:w6.cell? ⟨N,0,none⟩=some (.int .u32 (U s.a)):=hxs6.cell 0
     have c1:w6.cell? ⟨N,1,none⟩=some (.int .u32 (U s.b)):=hxs6.cell 1
     have c2:w6.cell? ⟨N,2,none⟩=some (.int .u32 (U s.c)):=hxs6.cell 2
     have c3:w6.cell? ⟨N,3,none⟩=some (.int .u32 (U s.d)):=hxs6.cell 3
     have c4:w6.cell? ⟨N,4,none⟩=some (.int .u32 (U s.e)):=hxs6.cell 4
     have c5:w6.cell? ⟨N,5,none⟩=some (.int .u32 (U s.f)):=hxs6.cell 5
     have c6:w6.cell? ⟨N,6,none⟩=some (.int .u32 (U s.g)):=hxs6.cell 6
     have c7:w6.cell? ⟨N,7,none⟩=some (.int .u32 (U s.h)):=hxs6.cell 7
     have HK6:=ab hk6
     have HWS6:=ab hws6
     have HXS6:=ab hxs6
     have HXR6:=ab hxr6
     have HBEL6:=ab hbel6
     clear hk6 hws6 hxs6 hg6 hxr6 hY hbel6 hbel hb5 hs5 HB hXr
     dsimp only [xae]
     go_wp2_with fail
     obtain ⟨Z,hZ⟩:∃ Z,Z=w6.heap.size:=⟨_,rfl⟩
     obtain ⟨w7,hw7⟩:∃ w7,w7=w6.alloc (.cells (x8 s) 194):=⟨_,rfl⟩
     have hz7:Blk w7 Z 194 (x8 s):=by rw [hw7,hZ];exact Blk.new _ _ _
     have hb7:Below Z w6 w7:=by rw [hw7,hZ];exact (xao _ _).alloc (xag _) _
     have hz8:Z+1=w7.heap.size:=by rw [hw7,hZ];simp
     unfold x8 at hw7
     rw [← hZ,← hw7]
     have hYZ:Y<Z:=by omega
     have HZ7:=ab hz7
     have HB7:=ab hb7
     clear hZ hw7 hz7 hb7 hz8 c0 c1 c2 c3 c4 c5 c6 c7 hl6 h64 ht1 ht
     go_loopw [12] (fun i wr=>∃ t:Nat,t≤64∧i=.int .i64 t∧Blk wr Z 194 (x8 (Sha.oh s B t))∧Below Z w6 wr) (fun i _=>64-(intOf i).toNat)
     case atStart=>exact ⟨0,by omega,rfl,HZ7.out,HB7.out⟩
     case round =>
      obtain ⟨t,ht,rfl,hbk,hbel⟩:=hrel
      by_cases h64:t<64
      ·obtain ⟨st,hst⟩:∃ st,st=Sha.oh s B t:=⟨_,rfl⟩
       rw [← hst] at hbk
       have HST:=ab hst
       clear hst
       obtain ⟨kt,hkt⟩:∃ kt,kt=Sha.ks.getD t 0:=⟨_,rfl⟩
       obtain ⟨wt,hwt⟩:∃ wt,wt=(Sha.ws B 64).getD t 0:=⟨_,rfl⟩
       have ck:wr.cell? ⟨Y,t,none⟩=some (.int .u32 (U kt)):=by
        rw [((HK6.out.below hbel hYZ).cell t),gl _ _ (by exact h64),hkt]
       have cw:wr.cell? ⟨X,t,none⟩=some (.int .u32 (U wt)):=by
        rw [((HWS6.out.below hbel (by omega)).cell t),gl _ _ (by rw [ic _ _ (xag _)];exact h64),yc _ _ _ h64,hwt]
       have HKT:=ab (xad hkt hwt)
       clear hkt hwt
       have c0:wr.cell? ⟨Z,0,none⟩=some (.int .u32 (U st.a)):=hbk.cell 0
       have c1:wr.cell? ⟨Z,1,none⟩=some (.int .u32 (U st.b)):=hbk.cell 1
       have c2:wr.cell? ⟨Z,2,none⟩=some (.int .u32 (U st.c)):=hbk.cell 2
       have c3:wr.cell? ⟨Z,3,none⟩=some (.int .u32 (U st.d)):=hbk.cell 3
       have c4:wr.cell? ⟨Z,4,none⟩=some (.int .u32 (U st.e)):=hbk.cell 4
       have c5:wr.cell? ⟨Z,5,none⟩=some (.int .u32 (U st.f)):=hbk.cell 5
       have c6:wr.cell? ⟨Z,6,none⟩=some (.int .u32 (U st.g)):=hbk.cell 6
       have c7:wr.cell? ⟨Z,7,none⟩=some (.int .u32 (U st.h)):=hbk.cell 7
       have HBK:=ab hbk
       clear hbk
       have e1:=iF (st.e.rotateRight 6) (st.e.rotateRight 11)
       have e2:=iF (st.e.rotateRight 6 ^^^ st.e.rotateRight 11) (st.e.rotateRight 25)
       have e3:=lV st.e st.f
       have e4:=Fa st.e
       have e5:=lV (~~~st.e) st.g
       have e6:=oU (st.e &&& st.f) (~~~st.e &&& st.g)
       have n0:(0:Int)≤(t:Int):=by omega
       have n1:(t:Int)<64:=by omega
       go_wp2_with fail
       go_quiet (first
        | (go_at_call 175;with_reducible exact gB st.e 6 6 rfl (by decide) (by decide) _ _)
        | (go_at_call 175;with_reducible exact gB st.e 11 11 rfl (by decide) (by decide) _ _)
        | (go_at_call 175;with_reducible exact gB st.e 25 25 rfl (by decide) (by decide) _ _))
       rw [Gh]
       obtain ⟨w8,hw8⟩:∃ w8,w8=wr.drewN nq:=⟨_,rfl⟩
       obtain ⟨pv,hpv⟩:∃ pv,pv=pp st kt wt:=⟨_,rfl⟩
       rw [← hw8,← hpv]
       have d0:w8.cell? ⟨Z,0,none⟩=some (.int .u32 (U st.a)):=by rw [hw8];exact c0
       have d1:w8.cell? ⟨Z,1,none⟩=some (.int .u32 (U st.b)):=by rw [hw8];exact c1
       have d2:w8.cell? ⟨Z,2,none⟩=some (.int .u32 (U st.c)):=by rw [hw8];exact c2
       have d3:w8.cell? ⟨Z,3,none⟩=some (.int .u32 (U st.d)):=by rw [hw8];exact c3
       have d4:w8.cell? ⟨Z,4,none⟩=some (.int .u32 (U st.e)):=by rw [hw8];exact c4
       have d5:w8.cell? ⟨Z,5,none⟩=some (.int .u32 (U st.f)):=by rw [hw8];exact c5
       have d6:w8.cell? ⟨Z,6,none⟩=some (.int .u32 (U st.g)):=by rw [hw8];exact c6
       have hbk8:Blk w8 Z 194 (x8 st):=by rw [hw8];exact HBK.out.drewN _
       have hbel8:Below Z w6 w8:=by rw [hw8];exact below_drewN hbel _
       have HBK8:=ab hbk8
       have HPV:=ab hpv
       clear hpv hbk8 hw8 c0 c1 c2 c3 c4 c5 c6 c7 ck cw HBK hbel e1 e2 e3 e4 e5 e6
       have e1:=iF (st.a.rotateRight 2) (st.a.rotateRight 13)
       have e2:=iF (st.a.rotateRight 2 ^^^ st.a.rotateRight 13) (st.a.rotateRight 22)
       have e3:=lV st.a st.b
       have e4:=lV st.a st.c
       have e5:=lV st.b st.c
       have e6:=oU (st.a &&& st.b) (st.a &&& st.c)
       have e7:=oU ((st.a &&& st.b) ||| (st.a &&& st.c)) (st.b &&& st.c)
       have e8:(U (st.a.rotateRight 2 ^^^ st.a.rotateRight 13 ^^^ st.a.rotateRight 22)+U (((st.a &&& st.b) ||| (st.a &&& st.c)) ||| (st.b &&& st.c))) % 4294967296=U (qq st):=eH _ _
       go_wp2_with fail
       go_quiet (first
        | (go_at_call 175;with_reducible exact gB st.a 2 2 rfl (by decide) (by decide) _ _)
        | (go_at_call 175;with_reducible exact gB st.a 13 13 rfl (by decide) (by decide) _ _)
        | (go_at_call 175;with_reducible exact gB st.a 22 22 rfl (by decide) (by decide) _ _))
       try rw [e8]
       rename_i n9
       obtain ⟨qv,hqv⟩:∃ qv,qv=qq st:=⟨_,rfl⟩
       rw [← hqv]
       have HQV:=ab hqv
       have f1:=eH pv qv
       have f2:=eH st.d pv
       clear hqv e1 e2 e3 e4 e5 e6 e7 e8
       go_wp2_with ((with_reducible refine ak (o:=⟨none,.store 194 (.tmp 11) (.tmp 169),_,_,_,_⟩) rfl 194 (.tmp 11) (.tmp 169) rfl Z (x8 st) (x8 ⟨pv+qv,st.a,st.b,st.c,st.d+pv,st.e,st.f,st.g⟩) 194 (HBK8.out.drewN _) (oP _) (yT _ _) (yd _) ?_ ?_ ?_);(focus rfl);(focus rfl);intro w9 hk9 hg9;dsimp only [xae])
       go_roundw
       case rel =>
        refine ⟨t+1,by omega,by go_num,?_,xb9 (below_drewN hbel8 _) hg9 (by rw [World.heap_drewN];have:=HBK8.out.lt;have:=hbel8.size;omega) (by intro k hk;injection hk with hk;omega)⟩
        have e:Sha.oh s B (t+1)=⟨pv+qv,st.a,st.b,st.c,st.d+pv,st.e,st.f,st.g⟩:=by
         rw [Sha.oh,← HST.out,← HKT.out.1,← HKT.out.2,HPV.out,HQV.out,GN,GP]
         rfl
        rw [e]
        exact hk9
       case measure=>simp [intOf];omega
      ·obtain rfl:t=64:=by omega
       obtain ⟨st,hst⟩:∃ st,st=Sha.oh s B 64:=⟨_,rfl⟩
       rw [← hst] at hbk
       have HST:=ab hst
       have HB:=ab hbk
       have hxs9:Blk wr N 194 (x8 s):=HXS6.out.below hbel (by omega)
       have hxr9:Blk wr (N+1) 194 z8:=HXR6.out.below hbel (by omega)
       have HXS9:=ab hxs9
       have HXR9:=ab hxr9
       clear hbk hst hxs9 hxr9 h64 ht
       obtain ⟨w9,hw9⟩:∃ w9,w9=wr:=⟨_,rfl⟩
       rw [← hw9] at HB HXS9 HXR9 hbel ⊢
       clear hw9
       go_wp2_with fail
       go_loopw [15] (fun i wr=>∃ k:Nat,k≤8∧i=.int .i64 k∧Blk wr Z 194 (uv (kS st.list s.list k))∧Below Z w9 wr) (fun i _=>8-(intOf i).toNat)
       case atStart=>exact ⟨0,by omega,rfl,HB.out,xao _ _⟩
       case round =>
        obtain ⟨k,hk,rfl,hgk,hbelk⟩:=hrel
        by_cases h8:k<8
        ·have ck:=(hgk.cell k).trans (gl _ _ (by rw [iM];exact h8))
         have cs:=((HXS9.out.below hbelk (by omega)).cell k).trans (gl s.list k h8)
         obtain ⟨y,hy⟩:∃ y,y=s.list.getD k 0:=⟨_,rfl⟩
         obtain ⟨z,hz⟩:∃ z,z=(kS st.list s.list k).getD k 0:=⟨_,rfl⟩
         rw [← hy] at cs
         rw [← hz] at ck
         have HY:=ab hy
         have HZ:=ab hz
         have fk:=hgk.frozen k
         have HGK:=ab hgk
         clear hz hy hgk
         have n0:(0:Int)≤(k:Int):=by omega
         have n1:(k:Int)<8:=by omega
         go_wp2_with fail
         refine bK 9 (by kernel_rfl) (by kernel_rfl) ?_
         simp only [xau,xaC,xay,xaK]
         repeat (go_big_quiet_step (fail))
         refine wpQuiet_nil ?_
         intro nq
         go_wp2
         go_roundw
         case rel =>
          refine ⟨k+1,by omega,by go_num,?_,(below_drewN hbelk nq).setCell (xag _) _⟩
          have h3:=(HGK.out.drewN nq).gP k (.int .u32 (U (z+y)))
          rw [qI,HZ.out,HY.out,ry _ _ _ h8] at h3
          first | rw [eH] | rw [oT]
          rw [HZ.out,HY.out]
          exact h3
         case measure=>simp [intOf];omega
        ·obtain rfl:k=8:=by omega
         have HGK:=ab hgk
         have hxr:=HXR9.out.below hbelk (by omega)
         have HXRF:=ab hxr
         clear hgk hxr
         obtain ⟨L,hL⟩:∃ L,L=kS st.list s.list 8:=⟨_,rfl⟩
         have hLl:L.length=8:=by rw [hL];exact iM _ _ _
         rw [← hL] at HGK
         have HL:=ab hL
         clear hL
         go_wp2_with (first
          | ((with_reducible refine ae 183 ?_);(with_reducible refine dj rfl 194 (.tmp 11) rfl Z 194 (uv L) _ _ HGK.out Tryz.underlying194 (qH L hLl) ?_ ?_);rfl;dsimp only [xae,xaa,xab,xac])
          | ((with_reducible refine ak (o:=⟨none,.store 194 (.tmp 4) (.tmp 183),_,_,_,_⟩) rfl 194 (.tmp 4) (.tmp 183) rfl (N+1) z8 (uv L) 194 HXRF.out (qH L hLl) (yU L hLl) (ko _) ?_ ?_ ?_);(focus rfl);(focus rfl);intro w10 hk10 hg10;dsimp only [xae]))
         have e:R=.agg (uv L):=by
          rw [HR.out,← Dt,HL.out]
          rw [AY,HST.out]
          rfl
         have hsz:=hbelk.size
         refine bodyPost_ret (ch rfl _ _ (N+1) 194 (uv L) _ _ rfl hk10 Tryz.underlying194 (qH L hLl)) rfl ⟨by rw [e],?_⟩
         rw [← HN.out]
         have hl1:=HB3.out.size
         have hl2:=HBEL6.out.size
         have hl3:=hbel.size
         refine xb9 ((HB3.out.trans ((HBEL6.out.mono (by omega)).trans ((hbel.mono (by omega)).trans (hbelk.mono (by omega)))))) hg10 (by omega) (by intro k hk;injection hk with hk;omega)
end Go.Proofs.YtomnhnmciopiiaaGreat
end
