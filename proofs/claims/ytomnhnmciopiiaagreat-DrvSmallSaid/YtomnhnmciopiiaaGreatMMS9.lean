/- Part 9 of the texts of one proof. -/
import Derived.Test.YtomnhnmciopiiaaGreatMMS8
set_option maxRecDepth 100000
set_option linter.unusedVariables false
set_option linter.unusedSimpArgs false
set_option maxHeartbeats 40000000
open Go.Act renaming put → xad
open And renaming intro → xae
open Array renaming length_toList → xbh
open Go.RowKit.Below renaming refl → xaq
open Bool renaming and_eq_true → xaG
open Go.Exit renaming inBlock → xbQ
open List renaming append_nil → xaT, drop → xas, filter_cons_of_neg → xca, filter_cons_of_pos → xcb, find?_cons → xbO, getElem?_eq_some_iff → xah, getElem?_map → xaD, getElem?_of_mem → xaO, idxOf_lt_length_iff → xba, length_append → xap, length_cons → xaE, length_map → xat, length_take → xaJ, mem_append → xau, mem_cons → xax, mem_map → xav, mem_of_getElem? → xak, mem_singleton → xan, nodup_append → xbq, range → xaf, setIfInBounds_toArray → xaa, set_cons_succ → xab, set_cons_zero → xac, size_toArray → xal, take_add_one → xaz, take_length → xaB
open Nat renaming le_of_ble_eq_true → xaL, le_refl → xai, le_trans → xay, lt_of_lt_of_le → xa3
open Option.some renaming inj → xao
open Go.Value renaming slice → xag
section
namespace Go.Proofs.YtomnhnmciopiiaaGreat
open Go Go.RowKit Go.Maps
attribute [local irreducible] wpList
def dU (j:Nat):Int:=((mgB 1 j).toNat:Int)
abbrev rZ (x:Int):Prop:=(Lit.int .u8 x).wf=true
theorem rR (j:Nat):rZ (dU j):=by
 have:=(mgB 1 j).toNat_lt
 simp [rZ,dU,Lit.wf,IntKind.min,IntKind.max,IntKind.signed,IntKind.bits]
 omega
theorem z8 {x:Int} (_:rZ x):(ib x).length=1:=rfl
theorem Aa (x:Int):∀ v∈ib x,v.oneCell'=true:=fun v hv=>by
 rw [xan.1 hv]
 rfl
theorem ki:(Tryz.prog.info? 5).map (·.size)=some 1:=by kernel_rfl
theorem yn:(Tryz.prog.info? 5).map (fun i=>(i.zero,i.size,i.bytes))=some (some (.int .u8 0),1,1):=by kernel_rfl
theorem lD (j:Nat) (hj:j<12) (w:World):Calls Tryz.prog 83 #[.int .i64 1,.int .i64 (j:Int)] w fun e w'=>e=.returned (.int .u8 (dU j))∧Below w.heap.size w w':=gq 1 j (by omega) (by omega) w
def gQ (B:Nat) (A:Option Addr) (cap:Nat) (l:List Int):Ent:=aq B 5 1 (.slice A (l++(xaf 12).map dU).length cap) (l++(xaf 12).map dU).length ((l++(xaf 12).map dU).flatMap ib)
theorem qq (w:World) (l:List Int) (v:Value) (h:b5.At w w.heap.size [v] l) (hl:l.length≤1000000) :
  Calls Tryz.prog 53 #[v] w fun e w'=>∃ A cap,e=.returned (.slice A l.length cap)∧Mem w w' [gQ w.heap.size A cap l]:=by
 obtain ⟨A0,cap,rfl,_,hcm,_,hA⟩:=ak h
 simp only [maxLen] at hcm
 unfold gQ
 have H0:=Mem.start w
 go_enter Tryz.func53,Tryz.ntmps53
 refine sk fun _ K1=>rl ?_
 refine nt (K1 _ _ (sk fun _ K2=>rl ?_))
 refine rv (aL (((l.length+12:Nat):Int))) ?_
 obtain ⟨inm5,iq5,ir5,is5,it5⟩:=info_parts yn
 refine wpList_make_own _ rfl _ _ 24 rfl w.heap.size 5 _ _ 1 Tryz.underlying24 iq5 ir5 is5 _ _ _ (l.length+12) rfl rfl rfl (by rw [it5];omega) (by simp only [maxLen];omega) (Mem.below H0).size ?_
 intro w3 ow gr
 refine rn ?_
 have H4:=Mem.make H0 ow gr
 clear ow gr
 refine rn ?_
 refine nt (K2 _ _ (sk fun _ K6=>rl ?_))
 refine aD rfl _ _ 24 rfl (w.heap.size) 5 _ _ 1 1 Tryz.underlying24 iq5 ir5 is5 it5 rfl (by decide) (.slice (some ⟨w.heap.size,0,none⟩) 0 (l.length+12)) (0) ([]) (Mem.own H4 0 rfl) (A0) (l.length) (cap) ((l).flatMap ib) (jD (L:=(Lay.int 5 .u8)) (f:=ib) (by decide) (fun h=>(ku.1 h).1) Aa (Mem.lay H4 h)).2 ?hmt7 ?hbt7 ?hzt7 rfl rfl ?_
 case hmt7=>simp only [maxLen];omega
 case hbt7=>omega
 case hzt7=>exact (Mem.below H4).size
 intro u10 w8 ow13 gr14 hp15
 refine rn ?_
 have ow13:w8.ownsRow (w.heap.size) 5 1 u10 (l).length ((l).flatMap ib):=by first | simpa using ow13 | (simp at ow13 ⊢;exact ow13)
 obtain ⟨A11,c12,rfl⟩:=aI ow13
 have H9:=Mem.app H4 0 rfl ow13 gr14 hp15
 clear ow13 gr14 hp15
 refine rn ?_
 refine nt (K6 _ _ (sk fun _ K16=>sk fun _ K17=>rl ?_))
 refine nt (K17 _ _ (wp_block ?_))
 go_loopw [3,4] (fun x3 x4 wr=>∃ j:Nat,∃ kn:List Int,∃ A9:Option Addr,∃ c9:Nat,x3=.slice A9 kn.length c9∧x4=.int .i64 (j:Int)∧(j≤12)∧(kn=l++(xaf j).map dU)∧Mem w wr [aq (w.heap.size) 5 1 (.slice A9 kn.length c9) (kn).length ((kn).flatMap ib)]) (fun x3 x4 _=>12-(intOf x4).toNat)
 case atStart=>exact ⟨0,((l)),A11,c12,rfl,rfl,by omega,(by simp),H9⟩
 case round =>
  obtain ⟨wo18,rfl⟩:∃ wo18,wo18=wr:=⟨_,rfl⟩
  obtain ⟨j,kn,A9,c9,rfl,rfl,hj,hkn,H19⟩:=hrel
  have hln:kn.length=l.length+j:=by rw [hkn];simp
  refine sk fun _ K21=>sk fun _ K22=>rl ?_
  by_cases p23:(j:Int)<12
  ·refine rv (aA (decide_eq_true p23)) ?_
   refine nt (K22 _ _ (ct (ks (K21 _ _ (sk fun _ K24=>wp_block (rl ?_))))))
   refine ac (lD j (by omega) wo18) ?_
   rintro e w25 ⟨rfl,hb27⟩
   refine ⟨_,rfl,rn ?_⟩
   have H26:=Mem.call H19 hb27
   refine aG rfl 24 (.tmp 18) rfl 5 1 (.int .u8 0) (.int .u8 ((dU j))) rfl Tryz.underlying24 ki (by decide) (by decide) (fun w=>by kernel_rfl) rfl ?_
   intro w28 hn
   have H29:=Mem.bh H26 hn
   clear hn
   refine rn ?_
   refine aD rfl _ _ 24 rfl (w.heap.size) 5 _ _ 1 1 Tryz.underlying24 iq5 ir5 is5 it5 rfl (by decide) (.slice A9 kn.length c9) ((kn).length) ((kn).flatMap ib) (Mem.own H29 1 rfl) ((some ⟨w25.heap.size,0,none⟩)) (1) (1) ([.int .u8 ((dU j))]) (bl (n:=1) (m:=1) (Mem.blk H29 0 rfl) rfl (fun u hu=>by rw [xan.1 hu];rfl)) ?hmt30 ?hbt30 ?hzt30 rfl rfl ?_
   case hmt30=>simp only [maxLen];omega
   case hbt30=>omega
   case hzt30=>exact (Mem.below H29).size
   intro u33 w31 ow36 gr37 hp38
   refine rn ?_
   have ow36:w31.ownsRow (w.heap.size) 5 1 u33 (kn++[(dU j)]).length ((kn++[(dU j)]).flatMap ib):=by first | simpa using ow36 | (simp at ow36 ⊢;exact ow36)
   obtain ⟨A34,c35,rfl⟩:=aI ow36
   have H32:=Mem.app H29 1 rfl ow36 gr37 hp38
   clear ow36 gr37 hp38
   refine rn ?_
   refine wpList_nil ?_
   refine al (ab (K24 _ _ (rl ?_)))
   refine rv (aL (((j+1:Nat):Int))) ?_
   refine wpList_nil ?_
   have H39:=Mem.pick H32 [1] (by decide) rfl
   refine ab ?_
   show _∧_
   go_roundw
   case rel=>exact ⟨(j+1),((kn++[(dU j)])),A34,c35,rfl,rfl,by omega,(by rw [hkn,List.append_assoc,nJ]),H39⟩
   case measure=>simp [intOf];omega
  ·refine rv (aA (decide_eq_false p23)) ?_
   refine nt (K22 _ _ (cf (wp_exit (ai (ai (ax (ab (K16 _ _ (sk fun _ K40=>rl ?_)))))))))
   obtain ⟨b41,rfl,hlt44⟩:=aE (Mem.own H19 0 rfl) (by omega)
   refine rv (fK 24 5 (.tmp 21) (.tmp 23) rfl (some ⟨b41,0,none⟩) (kn.length) c9 (l.length) rfl rfl (by have h9:=kQ (Mem.own H19 0 rfl);(try simp only [xap,xat,List.length_range] at h9);omega) Tryz.underlying24 ki wo18) ?_
   refine nt (K40 _ _ (rt ?_))
   have hje:j=12:=by omega
   subst hje hkn
   exact ⟨_,_,rfl,H19⟩
theorem qp (w:World) (l:List Int) (v:Value) (h:b5.At w w.heap.size [v] l) (hall:∀ x∈l++(xaf 12).map dU,rZ x) (hl:l.length≤1000000) (B:Nat) (A9:Option Addr) (c9:Nat) (ho:(gQ B A9 c9 l).P w) :
  Calls Tryz.prog 69 #[.slice A9 l.length c9,v] w fun e w'=>e=.returned (.bool true)∧Below w.heap.size w w':=by
 have ho:w.ownsRow B 5 1 (.slice A9 (l++(xaf 12).map dU).length c9) (l++(xaf 12).map dU).length ((l++(xaf 12).map dU).flatMap ib):=ho
 have hln:(l++(xaf 12).map dU).length=l.length+12:=by simp
 obtain ⟨g,rfl,hg9⟩:=aE ho (by omega)
 have hc9:=(kQ ho).1
 rw [hln] at hc9
 have ho9:=ho
 rw [hln] at ho9
 rw [← hln] at ho9
 have hlen9:∀ x∈l++(xaf 12).map dU,(ib x).length=1:=fun x hx=>z8 (hall x hx)
 obtain ⟨A0,cap,rfl,_,hcm,_,hA⟩:=ak h
 simp only [maxLen] at hcm
 have H0:=Mem.start w
 go_enter Tryz.func69,Tryz.ntmps69
 refine sk fun _ K1=>rl ?_
 refine nt (K1 _ _ (sk fun _ K2=>sk fun _ K3=>rl ?_))
 refine rv (sC (decide_eq_true rfl)) ?_
 refine nt (K3 _ _ (cf (ks (K2 _ _ (sk fun _ K4=>rl ?_)))))
 refine rv (aL (((l.length+12:Nat):Int))) ?_
 refine rv (fK 24 5 (.tmp 12) (.tmp 15) rfl (some ⟨g,0,none⟩) (l.length) c9 (l.length+12) rfl rfl hc9 Tryz.underlying24 ki w) ?_
 refine nt (K4 _ _ (sk fun _ K5=>sk fun _ K6=>rl ?_))
 refine nt (K6 _ _ (wp_block ?_))
 go_loopw [6] (fun x6 wr=>∃ j:Nat,x6=.int .i64 (j:Int)∧(j≤l.length+12)∧Mem w wr []) (fun x6 _=>l.length+12-(intOf x6).toNat)
 case atStart=>exact ⟨0,rfl,by omega,H0⟩
 case round =>
  obtain ⟨wo7,rfl⟩:∃ wo7,wo7=wr:=⟨_,rfl⟩
  obtain ⟨j,rfl,hj,H8⟩:=hrel
  refine sk fun _ K10=>sk fun _ K11=>rl ?_
  by_cases p12:(j:Int)<((l.length+12:Nat):Int)
  ·refine rv (aA (decide_eq_true p12)) ?_
   refine nt (K11 _ _ (ct (ks (K10 _ _ (sk fun _ K13=>wp_block (sk fun _ K14=>?_))))))
   refine Fre.aV (X:=Bel) [] (by kernel_rfl) (by kernel_rfl) (by simp) (by simp) (by simp) ?_
   refine Fre.rmd ?_
   by_cases p15:(j:Int)<((l.length:Nat):Int)
   ·refine Fre.mvv (fun _ _=>aA (decide_eq_true p15)) ?_
    obtain ⟨x16,hx17⟩:=gx (l:=(l++(xaf 12).map dU)) (j:=j)
    have hd18:=ay hx17
    have ok19:=hall _ (xak hx17)
    refine Fre.mvv (fun _ _=>aT (j) Tryz.underlying24 ki) ?_
    refine Fre.mvv (fun W9 hW9=>xlc (range_cell (Mem.range (Mem.call H8 hW9) (dO (f:=ib) (by decide) ho9 hlen9 hx17) hg9)) Tryz.underlying5) ?_
    obtain ⟨b20,o21,rfl,hlt23,hE22⟩:=hA (by omega)
    obtain ⟨x24,hx25⟩:=gx (l:=l) (j:=j)
    have hd26:=ay hx25
    obtain ⟨cs,hr27,ha28⟩:=hE22 (j) x24 hx25
    obtain ⟨rfl,ok29⟩:=ku.1 ha28
    have hxy9:=rq hx17 hx25
    refine Fre.mvv (fun _ _=>dy (j) Tryz.underlying24 ki) ?_
    refine Fre.mvv (fun W9 hW9=>xlc (range_cell (Mem.range (Mem.call H8 hW9) hr27 hlt23)) Tryz.underlying5) ?_
    refine Fre.mvv (fun _ _=>gG (decide_eq_true hxy9)) ?_
    by_cases p30:((l.length:Nat):Int)≤(j:Int)
    ·refine Fre.mvv (fun _ _=>sA (decide_eq_true p30)) ?_
     refine Fre.mvv (fun _ _=>aT (j) Tryz.underlying24 ki) ?_
     refine Fre.mvv (fun W9 hW9=>xlc (range_cell (Mem.range (Mem.call H8 hW9) (dO (f:=ib) (by decide) ho9 hlen9 hx17) hg9)) Tryz.underlying5) ?_
     refine Fre.mvv (fun _ _=>xr (((j-l.length:Nat):Int))) ?_
     have hmk9:=kK hx17 (by omega)
     refine Fre.mc (fun W9 hW9=>lD (j-l.length) (by omega) W9) ?_
     refine Fre.rmd ?_
     refine Fre.mvv (fun _ _=>gG (decide_eq_true hmk9)) ?_
     intro w31 hx33
     dsimp only [Fre.ended,xas]
     have H32:=Mem.call H8 hx33
     refine ab (K14 _ _ (cf ?_))
     refine wp_skip ?_
     refine al (ab (K13 _ _ (rl ?_)))
     refine rv (aL (((j+1:Nat):Int))) ?_
     refine wpList_nil ?_
     refine ab ?_
     show _∧_
     go_roundw
     case rel=>exact ⟨(j+1),rfl,by omega,H32⟩
     case measure=>simp [intOf];omega
    ·refine Fre.mvv (fun _ _=>sA (decide_eq_false p30)) ?_
     intro w34 hx36
     dsimp only [Fre.ended,xas]
     have H35:=Mem.call H8 hx36
     refine ab (K14 _ _ (cf ?_))
     refine wp_skip ?_
     refine al (ab (K13 _ _ (rl ?_)))
     refine rv (aL (((j+1:Nat):Int))) ?_
     refine wpList_nil ?_
     refine ab ?_
     show _∧_
     go_roundw
     case rel=>exact ⟨(j+1),rfl,by omega,H35⟩
     case measure=>simp [intOf];omega
   ·have he37:=bJ (l:=l) (j:=j) (by omega)
    refine Fre.mvv (fun _ _=>aA (decide_eq_false p15)) ?_
    by_cases p38:((l.length:Nat):Int)≤(j:Int)
    ·refine Fre.mvv (fun _ _=>sA (decide_eq_true p38)) ?_
     obtain ⟨x39,hx40⟩:=gx (l:=(l++(xaf 12).map dU)) (j:=j)
     have hd41:=ay hx40
     have ok42:=hall _ (xak hx40)
     refine Fre.mvv (fun _ _=>aT (j) Tryz.underlying24 ki) ?_
     refine Fre.mvv (fun W9 hW9=>xlc (range_cell (Mem.range (Mem.call H8 hW9) (dO (f:=ib) (by decide) ho9 hlen9 hx40) hg9)) Tryz.underlying5) ?_
     refine Fre.mvv (fun _ _=>xr (((j-l.length:Nat):Int))) ?_
     have hmk9:=kK hx40 (by omega)
     refine Fre.mc (fun W9 hW9=>lD (j-l.length) (by omega) W9) ?_
     refine Fre.rmd ?_
     refine Fre.mvv (fun _ _=>gG (decide_eq_true hmk9)) ?_
     intro w43 hx45
     dsimp only [Fre.ended,xas]
     have H44:=Mem.call H8 hx45
     refine ab (K14 _ _ (cf ?_))
     refine wp_skip ?_
     refine al (ab (K13 _ _ (rl ?_)))
     refine rv (aL (((j+1:Nat):Int))) ?_
     refine wpList_nil ?_
     refine ab ?_
     show _∧_
     go_roundw
     case rel=>exact ⟨(j+1),rfl,by omega,H44⟩
     case measure=>simp [intOf];omega
    ·refine Fre.mvv (fun _ _=>sA (decide_eq_false p38)) ?_
     intro w46 hx48
     dsimp only [Fre.ended,xas]
     have H47:=Mem.call H8 hx48
     refine ab (K14 _ _ (cf ?_))
     refine wp_skip ?_
     refine al (ab (K13 _ _ (rl ?_)))
     refine rv (aL (((j+1:Nat):Int))) ?_
     refine wpList_nil ?_
     refine ab ?_
     show _∧_
     go_roundw
     case rel=>exact ⟨(j+1),rfl,by omega,H47⟩
     case measure=>simp [intOf];omega
  ·refine rv (aA (decide_eq_false p12)) ?_
   refine nt (K11 _ _ (cf (wp_exit (ai (ai (ax (ab (K5 _ _ (sk fun _ K49=>rl ?_)))))))))
   refine nt (K49 _ _ (rt ?_))
   exact ⟨rfl,Mem.below H8⟩
end Go.Proofs.YtomnhnmciopiiaaGreat
end
section
namespace Go.Proofs.YtomnhnmciopiiaaGreat
open Go Go.RowKit Go.Maps
theorem uW (w:World) (a b:List Nam) (u v:Value) (ha:dv.At w w.heap.size [u] a) (hb:dv.At w w.heap.size [v] b) (c:Bool) (hc:decide (a=b)=c) :
  Calls Tryz.prog 77 #[u,v] w fun e w'=>e=.returned (.bool c)∧Below w.heap.size w w':=by
 subst hc
 obtain ⟨A,ca,rfl,_⟩:=ak ha
 obtain ⟨B,cb,rfl,_⟩:=ak hb
 exact xe w a b A B ca cb ha hb
theorem AP (w:World) (a b:List Int) (u v:Value) (ha:b5.At w w.heap.size [u] a) (hb:b5.At w w.heap.size [v] b) (c:Bool) (hc:decide (a=b)=c) :
  Calls Tryz.prog 78 #[u,v] w fun e w'=>e=.returned (.bool c)∧Below w.heap.size w w':=by
 subst hc
 obtain ⟨A,ca,rfl,_⟩:=ak ha
 obtain ⟨B,cb,rfl,_⟩:=ak hb
 exact xc w a b A B ca cb ha hb
theorem lO (w:World) (a b:Drv) (u1 u2 v1 v2:Value) (ha:aK w w.heap.size a u1 u2) (hb:aK w w.heap.size b v1 v2) :
  Calls Tryz.prog 37 #[.agg (dC a u1 u2).toArray,.agg (dC b v1 v2).toArray] w fun e w'=>e=.returned (.bool (decide (a=b)))∧Below w.heap.size w w':=by
 obtain ⟨oa1,oa2⟩:=ha.iy
 obtain ⟨ob1,ob2⟩:=hb.iy
 have HA:=ah (xae ha.ins ha.rcp)
 have HB:=ah (xae hb.ins hb.rcp)
 clear ha hb
 have he:decide (a=b)=(decide (a.1=b.1)&&(decide (a.2.1=b.2.1)&&decide (a.2.2=b.2.2))):=by
  rw [Bool.eq_iff_iff]
  simp only [xaG,decide_eq_true_iff]
  exact ⟨fun h=>by rw [h];exact ⟨rfl,rfl,rfl⟩,fun h=>Prod.ext h.1 (Prod.ext h.2.1 h.2.2)⟩
 cases hn:decide (a.1=b.1)
 ·have HN:=ah hn
  have HE:=ah (show decide (a=b)=false by rw [he,hn];rfl)
  clear he hn
  have H0:=ah (Mem.start w)
  go_enter Tryz.func37,Tryz.ntmps37
  go_wp2_with (first | ((with_reducible refine ag 2 ?_);(refine aW rfl 26 (.tmp 0) rfl (dC a u1 u2).toArray rfl ?_);intro w1 hn;have H1:=ah (Mem.bh H0.out hn);clear hn;simp only [xad,xaa,xac,xab]) | ((with_reducible refine ag 3 ?_);(refine aW rfl 26 (.tmp 1) rfl (dC b v1 v2).toArray rfl ?_);intro w2 hn;have H2:=ah (Mem.bh H1.out hn);clear hn;simp only [xad,xaa,xac,xab]) | ((with_reducible refine ag 6 ?_);(refine aa rfl (.string a.1) w2 (exec_load_cell 9 (.tmp 5) rfl ⟨w.heap.size,0,none⟩ rfl _ _ w2 Tryz.underlying9 rfl (range_cell (ga (Blk.range (Mem.blk H2.out 1 rfl))))) ?_)) | ((with_reducible refine ag 8 ?_);(refine aa rfl (.string b.1) w2 (exec_load_cell 9 (.tmp 7) rfl ⟨w1.heap.size,0,none⟩ rfl _ _ w2 Tryz.underlying9 rfl (range_cell (ga (Blk.range (Mem.blk H2.out 0 rfl))))) ?_)) | ((with_reducible refine ag 9 ?_);(refine aa rfl (.bool false) w2 (kz 9 9 (.tmp 6) (.tmp 8) rfl a.1 b.1 rfl rfl false HN.out w2) ?_)))
  go_ret
  exact ⟨by rw [HE.out];rfl,Mem.below H2.out⟩
 ·cases hi:decide (a.2.1=b.2.1)
  ·have HN:=ah hn
   have HI:=ah hi
   have HE:=ah (show decide (a=b)=false by rw [he,hn,hi];rfl)
   clear he hn hi
   have H0:=ah (Mem.start w)
   go_enter Tryz.func37,Tryz.ntmps37
   go_wp2_with (first | ((with_reducible refine ag 2 ?_);(refine aW rfl 26 (.tmp 0) rfl (dC a u1 u2).toArray rfl ?_);intro w1 hn;have H1:=ah (Mem.bh H0.out hn);clear hn;simp only [xad,xaa,xac,xab]) | ((with_reducible refine ag 3 ?_);(refine aW rfl 26 (.tmp 1) rfl (dC b v1 v2).toArray rfl ?_);intro w2 hn;have H2:=ah (Mem.bh H1.out hn);clear hn;simp only [xad,xaa,xac,xab]) | ((with_reducible refine ag 6 ?_);(refine aa rfl (.string a.1) w2 (exec_load_cell 9 (.tmp 5) rfl ⟨w.heap.size,0,none⟩ rfl _ _ w2 Tryz.underlying9 rfl (range_cell (ga (Blk.range (Mem.blk H2.out 1 rfl))))) ?_)) | ((with_reducible refine ag 8 ?_);(refine aa rfl (.string b.1) w2 (exec_load_cell 9 (.tmp 7) rfl ⟨w1.heap.size,0,none⟩ rfl _ _ w2 Tryz.underlying9 rfl (range_cell (ga (Blk.range (Mem.blk H2.out 0 rfl))))) ?_)) | ((with_reducible refine ag 9 ?_);(refine aa rfl (.bool true) w2 (kz 9 9 (.tmp 6) (.tmp 8) rfl a.1 b.1 rfl rfl true HN.out w2) ?_)) | ((with_reducible refine ag 12 ?_);(refine aC (by kernel_rfl) (u1) w2 (exec_load_cell 23 (.tmp 11) rfl ⟨w.heap.size,1,none⟩ rfl _ _ w2 Tryz.underlying23 rfl (range_cell (cD (Blk.range (Mem.blk H2.out 1 rfl))))) ?_)) | ((with_reducible refine ag 14 ?_);(refine aC (by kernel_rfl) (v1) w2 (exec_load_cell 23 (.tmp 13) rfl ⟨w1.heap.size,1,none⟩ rfl _ _ w2 Tryz.underlying23 rfl (range_cell (cD (Blk.range (Mem.blk H2.out 0 rfl))))) ?_)))
   refine (uW w2 a.2.1 b.2.1 u1 v1 (Mem.lay H2.out HA.out.1) (Mem.lay H2.out HB.out.1) _ HI.out).mono ?_
   rintro e w3 ⟨rfl,hb⟩
   dsimp only
   have H3:=ah (Mem.call H2.out hb)
   clear hb
   go_wp2_with fail
   go_ret
   exact ⟨by rw [HE.out];rfl,Mem.below H3.out⟩
  ·have HN:=ah hn
   have HI:=ah hi
   have HE:=ah (show decide (a=b)=decide (a.2.2=b.2.2) by rw [he,hn,hi];rfl)
   clear he hn hi
   have H0:=ah (Mem.start w)
   go_enter Tryz.func37,Tryz.ntmps37
   go_wp2_with (first | ((with_reducible refine ag 2 ?_);(refine aW rfl 26 (.tmp 0) rfl (dC a u1 u2).toArray rfl ?_);intro w1 hn;have H1:=ah (Mem.bh H0.out hn);clear hn;simp only [xad,xaa,xac,xab]) | ((with_reducible refine ag 3 ?_);(refine aW rfl 26 (.tmp 1) rfl (dC b v1 v2).toArray rfl ?_);intro w2 hn;have H2:=ah (Mem.bh H1.out hn);clear hn;simp only [xad,xaa,xac,xab]) | ((with_reducible refine ag 6 ?_);(refine aa rfl (.string a.1) w2 (exec_load_cell 9 (.tmp 5) rfl ⟨w.heap.size,0,none⟩ rfl _ _ w2 Tryz.underlying9 rfl (range_cell (ga (Blk.range (Mem.blk H2.out 1 rfl))))) ?_)) | ((with_reducible refine ag 8 ?_);(refine aa rfl (.string b.1) w2 (exec_load_cell 9 (.tmp 7) rfl ⟨w1.heap.size,0,none⟩ rfl _ _ w2 Tryz.underlying9 rfl (range_cell (ga (Blk.range (Mem.blk H2.out 0 rfl))))) ?_)) | ((with_reducible refine ag 9 ?_);(refine aa rfl (.bool true) w2 (kz 9 9 (.tmp 6) (.tmp 8) rfl a.1 b.1 rfl rfl true HN.out w2) ?_)) | ((with_reducible refine ag 12 ?_);(refine aC (by kernel_rfl) (u1) w2 (exec_load_cell 23 (.tmp 11) rfl ⟨w.heap.size,1,none⟩ rfl _ _ w2 Tryz.underlying23 rfl (range_cell (cD (Blk.range (Mem.blk H2.out 1 rfl))))) ?_)) | ((with_reducible refine ag 14 ?_);(refine aC (by kernel_rfl) (v1) w2 (exec_load_cell 23 (.tmp 13) rfl ⟨w1.heap.size,1,none⟩ rfl _ _ w2 Tryz.underlying23 rfl (range_cell (cD (Blk.range (Mem.blk H2.out 0 rfl))))) ?_)))
   refine (uW w2 a.2.1 b.2.1 u1 v1 (Mem.lay H2.out HA.out.1) (Mem.lay H2.out HB.out.1) _ HI.out).mono ?_
   rintro e w3 ⟨rfl,hb⟩
   dsimp only
   have H3:=ah (Mem.call H2.out hb)
   clear hb
   go_wp2_with (first | ((with_reducible refine ag 19 ?_);(refine aC (by kernel_rfl) (u2) w3 (exec_load_cell 24 (.tmp 18) rfl ⟨w.heap.size,2,none⟩ rfl _ _ w3 Tryz.underlying24 rfl (range_cell (iS (Blk.range (Mem.blk H3.out 1 rfl))))) ?_)) | ((with_reducible refine ag 21 ?_);(refine aC (by kernel_rfl) (v2) w3 (exec_load_cell 24 (.tmp 20) rfl ⟨w1.heap.size,2,none⟩ rfl _ _ w3 Tryz.underlying24 rfl (range_cell (iS (Blk.range (Mem.blk H3.out 0 rfl))))) ?_)))
   refine (AP w3 a.2.2 b.2.2 u2 v2 (Mem.lay H3.out HA.out.2) (Mem.lay H3.out HB.out.2) _ rfl).mono ?_
   rintro e w4 ⟨rfl,hb⟩
   dsimp only
   have H4:=ah (Mem.call H3.out hb)
   clear hb
   go_wp2_with fail
   go_ret
   exact ⟨by rw [HE.out];rfl,Mem.below H4.out⟩
theorem AQ (w:World) (a b:Drv) (u1 u2 v1 v2:Value) (ha:aK w w.heap.size a u1 u2) (hb:aK w w.heap.size b v1 v2) (c:Bool) (hc:decide (a=b)=c) :
  Calls Tryz.prog 37 #[.agg (dC a u1 u2).toArray,.agg (dC b v1 v2).toArray] w fun e w'=>e=.returned (.bool c)∧Below w.heap.size w w':=hc▸lO w a b u1 u2 v1 v2 ha hb
end Go.Proofs.YtomnhnmciopiiaaGreat
end
section
namespace Go.Proofs.YtomnhnmciopiiaaGreat
open Go Go.RowKit Go.Maps
attribute [local irreducible] wpList
theorem mO {α:Type} {t:TypeId} {L:Lay α} {w:World} {N cap:Nat} {A:Option Addr} {l r:List α} (h:(Lay.slice t L).At w N [.slice A (l++r).length cap] (l++r)):(Lay.slice t L).At w N [.slice A l.length cap] l:=by
 obtain ⟨A',cap',e,h1,h2,h3,h4⟩:=ak h
 injection e with e1 e2 e3
 subst e1 e3
 rw [xap] at h1 h4
 refine ⟨A,cap,rfl,by omega,h2,h3,fun h0=>?_⟩
 obtain ⟨b,off,e,hb,hE⟩:=h4 (by omega)
 refine ⟨b,off,e,hb,fun i x hx=>hE i x ?_⟩
 rw [List.getElem?_append_left (xah.1 hx).1]
 exact hx
structure cO (w:World) (B:Nat) (d:Drv) (u1 u2:Value):Prop where
 name:d.1.size≤maxLen
 okn:∀ x∈d.2.1,okN x
 okb:∀ x∈d.2.2,rZ x
 zf:∃ A c,u1=.slice A d.2.1.length c∧(fi B A c d.2.1).P w
 zg:∃ A c,u2=.slice A d.2.2.length c∧(gQ B A c d.2.2).P w
def ldE (B:Nat) (d:Drv) (u1 u2:Value):Ent:=⟨fun b=>u1.ownBlock=some b∨u2.ownBlock=some b,fun w=>cO w B d u1 u2⟩
theorem jh (A:Option Addr) (n m c:Nat):(xag A n c).ownBlock=(xag A m c).ownBlock:=by
 rcases A with _ | ⟨g,o,p⟩
 ·rfl
 ·cases o<;>cases p<;>rfl
theorem cO.vR {w w':World} {B:Nat} {d:Drv} {u1 u2:Value} (h:cO w B d u1 u2) (hk:∀ b,(ldE B d u1 u2).F b→b<w.heap.size→w'.heap[b]?=w.heap[b]?):cO w' B d u1 u2:=by
 obtain ⟨A,c,e,h1⟩:=h.zf
 obtain ⟨A2,c2,e2,h2⟩:=h.zg
 exact ⟨h.name,h.okn,h.okb,⟨A,c,e,an h1 fun g hg hl=>hk g (.inl (by rw [e];exact (jh ..).trans hg)) hl⟩,⟨A2,c2,e2,an h2 fun g hg hl=>hk g (.inr (by rw [e2];exact (jh ..).trans hg)) hl⟩⟩
theorem tn (B:Nat) (d:Drv) (u1 u2:Value):(ldE B d u1 u2).Ok:=fun _ _ h hk=>cO.vR h hk
theorem cO.base {w:World} {B B':Nat} {d:Drv} {u1 u2:Value} (h:cO w B d u1 u2) (hB:∀ b,(ldE B d u1 u2).F b→B'≤b):cO w B' d u1 u2:=by
 obtain ⟨A,c,e,h1⟩:=h.zf
 obtain ⟨A2,c2,e2,h2⟩:=h.zg
 exact ⟨h.name,h.okn,h.okb,⟨A,c,e,bn h1 fun g hg=>hB g (.inl (by rw [e];exact (jh ..).trans hg))⟩,⟨A2,c2,e2,bn h2 fun g hg=>hB g (.inr (by rw [e2];exact (jh ..).trans hg))⟩⟩
theorem cO.at_ {w:World} {B:Nat} {d:Drv} {u1 u2:Value} (h:cO w B d u1 u2) {N:Nat} (hN:w.heap.size≤N):aK w N d u1 u2:=by
 obtain ⟨A,c,rfl,h1⟩:=h.zf
 obtain ⟨A2,c2,rfl,h2⟩:=h.zg
 refine ⟨h.name,mO (r:=(xaf 12).map dc) (dg (L:=lF) (f:=nC) (by decide) h1 _ hN fun x hx=>bw.2 ⟨rfl,?_⟩),mO (r:=(xaf 12).map dU) (dg (L:=Lay.int 5 .u8) (f:=ib) (by decide) h2 _ hN fun x hx=>⟨rfl,?_⟩)⟩
 ·rcases xau.1 hx with hx | hx
  ·exact h.okn x hx
  ·obtain ⟨j,_,rfl⟩:=xav.1 hx
   exact eH j
 ·rcases xau.1 hx with hx | hx
  ·exact h.okb x hx
  ·obtain ⟨j,_,rfl⟩:=xav.1 hx
   exact rR j
theorem aK.oks {w:World} {N:Nat} {d:Drv} {v1 v2:Value} (h:aK w N d v1 v2):(∀ x∈d.2.1,okN x)∧∀ x∈d.2.2,rZ x :=
 ⟨fun x hx=>by obtain ⟨cs,h9⟩:=fc h.ins hx;exact (bw.1 h9).2,fun x hx=>by obtain ⟨cs,h9⟩:=fc h.rcp hx;exact h9.2⟩
theorem Mem.zo {w0 w w':World} {L:List Ent} {B s n:Nat} {t:TypeId} {u:Value} {xs:List Value} (h:Mem w0 w L) (k:Mem w w' [aq B t s u n xs]):Mem w0 w' (aq w0.heap.size t s u n xs :: L) :=
 (h.seq k).kT 0 rfl (cM _ _ _ _ _ _) (bn ((h.seq k).own 0 rfl) fun _ hg=>xay h.below.size (k.from_ (e:=aq B t s u n xs) 0 rfl hg).1) (fun _ hf=>hf)
theorem vW {w0 w:World} {L:List Ent} {d:Drv} {B c1 c2:Nat} {A1 A2:Option Addr} (h:Mem w0 w (gQ B A2 c2 d.2.2 :: fi B A1 c1 d.2.1 :: L)) (hn:d.1.size≤maxLen) (ho:(∀ x∈d.2.1,okN x)∧∀ x∈d.2.2,rZ x):Mem w0 w (ldE B d (.slice A1 d.2.1.length c1) (.slice A2 d.2.2.length c2) :: L) :=
 h.join.kT (e':=ldE B d (.slice A1 d.2.1.length c1) (.slice A2 d.2.2.length c2)) 0 rfl (tn _ _ _ _) ⟨hn,ho.1,ho.2,⟨_,_,rfl,h.holds _ (.tail _ (.head _))⟩,⟨_,_,rfl,h.holds _ (.head _)⟩⟩ fun b hf=>by
  rcases hf with hf | hf
  ·exact .inr ((jh ..).trans hf)
  ·exact .inl ((jh ..).trans hf)
theorem rH (w:World) (d:Drv) (v1 v2:Value) (h:aK w w.heap.size d v1 v2) (hl1:d.2.1.length≤1000000) (hl2:d.2.2.length≤1000000) :
  Calls Tryz.prog 11 #[.agg (dC d v1 v2).toArray] w fun e w'=>∃ u1 u2,e=.returned (.agg (dC d u1 u2).toArray)∧Mem w w' [ldE w.heap.size d u1 u2]:=by
 obtain ⟨ho1,ho2⟩:=h.iy
 have H0:=Mem.start w
 go_enter Tryz.func11,Tryz.ntmps11
 refine sk fun _ K1=>rl ?_
 refine bx 26 (dC d v1 v2) fun w2 hn_=>?_
 have H3:=Mem.bh H0 hn_
 refine rn ?_
 refine nz 26 zcD fun w4 hn_=>?_
 have H5:=Mem.bh H3 hn_
 refine rn ?_
 refine nt (K1 _ _ (sk fun _ K6=>rl ?_))
 refine rp w.heap.size 1 ?_
 refine rv (xlc (range_cell (cD (Blk.range (Mem.blk H5 1 rfl)))) Tryz.underlying23) ?_
 refine ac (nD w4 d.2.1 _ (Mem.lay H5 h.ins) hl1) ?_
 rintro e w7 ⟨A1,c1,rfl,hm8⟩
 refine ⟨_,rfl,rn ?_⟩
 have H8:=Mem.zo H5 hm8
 refine rp w.heap.size 1 ?_
 refine bM rfl 23 (.tmp 6) (.tmp 5) rfl w.heap.size (1) 26 (dC d v1 v2).toArray (Mem.blk H8 2 rfl) (xaL rfl) (by kernel_rfl) ((.slice A1 d.2.1.length c1)) rfl rfl rfl ?_
 intro w10 hk hg hz
 have H11:=Mem.st (cs':=(dC d (.slice A1 d.2.1.length c1) v2).toArray) H8 2 rfl hk hg
 clear hk hg hz
 refine rn ?_
 refine nt (K6 _ _ (sk fun _ K12=>rl ?_))
 refine rp w.heap.size 2 ?_
 refine rv (xlc (range_cell (iS (Blk.range (Mem.blk H11 2 rfl)))) Tryz.underlying24) ?_
 refine ac (qq w10 d.2.2 _ (Mem.lay H11 h.rcp) hl2) ?_
 rintro e w13 ⟨A2,c2,rfl,hm9⟩
 refine ⟨_,rfl,rn ?_⟩
 have H14:=Mem.zo H11 hm9
 refine rp w.heap.size 2 ?_
 refine bM rfl 24 (.tmp 10) (.tmp 9) rfl w.heap.size (2) 26 (dC d (.slice A1 d.2.1.length c1) v2).toArray (Mem.blk H14 3 rfl) (xaL rfl) (by kernel_rfl) ((.slice A2 d.2.2.length c2)) rfl rfl rfl ?_
 intro w16 hk hg hz
 have H17:=Mem.st (cs':=(dC d (.slice A1 d.2.1.length c1) (.slice A2 d.2.2.length c2)).toArray) H14 3 rfl hk hg
 clear hk hg hz
 refine rn ?_
 refine nt (K12 _ _ (sk fun _ K18=>rl ?_))
 refine rv (xld (Blk.range (Mem.blk H17 3 rfl)) Tryz.underlying26 (bL d (.slice A1 d.2.1.length c1) (.slice A2 d.2.2.length c2))) ?_
 refine stb (Mem.blk H17 2 rfl) (dF d (.slice A1 d.2.1.length c1) (.slice A2 d.2.2.length c2)) (dr fX (dF d (.slice A1 d.2.1.length c1) (.slice A2 d.2.2.length c2))) (lq d rfl rfl) fun w19 hk_ hg_=>?_
 have H20:=Mem.st H17 2 rfl hk_ hg_
 refine rn ?_
 refine nt (K18 _ _ ?_)
 refine wp_ret ?_
 refine bodyPost_ret (fl (r1:=.cell 2 26) rfl ⟨⟨_,rfl,im (Blk.range (Mem.blk H20 2 rfl)) Tryz.underlying26 rfl (bL d (.slice A1 d.2.1.length c1) (.slice A2 d.2.2.length c2))⟩,trivial⟩) rfl ?_
 exact ⟨_,_,rfl,vW (Mem.pick H20 [0,1] (by decide) rfl) h.name h.oks⟩
theorem uI {w0 w:World} {L:List Ent} {B s n:Nat} {t:TypeId} {u:Value} {xs:List Value} (h:Mem w0 w L) (ho:(aq B t s u n xs).P w0):(aq B t s u n xs).P w :=
 an ho fun g _ hl=>h.below.block g hl
theorem rF (w:World) (d:Drv) (u1 u2 v1 v2:Value) (B:Nat) (hx9:cO w B d u1 u2) (h:aK w w.heap.size d v1 v2) (hl1:d.2.1.length≤1000000) (hl2:d.2.2.length≤1000000) :
  Calls Tryz.prog 23 #[.agg (dC d u1 u2).toArray,.agg (dC d v1 v2).toArray] w fun e w'=>e=.returned (.bool true)∧Below w.heap.size w w':=by
 obtain ⟨ho1,ho2⟩:=h.iy
 have hx:=hx9.at_ (xai _)
 obtain ⟨hok1,hok2⟩:=h.oks
 have hall1:∀ x∈d.2.1++(xaf 12).map dc,okN x:=fun x hx=>by
  rcases xau.1 hx with hx | hx
  ·exact hok1 x hx
  ·obtain ⟨j,_,rfl⟩:=xav.1 hx
   exact eH j
 have hall2:∀ x∈d.2.2++(xaf 12).map dU,rZ x:=fun x hx=>by
  rcases xau.1 hx with hx | hx
  ·exact hok2 x hx
  ·obtain ⟨j,_,rfl⟩:=xav.1 hx
   exact rR j
 obtain ⟨A1,c1,rfl,hr1⟩:=hx9.zf
 obtain ⟨A2,c2,rfl,hr2⟩:=hx9.zg
 have H0:=Mem.start w
 go_enter Tryz.func23,Tryz.ntmps23
 refine sk fun _ K1=>rl ?_
 refine bx 26 (dC d (.slice A1 d.2.1.length c1) (.slice A2 d.2.2.length c2)) fun w2 hn_=>?_
 have H3:=Mem.bh H0 hn_
 refine rn ?_
 refine bx 26 (dC d v1 v2) fun w4 hn_=>?_
 have H5:=Mem.bh H3 hn_
 refine rn ?_
 refine nt (K1 _ _ (sk fun _ K6=>rl ?_))
 refine rv (xld (Blk.range (Mem.blk H5 1 rfl)) Tryz.underlying26 (bL d (.slice A1 d.2.1.length c1) (.slice A2 d.2.2.length c2))) ?_
 refine rv (xld (Blk.range (Mem.blk H5 0 rfl)) Tryz.underlying26 (bL d v1 v2)) ?_
 refine ac ((Calls.mono (lO w4 d d _ _ _ _ (Mem.drv H5 hx) (Mem.drv H5 h)) fun e w' h=>⟨h.1.trans (by rw [decide_eq_true rfl]),h.2⟩:Calls _ _ _ _ fun e w'=>e=.returned (.bool true)∧Below _ _ w')) ?_
 rintro e w7 ⟨rfl,hb9⟩
 refine ⟨_,rfl,rn ?_⟩
 have H8:=Mem.call H5 hb9
 refine rn ?_
 refine rp w.heap.size 1 ?_
 refine rv (xlc (range_cell (cD (Blk.range (Mem.blk H8 1 rfl)))) Tryz.underlying23) ?_
 refine rp w2.heap.size 1 ?_
 refine rv (xlc (range_cell (cD (Blk.range (Mem.blk H8 0 rfl)))) Tryz.underlying23) ?_
 refine ac (ny w7 d.2.1 _ (Mem.lay H8 h.ins) hall1 hl1 B A1 c1 (uI H8 hr1)) ?_
 rintro e w10 ⟨rfl,hb12⟩
 refine ⟨_,rfl,rn ?_⟩
 have H11:=Mem.call H8 hb12
 refine rn ?_
 refine rp w.heap.size 2 ?_
 refine rv (xlc (range_cell (iS (Blk.range (Mem.blk H11 1 rfl)))) Tryz.underlying24) ?_
 refine rp w2.heap.size 2 ?_
 refine rv (xlc (range_cell (iS (Blk.range (Mem.blk H11 0 rfl)))) Tryz.underlying24) ?_
 refine ac (qp w10 d.2.2 _ (Mem.lay H11 h.rcp) hall2 hl2 B A2 c2 (uI H11 hr2)) ?_
 rintro e w13 ⟨rfl,hb15⟩
 refine ⟨_,rfl,rn ?_⟩
 have H14:=Mem.call H11 hb15
 refine rn ?_
 refine nt (K6 _ _ (rt ?_))
 exact ⟨rfl,Mem.below H14⟩
end Go.Proofs.YtomnhnmciopiiaaGreat
end
section
namespace Go.Proofs.YtomnhnmciopiiaaGreat.Dr
open Go Go.RowKit Go.Maps
variable {H:Type} [DecidableEq H]
def iO (all:List H) (c:H):List H:=if c∈all then all else all++[c]
def bS (all cs:List H):List H:=cs.foldl iO all
theorem lS {all cs:List H} {k:Nat} {c:H} (h:cs[k]?=some c):bS all (cs.take (k+1))=iO (bS all (cs.take k)) c:=by
 unfold bS
 rw [xaz,h,List.foldl_append]
 rfl
theorem xy {all:List H} {c h:H}:h∈iO all c↔h∈all∨h=c:=by
 unfold iO
 split
 ·rename_i hc
  exact ⟨.inl,fun h=>h.elim id fun e=>by rw [e];exact hc⟩
 ·simp
theorem sE {all:List H} {c:H} (h:all.Nodup):(iO all c).Nodup:=by
 unfold iO
 split
 ·exact h
 ·rename_i hc
  rw [xbq]
  exact ⟨h,by simp,fun a ha b hb e=>hc (by rw [xan.1 hb] at e;exact e▸ha)⟩
theorem xz (all:List H) (c:H):∃ t,iO all c=all++t:=by
 unfold iO
 split
 ·exact ⟨[],by simp⟩
 ·exact ⟨[c],rfl⟩
theorem eS:∀ {cs all:List H} {h:H},h∈bS all cs↔h∈all∨h∈cs
 | [],all,h=>by simp [bS]
 | c :: cs,all,h=>by
  show h∈bS (iO all c) cs↔_
  rw [eS,xy,xax,or_assoc]
theorem kr:∀ {cs all:List H},all.Nodup→(bS all cs).Nodup
 | [],_,h=>h
 | _ :: cs,_,h=>kr (cs:=cs) (sE h)
theorem jT:∀ (cs all:List H),∃ t,bS all cs=all++t
 | [],all=>⟨[],by simp [bS]⟩
 | c :: cs,all=>by
  obtain ⟨t,ht⟩:=xz all c
  obtain ⟨u,hu⟩:=jT cs (iO all c)
  exact ⟨t++u,by show bS (iO all c) cs=_;rw [hu,ht,List.append_assoc]⟩
structure kq (l:List (It H)) (c:H) (i:Nat) (all:List H):Prop where
 has:c∈all
 nd:all.Nodup
 sub:∀ a∈all,a∈bW l c
 done:∀ (j:Nat) (a:H),j<i→all[j]?=some a→∀ x∈l,x.cls=a→∀ d∈x.ins,d∈all
theorem s0 {l:List (It H)} (hr:eP l) {c:H} (hc:c∈css l):kq l c 0 [c] :=
 ⟨List.mem_cons_self ..,by simp,fun a ha=>by rw [xan.1 ha];exact xak (tD hr hc).2,fun j a hj=>absurd hj (Nat.not_lt_zero _)⟩
theorem vF {l:List (It H)} (hr:eP l) {c a:H} {i:Nat} {all:List H} (h:kq l c i all) (ha:all[i]?=some a) {x:It H} (hx:x∈l) (hxa:x.cls=a):kq l c (i+1) (bS all x.ins):=by
 have hm:=h.sub a (xak ha)
 have hcl:=oB hr (k:=c) hx (by rw [hxa];exact hm)
 obtain ⟨t,ht⟩:=jT x.ins all
 refine ⟨eS.2 (.inl h.has),kr h.nd,fun b hb=>?_,fun j b hj hb y hy hyb d hd=>?_⟩
 ·rcases eS.1 hb with hb | hb
  ·exact h.sub b hb
  ·exact hcl b hb
 ·have hlt:i<all.length:=(xah.1 ha).1
  rw [ht,List.getElem?_append_left (by omega)] at hb
  rcases Nat.lt_or_ge j i with hji | hji
  ·exact eS.2 (.inl (h.done j b hji hb y hy hyb d hd))
  ·obtain rfl:j=i:=by omega
   rw [ha] at hb
   injection hb with hb
   have e:=oZ hr hx hy (by rw [hxa,hyb,hb])
   exact eS.2 (.inr (by rw [e];exact hd))
theorem ui {s l:List H} (h:s.Sublist l):l.Nodup→(l.filter fun x=>decide (x∈s))=s:=by
 induction h with
 | slnil=>intro _;rfl
 | cons a hs ih =>
  intro hn
  obtain ⟨h1,h2⟩:=List.nodup_cons.1 hn
  rw [xca (by simpa using fun hm=>h1 (hs.subset hm))]
  exact ih h2
 | cons_cons a hs ih =>
  intro hn
  obtain ⟨h1,h2⟩:=List.nodup_cons.1 hn
  rw [xcb (by simp)]
  congr 1
  refine Eq.trans (List.filter_congr fun x hx=>?_) (ih h2)
  have hxa:x ≠ a:=fun e=>h1 (e▸hx)
  simp [hxa]
theorem yh {l:List (It H)} (hr:eP l) {c:H} {all:List H} (h:kq l c all.length all):∀ b∈bW l c,b∈all:=fun b hb=>by
 obtain ⟨i,hi⟩:=xaO hb
 obtain ⟨n,y,hy,hm,h1,_,_⟩:=lH hr (c:=c) i (xah.1 hi).1
 rw [hi] at h1
 injection h1 with h1
 subst h1
 have hl:∀ a∈all,∀ x∈l,x.cls=a→∀ d∈x.ins,d∈all:=fun a ha=>by
  obtain ⟨j,hj⟩:=xaO ha
  exact h.done j a (xah.1 hj).1 hj
 have key:∀ n,Mk (bY l ((css l).idxOf c)) n→∀ x,l[n]?=some x→x.cls∈all:=by
  refine gp (l:=l) (fun n=>∀ x,l[n]?=some x→x.cls∈all) (fun n hn d hd y hy=>?_) _ _ fun k hk x hx=>?_
  ·cases e:l[n]? with
   | none=>unfold gO at hd;rw [e] at hd;cases hd
   | some x =>
    have hdx:d∈x.ins:=by unfold gO at hd;rw [e] at hd;exact hd
    have h2:=hl x.cls (hn x e) x (xak e) rfl d hdx
    have h3:=hr.ins n x e d hdx
    have hdc:d∈css l:=xba.1 (xa3 h3 (by have:=(xah.1 e).1;simp [css];omega))
    obtain ⟨z,hz,hzd⟩:=lg hdc
    rw [hz] at hy
    injection hy with hy
    rw [← hy,hzd]
    exact h2
  ·have e:=qn hk
   subst e
   have hcc:c∈css l:=xba.1 (by have:=(xah.1 hx).1;simpa [css] using this)
   obtain ⟨z,hz,hzc⟩:=lg hcc
   rw [hz] at hx
   injection hx with hx
   rw [← hx,hzc]
   exact h.has
 exact key n hm y hy
theorem vD {l:List (It H)} (hr:eP l) {c:H} {all:List H} (h:kq l c all.length all):((css l).filter fun b=>decide (b∈all))=bW l c:=by
 have e:=ui (gT (css l) (bY l ((css l).idxOf c))) hr.nodup
 refine Eq.trans (List.filter_congr fun x _=>?_) e
 exact decide_eq_decide.2 ⟨fun hm=>h.sub x hm,fun hm=>yh hr h x hm⟩
theorem qg {l:List (It H)} {c:H} {i:Nat} {all:List H} (h:kq l c i all):all.length≤l.length:=by
 have h1:=rV h.nd fun x hx=>jB (h.sub x hx)
 have e:(css l).length=l.length:=by simp [css]
 omega
def nR (l:List (It H)) (ins:List H) (k:Nat):Nat:=maxOf (((l.take k).filter fun y=>decide (y.cls∈ins)).map fun y=>cE l y.cls)+1
theorem wk (a:List Nat) (x:Nat):maxOf (a++[x])=max (maxOf a) x:=nK a x
theorem Ay {l:List (It H)} {ins:List H} {k:Nat} {y:It H} (hy:l[k]?=some y):nR l ins (k+1)=if y.cls∈ins then max (nR l ins k) (cE l y.cls+1) else nR l ins k:=by
 unfold nR
 rw [xaz,hy]
 by_cases h:y.cls∈ins
 ·rw [if_pos h]
  simp only [Option.toList,List.filter_append]
  rw [xcb (by simpa using h),List.filter_nil,List.map_append]
  show maxOf (_++[cE l y.cls])+1=_
  rw [wk]
  omega
 ·rw [if_neg h]
  simp only [Option.toList,List.filter_append]
  rw [xca (by simpa using h),List.filter_nil,xaT]
theorem uP {l:List (It H)} (hr:eP l) {i:Nat} {x:It H} (hx:l[i]?=some x):nR l x.ins i=cE l x.cls:=by
 rw [mY hr hx]
 unfold nR
 congr 1
 apply Nat.le_antisymm
 ·refine jf fun v hv=>?_
  obtain ⟨y,hy,rfl⟩:=xav.1 hv
  obtain ⟨h1,h2⟩:=List.mem_filter.1 hy
  have h2:y.cls∈x.ins:=of_decide_eq_true h2
  rw [← mX hr (n:=i) (hr.ins i x hx _ h2)]
  exact nB (xav.2 ⟨y.cls,h2,rfl⟩)
 ·refine jf fun v hv=>?_
  obtain ⟨d,hd,rfl⟩:=xav.1 hv
  have hlt:=hr.ins i x hx d hd
  rw [mX hr hlt]
  have hdc:d∈css l:=xba.1 (xa3 hlt (by have:=(xah.1 hx).1;simp [css];omega))
  obtain ⟨y,hy,rfl⟩:=lg hdc
  refine nB (xav.2 ⟨y,List.mem_filter.2 ⟨?_,decide_eq_true hd⟩,rfl⟩)
  exact xak (i:=(css l).idxOf y.cls) (by rw [List.getElem?_take_of_lt hlt];exact hy)
end Go.Proofs.YtomnhnmciopiiaaGreat.Dr
end
section
namespace Go.Proofs.YtomnhnmciopiiaaGreat
open Go Go.RowKit Go.Maps
def nb (n:Nat):List Value:=[.int .i64 (n:Int)]
theorem pd:(Tryz.prog.info? 3).map (fun i=>(i.zero,i.size,i.bytes))=some (some (.int .i64 0),1,8):=by kernel_rfl
theorem Bw {P:Program} {ρ:Operand→Value} {o:Oper} (x y:Operand) (t r:TypeId) (ho:o.op=.call { callee:=.builtin .max,args:=#[x,y],argTypes:=#[t,r] }) (a b:Nat) (hx:ρ x=.int .i64 (a:Int)) (hy:ρ y=.int .i64 (b:Int)) (W:World) :
  (execOp ρ o).run P W=.ok (.value (.int .i64 ((max a b:Nat):Int))) W:=by
 unfold execOp
 simp [ho,hx,hy,go_sem]
 omega
namespace Dr
variable {H:Type} [DecidableEq H]
theorem AY {l:List (It H)} {ins:List H} {k:Nat} {m:Nat} (h:∀ (i:Nat) (y:It H),i<k→l[i]?=some y→cE l y.cls≤m):nR l ins k≤m+1:=by
 unfold nR
 refine Nat.succ_le_succ (jf fun z hz=>?_)
 obtain ⟨y,hy,rfl⟩:=xav.1 hz
 have hy2:=(List.mem_filter.1 hy).1
 obtain ⟨i,hi⟩:=xaO hy2
 rw [List.getElem?_take] at hi
 split at hi
 ·rename_i hlt;exact h i y hlt hi
 ·cases hi
theorem lV {l:List (It H)} (hr:eP l):∀ (n:Nat) (x:It H),l[n]?=some x→cE l x.cls≤n+1:=by
 intro n
 induction n using Nat.strongRecOn with
 | _ n ih =>
  intro x hx
  rw [← uP hr hx]
  refine AY fun i y hi hy=>?_
  have:=ih i hi y hy
  omega
end Dr
theorem sN {l:List Itm} {c:Hsh} (h:Dr.bR (l.map itP)=false):dI l c=0:=by
 unfold dI
 rw [h]
 rfl
theorem ju (l:List Itm):Dr.css (l.map itP)=l.map (·.1):=by
 unfold Dr.css
 rw [List.map_map]
 rfl
theorem vr {l:List Itm} {c:Hsh} (h:Dr.bR (l.map itP)=true) {i:Nat} {x:Itm} (hx:l[i]?=some x) (hxc:x.1=c):dI l c=Dr.cE (l.map itP) c:=by
 unfold dI
 rw [if_pos h,if_pos]
 cases hm:(aX (de l) c).isSome
 ·exfalso
  refine pk hm ?_
  rw [ju]
  exact xav.2 ⟨x,xak hx,hxc⟩
 ·rfl
theorem sO {l:List Itm} {c:Hsh} (h:∀ y∈l,¬ y.1=c):dI l c=0:=by
 unfold dI
 cases hm:(aX (de l) c).isSome
 ·simp
 ·exfalso
  have:=gP hm
  rw [ju] at this
  obtain ⟨x,hx,hxc⟩:=xav.1 this
  exact h x hx hxc
def dk (l:List Itm) (j:Nat):List Nat:=(l.take j).map fun x=>Dr.cE (l.map itP) x.1
theorem q7 {l:List Itm} {j:Nat} (h:j≤l.length):(dk l j).length=j:=by
 unfold dk
 rw [xat,xaJ]
 omega
theorem uB {l:List Itm} {j k:Nat} {x:Itm} {n:Nat} (hx:l[k]?=some x) (hn:(dk l j)[k]?=some n):n=Dr.cE (l.map itP) x.1:=by
 unfold dk at hn
 rw [xaD,List.getElem?_take] at hn
 split at hn
 ·rw [hx] at hn
  injection hn with hn
  exact hn.symm
 ·cases hn
theorem vp {l:List Itm} {j:Nat} {x:Itm} (hr:Dr.bR (l.map itP)=true) (hx:l[j]?=some x):dk l j++[Dr.nR (l.map itP) (az x.2.2.1) j]=dk l (j+1):=by
 have h1:=Dr.uP ((Dr.dQ _).1 hr) (i:=j) (x:=itP x) (by rw [xaD,hx];rfl)
 have e:Dr.nR (l.map itP) (az x.2.2.1) j=Dr.cE (l.map itP) x.1:=h1
 rw [e]
 unfold dk
 rw [xaz,hx]
 simp
theorem AX {l:List Itm} {ins:List Hsh} {k:Nat} {y:Itm} (hy:l[k]?=some y) (b:Bool) (hb:decide (y.1∈ins)=b) {n:Nat} (hn:n=Dr.cE (l.map itP) y.1):Dr.nR (l.map itP) ins (k+1)=if b=true then max (Dr.nR (l.map itP) ins k) (n+1) else Dr.nR (l.map itP) ins k:=by
 have h1:=Dr.Ay (ins:=ins) (l:=l.map itP) (k:=k) (y:=itP y) (by rw [xaD,hy];rfl)
 rw [h1,hn]
 cases b
 ·have h2:¬ (itP y).cls∈ins:=of_decide_eq_false hb
  rw [if_neg h2]
  rfl
 ·have h2:(itP y).cls∈ins:=of_decide_eq_true hb
  rw [if_pos h2,if_pos rfl]
  rfl
theorem yI {l:List Itm} {ins:List Hsh} {k:Nat} (hr:Dr.bR (l.map itP)=true) (hk:k≤l.length):Dr.nR (l.map itP) ins k≤l.length+1:=by
 refine Dr.AY fun i y hi hy=>?_
 have:=Dr.lV ((Dr.dQ _).1 hr) i y hy
 have h2:=(xah.1 hy).1
 rw [xat] at h2
 omega
theorem q8 {l:List Itm} {k:Nat} {x:Itm} (hr:Dr.bR (l.map itP)=true) (hx:l[k]?=some x):Dr.cE (l.map itP) x.1≤l.length:=by
 have:=Dr.lV ((Dr.dQ _).1 hr) k (itP x) (by rw [xaD,hx];rfl)
 have h2:=(xah.1 hx).1
 have e:(itP x).cls=x.1:=rfl
 rw [e] at this
 omega
end Go.Proofs.YtomnhnmciopiiaaGreat
end
section
namespace Go.Proofs.YtomnhnmciopiiaaGreat
open Go Go.RowKit Go.Maps
attribute [local irreducible] wpList
theorem ng (x:Itm) (l:List Itm) (c:Hsh):db (x :: l) c=if x.1=c then some x else db l c:=by
 unfold db
 rw [xbO]
 by_cases h:x.1=c
 ·rw [if_pos h,decide_eq_true h]
 ·rw [if_neg h,decide_eq_false h]
theorem vy (c:Hsh):db [] c=none:=rfl
theorem y9 (w:World) (B:Nat) (hB:B≤w.heap.size) (l:List Itm) (v:Value) (h:eJ.At w B [v] l) (c:Hsh) (hc:okH c) (d:Drv) (hd:findD l c=d) (b9:Bool) (hb:(db l c).isSome=b9) :
  Calls Tryz.prog 32 #[v,.agg (bv c).toArray] w fun e w'=>∃ u1 u2,e=.returned (.tuple #[.agg (dC d u1 u2).toArray,.bool b9])∧aK w B d u1 u2∧Below w.heap.size w w':=by
 obtain ⟨A0,cap,rfl,_,hcm,_,hA⟩:=ak h
 simp only [maxLen] at hcm
 have H0:=Mem.start w
 go_enter Tryz.func32,Tryz.ntmps32
 refine sk fun _ K1=>rl ?_
 refine bx 34 (bv c) fun w2 hn_=>?_
 have H3:=Mem.bh H0 hn_
 refine rn ?_
 refine nz 26 zcD fun w4 hn_=>?_
 have H5:=Mem.bh H3 hn_
 refine rn ?_
 refine nt (K1 _ _ (sk fun _ K6=>sk fun _ K7=>rl ?_))
 refine nt (K7 _ _ (wp_block ?_))
 go_loopw [6] (fun x6 wr=>∃ j:Nat,x6=.int .i64 (j:Int)∧(j≤l.length)∧(db l c=db (l.drop j) c)∧Mem w wr [cC (w2.heap.size) 26 zcD,cC (w.heap.size) 34 (bv c).toArray]) (fun x6 _=>l.length-(intOf x6).toNat)
 case atStart=>exact ⟨0,rfl,by omega,rfl,H5⟩
 case round =>
  obtain ⟨wo8,rfl⟩:∃ wo8,wo8=wr:=⟨_,rfl⟩
  obtain ⟨j,rfl,hj,hf,H9⟩:=hrel
  refine sk fun _ K11=>sk fun _ K12=>rl ?_
  by_cases p13:(j:Int)<((l.length:Nat):Int)
  ·refine rv (aA (decide_eq_true p13)) ?_
   refine nt (K12 _ _ (ct (ks (K11 _ _ (sk fun _ K14=>wp_block (sk fun _ K15=>?_))))))
   obtain ⟨b16,o17,rfl,hlt19,hE18⟩:=hA (by omega)
   have hlt19:=xa3 hlt19 hB
   obtain ⟨x20,hx21⟩:=gx (l:=l) (j:=j)
   have hd22:=ay hx21
   obtain ⟨cs,hr23,ha24⟩:=hE18 (j) x20 hx21
   obtain ⟨v25,v26,rfl,xo27,xd28⟩:=dx.1 ha24
   obtain ⟨A29,c30,rfl,hlc30,hmc30,_,hA31⟩:=ak xd28.ins
   obtain ⟨A32,c33,rfl,hlc33,hmc33,_,hA34⟩:=ak xd28.rcp
   simp only [maxLen] at hmc30 hmc33
   refine Fre.aV (X:=Bel) [] (by kernel_rfl) (by kernel_rfl) (by simp) (by simp) (by simp) ?_
   refine Fre.rmd ?_
   refine Fre.mvv (fun _ _=>dy (j) Tryz.underlying40 cY) ?_
   refine Fre.mvv (v:=.pointer (some ⟨b16,o17+j*23,none⟩)) (fun _ _=>by kernel_rfl) ?_
   refine Fre.mvv (fun W9 hW9=>xld (cr (Mem.range (Mem.call H9 hW9) hr23 hlt19)) Tryz.underlying34 (cP xo27)) ?_
   refine Fre.mvv (fun W9 hW9=>xld (Blk.range (Mem.blk (Mem.call H9 hW9) 1 rfl)) Tryz.underlying34 (cP hc)) ?_
   by_cases p35:x20.1=c
   ·refine Fre.mvv (fun W9 _=>bX 34 34 (.tmp 17) (.tmp 18) rfl (bv x20.1).toArray (bv c).toArray rfl rfl (by kernel_rfl) _ W9 (by have h9:=cW (x20.1) (c) xo27 hc W9;rwa [show decide _=true from (decide_eq_true p35)] at h9)) ?_
    intro w36 hx38
    dsimp only [Fre.ended,xas]
    have H37:=Mem.call H9 hx38
    refine ab (K15 _ _ (ct (sk fun _ K39=>rl ?_)))
    refine rv (dy (j) Tryz.underlying40 cY) ?_
    refine rp b16 (o17+j*23+20) ?_
    refine rv (xld (cg xo27 (Mem.range H37 hr23 hlt19)) Tryz.underlying26 (bL x20.2 (.slice A29 x20.2.2.1.length c30) (.slice A32 x20.2.2.2.length c33))) ?_
    refine stb (Mem.blk H37 0 rfl) (dF x20.2 (.slice A29 x20.2.2.1.length c30) (.slice A32 x20.2.2.2.length c33)) (dr fX (dF x20.2 (.slice A29 x20.2.2.1.length c30) (.slice A32 x20.2.2.2.length c33))) (lq x20.2 rfl rfl) fun w40 hk_ hg_=>?_
    have H41:=Mem.st H37 0 rfl hk_ hg_
    refine rn ?_
    refine nt (K39 _ _ ?_)
    refine wp_ret ?_
    simp only [Exit.then,xbQ]
    refine bodyPost_ret (cB (r1:=.cell 4 26) (r2:=.tmp 5) rfl ⟨⟨_,rfl,im (Blk.range (Mem.blk H41 0 rfl)) Tryz.underlying26 rfl (bL x20.2 (.slice A29 x20.2.2.1.length c30) (.slice A32 x20.2.2.2.length c33))⟩,rfl,trivial⟩) rfl ?_
    have h:=hf
    simp only [ng,hd22,p35,↓reduceIte] at h
    have hbt:b9=true:=hb.symm.trans (by rw [h];rfl)
    have hdt:d=x20.2:=hd.symm.trans (nf h)
    subst hdt hbt
    exact ⟨_,_,rfl,xd28,Mem.below H41⟩
   ·refine Fre.mvv (fun W9 _=>bX 34 34 (.tmp 17) (.tmp 18) rfl (bv x20.1).toArray (bv c).toArray rfl rfl (by kernel_rfl) _ W9 (by have h9:=cW (x20.1) (c) xo27 hc W9;rwa [show decide _=false from (decide_eq_false p35)] at h9)) ?_
    intro w42 hx44
    dsimp only [Fre.ended,xas]
    have H43:=Mem.call H9 hx44
    refine ab (K15 _ _ (cf ?_))
    refine wp_skip ?_
    refine al (ab (K14 _ _ (rl ?_)))
    refine rv (aL (((j+1:Nat):Int))) ?_
    refine wpList_nil ?_
    refine ab ?_
    show _∧_
    go_roundw
    case rel=>exact ⟨(j+1),rfl,by omega,(by have h:=hf;simp only [ng,hd22,p35,↓reduceIte] at h;exact h),H43⟩
    case measure=>simp [intOf];omega
  ·have he45:=bJ (l:=l) (j:=j) (by omega)
   refine rv (aA (decide_eq_false p13)) ?_
   refine nt (K12 _ _ (cf (wp_exit (ai (ai (ax (ab (K6 _ _ (sk fun _ K46=>rl ?_)))))))))
   refine rv (v:=.agg (dC (⟨#[]⟩,[],[]) (.slice none 0 0) (.slice none 0 0)).toArray) (by kernel_rfl) ?_
   refine stb (Mem.blk H9 0 rfl) (dF (⟨#[]⟩,[],[]) (.slice none 0 0) (.slice none 0 0)) (dr fX (dF (⟨#[]⟩,[],[]) (.slice none 0 0) (.slice none 0 0))) (lq (⟨#[]⟩,[],[]) rfl rfl) fun w47 hk_ hg_=>?_
   have H48:=Mem.st H9 0 rfl hk_ hg_
   refine rn ?_
   refine nt (K46 _ _ ?_)
   refine wp_ret ?_
   refine bodyPost_ret (cB (r1:=.cell 4 26) (r2:=.tmp 5) rfl ⟨⟨_,rfl,im (Blk.range (Mem.blk H48 0 rfl)) Tryz.underlying26 rfl (bL (⟨#[]⟩,[],[]) (.slice none 0 0) (.slice none 0 0))⟩,rfl,trivial⟩) rfl ?_
   have h:=hf
   simp only [vy,he45] at h
   have hbt:b9=false:=hb.symm.trans (by rw [h];rfl)
   have hdt:d=(⟨#[]⟩,[],[]):=hd.symm.trans (re h)
   subst hdt hbt
   exact ⟨_,_,rfl,zz _ _,Mem.below H48⟩
end Go.Proofs.YtomnhnmciopiiaaGreat
end
section
namespace Go.Proofs.YtomnhnmciopiiaaGreat
open Go Go.RowKit Go.Maps
attribute [local irreducible] wpList
theorem tP {l:List Itm} {k:Nat} {z:Itm} {c:Hsh} (h:l[k]?=some z) (hn:∀ y∈l.take k,¬ y.1=c) (hz:¬ z.1=c):∀ y∈l.take (k+1),¬ y.1=c:=n4 h hn hz
theorem tM (w:World) (l:List Itm) (v:Value) (h:eJ.At w w.heap.size [v] l) (hl:∀ x∈l,x.2.2.1.length≤1000000) (hlen:l.length≤1000000) (c:Hsh) (hc:okH c) (r9:Nat) (hd:dI l c=r9) :
  Calls Tryz.prog 40 #[v,.agg (bv c).toArray] w fun e w'=>e=.returned (.int .i64 (r9:Int))∧Below w.heap.size w w':=by
 obtain ⟨A0,cap,rfl,_,hcm,_,hA⟩:=ak h
 simp only [maxLen] at hcm
 have H0:=Mem.start w
 go_enter Tryz.func40,Tryz.ntmps40
 refine sk fun _ K1=>rl ?_
 refine bx 34 (bv c) fun w2 hn_=>?_
 have H3:=Mem.bh H0 hn_
 refine rn ?_
 refine nt (K1 _ _ (sk fun _ K4=>sk fun _ K5=>rl ?_))
 obtain ⟨br,hbr⟩:∃ b,Dr.bR (l.map itP)=b:=⟨_,rfl⟩
 refine ac (kf w2 l _ (Mem.lay H3 h) hl hlen br hbr) ?_
 rintro e w6 ⟨rfl,hb8⟩
 refine ⟨_,rfl,rn ?_⟩
 have H7:=Mem.call H3 hb8
 cases br
 ·refine rn ?_
  refine nt (K5 _ _ (ct (sk fun _ K9=>rl ?_)))
  refine nt (K9 _ _ (rt ?_))
  have hz:=hd.symm.trans (sN hbr)
  subst hz
  exact ⟨rfl,Mem.below H7⟩
 ·refine rn ?_
  refine nt (K5 _ _ (cf (ks (K4 _ _ (sk fun _ K10=>rl ?_)))))
  refine nt (K10 _ _ (sk fun _ K11=>sk fun _ K12=>rl ?_))
  refine nt (K12 _ _ (wp_block ?_))
  have H13:=Mem.dw H7 w.heap.size 3 1
  go_loopw [5,6] (fun x5 x6 wr=>∃ j:Nat,∃ A:Option Addr,∃ c9:Nat,x5=.slice A (dk l j).length c9∧x6=.int .i64 (j:Int)∧(j≤l.length)∧Mem w wr [aq (w.heap.size) 3 1 (.slice A (dk l j).length c9) ((dk l j)).length (((dk l j)).flatMap nb),cC (w.heap.size) 34 (bv c).toArray]) (fun x5 x6 _=>l.length-(intOf x6).toNat)
  case atStart=>exact ⟨0,none,0,rfl,rfl,by omega,H13⟩
  case round =>
   obtain ⟨wo14,rfl⟩:∃ wo14,wo14=wr:=⟨_,rfl⟩
   obtain ⟨j,A,c9,rfl,rfl,hj,H15⟩:=hrel
   refine sk fun _ K17=>sk fun _ K18=>rl ?_
   by_cases p19:(j:Int)<((l.length:Nat):Int)
   ·refine rv (aA (decide_eq_true p19)) ?_
    refine nt (K18 _ _ (ct (ks (K17 _ _ (sk fun _ K20=>wp_block (sk fun _ K21=>rl ?_))))))
    refine nt (K21 _ _ (sk fun _ K22=>rl ?_))
    obtain ⟨b23,o24,rfl,hlt26,hE25⟩:=hA (by omega)
    obtain ⟨x27,hx28⟩:=gx (l:=l) (j:=j)
    have hd29:=ay hx28
    obtain ⟨cs,hr30,ha31⟩:=hE25 (j) x27 hx28
    obtain ⟨v32,v33,rfl,xo34,xd35⟩:=dx.1 ha31
    obtain ⟨A36,c37,rfl,hlc37,hmc37,_,hA38⟩:=ak xd35.ins
    obtain ⟨A39,c40,rfl,hlc40,hmc40,_,hA41⟩:=ak xd35.rcp
    simp only [maxLen] at hmc37 hmc40
    have hcs:(az x27.2.2.1).length≤1000000:=by have h1:=dZ x27.2.2.1 x27.2.2.1.length;rw [xaB] at h1;have h2:=hl _ (xak hx28);omega
    refine rv (dy (j) Tryz.underlying40 cY) ?_
    refine rp b23 (o24+j*23+20) ?_
    refine rv (xld (cg xo34 (Mem.range H15 hr30 hlt26)) Tryz.underlying26 (bL x27.2 (.slice A36 x27.2.2.1.length c37) (.slice A39 x27.2.2.2.length c40))) ?_
    refine ac (eK wo14 x27.2 _ _ (Mem.drv H15 xd35) (hl _ (xak hx28))) ?_
    rintro e w46 ⟨A42,c43,rfl,hm44⟩
    refine ⟨_,rfl,rn ?_⟩
    have H47:=Mem.seq H15 hm44
    refine rn ?_
    refine nt (K22 _ _ (sk fun _ K49=>sk fun _ K50=>rl ?_))
    refine nt (K50 _ _ (wp_block ?_))
    have hdl:=q7 hj
    go_loopw [7,9] (fun x7 x9 wr=>∃ k:Nat,x7=.int .i64 ((Dr.nR (l.map itP) (az x27.2.2.1) k:Nat):Int)∧x9=.int .i64 (k:Int)∧(k≤j)∧Mem w wr [aq (wo14.heap.size) 34 20 (.slice A42 (az x27.2.2.1).length c43) ((az x27.2.2.1)).length (((az x27.2.2.1)).flatMap bv),aq (w.heap.size) 3 1 (.slice A (dk l j).length c9) ((dk l j)).length (((dk l j)).flatMap nb),cC (w.heap.size) 34 (bv c).toArray]) (fun x7 x9 _=>j-(intOf x9).toNat)
    case atStart=>exact ⟨0,rfl,rfl,by omega,H47⟩
    case round =>
     obtain ⟨wo51,rfl⟩:∃ wo51,wo51=wr:=⟨_,rfl⟩
     obtain ⟨k,rfl,rfl,hk,H52⟩:=hrel
     have hnb:=yI (ins:=az x27.2.2.1) (k:=k) hbr (by omega)
     refine sk fun _ K54=>sk fun _ K55=>rl ?_
     by_cases p56:(k:Int)<(j:Int)
     ·refine rv (aA (decide_eq_true p56)) ?_
      refine nt (K55 _ _ (ct (ks (K54 _ _ (sk fun _ K57=>wp_block (sk fun _ K58=>rl ?_))))))
      obtain ⟨x59,hx60⟩:=gx (l:=l) (j:=k)
      have hd61:=ay hx60
      obtain ⟨cs,hr62,ha63⟩:=hE25 (k) x59 hx60
      obtain ⟨v64,v65,rfl,xo66,xd67⟩:=dx.1 ha63
      obtain ⟨A68,c69,rfl,hlc69,hmc69,_,hA70⟩:=ak xd67.ins
      obtain ⟨A71,c72,rfl,hlc72,hmc72,_,hA73⟩:=ak xd67.rcp
      simp only [maxLen] at hmc69 hmc72
      refine rv (dy (k) Tryz.underlying40 cY) ?_
      refine rp b23 (o24+k*23) ?_
      refine rv (xld (cr (Mem.range H52 hr62 hlt26)) Tryz.underlying34 (cP xo66)) ?_
      obtain ⟨bm,hbm⟩:∃ b,decide (x59.1∈(az x27.2.2.1))=b:=⟨_,rfl⟩
      refine ac (fm wo51 ((az x27.2.2.1)) _ (ji (Mem.own H52 0 rfl) (fB xd35)) x59.1 xo66 bm hbm) ?_
      rintro e w74 ⟨rfl,hb76⟩
      refine ⟨_,rfl,rn ?_⟩
      have H75:=Mem.call H52 hb76
      cases bm
      ·refine nt (K58 _ _ (cf ?_))
       refine wp_skip ?_
       refine al (ab (K57 _ _ (rl ?_)))
       refine rv (aL (((k+1:Nat):Int))) ?_
       refine wpList_nil ?_
       have hnr:=AX hx60 false hbm rfl
       refine ab ?_
       show _∧_
       go_roundw
       case rel=>exact ⟨(k+1),(by rw [hnr];rfl),rfl,by omega,H75⟩
       case measure=>simp [intOf];omega
      ·refine nt (K58 _ _ (ct (rl ?_)))
       obtain ⟨b77,rfl,hlt80⟩:=aE (Mem.own H75 1 rfl) (by omega)
       obtain ⟨x81,hx82⟩:=gx (l:=(dk l j)) (j:=k)
       have hd83:=ay hx82
       have hzk:=uB hx60 hx82
       have hzb:=q8 hbr hx60
       refine rv (aT (s:=1) (k) Tryz.underlying79 (by kernel_rfl)) ?_
       refine rv (xlc (range_cell (dO (f:=nb) (by decide) (Mem.own H75 1 rfl) (fun _ _=>rfl) hx82)) Tryz.underlying3) ?_
       refine rv (aL (((x81+1:Nat):Int))) ?_
       refine rv (Bw (.tmp 38) (.tmp 43) 3 3 rfl (Dr.nR (l.map itP) (az x27.2.2.1) k) (x81+1) rfl rfl w74) ?_
       refine wpList_nil ?_
       refine al (ab (K57 _ _ (rl ?_)))
       refine rv (aL (((k+1:Nat):Int))) ?_
       refine wpList_nil ?_
       have hnr:=AX hx60 true hbm hzk
       refine ab ?_
       show _∧_
       go_roundw
       case rel=>exact ⟨(k+1),(by rw [hnr];rfl),rfl,by omega,H75⟩
       case measure=>simp [intOf];omega
     ·refine rv (aA (decide_eq_false p56)) ?_
      refine nt (K55 _ _ (cf (wp_exit (ai (ai (ax (ab (K49 _ _ (rl ?_)))))))))
      refine aG rfl 79 (.tmp 46) rfl 3 1 (.int .i64 0) (.int .i64 ((Dr.nR (l.map itP) (az x27.2.2.1) k:Nat):Int)) rfl Tryz.underlying79 (by kernel_rfl) (by decide) (by decide) (fun w=>by kernel_rfl) rfl ?_
      intro w84 hn
      have H85:=Mem.bh H52 hn
      clear hn
      refine rn ?_
      obtain ⟨inm3,iq3,ir3,is3,it3⟩:=info_parts pd
      refine aD rfl _ _ 79 rfl (w.heap.size) 3 _ _ 1 8 Tryz.underlying79 iq3 ir3 is3 it3 rfl (by decide) (.slice A (dk l j).length c9) (((dk l j)).length) (((dk l j)).flatMap nb) (Mem.own H85 2 rfl) ((some ⟨wo51.heap.size,0,none⟩)) (1) (1) ([.int .i64 ((Dr.nR (l.map itP) (az x27.2.2.1) k:Nat):Int)]) (bl (n:=1) (m:=1) (Mem.blk H85 0 rfl) rfl (fun u hu=>by rw [xan.1 hu];rfl)) ?hmt86 ?hbt86 ?hzt86 rfl rfl ?_
      case hmt86=>simp only [maxLen];omega
      case hbt86=>omega
      case hzt86=>exact (Mem.below H85).size
      intro u89 w87 ow92 gr93 hp94
      refine rn ?_
      have ow92:w87.ownsRow (w.heap.size) 3 1 u89 ((dk l j)++[Dr.nR (l.map itP) (az x27.2.2.1) k]).length (((dk l j)++[Dr.nR (l.map itP) (az x27.2.2.1) k]).flatMap nb):=by first | simpa using ow92 | (simp at ow92 ⊢;exact ow92)
      obtain ⟨A90,c91,rfl⟩:=aI ow92
      have H88:=Mem.app H85 2 rfl ow92 gr93 hp94
      clear ow92 gr93 hp94
      refine rn ?_
      refine wpList_nil ?_
      refine al (ab (K20 _ _ (rl ?_)))
      refine rv (aL (((j+1:Nat):Int))) ?_
      refine wpList_nil ?_
      have hje:k=j:=by omega
      have et95:((dk l j)++[Dr.nR (l.map itP) (az x27.2.2.1) k])=(dk l (j+1)):=by rw [hje];exact vp hbr hx28
      rw [et95] at H88 ⊢
      have H96:=Mem.pick H88 [2,3] (by decide) rfl
      refine ab ?_
      show _∧_
      go_roundw
      case rel=>exact ⟨(j+1),A90,c91,rfl,rfl,by omega,H96⟩
      case measure=>simp [intOf];omega
   ·have he97:=bJ (l:=l) (j:=j) (by omega)
    refine rv (aA (decide_eq_false p19)) ?_
    refine nt (K18 _ _ (cf (wp_exit (ai (ai (ax (ab (K11 _ _ (sk fun _ K98=>sk fun _ K99=>rl ?_)))))))))
    refine nt (K99 _ _ (wp_block ?_))
    have hje:j=l.length:=by omega
    subst hje
    have hdl:=q7 (xai l.length)
    go_loopw [10] (fun x10 wr=>∃ i:Nat,x10=.int .i64 (i:Int)∧(i≤l.length)∧(∀ y∈l.take i,¬ y.1=c)∧Mem w wr [aq (w.heap.size) 3 1 (.slice A (dk l l.length).length c9) ((dk l l.length)).length (((dk l l.length)).flatMap nb),cC (w.heap.size) 34 (bv c).toArray]) (fun x10 _=>l.length-(intOf x10).toNat)
    case atStart=>exact ⟨0,rfl,by omega,(fun y hy=>by simp at hy),H15⟩
    case round =>
     obtain ⟨wo100,rfl⟩:∃ wo100,wo100=wr:=⟨_,rfl⟩
     obtain ⟨i,rfl,hi,hni,H101⟩:=hrel
     refine sk fun _ K103=>sk fun _ K104=>rl ?_
     by_cases p105:(i:Int)<((l.length:Nat):Int)
     ·refine rv (aA (decide_eq_true p105)) ?_
      refine nt (K104 _ _ (ct (ks (K103 _ _ (sk fun _ K106=>wp_block (sk fun _ K107=>?_))))))
      obtain ⟨b108,o109,rfl,hlt111,hE110⟩:=hA (by omega)
      obtain ⟨x112,hx113⟩:=gx (l:=l) (j:=i)
      have hd114:=ay hx113
      obtain ⟨cs,hr115,ha116⟩:=hE110 (i) x112 hx113
      obtain ⟨v117,v118,rfl,xo119,xd120⟩:=dx.1 ha116
      obtain ⟨A121,c122,rfl,hlc122,hmc122,_,hA123⟩:=ak xd120.ins
      obtain ⟨A124,c125,rfl,hlc125,hmc125,_,hA126⟩:=ak xd120.rcp
      simp only [maxLen] at hmc122 hmc125
      refine Fre.aV (X:=Bel) [] (by kernel_rfl) (by kernel_rfl) (by simp) (by simp) (by simp) ?_
      refine Fre.rmd ?_
      refine Fre.mvv (fun _ _=>dy (i) Tryz.underlying40 cY) ?_
      refine Fre.mvv (v:=.pointer (some ⟨b108,o109+i*23,none⟩)) (fun _ _=>by kernel_rfl) ?_
      refine Fre.mvv (fun W9 hW9=>xld (cr (Mem.range (Mem.call H101 hW9) hr115 hlt111)) Tryz.underlying34 (cP xo119)) ?_
      refine Fre.mvv (fun W9 hW9=>xld (Blk.range (Mem.blk (Mem.call H101 hW9) 1 rfl)) Tryz.underlying34 (cP hc)) ?_
      by_cases p127:x112.1=c
      ·refine Fre.mvv (fun W9 _=>bX 34 34 (.tmp 59) (.tmp 60) rfl (bv x112.1).toArray (bv c).toArray rfl rfl (by kernel_rfl) _ W9 (by have h9:=cW (x112.1) (c) xo119 hc W9;rwa [show decide _=true from (decide_eq_true p127)] at h9)) ?_
       intro w128 hx130
       dsimp only [Fre.ended,xas]
       have H129:=Mem.call H101 hx130
       refine ab (K107 _ _ (ct (sk fun _ K131=>rl ?_)))
       obtain ⟨b132,rfl,hlt135⟩:=aE (Mem.own H129 0 rfl) (by omega)
       obtain ⟨x136,hx137⟩:=gx (l:=(dk l l.length)) (j:=i)
       have hd138:=ay hx137
       refine rv (aT (s:=1) (i) Tryz.underlying79 (by kernel_rfl)) ?_
       refine rv (xlc (range_cell (dO (f:=nb) (by decide) (Mem.own H129 0 rfl) (fun _ _=>rfl) hx137)) Tryz.underlying3) ?_
       refine nt (K131 _ _ (rt ?_))
       have hz:r9=x136:=hd.symm.trans ((vr hbr hx113 p127).trans ((congrArg (Dr.cE (l.map itP)) p127.symm).trans (uB hx113 hx137).symm))
       subst hz
       exact ⟨rfl,Mem.below H129⟩
      ·refine Fre.mvv (fun W9 _=>bX 34 34 (.tmp 59) (.tmp 60) rfl (bv x112.1).toArray (bv c).toArray rfl rfl (by kernel_rfl) _ W9 (by have h9:=cW (x112.1) (c) xo119 hc W9;rwa [show decide _=false from (decide_eq_false p127)] at h9)) ?_
       intro w139 hx141
       dsimp only [Fre.ended,xas]
       have H140:=Mem.call H101 hx141
       refine ab (K107 _ _ (cf ?_))
       refine wp_skip ?_
       refine al (ab (K106 _ _ (rl ?_)))
       refine rv (aL (((i+1:Nat):Int))) ?_
       refine wpList_nil ?_
       refine ab ?_
       show _∧_
       go_roundw
       case rel=>exact ⟨(i+1),rfl,by omega,tP hx113 hni p127,H140⟩
       case measure=>simp [intOf];omega
     ·have he142:=bJ (l:=l) (j:=i) (by omega)
      refine rv (aA (decide_eq_false p105)) ?_
      refine nt (K104 _ _ (cf (wp_exit (ai (ai (ax (ab (K98 _ _ (sk fun _ K143=>rl ?_)))))))))
      refine nt (K143 _ _ (rt ?_))
      have hni2:=hni
      rw [List.take_of_length_le (by omega)] at hni2
      have hz:=hd.symm.trans (sO hni2)
      subst hz
      exact ⟨rfl,Mem.below H101⟩
end Go.Proofs.YtomnhnmciopiiaaGreat
end
section
namespace Go.Proofs.YtomnhnmciopiiaaGreat
open Go Go.RowKit Go.Maps
attribute [local irreducible] wpList
theorem tz {l:List Itm} {c:Hsh} (h:Dr.bR (l.map itP)=false):dE l c=2∧cA l c=[]:=by
 unfold dE cA
 rw [h]
 exact ⟨rfl,rfl⟩
theorem jZ {l:List Itm} {c:Hsh}:(aX (de l) c).isSome=(db l c).isSome:=by
 cases h1:(db l c).isSome
 ·cases h2:(aX (de l) c).isSome
  ·rfl
  ·exfalso
   have h3:=gP h2
   rw [ju] at h3
   obtain ⟨x,hx,hxc⟩:=xav.1 h3
   have h5:db l c=none:=by
    cases h6:db l c with
    | none=>rfl
    | some _=>rw [h6] at h1;cases h1
   exact List.find?_eq_none.1 h5 x hx (decide_eq_true hxc)
 ·cases h2:(aX (de l) c).isSome
  ·exfalso
   obtain ⟨x,hx⟩:=Option.isSome_iff_exists.1 h1
   have h3:=List.find?_some hx
   have h4:=List.mem_of_find?_eq_some hx
   refine pk h2 ?_
   rw [ju]
   exact xav.2 ⟨x,h4,of_decide_eq_true h3⟩
  ·rfl
theorem wC {l:List Itm} {c:Hsh} (h:Dr.bR (l.map itP)=true) (hf:(db l c).isSome=false):dE l c=5∧cA l c=[]:=by
 unfold dE cA
 rw [if_pos h,if_pos h,jZ,hf]
 exact ⟨rfl,rfl⟩
theorem tA {l:List Itm} {c:Hsh} (h:Dr.bR (l.map itP)=true) (hf:(db l c).isSome=true):dE l c=0∧cA l c=Dr.bW (l.map itP) c:=by
 unfold dE cA
 rw [if_pos h,if_pos h,jZ,if_pos hf,if_pos hf]
 exact ⟨rfl,rfl⟩
theorem yg {l:List Itm} {c:Hsh} (hf:(db l c).isSome=true):c∈Dr.css (l.map itP):=gP (jZ.trans hf)
theorem vE {l:List Itm} {c:Hsh} {i:Nat} {all:List Hsh} {a:Hsh} (hg:Dr.kq (l.map itP) c i all) (ha:all[i]?=some a):∃ x,x∈l∧x.1=a∧findD l a=x.2∧(db l a).isSome=true:=by
 have h1:=jB (hg.sub a (xak ha))
 have h2:(db l a).isSome=true:=by
  rw [ju] at h1
  obtain ⟨x,hx,hxa⟩:=xav.1 h1
  cases h:db l a with
  | some _=>rfl
  | none=>exact absurd (decide_eq_true hxa) (List.find?_eq_none.1 h x hx)
 obtain ⟨x,hx⟩:=Option.isSome_iff_exists.1 h2
 have h3:=List.find?_some hx
 exact ⟨x,List.mem_of_find?_eq_some hx,of_decide_eq_true h3,nf hx,h2⟩
theorem ur (all:List Hsh) (c:Hsh) (b:Bool) (hb:decide (c∈all)=b):Dr.iO all c=if b=true then all else all++[c]:=by
 unfold Dr.iO
 cases b
 ·have:=of_decide_eq_false hb
  rw [if_neg this];rfl
 ·have:=of_decide_eq_true hb
  rw [if_pos this];rfl
theorem yc {l:List Itm} {k:Nat} {x:Itm} (all:List Hsh) (h:l[k]?=some x) (b:Bool) (hb:decide (x.1∈all)=b):((l.take (k+1)).map (·.1)).filter (fun z=>decide (z∈all))=if b=true then ((l.take k).map (·.1)).filter (fun z=>decide (z∈all))++[x.1] else ((l.take k).map (·.1)).filter (fun z=>decide (z∈all)):=by
 rw [xaz,h,List.map_append,List.filter_append]
 cases b
 ·simp [of_decide_eq_false hb]
 ·simp [of_decide_eq_true hb]
def gK (l:List Itm) (all:List Hsh) (k:Nat):List Hsh:=((l.take k).map (·.1)).filter (fun z=>decide (z∈all))
theorem yb (l:List Itm) (all:List Hsh) (k:Nat):(gK l all k).length≤k:=by
 have h1:=List.length_filter_le (fun z=>decide (z∈all)) ((l.take k).map (·.1))
 rw [xat,xaJ] at h1
 unfold gK
 omega
theorem o3 {l:List Itm} {k:Nat} {x:Itm} (all:List Hsh) (h:l[k]?=some x) (b:Bool) (hb:decide (x.1∈all)=b):gK l all (k+1)=if b=true then gK l all k++[x.1] else gK l all k:=yc all h b hb
theorem ya {l:List Itm} {all:List Hsh} {c:Hsh} (hr:Dr.bR (l.map itP)=true) (hg:Dr.kq (l.map itP) c all.length all):gK l all l.length=Dr.bW (l.map itP) c:=by
 have h:=Dr.vD ((Dr.dQ _).1 hr) hg
 rw [ju] at h
 unfold gK
 rw [xaB,← h]
 refine List.filter_congr fun x _=>?_
 exact lr _ _ _
theorem Mem.B0 {w0 w w2:World} {L:List Ent} {d:Drv} {v1 v2:Value} (h:Mem w0 w L) (hx:aK w w0.heap.size d v1 v2):aK w0 w0.heap.size d v1 v2 :=
 aK.alike hx fun _ hk=>(h.old hk).symm
theorem uv {all cs:List Hsh} (h:∀ z∈all,okH z) (hc:∀ z∈cs,okH z):∀ z∈Dr.bS all cs,okH z:=fun z hz=>by
 rcases Dr.eS.1 hz with hz | hz
 ·exact h z hz
 ·exact hc z hz
theorem qW (all:List Hsh):∀ cs:List Hsh,(Dr.bS all cs).length≤all.length+cs.length
 | []=>xai _
 | c :: cs=>by
  have h1:=qW (Dr.iO all c) cs
  have h2:(Dr.iO all c).length≤all.length+1:=by
   unfold Dr.iO
   split
   ·omega
   ·simp
  show (Dr.bS (Dr.iO all c) cs).length≤_
  rw [xaE]
  omega
theorem AB {c:Hsh} (hc:okH c):∀ z∈[c],okH z:=fun z hz=>by rw [xan.1 hz];exact hc
theorem uL {α:Type} {M:Lay α} {w0 w:World} {L:List Ent} {cs:List Value} {x:α} (h:Mem w0 w L) (hx:M.At w0 w0.heap.size cs x):M.At w w0.heap.size cs x:=M.alike hx h.alike
theorem Mem.jt {α:Type} {f:α→List Value} {l:List α} {w0 w:World} {L:List Ent} {g B s cap:Nat} {t:TypeId} {cs:Array Value} (h:Mem w0 w L) (i:Nat) (hi:L[i]?=some (cC g t cs)) (hcs:cs.toList=l.flatMap f) (hl:(l.flatMap f).length=cap*s) (hc:l.length=cap) (h24:cap≤maxLen) (hB:B=w0.heap.size:=by rfl) :
  Mem w0 w (L.set i (aq B t s (.slice (some ⟨g,0,none⟩) l.length cap) l.length (l.flatMap f))) :=
 h.kT i hi (cM _ _ _ _ _ _) ⟨by rw [hl,hc],.inr ⟨g,cap,cs,rfl,hB▸(h.from_ i hi rfl).1,h.blk i hi,by omega,h24,by rw [← xbh,hcs,hl],by rw [hcs,hc,List.take_of_length_le (by omega)]⟩⟩ fun b hb=>by
  have e:some g=some b:=hb
  injection e with e
  exact e.symm
theorem tQ (w:World) (l:List Itm) (v:Value) (h:eJ.At w w.heap.size [v] l) (hl:∀ x∈l,x.2.2.1.length≤1000000) (hlen:l.length≤1000000) (c:Hsh) (hc:okH c) :
  Calls Tryz.prog 34 #[v,.agg (bv c).toArray] w fun e w'=>∃ A cap,e=.returned (.tuple #[.slice A (cA l c).length cap,.int .i64 (dE l c)])∧Mem w w' [aq w.heap.size 34 20 (.slice A (cA l c).length cap) (cA l c).length ((cA l c).flatMap bv)]:=by
 obtain ⟨A0,cap,rfl,_,hcm,_,hA⟩:=ak h
 simp only [maxLen] at hcm
 have H0:=Mem.start w
 go_enter Tryz.func34,Tryz.ntmps34
 refine sk fun _ K1=>rl ?_
 refine bx 34 (bv c) fun w2 hn_=>?_
 have H3:=Mem.bh H0 hn_
 refine rn ?_
 refine nt (K1 _ _ (sk fun _ K4=>sk fun _ K5=>rl ?_))
 obtain ⟨br,hbr⟩:∃ b,Dr.bR (l.map itP)=b:=⟨_,rfl⟩
 refine ac (kf w2 l _ (Mem.lay H3 h) hl hlen br hbr) ?_
 rintro e w6 ⟨rfl,hb8⟩
 refine ⟨_,rfl,rn ?_⟩
 have H7:=Mem.call H3 hb8
 cases br
 ·refine rn ?_
  refine nt (K5 _ _ (ct (sk fun _ K9=>rl ?_)))
  refine nt (K9 _ _ ?_)
  refine wp_ret ?_
  simp only [Exit.then]
  refine bodyPost_ret (cB (r1:=.tmp 4) (r2:=.tmp 5) rfl ⟨rfl,rfl,trivial⟩) rfl ?_
  obtain ⟨e1,e2⟩:=tz (c:=c) hbr
  rw [e1,e2]
  exact ⟨_,_,rfl,Mem.pick (Mem.dw H7 _ _ _) [0] (by decide) rfl⟩
 ·refine rn ?_
  refine nt (K5 _ _ (cf (ks (K4 _ _ (sk fun _ K10=>rl ?_)))))
  refine rv (xld (Blk.range (Mem.blk H7 0 rfl)) Tryz.underlying34 (cP hc)) ?_
  obtain ⟨bf,hbf⟩:∃ b,(db l c).isSome=b:=⟨_,rfl⟩
  obtain ⟨d13,hd13⟩:∃ d,findD l c=d:=⟨_,rfl⟩
  refine ac (y9 w6 w.heap.size (Mem.below H7).size l _ (uL H7 h) c hc d13 hd13 bf hbf) ?_
  rintro e w15 ⟨u11,u12,rfl,xd14,hb17⟩
  refine ⟨_,rfl,rn ?_⟩
  have H16:=Mem.call H7 hb17
  have xd14:=Mem.B0 (w2:=w) H7 xd14
  refine rn ?_
  refine nz 26 zcD fun w18 hn_=>?_
  have H19:=Mem.bh H16 hn_
  refine rn ?_
  refine stb (Mem.blk H19 0 rfl) (dF d13 u11 u12) (dr fX (dF d13 u11 u12)) (lq d13 (aK.iy xd14).1 (aK.iy xd14).2) fun w20 hk_ hg_=>?_
  have H21:=Mem.st H19 0 rfl hk_ hg_
  refine rn ?_
  refine nt (K10 _ _ (sk fun _ K22=>sk fun _ K23=>rl ?_))
  refine rv uo ?_
  refine nt (K23 _ _ ?_)
  cases bf
  ·refine ct (sk fun _ K24=>rl ?_)
   refine nt (K24 _ _ ?_)
   refine wp_ret ?_
   simp only [Exit.then]
   refine bodyPost_ret (cB (r1:=.tmp 4) (r2:=.tmp 5) rfl ⟨rfl,rfl,trivial⟩) rfl ?_
   obtain ⟨e1,e2⟩:=wC hbr hbf
   rw [e1,e2]
   exact ⟨_,_,rfl,Mem.pick (Mem.dw H21 _ _ _) [0] (by decide) rfl⟩
  ·refine cf (ks (K22 _ _ (sk fun _ K25=>rl ?_)))
   refine rv (xld (Blk.range (Mem.blk H21 1 rfl)) Tryz.underlying34 (cP hc)) ?_
   refine aG rfl 27 (.tmp 27) rfl 34 20 (.agg zcH) (.agg (bv c).toArray) rfl Tryz.underlying27 cK (by decide) (by decide) (fun w=>by kernel_rfl) (by rw [Value.cells,xal,bvL];exact hc) ?_
   intro w26 hn
   have H27:=Mem.bh H21 hn
   clear hn
   refine rn ?_
   refine nt (K25 _ _ (sk fun _ K28=>sk fun _ K29=>rl ?_))
   refine nt (K29 _ _ (wp_block ?_))
   have H30:=Mem.jt H27 0 rfl (f:=bv) (l:=[c]) (B:=w.heap.size) (t:=34) (s:=20) (cap:=1) (by simp [Value.cells]) (by simp [bvL,show c.length=20 from hc]) rfl (by decide)
   have H31:=Mem.pick H30 [0,2] (by decide) rfl
   go_loopw [8,9] (fun x8 x9 wr=>∃ i:Nat,∃ all:List Hsh,∃ A:Option Addr,∃ c9:Nat,x8=.slice A all.length c9∧x9=.int .i64 (i:Int)∧(i≤all.length)∧(∀ z∈all,okH z)∧(Dr.kq (l.map itP) c i all)∧Mem w wr [aq (w.heap.size) 34 20 (.slice A all.length c9) (all).length ((all).flatMap bv),cC (w.heap.size) 34 (bv c).toArray]) (fun x8 x9 _=>l.length+1-(intOf x9).toNat)
   case atStart=>exact ⟨0,([c]),((some ⟨w20.heap.size,0,none⟩)),1,rfl,rfl,by omega,(AB hc),Dr.s0 ((Dr.dQ _).1 hbr) (yg hbf),H31⟩
   case round =>
    obtain ⟨wo32,rfl⟩:∃ wo32,wo32=wr:=⟨_,rfl⟩
    obtain ⟨i,all,A,c9,rfl,rfl,hi,hall,hg,H33⟩:=hrel
    have hgl:=Dr.qg hg
    rw [xat] at hgl
    refine sk fun _ K35=>sk fun _ K36=>rl ?_
    by_cases p37:(i:Int)<((all.length:Nat):Int)
    ·refine rv (aA (decide_eq_true p37)) ?_
     refine nt (K36 _ _ (ct (ks (K35 _ _ (sk fun _ K38=>wp_block (sk fun _ K39=>rl ?_))))))
     obtain ⟨b40,rfl,hlt43⟩:=aE (Mem.own H33 0 rfl) (by omega)
     obtain ⟨x44,hx45⟩:=gx (l:=all) (j:=i)
     have hd46:=ay hx45
     have ok47:=hall _ (xak hx45)
     refine rv (aT (i) Tryz.underlying27 cK) ?_
     refine rv (xld (dO (f:=bv) (by decide) (Mem.own H33 0 rfl) (fun z hz=>by rw [bvL];exact hall z hz) hx45) Tryz.underlying34 (cP ok47)) ?_
     obtain ⟨x48,hx49,hxa50,hfd51,hfi52⟩:=vE hg hx45
     have hcs:(az x48.2.2.1).length≤1000000:=by have h1:=dZ x48.2.2.1 x48.2.2.1.length;rw [xaB] at h1;have h2:=hl _ hx49;omega
     refine ac (y9 wo32 w.heap.size (Mem.below H33).size l _ (uL H33 h) x44 ok47 x48.2 hfd51 true hfi52) ?_
     rintro e w56 ⟨u53,u54,rfl,xd55,hb58⟩
     refine ⟨_,rfl,rn ?_⟩
     have H57:=Mem.call H33 hb58
     have xd55:=Mem.B0 (w2:=w) H33 xd55
     refine rn ?_
     refine nz 26 zcD fun w59 hn_=>?_
     have H60:=Mem.bh H57 hn_
     refine rn ?_
     refine stb (Mem.blk H60 0 rfl) (dF x48.2 u53 u54) (dr fX (dF x48.2 u53 u54)) (lq x48.2 (aK.iy xd55).1 (aK.iy xd55).2) fun w61 hk_ hg_=>?_
     have H62:=Mem.st H60 0 rfl hk_ hg_
     refine rn ?_
     refine nt (K39 _ _ (sk fun _ K63=>rl ?_))
     refine rv (xld (Blk.range (Mem.blk H62 0 rfl)) Tryz.underlying26 (bL x48.2 u53 u54)) ?_
     refine ac (eK w61 x48.2 _ _ (Mem.drv H62 xd55) (hl _ hx49)) ?_
     rintro e w68 ⟨A64,c65,rfl,hm66⟩
     refine ⟨_,rfl,rn ?_⟩
     have H69:=Mem.seq H62 hm66
     refine rn ?_
     refine nt (K63 _ _ (sk fun _ K71=>rl ?_))
     refine nt (K71 _ _ (wp_block ?_))
     have H72:=Mem.pick H69 [2,0,3] (by decide) rfl
     go_loopw [8,13] (fun x8 x13 wr=>∃ k:Nat,∃ A2:Option Addr,∃ c2:Nat,x8=.slice A2 (Dr.bS all ((az x48.2.2.1).take k)).length c2∧x13=.int .i64 (k:Int)∧(k≤(az x48.2.2.1).length)∧Mem w wr [aq (w.heap.size) 34 20 (.slice A2 (Dr.bS all ((az x48.2.2.1).take k)).length c2) ((Dr.bS all ((az x48.2.2.1).take k))).length (((Dr.bS all ((az x48.2.2.1).take k))).flatMap bv),aq (w61.heap.size) 34 20 (.slice A64 (az x48.2.2.1).length c65) ((az x48.2.2.1)).length (((az x48.2.2.1)).flatMap bv),cC (w.heap.size) 34 (bv c).toArray]) (fun x8 x13 _=>(az x48.2.2.1).length-(intOf x13).toNat)
     case atStart=>exact ⟨0,((some ⟨b40,0,none⟩)),c9,rfl,rfl,by omega,H72⟩
     case round =>
      obtain ⟨wo73,rfl⟩:∃ wo73,wo73=wr:=⟨_,rfl⟩
      obtain ⟨k,A2,c2,rfl,rfl,hk,H74⟩:=hrel
      have hal:=qW all ((az x48.2.2.1).take k)
      rw [xaJ] at hal
      refine sk fun _ K76=>sk fun _ K77=>rl ?_
      by_cases p78:(k:Int)<(((az x48.2.2.1).length:Nat):Int)
      ·refine rv (aA (decide_eq_true p78)) ?_
       refine nt (K77 _ _ (ct (ks (K76 _ _ (sk fun _ K79=>wp_block (sk fun _ K80=>rl ?_))))))
       obtain ⟨b81,rfl,hlt84⟩:=aE (Mem.own H74 1 rfl) (by omega)
       obtain ⟨x85,hx86⟩:=gx (l:=(az x48.2.2.1)) (j:=k)
       have hd87:=ay hx86
       have ok88:=(fB xd55) _ (xak hx86)
       refine rv (aT (k) Tryz.underlying27 cK) ?_
       refine rv (xld (dO (f:=bv) (by decide) (Mem.own H74 1 rfl) (fun z hz=>by rw [bvL];exact (fB xd55) z hz) hx86) Tryz.underlying34 (cP ok88)) ?_
       obtain ⟨ba,hba⟩:∃ b,decide (x85∈(Dr.bS all ((az x48.2.2.1).take k)))=b:=⟨_,rfl⟩
       refine ac (fm wo73 ((Dr.bS all ((az x48.2.2.1).take k))) _ (ji (Mem.own H74 0 rfl) (uv hall (fun z hz=>(fB xd55) z (List.mem_of_mem_take hz)))) x85 ok88 ba hba) ?_
       rintro e w89 ⟨rfl,hb91⟩
       refine ⟨_,rfl,rn ?_⟩
       have H90:=Mem.call H74 hb91
       cases ba
       ·refine rn ?_
        refine nt (K80 _ _ (ct (rl ?_)))
        refine rv (aT (k) Tryz.underlying27 cK) ?_
        refine rv (xld (dO (f:=bv) (by decide) (Mem.own H90 1 rfl) (fun z hz=>by rw [bvL];exact (fB xd55) z hz) hx86) Tryz.underlying34 (cP ok88)) ?_
        refine aG rfl 27 (.tmp 63) rfl 34 20 (.agg zcH) (.agg (bv x85).toArray) rfl Tryz.underlying27 cK (by decide) (by decide) (fun w=>by kernel_rfl) (by rw [Value.cells,xal,bvL];exact ok88) ?_
        intro w92 hn
        have H93:=Mem.bh H90 hn
        clear hn
        refine rn ?_
        obtain ⟨inm34,iq34,ir34,is34,it34⟩:=info_parts dM
        refine aD rfl _ _ 27 rfl (w.heap.size) 34 _ _ 20 20 Tryz.underlying27 iq34 ir34 is34 it34 rfl (by decide) (.slice A2 (Dr.bS all ((az x48.2.2.1).take k)).length c2) (((Dr.bS all ((az x48.2.2.1).take k))).length) (((Dr.bS all ((az x48.2.2.1).take k))).flatMap bv) (Mem.own H93 1 rfl) ((some ⟨w89.heap.size,0,none⟩)) (1) (1) (bv x85) (bl (n:=20) (m:=1) (Mem.blk H93 0 rfl) (by rw [bvL];exact ok88) (bv1 _)) ?hmt94 ?hbt94 ?hzt94 rfl rfl ?_
        case hmt94=>simp only [maxLen];omega
        case hbt94=>omega
        case hzt94=>exact (Mem.below H93).size
        intro u97 w95 ow100 gr101 hp102
        refine rn ?_
        have ow100:w95.ownsRow (w.heap.size) 34 20 u97 ((Dr.bS all ((az x48.2.2.1).take k))++[x85]).length (((Dr.bS all ((az x48.2.2.1).take k))++[x85]).flatMap bv):=by first | simpa using ow100 | (simp at ow100 ⊢;exact ow100)
        obtain ⟨A98,c99,rfl⟩:=aI ow100
        have H96:=Mem.app H93 1 rfl ow100 gr101 hp102
        clear ow100 gr101 hp102
        refine rn ?_
        refine wpList_nil ?_
        refine al (ab (K79 _ _ (rl ?_)))
        refine rv (aL (((k+1:Nat):Int))) ?_
        refine wpList_nil ?_
        have et103:((Dr.bS all ((az x48.2.2.1).take k))++[x85])=(Dr.bS all ((az x48.2.2.1).take (k+1))):=by rw [Dr.lS hx86,ur _ _ false hba];rfl
        rw [et103] at H96 ⊢
        have H104:=Mem.pick H96 [1,2,3] (by decide) rfl
        refine ab ?_
        show _∧_
        go_roundw
        case rel=>exact ⟨(k+1),A98,c99,rfl,rfl,by omega,H104⟩
        case measure=>simp [intOf];omega
       ·refine rn ?_
        refine nt (K80 _ _ (cf ?_))
        refine wp_skip ?_
        refine al (ab (K79 _ _ (rl ?_)))
        refine rv (aL (((k+1:Nat):Int))) ?_
        refine wpList_nil ?_
        have et105:(Dr.bS all ((az x48.2.2.1).take k))=(Dr.bS all ((az x48.2.2.1).take (k+1))):=by rw [Dr.lS hx86,ur _ _ true hba];rfl
        rw [et105] at H90 ⊢
        refine ab ?_
        show _∧_
        go_roundw
        case rel=>exact ⟨(k+1),A2,c2,rfl,rfl,by omega,H90⟩
        case measure=>simp [intOf];omega
      ·have he106:=bJ (l:=(az x48.2.2.1)) (j:=k) (by omega)
       refine rv (aA (decide_eq_false p78)) ?_
       refine nt (K77 _ _ (cf (wp_exit (ai (ai (ax (al (ab (K38 _ _ (rl ?_))))))))))
       refine rv (aL (((i+1:Nat):Int))) ?_
       refine wpList_nil ?_
       have hke:k=(az x48.2.2.1).length:=by omega
       have et107:(Dr.bS all ((az x48.2.2.1).take k))=(Dr.bS all (az x48.2.2.1)):=by rw [hke,xaB]
       rw [et107] at H74 ⊢
       have hgn:=Dr.vF ((Dr.dQ _).1 hbr) hg hx45 (x:=itP x48) (xav.2 ⟨_,hx49,rfl⟩) hxa50
       have hgnl:=Dr.qg hgn
       rw [xat] at hgnl
       have hil:i+1≤(Dr.bS all (az x48.2.2.1)).length:=by obtain ⟨t,ht⟩:=Dr.jT (az x48.2.2.1) all;rw [ht,xap];omega
       have H108:=Mem.pick H74 [0,2] (by decide) rfl
       refine ab ?_
       show _∧_
       go_roundw
       case rel=>exact ⟨(i+1),((Dr.bS all (az x48.2.2.1))),A2,c2,rfl,rfl,by omega,(uv hall (fB xd55)),hgn,H108⟩
       case measure=>simp [intOf];omega
    ·have he109:=bJ (l:=all) (j:=i) (by omega)
     refine rv (aA (decide_eq_false p37)) ?_
     refine nt (K36 _ _ (cf (wp_exit (ai (ai (ax (ab (K28 _ _ (sk fun _ K110=>rl ?_)))))))))
     refine nt (K110 _ _ (sk fun _ K111=>sk fun _ K112=>rl ?_))
     refine nt (K112 _ _ (wp_block ?_))
     have hie:i=all.length:=by omega
     have hg2:=hg
     rw [hie] at hg2
     have hgl2:=Dr.qg hg2
     rw [xat] at hgl2
     have H113:=Mem.dw H33 w.heap.size 34 20
     go_loopw [14,15] (fun x14 x15 wr=>∃ j:Nat,∃ A3:Option Addr,∃ c3:Nat,x14=.slice A3 (gK l all j).length c3∧x15=.int .i64 (j:Int)∧(j≤l.length)∧Mem w wr [aq (w.heap.size) 34 20 (.slice A3 (gK l all j).length c3) ((gK l all j)).length (((gK l all j)).flatMap bv),aq (w.heap.size) 34 20 (.slice A all.length c9) (all).length ((all).flatMap bv),cC (w.heap.size) 34 (bv c).toArray]) (fun x14 x15 _=>l.length-(intOf x15).toNat)
     case atStart=>exact ⟨0,none,0,rfl,rfl,by omega,H113⟩
     case round =>
      obtain ⟨wo114,rfl⟩:∃ wo114,wo114=wr:=⟨_,rfl⟩
      obtain ⟨j,A3,c3,rfl,rfl,hj,H115⟩:=hrel
      have hfl:=yb l all j
      refine sk fun _ K117=>sk fun _ K118=>rl ?_
      by_cases p119:(j:Int)<((l.length:Nat):Int)
      ·refine rv (aA (decide_eq_true p119)) ?_
       refine nt (K118 _ _ (ct (ks (K117 _ _ (sk fun _ K120=>wp_block (sk fun _ K121=>rl ?_))))))
       obtain ⟨b122,o123,rfl,hlt125,hE124⟩:=hA (by omega)
       obtain ⟨x126,hx127⟩:=gx (l:=l) (j:=j)
       have hd128:=ay hx127
       obtain ⟨cs,hr129,ha130⟩:=hE124 (j) x126 hx127
       obtain ⟨v131,v132,rfl,xo133,xd134⟩:=dx.1 ha130
       obtain ⟨A135,c136,rfl,hlc136,hmc136,_,hA137⟩:=ak xd134.ins
       obtain ⟨A138,c139,rfl,hlc139,hmc139,_,hA140⟩:=ak xd134.rcp
       simp only [maxLen] at hmc136 hmc139
       refine rv (dy (j) Tryz.underlying40 cY) ?_
       refine rp b122 (o123+j*23) ?_
       refine rv (xld (cr (Mem.range H115 hr129 hlt125)) Tryz.underlying34 (cP xo133)) ?_
       obtain ⟨bo,hbo⟩:∃ b,decide (x126.1∈all)=b:=⟨_,rfl⟩
       refine ac (fm wo114 (all) _ (ji (Mem.own H115 1 rfl) hall) x126.1 xo133 bo hbo) ?_
       rintro e w141 ⟨rfl,hb143⟩
       refine ⟨_,rfl,rn ?_⟩
       have H142:=Mem.call H115 hb143
       cases bo
       ·refine nt (K121 _ _ (cf ?_))
        refine wp_skip ?_
        refine al (ab (K120 _ _ (rl ?_)))
        refine rv (aL (((j+1:Nat):Int))) ?_
        refine wpList_nil ?_
        have et144:(gK l all j)=(gK l all (j+1)):=by rw [o3 all hx127 false hbo];rfl
        rw [et144] at H142 ⊢
        refine ab ?_
        show _∧_
        go_roundw
        case rel=>exact ⟨(j+1),A3,c3,rfl,rfl,by omega,H142⟩
        case measure=>simp [intOf];omega
       ·refine nt (K121 _ _ (ct (rl ?_)))
        refine rv (dy (j) Tryz.underlying40 cY) ?_
        refine rp b122 (o123+j*23) ?_
        refine rv (xld (cr (Mem.range H142 hr129 hlt125)) Tryz.underlying34 (cP xo133)) ?_
        refine aG rfl 27 (.tmp 84) rfl 34 20 (.agg zcH) (.agg (bv x126.1).toArray) rfl Tryz.underlying27 cK (by decide) (by decide) (fun w=>by kernel_rfl) (by rw [Value.cells,xal,bvL];exact xo133) ?_
        intro w145 hn
        have H146:=Mem.bh H142 hn
        clear hn
        refine rn ?_
        obtain ⟨inm34,iq34,ir34,is34,it34⟩:=info_parts dM
        refine aD rfl _ _ 27 rfl (w.heap.size) 34 _ _ 20 20 Tryz.underlying27 iq34 ir34 is34 it34 rfl (by decide) (.slice A3 (gK l all j).length c3) (((gK l all j)).length) (((gK l all j)).flatMap bv) (Mem.own H146 1 rfl) ((some ⟨w141.heap.size,0,none⟩)) (1) (1) (bv x126.1) (bl (n:=20) (m:=1) (Mem.blk H146 0 rfl) (by rw [bvL];exact xo133) (bv1 _)) ?hmt147 ?hbt147 ?hzt147 rfl rfl ?_
        case hmt147=>simp only [maxLen];omega
        case hbt147=>omega
        case hzt147=>exact (Mem.below H146).size
        intro u150 w148 ow153 gr154 hp155
        refine rn ?_
        have ow153:w148.ownsRow (w.heap.size) 34 20 u150 ((gK l all j)++[x126.1]).length (((gK l all j)++[x126.1]).flatMap bv):=by first | simpa using ow153 | (simp at ow153 ⊢;exact ow153)
        obtain ⟨A151,c152,rfl⟩:=aI ow153
        have H149:=Mem.app H146 1 rfl ow153 gr154 hp155
        clear ow153 gr154 hp155
        refine rn ?_
        refine wpList_nil ?_
        refine al (ab (K120 _ _ (rl ?_)))
        refine rv (aL (((j+1:Nat):Int))) ?_
        refine wpList_nil ?_
        have et156:((gK l all j)++[x126.1])=(gK l all (j+1)):=by rw [o3 all hx127 true hbo];rfl
        rw [et156] at H149 ⊢
        have H157:=Mem.pick H149 [1,2,3] (by decide) rfl
        refine ab ?_
        show _∧_
        go_roundw
        case rel=>exact ⟨(j+1),A151,c152,rfl,rfl,by omega,H157⟩
        case measure=>simp [intOf];omega
      ·have he158:=bJ (l:=l) (j:=j) (by omega)
       refine rv (aA (decide_eq_false p119)) ?_
       refine nt (K118 _ _ (cf (wp_exit (ai (ai (ax (ab (K111 _ _ (sk fun _ K159=>rl ?_)))))))))
       refine nt (K159 _ _ ?_)
       refine wp_ret ?_
       refine bodyPost_ret (cB (r1:=.tmp 4) (r2:=.tmp 5) rfl ⟨rfl,rfl,trivial⟩) rfl ?_
       have hje:j=l.length:=by omega
       obtain ⟨e1,e2⟩:=tA hbr hbf
       have e3:=ya hbr hg2
       rw [← hje] at e3
       rw [e1,e2,← e3]
       exact ⟨_,_,rfl,(Mem.pick H115 [0] (by decide) rfl)⟩
end Go.Proofs.YtomnhnmciopiiaaGreat
end
section
namespace Go.Proofs.YtomnhnmciopiiaaGreat
open Go Go.RowKit Go.Maps
theorem wU:(Tryz.prog.info? 98).map (fun i=>(i.zero,i.size,i.bytes))=some (some (.agg zcT),23,88):=by kernel_rfl
theorem Cc (x:Itm) {v1 v2:Value} (h1:v1.oneCell'=true) (h2:v2.oneCell'=true):∀ u∈tC x v1 v2,u.oneCell'=true:=fun u hu=>by
 have h:=iD x h1 h2
 exact h u hu
theorem zj {w:World} {ls:List b4} {p:b4} (h:∀ q∈ls,okH q.1.1∧aK w w.heap.size q.1.2 q.2.1 q.2.2) (hp:okH p.1.1∧aK w w.heap.size p.1.2 p.2.1 p.2.2):∀ q∈ls++[p],okH q.1.1∧aK w w.heap.size q.1.2 q.2.1 q.2.2:=fun q hq=>by
 rcases xau.1 hq with hq | hq
 ·exact h q hq
 ·rw [xan.1 hq];exact hp
section
variable {hof:Drv→Hsh} {l:List Itm} {d:Drv}
end
end Go.Proofs.YtomnhnmciopiiaaGreat
end
section
namespace Go.Proofs.YtomnhnmciopiiaaGreat
open Go Go.RowKit Go.Maps
attribute [local irreducible] wpList
theorem vw {ρ:Operand→Value} {o:Oper} (x y:Operand) (ho:o.op=.build 98 #[(0,x),(1,y)]) {c:Hsh} {d:Drv} {v1 v2:Value} (hc:okH c) (hx:ρ x=.agg (bv c).toArray) (hy:ρ y=.agg (dC d v1 v2).toArray) (W:World) :
  (execOp ρ o).run Tryz.prog W=.ok (.value (.agg (tC (c,d) v1 v2).toArray)) W:=by
 have h:=ep (P:=Tryz.prog) (ρ:=ρ) (o:=o) 98 x y ho (n1:=20) (n2:=3) (z:=.agg zcT) hx hy Tryz.underlying98 (fun w=>by kernel_rfl) (by kernel_rfl) (fun w=>by kernel_rfl) (by rw [Value.cells,xal,bvL];exact hc) rfl W
 rw [h]
 simp [Value.cells,tC]
end Go.Proofs.YtomnhnmciopiiaaGreat
end
section
namespace Go.Proofs.YtomnhnmciopiiaaGreat
open Go Go.RowKit Go.Maps
attribute [local irreducible] wpList
def dV9 (p:b4):List Value:=dC p.1.2 p.2.1 p.2.2
theorem oe {α:Type} {l:List α} {k:Nat} {x:α} (h:l[k]?=some x):l.take k++[x]=l.take (k+1):=by rw [xaz,h];rfl
end Go.Proofs.YtomnhnmciopiiaaGreat
end
section
namespace Go.Proofs.YtomnhnmciopiiaaGreat
open Go Go.RowKit Go.Maps
attribute [local irreducible] wpList
theorem Au {ls:List b4} {l:List Itm} (e:ls.map (·.1)=l) {j:Nat} {p:b4} {x:Itm} (hp:ls[j]?=some p) (hx:l[j]?=some x):p.1=x:=by
 rw [← e,xaD,hp] at hx
 exact xao hx
theorem vS (w:World) (d d2:Drv) (e:d2=d) (u1 u2 v1 v2:Value) (B:Nat) (hx9:cO w B d2 u1 u2) (h:aK w w.heap.size d v1 v2) (hl1:d.2.1.length≤1000000) (hl2:d.2.2.length≤1000000) :
  Calls Tryz.prog 23 #[.agg (dC d2 u1 u2).toArray,.agg (dC d v1 v2).toArray] w fun e w'=>e=.returned (.bool true)∧Below w.heap.size w w':=by
 subst e
 exact rF w d2 u1 u2 v1 v2 B hx9 h hl1 hl2
theorem cO.old {w0 w:World} {L:List Ent} {B:Nat} {d:Drv} {u1 u2:Value} (h:cO w0 B d u1 u2) (m:Mem w0 w L):cO w B d u1 u2:=h.vR fun b _ hl=>m.below.block b hl
end Go.Proofs.YtomnhnmciopiiaaGreat
end
section
namespace Go.Proofs.YtomnhnmciopiiaaGreat
open Go Go.RowKit Go.Maps
attribute [local irreducible] wpList
theorem su {α:Type} {w:World} {s n c:Nat} {A:Option Addr} {f:α→List Value} {p:α} (h:fY w s A n c (f p)):fY w s A n c ([p].flatMap f):=by
 rw [List.flatMap_singleton]
 exact h
def xx (B:Nat) (x:Itm) (v1 v2:Value) (u:Value) (w:World):Prop:=∃ r:Nat,u=.slice (some ⟨r,0,none⟩) 1 1∧B≤r∧Blk w r 98 (tC x v1 v2).toArray
theorem zl (B:Nat) (x:Itm) (v1 v2:Value):Fre.eC Bel (xx B x v1 v2):=⟨fun _ _ _ ⟨r,h1,h0,h2⟩ hx=>⟨r,h1,h0,h2.below hx h2.lt⟩⟩
theorem wY {ρ:Operand→Value} {o:Oper} (x:Operand) (ho:o.op=.buildSlice 40 1 #[(0,x)]) (B:Nat) {y:Itm} {v1 v2:Value} (hy:okH y.1) {W:World} (hx:ρ x=.agg (tC y v1 v2).toArray) (hB:B≤W.heap.size):∃ u' w',(execOp ρ o).run Tryz.prog W=.ok (.value u') w'∧Fre.Ext Bel W w'∧xx B y v1 v2 u' w':=by
 have hb:Below W.heap.size W (W.alloc (.cells (tC y v1 v2).toArray 98)):=(xaq _ W).alloc (xai _) _
 exact ⟨_,_,bO (v:=.agg (tC y v1 v2).toArray) 40 x ho hx Tryz.underlying40 (e:=98) (n:=23) cY (by omega) (by omega) (z:=.agg zcT) (fun w=>by kernel_rfl) (by rw [Value.cells,xal];exact dh hy) W,hb,_,rfl,hB,Blk.new _ _ _⟩
theorem pt {os:List b4} {l:List Itm} {k:Nat} {x:Itm} {p:b4} (h:os.map (·.1)=l.take k) (hx:l[k]?=some x) (e:p.1=x):(os++[p]).map (·.1)=l.take (k+1):=by
 rw [List.map_append,h,xaz,hx]
 subst e
 rfl
theorem yw {w:World} {B:Nat} {d:Drv} {u1 u2:Value} (h:cO w B d u1 u2) {b:Nat} (hf:(ldE B d u1 u2).F b):B≤b∧b<w.heap.size:=by
 obtain ⟨A,c,rfl,h1⟩:=h.zf
 obtain ⟨A2,c2,rfl,h2⟩:=h.zg
 rcases hf with hf | hf
 ·exact aB h1 ((jh ..).trans hf)
 ·exact aB h2 ((jh ..).trans hf)
def LdU (B:Nat) (d:Drv) (u:Value) (w:World):Prop:=∃ p:Value×Value,u=.agg (dC d p.1 p.2).toArray∧cO w B d p.1 p.2
def zD (B:Nat) (x:Itm) (u:Value) (w:World):Prop:=∃ p:Value×Value,u=.agg (tC x p.1 p.2).toArray∧cO w B x.2 p.1 p.2
def xt (B:Nat) (x:Itm) (u:Value) (w:World):Prop:=∃ (r:Nat) (p:Value×Value),u=.slice (some ⟨r,0,none⟩) 1 1∧B≤r∧Blk w r 59 (tC x p.1 p.2).toArray∧cO w B x.2 p.1 p.2
theorem cO.xG {w w':World} {B:Nat} {d:Drv} {u1 u2:Value} (h:cO w B d u1 u2) (hb:Below w.heap.size w w'):cO w' B d u1 u2:=h.vR fun b _ hl=>hb.block b hl
theorem cO.iy {w:World} {B:Nat} {d:Drv} {u1 u2:Value} (h:cO w B d u1 u2):u1.oneCell'=true∧u2.oneCell'=true:=(h.at_ (xai _)).iy
theorem cO.lower {w:World} {B B':Nat} {d:Drv} {u1 u2:Value} (h:cO w B d u1 u2) (hB:B'≤B):cO w B' d u1 u2:=h.base fun b hf=>xay hB (yw h hf).1
theorem BE (B:Nat) (d:Drv):Fre.eC Bel (LdU B d):=⟨fun _ _ _ ⟨p,h1,h2⟩ hx=>⟨p,h1,h2.xG hx⟩⟩
theorem As (B:Nat) (x:Itm):Fre.eC Bel (zD B x):=⟨fun _ _ _ ⟨p,h1,h2⟩ hx=>⟨p,h1,h2.xG hx⟩⟩
theorem yC (B:Nat) (x:Itm):Fre.eC Bel (xt B x):=⟨fun _ _ _ ⟨r,p,h1,h0,h2,h3⟩ hx=>⟨r,p,h1,h0,h2.below hx h2.lt,h3.xG hx⟩⟩
theorem yA {ρ:Operand→Value} {o:Oper} (x y:Operand) (ho:o.op=.build 59 #[(0,x),(1,y)]) (B:Nat) {z:Itm} (hc:okH z.1) {u:Value} {W:World} (h1:ρ x=.agg (bv z.1).toArray) (h2:ρ y=u) (hu:LdU B z.2 u W):∃ u' w',(execOp ρ o).run Tryz.prog W=.ok (.value u') w'∧Fre.Ext Bel W w'∧zD B z u' w':=by
 obtain ⟨p,rfl,hp⟩:=hu
 refine ⟨.agg (tC z p.1 p.2).toArray,W,?_,xaq _ _,p,rfl,hp⟩
 refine Eq.trans (ep 59 x y ho (n1:=20) (n2:=3) (z:=.agg zcT) h1 h2 Tryz.underlying59 (fun w=>by kernel_rfl) (by kernel_rfl) (fun w=>by kernel_rfl) (by rw [Value.cells,xal,bvL];exact hc) (by rfl) W) ?_
 simp [Value.cells,tC]
theorem v7 {ρ:Operand→Value} {o:Oper} (x:Operand) (ho:o.op=.buildSlice 22 1 #[(0,x)]) (B:Nat) {y:Itm} (hy:okH y.1) {u:Value} {W:World} (hx:ρ x=u) (hu:zD B y u W) (hB:B≤W.heap.size):∃ u' w',(execOp ρ o).run Tryz.prog W=.ok (.value u') w'∧Fre.Ext Bel W w'∧xt B y u' w':=by
 obtain ⟨p,rfl,hp⟩:=hu
 have hb:Below W.heap.size W (W.alloc (.cells (tC y p.1 p.2).toArray 59)):=(xaq _ W).alloc (xai _) _
 exact ⟨_,_,bO (v:=.agg (tC y p.1 p.2).toArray) 22 x ho hx Tryz.underlying22 (e:=59) (n:=23) cI (by omega) (by omega) (z:=.agg zcT) (fun w=>by kernel_rfl) (by rw [Value.cells,xal];exact dh hy) W,hb,_,p,rfl,hB,Blk.new _ _ _,hp.xG hb⟩
def ldV (B:Nat) (p:b4):Ent:=ldE B p.1.2 p.2.1 p.2.2
theorem BF (B:Nat) (p:b4):(ldV B p).Ok:=tn _ _ _ _
end Go.Proofs.YtomnhnmciopiiaaGreat
end
section
namespace Go.Proofs.YtomnhnmciopiiaaGreat
open Go Go.RowKit Go.Maps
attribute [local irreducible] wpList
theorem lC {α:Type} {P:α→Prop} {l:List α} {x:α} (h:∀ p∈l,P p) (hx:P x):∀ p∈l++[x],P p:=fun p hp=>by
 rcases xau.1 hp with hp | hp
 ·exact h p hp
 ·rw [xan.1 hp]
  exact hx
end Go.Proofs.YtomnhnmciopiiaaGreat
end
