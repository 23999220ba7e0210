/- Part 8 of the texts of one proof. -/
import Derived.Test.YtomnhnmciopiiaaGreatMMW7
section
namespace Go.Proofs.YtomnhnmciopiiaaGreat
open Go Go.RowKit Go.Maps
set_option maxRecDepth 100000
attribute [local irreducible] wpList
def dG (j:Nat):Int:=((mgB 1 j).toNat:Int)
abbrev rG (x:Int):Prop:=(Lit.int .u8 x).wf=true
theorem sF (j:Nat):rG (dG j):=by
 have:=(mgB 1 j).toNat_lt
 simp [rG,dG,Lit.wf,IntKind.min,IntKind.max,IntKind.signed,IntKind.bits]
 omega
theorem AY {x:Int} (_:rG x):(ib x).length=1:=rfl
theorem zI (x:Int):∀ v∈ib x,v.oneCell'=true:=fun v hv=>by
 rw [List.mem_singleton.1 hv]
 rfl
theorem j8:(Tryz.prog.info? 5).map (·.size)=some 1:=by kernel_rfl
theorem zz:(Tryz.prog.info? 5).map (fun i=>(i.zero,i.size,i.bytes))=some (some (.int .u8 0),1,1):=by kernel_rfl
theorem lA (j:Nat) (hj:j<12) (w:World):Calls Tryz.prog 83 #[.int .i64 1,.int .i64 (j:Int)] w fun e w'=>e=.returned (.int .u8 (dG j))∧Below w.heap.size w w':=gq 1 j (by omega) (by omega) w
def gI (B:Nat) (A:Option Addr) (cap:Nat) (l:List Int):Ent:=aw B 5 1 (.slice A (l++(List.range 12).map dG).length cap) (l++(List.range 12).map dG).length ((l++(List.range 12).map dG).flatMap ib)
set_option maxHeartbeats 4000000 in
theorem qg (w:World) (l:List Int) (v:Value) (h:bZ.At w w.heap.size [v] l) (hl:l.length≤1000000) :
  Calls Tryz.prog 53 #[v] w fun e w'=>∃ A cap,e=.returned (.slice A l.length cap)∧Mem w w' [gI w.heap.size A cap l]:=by
 obtain ⟨A0,cap,rfl,_,hcm,_,hA⟩:=ak h
 simp only [maxLen] at hcm
 unfold gI
 have H0:=Mem.start w
 go_enter Tryz.func53,Tryz.ntmps53
 refine wp_seq_k (fun K1 hK1=>?_)
 refine rl ?_
 refine nt (hK1 _ _ ?_)
 refine wp_seq_k (fun K2 hK2=>?_)
 refine rl ?_
 refine rv (aR (((l.length+12:Nat):Int))) ?_
 obtain ⟨inm5,iq5,ir5,is5,it5⟩:=info_parts zz
 refine wpList_make_own _ rfl _ _ 24 rfl w.heap.size 5 _ _ 1 Tryz.underlying24 iq5 ir5 is5 _ _ _ (l.length+12) rfl rfl rfl (by rw [it5];omega) (by simp only [maxLen];omega) (Mem.below H0).size ?_
 intro w3 ow gr
 refine rn ?_
 have H4:=Mem.make H0 ow gr
 clear ow gr
 refine rn ?_
 refine nt (hK2 _ _ ?_)
 refine wp_seq_k (fun K6 hK6=>?_)
 refine rl ?_
 refine aH (o:=⟨some 11,_,_,_,_,_⟩) rfl _ _ 24 rfl (w.heap.size) 5 _ _ 1 1 Tryz.underlying24 iq5 ir5 is5 it5 rfl (by decide) (.slice (some ⟨w.heap.size,0,none⟩) 0 (l.length+12)) (0) ([]) (Mem.own H4 0 rfl) (A0) (l.length) (cap) ((l).flatMap ib) (jD (L:=(Lay.int 5 .u8)) (f:=ib) (by decide) (fun h=>(kY.1 h).1) zI (Mem.lay H4 h)).2 ?hmt7 ?hbt7 ?hzt7 rfl rfl ?_
 case hmt7=>simp only [maxLen];omega
 case hbt7=>omega
 case hzt7=>exact (Mem.below H4).size
 intro u10 w8 ow13 gr14 hp15
 refine rn ?_
 have ow13:w8.ownsRow (w.heap.size) 5 1 u10 (l).length ((l).flatMap ib):=by first | simpa using ow13 | (simp at ow13 ⊢;exact ow13)
 obtain ⟨A11,c12,rfl⟩:=aP ow13
 have H9:=Mem.app H4 0 rfl ow13 gr14 hp15
 clear ow13 gr14 hp15
 refine rn ?_
 refine nt (hK6 _ _ ?_)
 refine wp_seq_k (fun K16 hK16=>?_)
 refine wp_seq_k (fun K17 hK17=>?_)
 refine rl ?_
 refine nt (hK17 _ _ ?_)
 refine wp_block ?_
 go_loopw [3,4] (fun x3 x4 wr=>∃ j:Nat,∃ kn:List Int,∃ A9:Option Addr,∃ c9:Nat,x3=.slice A9 kn.length c9∧x4=.int .i64 (j:Int)∧(j≤12)∧(kn=l++(List.range j).map dG)∧Mem w wr [aw (w.heap.size) 5 1 (.slice A9 kn.length c9) (kn).length ((kn).flatMap ib)]) (fun x3 x4 _=>12-(intOf x4).toNat)
 case atStart=>exact ⟨0,((l)),A11,c12,rfl,rfl,by omega,(by simp),H9⟩
 case round =>
  obtain ⟨wo18,rfl⟩:∃ wo18,wo18=wr:=⟨_,rfl⟩
  obtain ⟨j,kn,A9,c9,rfl,rfl,hj,hkn,H19⟩:=hrel
  have hln:kn.length=l.length+j:=by rw [hkn];simp
  refine wp_seq_k (fun K21 hK21=>?_)
  refine wp_seq_k (fun K22 hK22=>?_)
  refine rl ?_
  by_cases p23:(j:Int)<12
  ·refine rv (aB (decide_eq_true p23)) ?_
   refine nt (hK22 _ _ ?_)
   refine ct ?_
   refine ks (hK21 _ _ ?_)
   refine wp_seq_k (fun K24 hK24=>?_)
   refine wp_block ?_
   refine rl ?_
   refine an (by kernel_rfl) _ _ (by kernel_rfl) (lA j (by omega) wo18) ?_
   rintro e w25 ⟨rfl,hb27⟩
   refine ⟨_,rfl,rn ?_⟩
   have H26:=Mem.call H19 hb27
   refine aL (o:=⟨some 19,_,_,_,_,_⟩) rfl 24 (.tmp 18) rfl 5 1 (.int .u8 0) (.int .u8 ((dG j))) rfl Tryz.underlying24 j8 (by decide) (by decide) (fun w=>by kernel_rfl) rfl ?_
   intro w28 hn
   have H29:=Mem.bA H26 hn
   clear hn
   refine rn ?_
   refine aH (o:=⟨some 20,_,_,_,_,_⟩) rfl _ _ 24 rfl (w.heap.size) 5 _ _ 1 1 Tryz.underlying24 iq5 ir5 is5 it5 rfl (by decide) (.slice A9 kn.length c9) ((kn).length) ((kn).flatMap ib) (Mem.own H29 1 rfl) ((some ⟨w25.heap.size,0,none⟩)) (1) (1) ([.int .u8 ((dG j))]) (bH (n:=1) (m:=1) (Mem.blk H29 0 rfl) rfl (fun u hu=>by rw [List.mem_singleton.1 hu];rfl)) ?hmt30 ?hbt30 ?hzt30 rfl rfl ?_
   case hmt30=>simp only [maxLen];omega
   case hbt30=>omega
   case hzt30=>exact (Mem.below H29).size
   intro u33 w31 ow36 gr37 hp38
   refine rn ?_
   have ow36:w31.ownsRow (w.heap.size) 5 1 u33 (kn++[(dG j)]).length ((kn++[(dG j)]).flatMap ib):=by first | simpa using ow36 | (simp at ow36 ⊢;exact ow36)
   obtain ⟨A34,c35,rfl⟩:=aP ow36
   have H32:=Mem.app H29 1 rfl ow36 gr37 hp38
   clear ow36 gr37 hp38
   refine rn ?_
   refine wpList_nil ?_
   refine aq ?_
   refine ab (hK24 _ _ ?_)
   refine rl ?_
   refine rv (aR (((j+1:Nat):Int))) ?_
   refine wpList_nil ?_
   have H39:=Mem.pick H32 [1] (by decide) rfl
   refine ab ?_
   show _∧_
   go_roundw
   case rel=>exact ⟨(j+1),((kn++[(dG j)])),A34,c35,rfl,rfl,by omega,(by rw [hkn,List.append_assoc,ny]),H39⟩
   case measure=>simp [intOf];omega
  ·refine rv (aB (decide_eq_false p23)) ?_
   refine nt (hK22 _ _ ?_)
   refine cf ?_
   refine wp_exit ?_
   refine aj ?_
   refine aj ?_
   refine ax ?_
   refine ab (hK16 _ _ ?_)
   refine wp_seq_k (fun K40 hK40=>?_)
   refine rl ?_
   obtain ⟨b41,rfl,hlt44⟩:=aG (Mem.own H19 0 rfl) (by omega)
   refine rv (iy (o:=⟨some 24,_,_,_,_,_⟩) 24 5 (.tmp 21) (.tmp 23) rfl (some ⟨b41,0,none⟩) (kn.length) c9 (l.length) rfl rfl (by have h9:=mA (Mem.own H19 0 rfl);(try simp only [List.length_append,List.length_map,List.length_range] at h9);omega) Tryz.underlying24 j8 wo18) ?_
   refine nt (hK40 _ _ ?_)
   refine wp_ret ?_
   refine bodyPost_ret (results_tmp rfl _ _ _) rfl ?_
   have hje:j=12:=by omega
   subst hje hkn
   exact ⟨_,_,rfl,H19⟩
set_option maxHeartbeats 4000000 in
theorem qy (w:World) (l:List Int) (v:Value) (h:bZ.At w w.heap.size [v] l) (hall:∀ x∈l++(List.range 12).map dG,rG x) (hl:l.length≤1000000) (B:Nat) (A9:Option Addr) (c9:Nat) (ho:(gI B A9 c9 l).P w) :
  Calls Tryz.prog 69 #[.slice A9 l.length c9,v] w fun e w'=>e=.returned (.bool true)∧Below w.heap.size w w':=by
 have ho:w.ownsRow B 5 1 (.slice A9 (l++(List.range 12).map dG).length c9) (l++(List.range 12).map dG).length ((l++(List.range 12).map dG).flatMap ib):=ho
 have hln:(l++(List.range 12).map dG).length=l.length+12:=by simp
 obtain ⟨g,rfl,hg9⟩:=aG ho (by omega)
 have hc9:=(mA ho).1
 rw [hln] at hc9
 have ho9:=ho
 rw [hln] at ho9
 rw [← hln] at ho9
 have hlen9:∀ x∈l++(List.range 12).map dG,(ib x).length=1:=fun x hx=>AY (hall x hx)
 obtain ⟨A0,cap,rfl,_,hcm,_,hA⟩:=ak h
 simp only [maxLen] at hcm
 have H0:=Mem.start w
 go_enter Tryz.func69,Tryz.ntmps69
 refine wp_seq_k (fun K1 hK1=>?_)
 refine rl ?_
 refine nt (hK1 _ _ ?_)
 refine wp_seq_k (fun K2 hK2=>?_)
 refine wp_seq_k (fun K3 hK3=>?_)
 refine rl ?_
 refine rv (sD (decide_eq_true rfl)) ?_
 refine nt (hK3 _ _ ?_)
 refine cf ?_
 refine ks (hK2 _ _ ?_)
 refine wp_seq_k (fun K4 hK4=>?_)
 refine rl ?_
 refine rv (aR (((l.length+12:Nat):Int))) ?_
 refine rv (iy (o:=⟨some 16,_,_,_,_,_⟩) 24 5 (.tmp 12) (.tmp 15) rfl (some ⟨g,0,none⟩) (l.length) c9 (l.length+12) rfl rfl hc9 Tryz.underlying24 j8 w) ?_
 refine nt (hK4 _ _ ?_)
 refine wp_seq_k (fun K5 hK5=>?_)
 refine wp_seq_k (fun K6 hK6=>?_)
 refine rl ?_
 refine nt (hK6 _ _ ?_)
 refine wp_block ?_
 go_loopw [6] (fun x6 wr=>∃ j:Nat,x6=.int .i64 (j:Int)∧(j≤l.length+12)∧Mem w wr []) (fun x6 _=>l.length+12-(intOf x6).toNat)
 case atStart=>exact ⟨0,rfl,by omega,H0⟩
 case round =>
  obtain ⟨wo7,rfl⟩:∃ wo7,wo7=wr:=⟨_,rfl⟩
  obtain ⟨j,rfl,hj,H8⟩:=hrel
  refine wp_seq_k (fun K10 hK10=>?_)
  refine wp_seq_k (fun K11 hK11=>?_)
  refine rl ?_
  by_cases p12:(j:Int)<((l.length+12:Nat):Int)
  ·refine rv (aB (decide_eq_true p12)) ?_
   refine nt (hK11 _ _ ?_)
   refine ct ?_
   refine ks (hK10 _ _ ?_)
   refine wp_seq_k (fun K13 hK13=>?_)
   refine wp_block ?_
   refine wp_seq_k (fun K14 hK14=>?_)
   refine Fre.aW (X:=Bel) [] (by kernel_rfl) (by kernel_rfl) (by simp) (by simp) (by simp) ?_
   refine Fre.rmd ?_
   by_cases p15:(j:Int)<((l.length:Nat):Int)
   ·refine Fre.mvv (fun _ _=>aB (decide_eq_true p15)) ?_
    obtain ⟨x16,hx17⟩:∃ x,((l++(List.range 12).map dG))[j]?=some x:=⟨_,List.getElem?_eq_getElem (by first | omega | (rw [List.length_map,List.length_range];omega))⟩
    have hd18:=av hx17
    have ok19:=hall _ (List.mem_of_getElem? hx17)
    refine Fre.mvv (fun _ _=>aT (j) Tryz.underlying24 j8) ?_
    refine Fre.mvv (fun W9 hW9=>xlc (range_cell (Mem.range (Mem.call H8 hW9) (dW (f:=ib) (by decide) ho9 hlen9 hx17) hg9)) Tryz.underlying5) ?_
    obtain ⟨b20,o21,rfl,hlt23,hE22⟩:=hA (by omega)
    obtain ⟨x24,hx25⟩:∃ x,(l)[j]?=some x:=⟨_,List.getElem?_eq_getElem (by first | omega | (rw [List.length_map,List.length_range];omega))⟩
    have hd26:=av hx25
    obtain ⟨cs,hr27,ha28⟩:=hE22 (j) x24 hx25
    obtain ⟨rfl,ok29⟩:=kY.1 ha28
    have hxy9:=sf hx17 hx25
    refine Fre.mvv (fun _ _=>dw (j) Tryz.underlying24 j8) ?_
    refine Fre.mvv (fun W9 hW9=>xlc (range_cell (Mem.range (Mem.call H8 hW9) hr27 hlt23)) Tryz.underlying5) ?_
    refine Fre.mvv (fun _ _=>qw (decide_eq_true hxy9)) ?_
    by_cases p30:((l.length:Nat):Int)≤(j:Int)
    ·refine Fre.mvv (fun _ _=>rI (decide_eq_true p30)) ?_
     refine Fre.mvv (fun _ _=>aT (j) Tryz.underlying24 j8) ?_
     refine Fre.mvv (fun W9 hW9=>xlc (range_cell (Mem.range (Mem.call H8 hW9) (dW (f:=ib) (by decide) ho9 hlen9 hx17) hg9)) Tryz.underlying5) ?_
     refine Fre.mvv (fun _ _=>xt (((j-l.length:Nat):Int))) ?_
     have hmk9:=kJ hx17 (by omega)
     refine Fre.aA (.int .u8 ((dG (j-l.length)))) _ _ (by kernel_rfl) (by kernel_rfl) (by kernel_rfl) (fun W9=>by kernel_rfl) (fun W9 hW9=>lA (j-l.length) (by omega) W9) ?_
     refine Fre.rmd ?_
     refine Fre.mvv (fun _ _=>qw (decide_eq_true hmk9)) ?_
     intro w31 hx33
     dsimp only [Fre.ended,List.drop]
     have H32:=Mem.call H8 hx33
     refine ab (hK14 _ _ ?_)
     refine cf ?_
     refine wp_skip ?_
     refine aq ?_
     refine ab (hK13 _ _ ?_)
     refine rl ?_
     refine rv (aR (((j+1:Nat):Int))) ?_
     refine wpList_nil ?_
     refine ab ?_
     show _∧_
     go_roundw
     case rel=>exact ⟨(j+1),rfl,by omega,H32⟩
     case measure=>simp [intOf];omega
    ·refine Fre.mvv (fun _ _=>rI (decide_eq_false p30)) ?_
     intro w34 hx36
     dsimp only [Fre.ended,List.drop]
     have H35:=Mem.call H8 hx36
     refine ab (hK14 _ _ ?_)
     refine cf ?_
     refine wp_skip ?_
     refine aq ?_
     refine ab (hK13 _ _ ?_)
     refine rl ?_
     refine rv (aR (((j+1:Nat):Int))) ?_
     refine wpList_nil ?_
     refine ab ?_
     show _∧_
     go_roundw
     case rel=>exact ⟨(j+1),rfl,by omega,H35⟩
     case measure=>simp [intOf];omega
   ·have he37:=bF (l:=l) (j:=j) (by omega)
    refine Fre.mvv (fun _ _=>aB (decide_eq_false p15)) ?_
    by_cases p38:((l.length:Nat):Int)≤(j:Int)
    ·refine Fre.mvv (fun _ _=>rI (decide_eq_true p38)) ?_
     obtain ⟨x39,hx40⟩:∃ x,((l++(List.range 12).map dG))[j]?=some x:=⟨_,List.getElem?_eq_getElem (by first | omega | (rw [List.length_map,List.length_range];omega))⟩
     have hd41:=av hx40
     have ok42:=hall _ (List.mem_of_getElem? hx40)
     refine Fre.mvv (fun _ _=>aT (j) Tryz.underlying24 j8) ?_
     refine Fre.mvv (fun W9 hW9=>xlc (range_cell (Mem.range (Mem.call H8 hW9) (dW (f:=ib) (by decide) ho9 hlen9 hx40) hg9)) Tryz.underlying5) ?_
     refine Fre.mvv (fun _ _=>xt (((j-l.length:Nat):Int))) ?_
     have hmk9:=kJ hx40 (by omega)
     refine Fre.aA (.int .u8 ((dG (j-l.length)))) _ _ (by kernel_rfl) (by kernel_rfl) (by kernel_rfl) (fun W9=>by kernel_rfl) (fun W9 hW9=>lA (j-l.length) (by omega) W9) ?_
     refine Fre.rmd ?_
     refine Fre.mvv (fun _ _=>qw (decide_eq_true hmk9)) ?_
     intro w43 hx45
     dsimp only [Fre.ended,List.drop]
     have H44:=Mem.call H8 hx45
     refine ab (hK14 _ _ ?_)
     refine cf ?_
     refine wp_skip ?_
     refine aq ?_
     refine ab (hK13 _ _ ?_)
     refine rl ?_
     refine rv (aR (((j+1:Nat):Int))) ?_
     refine wpList_nil ?_
     refine ab ?_
     show _∧_
     go_roundw
     case rel=>exact ⟨(j+1),rfl,by omega,H44⟩
     case measure=>simp [intOf];omega
    ·refine Fre.mvv (fun _ _=>rI (decide_eq_false p38)) ?_
     intro w46 hx48
     dsimp only [Fre.ended,List.drop]
     have H47:=Mem.call H8 hx48
     refine ab (hK14 _ _ ?_)
     refine cf ?_
     refine wp_skip ?_
     refine aq ?_
     refine ab (hK13 _ _ ?_)
     refine rl ?_
     refine rv (aR (((j+1:Nat):Int))) ?_
     refine wpList_nil ?_
     refine ab ?_
     show _∧_
     go_roundw
     case rel=>exact ⟨(j+1),rfl,by omega,H47⟩
     case measure=>simp [intOf];omega
  ·refine rv (aB (decide_eq_false p12)) ?_
   refine nt (hK11 _ _ ?_)
   refine cf ?_
   refine wp_exit ?_
   refine aj ?_
   refine aj ?_
   refine ax ?_
   refine ab (hK5 _ _ ?_)
   refine wp_seq_k (fun K49 hK49=>?_)
   refine rl ?_
   refine nt (hK49 _ _ ?_)
   refine wp_ret ?_
   refine bodyPost_ret (results_tmp rfl _ _ _) rfl ?_
   exact ⟨rfl,Mem.below H8⟩
end Go.Proofs.YtomnhnmciopiiaaGreat
end
section
namespace Go.Proofs.YtomnhnmciopiiaaGreat
open Go Go.RowKit Go.Maps
set_option maxRecDepth 100000
theorem uZ (w:World) (a b:List Nam) (u v:Value) (ha:de.At w w.heap.size [u] a) (hb:de.At w w.heap.size [v] b) (c:Bool) (hc:decide (a=b)=c) :
  Calls Tryz.prog 77 #[u,v] w fun e w'=>e=.returned (.bool c)∧Below w.heap.size w w':=by
 subst hc
 obtain ⟨A,ca,rfl,_⟩:=ak ha
 obtain ⟨B,cb,rfl,_⟩:=ak hb
 exact xu w a b A B ca cb ha hb
theorem z1 (w:World) (a b:List Int) (u v:Value) (ha:bZ.At w w.heap.size [u] a) (hb:bZ.At w w.heap.size [v] b) (c:Bool) (hc:decide (a=b)=c) :
  Calls Tryz.prog 78 #[u,v] w fun e w'=>e=.returned (.bool c)∧Below w.heap.size w w':=by
 subst hc
 obtain ⟨A,ca,rfl,_⟩:=ak ha
 obtain ⟨B,cb,rfl,_⟩:=ak hb
 exact wh w a b A B ca cb ha hb
set_option maxHeartbeats 1000000 in
theorem lE (w:World) (a b:Drv) (u1 u2 v1 v2:Value) (ha:aO w w.heap.size a u1 u2) (hb:aO w w.heap.size b v1 v2) :
  Calls Tryz.prog 37 #[.agg (dC a u1 u2).toArray,.agg (dC b v1 v2).toArray] w fun e w'=>e=.returned (.bool (decide (a=b)))∧Below w.heap.size w w':=by
 obtain ⟨oa1,oa2⟩:=ha.iM
 obtain ⟨ob1,ob2⟩:=hb.iM
 have HA:=ah (And.intro ha.ins ha.rcp)
 have HB:=ah (And.intro hb.ins hb.rcp)
 clear ha hb
 have he:decide (a=b)=(decide (a.1=b.1)&&(decide (a.2.1=b.2.1)&&decide (a.2.2=b.2.2))):=by
  rw [Bool.eq_iff_iff]
  simp only [Bool.and_eq_true,decide_eq_true_iff]
  exact ⟨fun h=>by rw [h];exact ⟨rfl,rfl,rfl⟩,fun h=>Prod.ext h.1 (Prod.ext h.2.1 h.2.2)⟩
 cases hn:decide (a.1=b.1)
 ·have HN:=ah hn
  have HE:=ah (show decide (a=b)=false by rw [he,hn];rfl)
  clear he hn
  have H0:=ah (Mem.start w)
  go_enter Tryz.func37,Tryz.ntmps37
  go_wp2_with (first | ((with_reducible refine ag 2 ?_);(refine ay (o:=⟨some 2,_,_,_,_,_⟩) rfl 26 (.tmp 0) rfl (dC a u1 u2).toArray rfl ?_);intro w1 hn;have H1:=ah (Mem.bA H0.out hn);clear hn;simp only [Act.put,List.setIfInBounds_toArray,List.set_cons_zero,List.set_cons_succ]) | ((with_reducible refine ag 3 ?_);(refine ay (o:=⟨some 3,_,_,_,_,_⟩) rfl 26 (.tmp 1) rfl (dC b v1 v2).toArray rfl ?_);intro w2 hn;have H2:=ah (Mem.bA H1.out hn);clear hn;simp only [Act.put,List.setIfInBounds_toArray,List.set_cons_zero,List.set_cons_succ]) | ((with_reducible refine ag 6 ?_);(refine aa (o:=⟨some 6,_,_,_,_,_⟩) rfl (.string a.1) w2 (exec_load_cell (o:=⟨some 6,_,_,_,_,_⟩) 9 (.tmp 5) rfl ⟨w.heap.size,0,none⟩ rfl _ _ w2 Tryz.underlying9 rfl (range_cell (gh (Blk.range (Mem.blk H2.out 1 rfl))))) ?_)) | ((with_reducible refine ag 8 ?_);(refine aa (o:=⟨some 8,_,_,_,_,_⟩) rfl (.string b.1) w2 (exec_load_cell (o:=⟨some 8,_,_,_,_,_⟩) 9 (.tmp 7) rfl ⟨w1.heap.size,0,none⟩ rfl _ _ w2 Tryz.underlying9 rfl (range_cell (gh (Blk.range (Mem.blk H2.out 0 rfl))))) ?_)) | ((with_reducible refine ag 9 ?_);(refine aa (o:=⟨some 9,_,_,_,_,_⟩) rfl (.bool false) w2 (lh (o:=⟨some 9,_,_,_,_,_⟩) 9 9 (.tmp 6) (.tmp 8) rfl a.1 b.1 rfl rfl false HN.out w2) ?_)))
  go_ret
  exact ⟨by rw [HE.out];rfl,Mem.below H2.out⟩
 ·cases hi:decide (a.2.1=b.2.1)
  ·have HN:=ah hn
   have HI:=ah hi
   have HE:=ah (show decide (a=b)=false by rw [he,hn,hi];rfl)
   clear he hn hi
   have H0:=ah (Mem.start w)
   go_enter Tryz.func37,Tryz.ntmps37
   go_wp2_with (first | ((with_reducible refine ag 2 ?_);(refine ay (o:=⟨some 2,_,_,_,_,_⟩) rfl 26 (.tmp 0) rfl (dC a u1 u2).toArray rfl ?_);intro w1 hn;have H1:=ah (Mem.bA H0.out hn);clear hn;simp only [Act.put,List.setIfInBounds_toArray,List.set_cons_zero,List.set_cons_succ]) | ((with_reducible refine ag 3 ?_);(refine ay (o:=⟨some 3,_,_,_,_,_⟩) rfl 26 (.tmp 1) rfl (dC b v1 v2).toArray rfl ?_);intro w2 hn;have H2:=ah (Mem.bA H1.out hn);clear hn;simp only [Act.put,List.setIfInBounds_toArray,List.set_cons_zero,List.set_cons_succ]) | ((with_reducible refine ag 6 ?_);(refine aa (o:=⟨some 6,_,_,_,_,_⟩) rfl (.string a.1) w2 (exec_load_cell (o:=⟨some 6,_,_,_,_,_⟩) 9 (.tmp 5) rfl ⟨w.heap.size,0,none⟩ rfl _ _ w2 Tryz.underlying9 rfl (range_cell (gh (Blk.range (Mem.blk H2.out 1 rfl))))) ?_)) | ((with_reducible refine ag 8 ?_);(refine aa (o:=⟨some 8,_,_,_,_,_⟩) rfl (.string b.1) w2 (exec_load_cell (o:=⟨some 8,_,_,_,_,_⟩) 9 (.tmp 7) rfl ⟨w1.heap.size,0,none⟩ rfl _ _ w2 Tryz.underlying9 rfl (range_cell (gh (Blk.range (Mem.blk H2.out 0 rfl))))) ?_)) | ((with_reducible refine ag 9 ?_);(refine aa (o:=⟨some 9,_,_,_,_,_⟩) rfl (.bool true) w2 (lh (o:=⟨some 9,_,_,_,_,_⟩) 9 9 (.tmp 6) (.tmp 8) rfl a.1 b.1 rfl rfl true HN.out w2) ?_)) | ((with_reducible refine ag 12 ?_);(refine aF (o:=⟨some 12,_,_,_,_,_⟩) (by kernel_rfl) (u1) w2 (exec_load_cell (o:=⟨some 12,_,_,_,_,_⟩) 23 (.tmp 11) rfl ⟨w.heap.size,1,none⟩ rfl _ _ w2 Tryz.underlying23 rfl (range_cell (cG (Blk.range (Mem.blk H2.out 1 rfl))))) ?_)) | ((with_reducible refine ag 14 ?_);(refine aF (o:=⟨some 14,_,_,_,_,_⟩) (by kernel_rfl) (v1) w2 (exec_load_cell (o:=⟨some 14,_,_,_,_,_⟩) 23 (.tmp 13) rfl ⟨w1.heap.size,1,none⟩ rfl _ _ w2 Tryz.underlying23 rfl (range_cell (cG (Blk.range (Mem.blk H2.out 0 rfl))))) ?_)))
   refine (uZ w2 a.2.1 b.2.1 u1 v1 (Mem.lay H2.out HA.out.1) (Mem.lay H2.out HB.out.1) _ HI.out).mono ?_
   rintro e w3 ⟨rfl,hb⟩
   dsimp only
   have H3:=ah (Mem.call H2.out hb)
   clear hb
   go_wp2_with fail
   go_ret
   exact ⟨by rw [HE.out];rfl,Mem.below H3.out⟩
  ·have HN:=ah hn
   have HI:=ah hi
   have HE:=ah (show decide (a=b)=decide (a.2.2=b.2.2) by rw [he,hn,hi];rfl)
   clear he hn hi
   have H0:=ah (Mem.start w)
   go_enter Tryz.func37,Tryz.ntmps37
   go_wp2_with (first | ((with_reducible refine ag 2 ?_);(refine ay (o:=⟨some 2,_,_,_,_,_⟩) rfl 26 (.tmp 0) rfl (dC a u1 u2).toArray rfl ?_);intro w1 hn;have H1:=ah (Mem.bA H0.out hn);clear hn;simp only [Act.put,List.setIfInBounds_toArray,List.set_cons_zero,List.set_cons_succ]) | ((with_reducible refine ag 3 ?_);(refine ay (o:=⟨some 3,_,_,_,_,_⟩) rfl 26 (.tmp 1) rfl (dC b v1 v2).toArray rfl ?_);intro w2 hn;have H2:=ah (Mem.bA H1.out hn);clear hn;simp only [Act.put,List.setIfInBounds_toArray,List.set_cons_zero,List.set_cons_succ]) | ((with_reducible refine ag 6 ?_);(refine aa (o:=⟨some 6,_,_,_,_,_⟩) rfl (.string a.1) w2 (exec_load_cell (o:=⟨some 6,_,_,_,_,_⟩) 9 (.tmp 5) rfl ⟨w.heap.size,0,none⟩ rfl _ _ w2 Tryz.underlying9 rfl (range_cell (gh (Blk.range (Mem.blk H2.out 1 rfl))))) ?_)) | ((with_reducible refine ag 8 ?_);(refine aa (o:=⟨some 8,_,_,_,_,_⟩) rfl (.string b.1) w2 (exec_load_cell (o:=⟨some 8,_,_,_,_,_⟩) 9 (.tmp 7) rfl ⟨w1.heap.size,0,none⟩ rfl _ _ w2 Tryz.underlying9 rfl (range_cell (gh (Blk.range (Mem.blk H2.out 0 rfl))))) ?_)) | ((with_reducible refine ag 9 ?_);(refine aa (o:=⟨some 9,_,_,_,_,_⟩) rfl (.bool true) w2 (lh (o:=⟨some 9,_,_,_,_,_⟩) 9 9 (.tmp 6) (.tmp 8) rfl a.1 b.1 rfl rfl true HN.out w2) ?_)) | ((with_reducible refine ag 12 ?_);(refine aF (o:=⟨some 12,_,_,_,_,_⟩) (by kernel_rfl) (u1) w2 (exec_load_cell (o:=⟨some 12,_,_,_,_,_⟩) 23 (.tmp 11) rfl ⟨w.heap.size,1,none⟩ rfl _ _ w2 Tryz.underlying23 rfl (range_cell (cG (Blk.range (Mem.blk H2.out 1 rfl))))) ?_)) | ((with_reducible refine ag 14 ?_);(refine aF (o:=⟨some 14,_,_,_,_,_⟩) (by kernel_rfl) (v1) w2 (exec_load_cell (o:=⟨some 14,_,_,_,_,_⟩) 23 (.tmp 13) rfl ⟨w1.heap.size,1,none⟩ rfl _ _ w2 Tryz.underlying23 rfl (range_cell (cG (Blk.range (Mem.blk H2.out 0 rfl))))) ?_)))
   refine (uZ w2 a.2.1 b.2.1 u1 v1 (Mem.lay H2.out HA.out.1) (Mem.lay H2.out HB.out.1) _ HI.out).mono ?_
   rintro e w3 ⟨rfl,hb⟩
   dsimp only
   have H3:=ah (Mem.call H2.out hb)
   clear hb
   go_wp2_with (first | ((with_reducible refine ag 19 ?_);(refine aF (o:=⟨some 19,_,_,_,_,_⟩) (by kernel_rfl) (u2) w3 (exec_load_cell (o:=⟨some 19,_,_,_,_,_⟩) 24 (.tmp 18) rfl ⟨w.heap.size,2,none⟩ rfl _ _ w3 Tryz.underlying24 rfl (range_cell (js (Blk.range (Mem.blk H3.out 1 rfl))))) ?_)) | ((with_reducible refine ag 21 ?_);(refine aF (o:=⟨some 21,_,_,_,_,_⟩) (by kernel_rfl) (v2) w3 (exec_load_cell (o:=⟨some 21,_,_,_,_,_⟩) 24 (.tmp 20) rfl ⟨w1.heap.size,2,none⟩ rfl _ _ w3 Tryz.underlying24 rfl (range_cell (js (Blk.range (Mem.blk H3.out 0 rfl))))) ?_)))
   refine (z1 w3 a.2.2 b.2.2 u2 v2 (Mem.lay H3.out HA.out.2) (Mem.lay H3.out HB.out.2) _ rfl).mono ?_
   rintro e w4 ⟨rfl,hb⟩
   dsimp only
   have H4:=ah (Mem.call H3.out hb)
   clear hb
   go_wp2_with fail
   go_ret
   exact ⟨by rw [HE.out];rfl,Mem.below H4.out⟩
theorem Af (w:World) (a b:Drv) (u1 u2 v1 v2:Value) (ha:aO w w.heap.size a u1 u2) (hb:aO w w.heap.size b v1 v2) (c:Bool) (hc:decide (a=b)=c) :
  Calls Tryz.prog 37 #[.agg (dC a u1 u2).toArray,.agg (dC b v1 v2).toArray] w fun e w'=>e=.returned (.bool c)∧Below w.heap.size w w':=hc▸lE w a b u1 u2 v1 v2 ha hb
end Go.Proofs.YtomnhnmciopiiaaGreat
end
section
namespace Go.Proofs.YtomnhnmciopiiaaGreat
open Go Go.RowKit Go.Maps
set_option maxRecDepth 100000
attribute [local irreducible] wpList
theorem sd {α:Type} {t:TypeId} {L:Lay α} {w:World} {N cap:Nat} {A:Option Addr} {l r:List α} (h:(Lay.slice t L).At w N [.slice A (l++r).length cap] (l++r)):(Lay.slice t L).At w N [.slice A l.length cap] l:=by
 obtain ⟨A',cap',e,h1,h2,h3,h4⟩:=ak h
 injection e with e1 e2 e3
 subst e1 e3
 rw [List.length_append] at h1 h4
 refine ⟨A,cap,rfl,by omega,h2,h3,fun h0=>?_⟩
 obtain ⟨b,off,e,hb,hE⟩:=h4 (by omega)
 refine ⟨b,off,e,hb,fun i x hx=>hE i x ?_⟩
 rw [List.getElem?_append_left (List.getElem?_eq_some_iff.1 hx).1]
 exact hx
structure cM (w:World) (B:Nat) (d:Drv) (u1 u2:Value):Prop where
 name:d.1.size≤maxLen
 okn:∀ x∈d.2.1,okN x
 okb:∀ x∈d.2.2,rG x
 yn:∃ A c,u1=.slice A d.2.1.length c∧(fo B A c d.2.1).P w
 yh:∃ A c,u2=.slice A d.2.2.length c∧(gI B A c d.2.2).P w
def ldE (B:Nat) (d:Drv) (u1 u2:Value):Ent:=⟨fun b=>u1.ownBlock=some b∨u2.ownBlock=some b,fun w=>cM w B d u1 u2⟩
theorem jl (A:Option Addr) (n m c:Nat):(Value.slice A n c).ownBlock=(Value.slice A m c).ownBlock:=by
 rcases A with _ | ⟨g,o,p⟩
 ·rfl
 ·cases o<;>cases p<;>rfl
theorem cM.xf {w w':World} {B:Nat} {d:Drv} {u1 u2:Value} (h:cM w B d u1 u2) (hk:∀ b,(ldE B d u1 u2).F b→b<w.heap.size→w'.heap[b]?=w.heap[b]?):cM w' B d u1 u2:=by
 obtain ⟨A,c,e,h1⟩:=h.yn
 obtain ⟨A2,c2,e2,h2⟩:=h.yh
 exact ⟨h.name,h.okn,h.okb,⟨A,c,e,ao h1 fun g hg hl=>hk g (.inl (by rw [e];exact (jl ..).trans hg)) hl⟩,⟨A2,c2,e2,ao h2 fun g hg hl=>hk g (.inr (by rw [e2];exact (jl ..).trans hg)) hl⟩⟩
theorem ur (B:Nat) (d:Drv) (u1 u2:Value):(ldE B d u1 u2).Ok:=fun _ _ h hk=>cM.xf h hk
theorem cM.base {w:World} {B B':Nat} {d:Drv} {u1 u2:Value} (h:cM w B d u1 u2) (hB:∀ b,(ldE B d u1 u2).F b→B'≤b):cM w B' d u1 u2:=by
 obtain ⟨A,c,e,h1⟩:=h.yn
 obtain ⟨A2,c2,e2,h2⟩:=h.yh
 exact ⟨h.name,h.okn,h.okb,⟨A,c,e,bS h1 fun g hg=>hB g (.inl (by rw [e];exact (jl ..).trans hg))⟩,⟨A2,c2,e2,bS h2 fun g hg=>hB g (.inr (by rw [e2];exact (jl ..).trans hg))⟩⟩
theorem cM.at_ {w:World} {B:Nat} {d:Drv} {u1 u2:Value} (h:cM w B d u1 u2) {N:Nat} (hN:w.heap.size≤N):aO w N d u1 u2:=by
 obtain ⟨A,c,rfl,h1⟩:=h.yn
 obtain ⟨A2,c2,rfl,h2⟩:=h.yh
 refine ⟨h.name,sd (r:=(List.range 12).map cQ) (di (L:=ia) (f:=nC) (by decide) h1 _ hN fun x hx=>bl.2 ⟨rfl,?_⟩),sd (r:=(List.range 12).map dG) (di (L:=Lay.int 5 .u8) (f:=ib) (by decide) h2 _ hN fun x hx=>⟨rfl,?_⟩)⟩
 ·rcases List.mem_append.1 hx with hx | hx
  ·exact h.okn x hx
  ·obtain ⟨j,_,rfl⟩:=List.mem_map.1 hx
   exact eH j
 ·rcases List.mem_append.1 hx with hx | hx
  ·exact h.okb x hx
  ·obtain ⟨j,_,rfl⟩:=List.mem_map.1 hx
   exact sF j
theorem aO.oks {w:World} {N:Nat} {d:Drv} {v1 v2:Value} (h:aO w N d v1 v2):(∀ x∈d.2.1,okN x)∧∀ x∈d.2.2,rG x :=
 ⟨fun x hx=>by obtain ⟨cs,h9⟩:=fc h.ins hx;exact (bl.1 h9).2,fun x hx=>by obtain ⟨cs,h9⟩:=fc h.rcp hx;exact h9.2⟩
theorem Mem.zE {w0 w w':World} {L:List Ent} {B s n:Nat} {t:TypeId} {u:Value} {xs:List Value} (h:Mem w0 w L) (k:Mem w w' [aw B t s u n xs]):Mem w0 w' (aw w0.heap.size t s u n xs :: L) :=
 (h.seq k).sq 0 rfl (eh _ _ _ _ _ _) (bS ((h.seq k).own 0 rfl) fun _ hg=>Nat.le_trans h.below.size (k.from_ (e:=aw B t s u n xs) 0 rfl hg).1) (fun _ hf=>hf)
theorem vJ {w0 w:World} {L:List Ent} {d:Drv} {B c1 c2:Nat} {A1 A2:Option Addr} (h:Mem w0 w (gI B A2 c2 d.2.2 :: fo B A1 c1 d.2.1 :: L)) (hn:d.1.size≤maxLen) (ho:(∀ x∈d.2.1,okN x)∧∀ x∈d.2.2,rG x):Mem w0 w (ldE B d (.slice A1 d.2.1.length c1) (.slice A2 d.2.2.length c2) :: L) :=
 h.join.sq (e':=ldE B d (.slice A1 d.2.1.length c1) (.slice A2 d.2.2.length c2)) 0 rfl (ur _ _ _ _) ⟨hn,ho.1,ho.2,⟨_,_,rfl,h.holds _ (.tail _ (.head _))⟩,⟨_,_,rfl,h.holds _ (.head _)⟩⟩ fun b hf=>by
  rcases hf with hf | hf
  ·exact .inr ((jl ..).trans hf)
  ·exact .inl ((jl ..).trans hf)
set_option maxHeartbeats 4000000 in
theorem ru (w:World) (d:Drv) (v1 v2:Value) (h:aO w w.heap.size d v1 v2) (hl1:d.2.1.length≤1000000) (hl2:d.2.2.length≤1000000) :
  Calls Tryz.prog 11 #[.agg (dC d v1 v2).toArray] w fun e w'=>∃ u1 u2,e=.returned (.agg (dC d u1 u2).toArray)∧Mem w w' [ldE w.heap.size d u1 u2]:=by
 obtain ⟨ho1,ho2⟩:=h.iM
 have H0:=Mem.start w
 go_enter Tryz.func11,Tryz.ntmps11
 refine wp_seq_k (fun K1 hK1=>?_)
 refine rl ?_
 refine ay (o:=⟨some 1,_,_,_,_,_⟩) rfl 26 (.tmp 0) rfl (dC d v1 v2).toArray rfl ?_
 intro w2 hn
 have H3:=Mem.bA H0 hn
 clear hn
 refine rn ?_
 refine aC (o:=⟨some 2,_,_,_,_,_⟩) rfl 26 zcD (by kernel_rfl) ?_
 intro w4 hn
 have H5:=Mem.bA H3 hn
 clear hn
 refine rn ?_
 refine nt (hK1 _ _ ?_)
 refine wp_seq_k (fun K6 hK6=>?_)
 refine rl ?_
 refine rv (v:=.pointer (some ⟨w.heap.size,1,none⟩)) (by kernel_rfl) ?_
 refine rv (xlc (range_cell (cG (Blk.range (Mem.blk H5 1 rfl)))) Tryz.underlying23) ?_
 refine an (by kernel_rfl) _ _ (by kernel_rfl) (nJ w4 d.2.1 _ (Mem.lay H5 h.ins) hl1) ?_
 rintro e w7 ⟨A1,c1,rfl,hm8⟩
 refine ⟨_,rfl,rn ?_⟩
 have H8:=Mem.zE H5 hm8
 refine rv (v:=.pointer (some ⟨w.heap.size,1,none⟩)) (by kernel_rfl) ?_
 refine bW (o:=⟨none,_,_,_,_,_⟩) rfl 23 (.tmp 6) (.tmp 5) rfl w.heap.size (1) 26 (dC d v1 v2).toArray (Mem.blk H8 2 rfl) (Nat.le_of_ble_eq_true rfl) (by kernel_rfl) ((.slice A1 d.2.1.length c1)) rfl rfl rfl ?_
 intro w10 hk hg hz
 have H11:=Mem.st (cs':=(dC d (.slice A1 d.2.1.length c1) v2).toArray) H8 2 rfl hk hg
 clear hk hg hz
 refine rn ?_
 refine nt (hK6 _ _ ?_)
 refine wp_seq_k (fun K12 hK12=>?_)
 refine rl ?_
 refine rv (v:=.pointer (some ⟨w.heap.size,2,none⟩)) (by kernel_rfl) ?_
 refine rv (xlc (range_cell (js (Blk.range (Mem.blk H11 2 rfl)))) Tryz.underlying24) ?_
 refine an (by kernel_rfl) _ _ (by kernel_rfl) (qg w10 d.2.2 _ (Mem.lay H11 h.rcp) hl2) ?_
 rintro e w13 ⟨A2,c2,rfl,hm9⟩
 refine ⟨_,rfl,rn ?_⟩
 have H14:=Mem.zE H11 hm9
 refine rv (v:=.pointer (some ⟨w.heap.size,2,none⟩)) (by kernel_rfl) ?_
 refine bW (o:=⟨none,_,_,_,_,_⟩) rfl 24 (.tmp 10) (.tmp 9) rfl w.heap.size (2) 26 (dC d (.slice A1 d.2.1.length c1) v2).toArray (Mem.blk H14 3 rfl) (Nat.le_of_ble_eq_true rfl) (by kernel_rfl) ((.slice A2 d.2.2.length c2)) rfl rfl rfl ?_
 intro w16 hk hg hz
 have H17:=Mem.st (cs':=(dC d (.slice A1 d.2.1.length c1) (.slice A2 d.2.2.length c2)).toArray) H14 3 rfl hk hg
 clear hk hg hz
 refine rn ?_
 refine nt (hK12 _ _ ?_)
 refine wp_seq_k (fun K18 hK18=>?_)
 refine rl ?_
 refine rv (xld (Blk.range (Mem.blk H17 3 rfl)) Tryz.underlying26 (bJ d (.slice A1 d.2.1.length c1) (.slice A2 d.2.2.length c2))) ?_
 refine al (o:=⟨none,_,_,_,_,_⟩) rfl 26 (.tmp 2) (.tmp 11) rfl w2.heap.size zcD (dC d (.slice A1 d.2.1.length c1) (.slice A2 d.2.2.length c2)).toArray 26 (Mem.blk H17 2 rfl) (dF d (.slice A1 d.2.1.length c1) (.slice A2 d.2.2.length c2)) (dk fP (dF d (.slice A1 d.2.1.length c1) (.slice A2 d.2.2.length c2))) (ll d rfl rfl) rfl rfl ?_
 intro w19 hk hg
 have H20:=Mem.st H17 2 rfl hk hg
 clear hk hg
 refine rn ?_
 refine nt (hK18 _ _ ?_)
 refine wp_ret ?_
 refine bodyPost_ret (fv (r1:=.cell 2 26) rfl ⟨⟨_,rfl,iz (Blk.range (Mem.blk H20 2 rfl)) Tryz.underlying26 rfl (bJ d (.slice A1 d.2.1.length c1) (.slice A2 d.2.2.length c2))⟩,trivial⟩) rfl ?_
 exact ⟨_,_,rfl,vJ (Mem.pick H20 [0,1] (by decide) rfl) h.name h.oks⟩
theorem uH {w0 w:World} {L:List Ent} {B s n:Nat} {t:TypeId} {u:Value} {xs:List Value} (h:Mem w0 w L) (ho:(aw B t s u n xs).P w0):(aw B t s u n xs).P w :=
 ao ho fun g _ hl=>h.below.block g hl
set_option maxHeartbeats 4000000 in
theorem sA (w:World) (d:Drv) (u1 u2 v1 v2:Value) (B:Nat) (hx9:cM w B d u1 u2) (h:aO w w.heap.size d v1 v2) (hl1:d.2.1.length≤1000000) (hl2:d.2.2.length≤1000000) :
  Calls Tryz.prog 23 #[.agg (dC d u1 u2).toArray,.agg (dC d v1 v2).toArray] w fun e w'=>e=.returned (.bool true)∧Below w.heap.size w w':=by
 obtain ⟨ho1,ho2⟩:=h.iM
 have hx:=hx9.at_ (Nat.le_refl _)
 obtain ⟨hok1,hok2⟩:=h.oks
 have hall1:∀ x∈d.2.1++(List.range 12).map cQ,okN x:=fun x hx=>by
  rcases List.mem_append.1 hx with hx | hx
  ·exact hok1 x hx
  ·obtain ⟨j,_,rfl⟩:=List.mem_map.1 hx
   exact eH j
 have hall2:∀ x∈d.2.2++(List.range 12).map dG,rG x:=fun x hx=>by
  rcases List.mem_append.1 hx with hx | hx
  ·exact hok2 x hx
  ·obtain ⟨j,_,rfl⟩:=List.mem_map.1 hx
   exact sF j
 obtain ⟨A1,c1,rfl,hr1⟩:=hx9.yn
 obtain ⟨A2,c2,rfl,hr2⟩:=hx9.yh
 have H0:=Mem.start w
 go_enter Tryz.func23,Tryz.ntmps23
 refine wp_seq_k (fun K1 hK1=>?_)
 refine rl ?_
 refine ay (o:=⟨some 2,_,_,_,_,_⟩) rfl 26 (.tmp 0) rfl (dC d (.slice A1 d.2.1.length c1) (.slice A2 d.2.2.length c2)).toArray rfl ?_
 intro w2 hn
 have H3:=Mem.bA H0 hn
 clear hn
 refine rn ?_
 refine ay (o:=⟨some 3,_,_,_,_,_⟩) rfl 26 (.tmp 1) rfl (dC d v1 v2).toArray rfl ?_
 intro w4 hn
 have H5:=Mem.bA H3 hn
 clear hn
 refine rn ?_
 refine nt (hK1 _ _ ?_)
 refine wp_seq_k (fun K6 hK6=>?_)
 refine rl ?_
 refine rv (xld (Blk.range (Mem.blk H5 1 rfl)) Tryz.underlying26 (bJ d (.slice A1 d.2.1.length c1) (.slice A2 d.2.2.length c2))) ?_
 refine rv (xld (Blk.range (Mem.blk H5 0 rfl)) Tryz.underlying26 (bJ d v1 v2)) ?_
 refine an (by kernel_rfl) _ _ (by kernel_rfl) ((Calls.mono (lE w4 d d _ _ _ _ (Mem.drv H5 hx) (Mem.drv H5 h)) fun e w' h=>⟨h.1.trans (by rw [decide_eq_true rfl]),h.2⟩:Calls _ _ _ _ fun e w'=>e=.returned (.bool true)∧Below _ _ w')) ?_
 rintro e w7 ⟨rfl,hb9⟩
 refine ⟨_,rfl,rn ?_⟩
 have H8:=Mem.call H5 hb9
 refine rn ?_
 refine rv (v:=.pointer (some ⟨w.heap.size,1,none⟩)) (by kernel_rfl) ?_
 refine rv (xlc (range_cell (cG (Blk.range (Mem.blk H8 1 rfl)))) Tryz.underlying23) ?_
 refine rv (v:=.pointer (some ⟨w2.heap.size,1,none⟩)) (by kernel_rfl) ?_
 refine rv (xlc (range_cell (cG (Blk.range (Mem.blk H8 0 rfl)))) Tryz.underlying23) ?_
 refine an (by kernel_rfl) _ _ (by kernel_rfl) (nB w7 d.2.1 _ (Mem.lay H8 h.ins) hall1 hl1 B A1 c1 (uH H8 hr1)) ?_
 rintro e w10 ⟨rfl,hb12⟩
 refine ⟨_,rfl,rn ?_⟩
 have H11:=Mem.call H8 hb12
 refine rn ?_
 refine rv (v:=.pointer (some ⟨w.heap.size,2,none⟩)) (by kernel_rfl) ?_
 refine rv (xlc (range_cell (js (Blk.range (Mem.blk H11 1 rfl)))) Tryz.underlying24) ?_
 refine rv (v:=.pointer (some ⟨w2.heap.size,2,none⟩)) (by kernel_rfl) ?_
 refine rv (xlc (range_cell (js (Blk.range (Mem.blk H11 0 rfl)))) Tryz.underlying24) ?_
 refine an (by kernel_rfl) _ _ (by kernel_rfl) (qy w10 d.2.2 _ (Mem.lay H11 h.rcp) hall2 hl2 B A2 c2 (uH H11 hr2)) ?_
 rintro e w13 ⟨rfl,hb15⟩
 refine ⟨_,rfl,rn ?_⟩
 have H14:=Mem.call H11 hb15
 refine rn ?_
 refine nt (hK6 _ _ ?_)
 refine wp_ret ?_
 refine bodyPost_ret (results_tmp rfl _ _ _) rfl ?_
 exact ⟨rfl,Mem.below H14⟩
end Go.Proofs.YtomnhnmciopiiaaGreat
end
section
namespace Go.Proofs.YtomnhnmciopiiaaGreat.Dr
open Go Go.RowKit Go.Maps
set_option maxRecDepth 100000
variable {H:Type} [DecidableEq H]
def iW (all:List H) (c:H):List H:=if c∈all then all else all++[c]
def bQ (all cs:List H):List H:=cs.foldl iW all
theorem mj {all cs:List H} {k:Nat} {c:H} (h:cs[k]?=some c):bQ all (cs.take (k+1))=iW (bQ all (cs.take k)) c:=by
 unfold bQ
 rw [List.take_add_one,h,List.foldl_append]
 rfl
theorem yM {all:List H} {c h:H}:h∈iW all c↔h∈all∨h=c:=by
 unfold iW
 split
 ·rename_i hc
  exact ⟨.inl,fun h=>h.elim id fun e=>by rw [e];exact hc⟩
 ·simp
theorem tR {all:List H} {c:H} (h:all.Nodup):(iW all c).Nodup:=by
 unfold iW
 split
 ·exact h
 ·rename_i hc
  rw [List.nodup_append]
  exact ⟨h,by simp,fun a ha b hb e=>hc (by rw [List.mem_singleton.1 hb] at e;exact e▸ha)⟩
theorem xG (all:List H) (c:H):∃ t,iW all c=all++t:=by
 unfold iW
 split
 ·exact ⟨[],by simp⟩
 ·exact ⟨[c],rfl⟩
theorem eS:∀ {cs all:List H} {h:H},h∈bQ all cs↔h∈all∨h∈cs
 | [],all,h=>by simp [bQ]
 | c :: cs,all,h=>by
  show h∈bQ (iW all c) cs↔_
  rw [eS,yM,List.mem_cons,or_assoc]
theorem kN:∀ {cs all:List H},all.Nodup→(bQ all cs).Nodup
 | [],_,h=>h
 | _ :: cs,_,h=>kN (cs:=cs) (tR h)
theorem kc:∀ (cs all:List H),∃ t,bQ all cs=all++t
 | [],all=>⟨[],by simp [bQ]⟩
 | c :: cs,all=>by
  obtain ⟨t,ht⟩:=xG all c
  obtain ⟨u,hu⟩:=kc cs (iW all c)
  exact ⟨t++u,by show bQ (iW all c) cs=_;rw [hu,ht,List.append_assoc]⟩
structure kp (l:List (It H)) (c:H) (i:Nat) (all:List H):Prop where
 has:c∈all
 nd:all.Nodup
 sub:∀ a∈all,a∈bY l c
 done:∀ (j:Nat) (a:H),j<i→all[j]?=some a→∀ x∈l,x.cls=a→∀ d∈x.ins,d∈all
theorem tP {l:List (It H)} (hr:eQ l) {c:H} (hc:c∈css l):kp l c 0 [c] :=
 ⟨List.mem_cons_self ..,by simp,fun a ha=>by rw [List.mem_singleton.1 ha];exact List.mem_of_getElem? (um hr hc).2,fun j a hj=>absurd hj (Nat.not_lt_zero _)⟩
theorem vl {l:List (It H)} (hr:eQ l) {c a:H} {i:Nat} {all:List H} (h:kp l c i all) (ha:all[i]?=some a) {x:It H} (hx:x∈l) (hxa:x.cls=a):kp l c (i+1) (bQ all x.ins):=by
 have hm:=h.sub a (List.mem_of_getElem? ha)
 have hcl:=oh hr (k:=c) hx (by rw [hxa];exact hm)
 obtain ⟨t,ht⟩:=kc x.ins all
 refine ⟨eS.2 (.inl h.has),kN h.nd,fun b hb=>?_,fun j b hj hb y hy hyb d hd=>?_⟩
 ·rcases eS.1 hb with hb | hb
  ·exact h.sub b hb
  ·exact hcl b hb
 ·have hlt:i<all.length:=(List.getElem?_eq_some_iff.1 ha).1
  rw [ht,List.getElem?_append_left (by omega)] at hb
  rcases Nat.lt_or_ge j i with hji | hji
  ·exact eS.2 (.inl (h.done j b hji hb y hy hyb d hd))
  ·obtain rfl:j=i:=by omega
   rw [ha] at hb
   injection hb with hb
   have e:=px hr hx hy (by rw [hxa,hyb,hb])
   exact eS.2 (.inr (by rw [e];exact hd))
theorem tI {s l:List H} (h:s.Sublist l):l.Nodup→(l.filter fun x=>decide (x∈s))=s:=by
 induction h with
 | slnil=>intro _;rfl
 | cons a hs ih =>
  intro hn
  obtain ⟨h1,h2⟩:=List.nodup_cons.1 hn
  rw [List.filter_cons_of_neg (by simpa using fun hm=>h1 (hs.subset hm))]
  exact ih h2
 | cons_cons a hs ih =>
  intro hn
  obtain ⟨h1,h2⟩:=List.nodup_cons.1 hn
  rw [List.filter_cons_of_pos (by simp)]
  congr 1
  refine Eq.trans (List.filter_congr fun x hx=>?_) (ih h2)
  have hxa:x ≠ a:=fun e=>h1 (e▸hx)
  simp [hxa]
theorem xE {l:List (It H)} (hr:eQ l) {c:H} {all:List H} (h:kp l c all.length all):∀ b∈bY l c,b∈all:=fun b hb=>by
 obtain ⟨i,hi⟩:=List.getElem?_of_mem hb
 obtain ⟨n,y,hy,hm,h1,_,_⟩:=lG hr (c:=c) i (List.getElem?_eq_some_iff.1 hi).1
 rw [hi] at h1
 injection h1 with h1
 subst h1
 have hl:∀ a∈all,∀ x∈l,x.cls=a→∀ d∈x.ins,d∈all:=fun a ha=>by
  obtain ⟨j,hj⟩:=List.getElem?_of_mem ha
  exact h.done j a (List.getElem?_eq_some_iff.1 hj).1 hj
 have key:∀ n,Mk (b5 l ((css l).idxOf c)) n→∀ x,l[n]?=some x→x.cls∈all:=by
  refine gz (l:=l) (fun n=>∀ x,l[n]?=some x→x.cls∈all) (fun n hn d hd y hy=>?_) _ _ fun k hk x hx=>?_
  ·cases e:l[n]? with
   | none=>unfold gY at hd;rw [e] at hd;cases hd
   | some x =>
    have hdx:d∈x.ins:=by unfold gY at hd;rw [e] at hd;exact hd
    have h2:=hl x.cls (hn x e) x (List.mem_of_getElem? e) rfl d hdx
    have h3:=hr.ins n x e d hdx
    have hdc:d∈css l:=List.idxOf_lt_length_iff.1 (Nat.lt_of_lt_of_le h3 (by have:=(List.getElem?_eq_some_iff.1 e).1;simp [css];omega))
    obtain ⟨z,hz,hzd⟩:=lO hdc
    rw [hz] at hy
    injection hy with hy
    rw [← hy,hzd]
    exact h2
  ·have e:=pY hk
   subst e
   have hcc:c∈css l:=List.idxOf_lt_length_iff.1 (by have:=(List.getElem?_eq_some_iff.1 hx).1;simpa [css] using this)
   obtain ⟨z,hz,hzc⟩:=lO hcc
   rw [hz] at hx
   injection hx with hx
   rw [← hx,hzc]
   exact h.has
 exact key n hm y hy
theorem xg {l:List (It H)} (hr:eQ l) {c:H} {all:List H} (h:kp l c all.length all):((css l).filter fun b=>decide (b∈all))=bY l c:=by
 have e:=tI (gQ (css l) (b5 l ((css l).idxOf c))) hr.nodup
 refine Eq.trans (List.filter_congr fun x _=>?_) e
 exact decide_eq_decide.2 ⟨fun hm=>h.sub x hm,fun hm=>xE hr h x hm⟩
theorem qM {l:List (It H)} {c:H} {i:Nat} {all:List H} (h:kp l c i all):all.length≤l.length:=by
 have h1:=r7 h.nd fun x hx=>jy (h.sub x hx)
 have e:(css l).length=l.length:=by simp [css]
 omega
def nR (l:List (It H)) (ins:List H) (k:Nat):Nat:=maxOf (((l.take k).filter fun y=>decide (y.cls∈ins)).map fun y=>cI l y.cls)+1
theorem xp (a:List Nat) (x:Nat):maxOf (a++[x])=max (maxOf a) x:=nF a x
theorem AT {l:List (It H)} {ins:List H} {k:Nat} {y:It H} (hy:l[k]?=some y):nR l ins (k+1)=if y.cls∈ins then max (nR l ins k) (cI l y.cls+1) else nR l ins k:=by
 unfold nR
 rw [List.take_add_one,hy]
 by_cases h:y.cls∈ins
 ·rw [if_pos h]
  simp only [Option.toList,List.filter_append]
  rw [List.filter_cons_of_pos (by simpa using h),List.filter_nil,List.map_append]
  show maxOf (_++[cI l y.cls])+1=_
  rw [xp]
  omega
 ·rw [if_neg h]
  simp only [Option.toList,List.filter_append]
  rw [List.filter_cons_of_neg (by simpa using h),List.filter_nil,List.append_nil]
theorem uO {l:List (It H)} (hr:eQ l) {i:Nat} {x:It H} (hx:l[i]?=some x):nR l x.ins i=cI l x.cls:=by
 rw [nh hr hx]
 unfold nR
 congr 1
 apply Nat.le_antisymm
 ·refine jn fun v hv=>?_
  obtain ⟨y,hy,rfl⟩:=List.mem_map.1 hv
  obtain ⟨h1,h2⟩:=List.mem_filter.1 hy
  have h2:y.cls∈x.ins:=of_decide_eq_true h2
  rw [← mZ hr (n:=i) (hr.ins i x hx _ h2)]
  exact mP (List.mem_map.2 ⟨y.cls,h2,rfl⟩)
 ·refine jn fun v hv=>?_
  obtain ⟨d,hd,rfl⟩:=List.mem_map.1 hv
  have hlt:=hr.ins i x hx d hd
  rw [mZ hr hlt]
  have hdc:d∈css l:=List.idxOf_lt_length_iff.1 (Nat.lt_of_lt_of_le hlt (by have:=(List.getElem?_eq_some_iff.1 hx).1;simp [css];omega))
  obtain ⟨y,hy,rfl⟩:=lO hdc
  refine mP (List.mem_map.2 ⟨y,List.mem_filter.2 ⟨?_,decide_eq_true hd⟩,rfl⟩)
  exact List.mem_of_getElem? (i:=(css l).idxOf y.cls) (by rw [List.getElem?_take_of_lt hlt];exact hy)
end Go.Proofs.YtomnhnmciopiiaaGreat.Dr
end
section
namespace Go.Proofs.YtomnhnmciopiiaaGreat
open Go Go.RowKit Go.Maps
set_option maxRecDepth 100000
def nb (n:Nat):List Value:=[.int .i64 (n:Int)]
theorem vh:(Tryz.prog.info? 3).map (fun i=>(i.zero,i.size,i.bytes))=some (some (.int .i64 0),1,8):=by kernel_rfl
theorem BJ {P:Program} {ρ:Operand→Value} {o:Oper} (x y:Operand) (t r:TypeId) (ho:o.op=.call { callee:=.builtin .max,args:=#[x,y],argTypes:=#[t,r] }) (a b:Nat) (hx:ρ x=.int .i64 (a:Int)) (hy:ρ y=.int .i64 (b:Int)) (W:World) :
  (execOp ρ o).run P W=.ok (.value (.int .i64 ((max a b:Nat):Int))) W:=by
 unfold execOp
 simp [ho,hx,hy,go_sem]
 omega
namespace Dr
variable {H:Type} [DecidableEq H]
theorem Ba {l:List (It H)} {ins:List H} {k:Nat} {m:Nat} (h:∀ (i:Nat) (y:It H),i<k→l[i]?=some y→cI l y.cls≤m):nR l ins k≤m+1:=by
 unfold nR
 refine Nat.succ_le_succ (jn fun z hz=>?_)
 obtain ⟨y,hy,rfl⟩:=List.mem_map.1 hz
 have hy2:=(List.mem_filter.1 hy).1
 obtain ⟨i,hi⟩:=List.getElem?_of_mem hy2
 rw [List.getElem?_take] at hi
 split at hi
 ·rename_i hlt;exact h i y hlt hi
 ·cases hi
theorem lZ {l:List (It H)} (hr:eQ l):∀ (n:Nat) (x:It H),l[n]?=some x→cI l x.cls≤n+1:=by
 intro n
 induction n using Nat.strongRecOn with
 | _ n ih =>
  intro x hx
  rw [← uO hr hx]
  refine Ba fun i y hi hy=>?_
  have:=ih i hi y hy
  omega
end Dr
theorem tt {l:List Itm} {c:Hsh} (h:Dr.bL (l.map itP)=false):dR l c=0:=by
 unfold dR
 rw [h]
 rfl
theorem jH (l:List Itm):Dr.css (l.map itP)=l.map (·.1):=by
 unfold Dr.css
 rw [List.map_map]
 rfl
theorem wv {l:List Itm} {c:Hsh} (h:Dr.bL (l.map itP)=true) {i:Nat} {x:Itm} (hx:l[i]?=some x) (hxc:x.1=c):dR l c=Dr.cI (l.map itP) c:=by
 unfold dR
 rw [if_pos h,if_pos]
 cases hm:(aX (dh l) c).isSome
 ·exfalso
  refine pk hm ?_
  rw [jH]
  exact List.mem_map.2 ⟨x,List.mem_of_getElem? hx,hxc⟩
 ·rfl
theorem uq {l:List Itm} {c:Hsh} (h:∀ y∈l,¬ y.1=c):dR l c=0:=by
 unfold dR
 cases hm:(aX (dh l) c).isSome
 ·simp
 ·exfalso
  have:=gX hm
  rw [jH] at this
  obtain ⟨x,hx,hxc⟩:=List.mem_map.1 this
  exact h x hx hxc
def dq (l:List Itm) (j:Nat):List Nat:=(l.take j).map fun x=>Dr.cI (l.map itP) x.1
theorem su {l:List Itm} {j:Nat} (h:j≤l.length):(dq l j).length=j:=by
 unfold dq
 rw [List.length_map,List.length_take]
 omega
theorem uU {l:List Itm} {j k:Nat} {x:Itm} {n:Nat} (hx:l[k]?=some x) (hn:(dq l j)[k]?=some n):n=Dr.cI (l.map itP) x.1:=by
 unfold dq at hn
 rw [List.getElem?_map,List.getElem?_take] at hn
 split at hn
 ·rw [hx] at hn
  injection hn with hn
  exact hn.symm
 ·cases hn
theorem wE {l:List Itm} {j:Nat} {x:Itm} (hr:Dr.bL (l.map itP)=true) (hx:l[j]?=some x):dq l j++[Dr.nR (l.map itP) (az x.2.2.1) j]=dq l (j+1):=by
 have h1:=Dr.uO ((Dr.dO _).1 hr) (i:=j) (x:=itP x) (by rw [List.getElem?_map,hx];rfl)
 have e:Dr.nR (l.map itP) (az x.2.2.1) j=Dr.cI (l.map itP) x.1:=h1
 rw [e]
 unfold dq
 rw [List.take_add_one,hx]
 simp
theorem AZ {l:List Itm} {ins:List Hsh} {k:Nat} {y:Itm} (hy:l[k]?=some y) (b:Bool) (hb:decide (y.1∈ins)=b) {n:Nat} (hn:n=Dr.cI (l.map itP) y.1):Dr.nR (l.map itP) ins (k+1)=if b=true then max (Dr.nR (l.map itP) ins k) (n+1) else Dr.nR (l.map itP) ins k:=by
 have h1:=Dr.AT (ins:=ins) (l:=l.map itP) (k:=k) (y:=itP y) (by rw [List.getElem?_map,hy];rfl)
 rw [h1,hn]
 cases b
 ·have h2:¬ (itP y).cls∈ins:=of_decide_eq_false hb
  rw [if_neg h2]
  rfl
 ·have h2:(itP y).cls∈ins:=of_decide_eq_true hb
  rw [if_pos h2,if_pos rfl]
  rfl
theorem xY {l:List Itm} {ins:List Hsh} {k:Nat} (hr:Dr.bL (l.map itP)=true) (hk:k≤l.length):Dr.nR (l.map itP) ins k≤l.length+1:=by
 refine Dr.Ba fun i y hi hy=>?_
 have:=Dr.lZ ((Dr.dO _).1 hr) i y hy
 have h2:=(List.getElem?_eq_some_iff.1 hy).1
 rw [List.length_map] at h2
 omega
theorem r8 {l:List Itm} {k:Nat} {x:Itm} (hr:Dr.bL (l.map itP)=true) (hx:l[k]?=some x):Dr.cI (l.map itP) x.1≤l.length:=by
 have:=Dr.lZ ((Dr.dO _).1 hr) k (itP x) (by rw [List.getElem?_map,hx];rfl)
 have h2:=(List.getElem?_eq_some_iff.1 hx).1
 have e:(itP x).cls=x.1:=rfl
 rw [e] at this
 omega
end Go.Proofs.YtomnhnmciopiiaaGreat
end
section
namespace Go.Proofs.YtomnhnmciopiiaaGreat
open Go Go.RowKit Go.Maps
set_option maxRecDepth 100000
attribute [local irreducible] wpList
theorem jV (x:Itm) (l:List Itm) (c:Hsh):db (x :: l) c=if x.1=c then some x else db l c:=by
 unfold db
 rw [List.find?_cons]
 by_cases h:x.1=c
 ·rw [if_pos h,decide_eq_true h]
 ·rw [if_neg h,decide_eq_false h]
theorem lM (c:Hsh):db [] c=none:=rfl
set_option maxHeartbeats 4000000 in
theorem xJ (w:World) (B:Nat) (hB:B≤w.heap.size) (l:List Itm) (v:Value) (h:eM.At w B [v] l) (c:Hsh) (hc:okH c) (d:Drv) (hd:findD l c=d) (b9:Bool) (hb:(db l c).isSome=b9) :
  Calls Tryz.prog 32 #[v,.agg (bv c).toArray] w fun e w'=>∃ u1 u2,e=.returned (.tuple #[.agg (dC d u1 u2).toArray,.bool b9])∧aO w B d u1 u2∧Below w.heap.size w w':=by
 obtain ⟨A0,cap,rfl,_,hcm,_,hA⟩:=ak h
 simp only [maxLen] at hcm
 have H0:=Mem.start w
 go_enter Tryz.func32,Tryz.ntmps32
 refine wp_seq_k (fun K1 hK1=>?_)
 refine rl ?_
 refine ay (o:=⟨some 3,_,_,_,_,_⟩) rfl 34 (.tmp 1) rfl (bv c).toArray rfl ?_
 intro w2 hn
 have H3:=Mem.bA H0 hn
 clear hn
 refine rn ?_
 refine aC (o:=⟨some 4,_,_,_,_,_⟩) rfl 26 zcD (by kernel_rfl) ?_
 intro w4 hn
 have H5:=Mem.bA H3 hn
 clear hn
 refine rn ?_
 refine nt (hK1 _ _ ?_)
 refine wp_seq_k (fun K6 hK6=>?_)
 refine wp_seq_k (fun K7 hK7=>?_)
 refine rl ?_
 refine nt (hK7 _ _ ?_)
 refine wp_block ?_
 go_loopw [6] (fun x6 wr=>∃ j:Nat,x6=.int .i64 (j:Int)∧(j≤l.length)∧(db l c=db (l.drop j) c)∧Mem w wr [cC (w2.heap.size) 26 zcD,cC (w.heap.size) 34 (bv c).toArray]) (fun x6 _=>l.length-(intOf x6).toNat)
 case atStart=>exact ⟨0,rfl,by omega,rfl,H5⟩
 case round =>
  obtain ⟨wo8,rfl⟩:∃ wo8,wo8=wr:=⟨_,rfl⟩
  obtain ⟨j,rfl,hj,hf,H9⟩:=hrel
  refine wp_seq_k (fun K11 hK11=>?_)
  refine wp_seq_k (fun K12 hK12=>?_)
  refine rl ?_
  by_cases p13:(j:Int)<((l.length:Nat):Int)
  ·refine rv (aB (decide_eq_true p13)) ?_
   refine nt (hK12 _ _ ?_)
   refine ct ?_
   refine ks (hK11 _ _ ?_)
   refine wp_seq_k (fun K14 hK14=>?_)
   refine wp_block ?_
   refine wp_seq_k (fun K15 hK15=>?_)
   obtain ⟨b16,o17,rfl,hlt19,hE18⟩:=hA (by omega)
   have hlt19:=Nat.lt_of_lt_of_le hlt19 hB
   obtain ⟨x20,hx21⟩:∃ x,(l)[j]?=some x:=⟨_,List.getElem?_eq_getElem (by first | omega | (rw [List.length_map,List.length_range];omega))⟩
   have hd22:=av hx21
   obtain ⟨cs,hr23,ha24⟩:=hE18 (j) x20 hx21
   obtain ⟨v25,v26,rfl,xo27,xd28⟩:=dx.1 ha24
   obtain ⟨A29,c30,rfl,hlc30,hmc30,_,hA31⟩:=ak xd28.ins
   obtain ⟨A32,c33,rfl,hlc33,hmc33,_,hA34⟩:=ak xd28.rcp
   simp only [maxLen] at hmc30 hmc33
   refine Fre.aW (X:=Bel) [] (by kernel_rfl) (by kernel_rfl) (by simp) (by simp) (by simp) ?_
   refine Fre.rmd ?_
   refine Fre.mvv (fun _ _=>dw (j) Tryz.underlying40 cX) ?_
   refine Fre.mvv (v:=.pointer (some ⟨b16,o17+j*23,none⟩)) (fun _ _=>by kernel_rfl) ?_
   refine Fre.mvv (fun W9 hW9=>xld (cy (Mem.range (Mem.call H9 hW9) hr23 hlt19)) Tryz.underlying34 (cN xo27)) ?_
   refine Fre.mvv (fun W9 hW9=>xld (Blk.range (Mem.blk (Mem.call H9 hW9) 1 rfl)) Tryz.underlying34 (cN hc)) ?_
   by_cases p35:x20.1=c
   ·refine Fre.mvv (fun W9 _=>b3 (o:=⟨some 19,_,_,_,_,_⟩) 34 34 (.tmp 17) (.tmp 18) rfl (bv x20.1).toArray (bv c).toArray rfl rfl (by kernel_rfl) _ W9 (by have h9:=cU (x20.1) (c) xo27 hc W9;rwa [show decide _=true from (decide_eq_true p35)] at h9)) ?_
    intro w36 hx38
    dsimp only [Fre.ended,List.drop]
    have H37:=Mem.call H9 hx38
    refine ab (hK15 _ _ ?_)
    refine ct ?_
    refine wp_seq_k (fun K39 hK39=>?_)
    refine rl ?_
    refine rv (dw (j) Tryz.underlying40 cX) ?_
    refine rv (v:=.pointer (some ⟨b16,o17+j*23+20,none⟩)) (by kernel_rfl) ?_
    refine rv (xld (cg xo27 (Mem.range H37 hr23 hlt19)) Tryz.underlying26 (bJ x20.2 (.slice A29 x20.2.2.1.length c30) (.slice A32 x20.2.2.2.length c33))) ?_
    refine al (o:=⟨none,_,_,_,_,_⟩) rfl 26 (.tmp 4) (.tmp 24) rfl w2.heap.size zcD (dC x20.2 (.slice A29 x20.2.2.1.length c30) (.slice A32 x20.2.2.2.length c33)).toArray 26 (Mem.blk H37 0 rfl) (dF x20.2 (.slice A29 x20.2.2.1.length c30) (.slice A32 x20.2.2.2.length c33)) (dk fP (dF x20.2 (.slice A29 x20.2.2.1.length c30) (.slice A32 x20.2.2.2.length c33))) (ll x20.2 rfl rfl) rfl rfl ?_
    intro w40 hk hg
    have H41:=Mem.st H37 0 rfl hk hg
    clear hk hg
    refine rn ?_
    refine nt (hK39 _ _ ?_)
    refine wp_ret ?_
    simp only [Exit.then,Exit.inBlock]
    refine bodyPost_ret (cB (r1:=.cell 4 26) (r2:=.tmp 5) rfl ⟨⟨_,rfl,iz (Blk.range (Mem.blk H41 0 rfl)) Tryz.underlying26 rfl (bJ x20.2 (.slice A29 x20.2.2.1.length c30) (.slice A32 x20.2.2.2.length c33))⟩,rfl,trivial⟩) rfl ?_
    have h:=hf
    simp only [jV,hd22,p35,↓reduceIte] at h
    have hbt:b9=true:=hb.symm.trans (by rw [h];rfl)
    have hdt:d=x20.2:=hd.symm.trans (mV h)
    subst hdt hbt
    exact ⟨_,_,rfl,xd28,Mem.below H41⟩
   ·refine Fre.mvv (fun W9 _=>b3 (o:=⟨some 19,_,_,_,_,_⟩) 34 34 (.tmp 17) (.tmp 18) rfl (bv x20.1).toArray (bv c).toArray rfl rfl (by kernel_rfl) _ W9 (by have h9:=cU (x20.1) (c) xo27 hc W9;rwa [show decide _=false from (decide_eq_false p35)] at h9)) ?_
    intro w42 hx44
    dsimp only [Fre.ended,List.drop]
    have H43:=Mem.call H9 hx44
    refine ab (hK15 _ _ ?_)
    refine cf ?_
    refine wp_skip ?_
    refine aq ?_
    refine ab (hK14 _ _ ?_)
    refine rl ?_
    refine rv (aR (((j+1:Nat):Int))) ?_
    refine wpList_nil ?_
    refine ab ?_
    show _∧_
    go_roundw
    case rel=>exact ⟨(j+1),rfl,by omega,(by have h:=hf;simp only [jV,hd22,p35,↓reduceIte] at h;exact h),H43⟩
    case measure=>simp [intOf];omega
  ·have he45:=bF (l:=l) (j:=j) (by omega)
   refine rv (aB (decide_eq_false p13)) ?_
   refine nt (hK12 _ _ ?_)
   refine cf ?_
   refine wp_exit ?_
   refine aj ?_
   refine aj ?_
   refine ax ?_
   refine ab (hK6 _ _ ?_)
   refine wp_seq_k (fun K46 hK46=>?_)
   refine rl ?_
   refine rv (v:=.agg (dC (⟨#[]⟩,[],[]) (.slice none 0 0) (.slice none 0 0)).toArray) (by kernel_rfl) ?_
   refine al (o:=⟨none,_,_,_,_,_⟩) rfl 26 (.tmp 4) (.tmp 25) rfl w2.heap.size zcD (dC (⟨#[]⟩,[],[]) (.slice none 0 0) (.slice none 0 0)).toArray 26 (Mem.blk H9 0 rfl) (dF (⟨#[]⟩,[],[]) (.slice none 0 0) (.slice none 0 0)) (dk fP (dF (⟨#[]⟩,[],[]) (.slice none 0 0) (.slice none 0 0))) (ll (⟨#[]⟩,[],[]) rfl rfl) rfl rfl ?_
   intro w47 hk hg
   have H48:=Mem.st H9 0 rfl hk hg
   clear hk hg
   refine rn ?_
   refine nt (hK46 _ _ ?_)
   refine wp_ret ?_
   refine bodyPost_ret (cB (r1:=.cell 4 26) (r2:=.tmp 5) rfl ⟨⟨_,rfl,iz (Blk.range (Mem.blk H48 0 rfl)) Tryz.underlying26 rfl (bJ (⟨#[]⟩,[],[]) (.slice none 0 0) (.slice none 0 0))⟩,rfl,trivial⟩) rfl ?_
   have h:=hf
   simp only [lM,he45] at h
   have hbt:b9=false:=hb.symm.trans (by rw [h];rfl)
   have hdt:d=(⟨#[]⟩,[],[]):=hd.symm.trans (sJ h)
   subst hdt hbt
   exact ⟨_,_,rfl,yW _ _,Mem.below H48⟩
end Go.Proofs.YtomnhnmciopiiaaGreat
end
section
namespace Go.Proofs.YtomnhnmciopiiaaGreat
open Go Go.RowKit Go.Maps
set_option maxRecDepth 100000
attribute [local irreducible] wpList
theorem uk {l:List Itm} {k:Nat} {z:Itm} {c:Hsh} (h:l[k]?=some z) (hn:∀ y∈l.take k,¬ y.1=c) (hz:¬ z.1=c):∀ y∈l.take (k+1),¬ y.1=c:=nV h hn hz
set_option maxHeartbeats 4000000 in
theorem tU (w:World) (l:List Itm) (v:Value) (h:eM.At w w.heap.size [v] l) (hl:∀ x∈l,x.2.2.1.length≤1000000) (hlen:l.length≤1000000) (c:Hsh) (hc:okH c) (r9:Nat) (hd:dR l c=r9) :
  Calls Tryz.prog 40 #[v,.agg (bv c).toArray] w fun e w'=>e=.returned (.int .i64 (r9:Int))∧Below w.heap.size w w':=by
 obtain ⟨A0,cap,rfl,_,hcm,_,hA⟩:=ak h
 simp only [maxLen] at hcm
 have H0:=Mem.start w
 go_enter Tryz.func40,Tryz.ntmps40
 refine wp_seq_k (fun K1 hK1=>?_)
 refine rl ?_
 refine ay (o:=⟨some 3,_,_,_,_,_⟩) rfl 34 (.tmp 1) rfl (bv c).toArray rfl ?_
 intro w2 hn
 have H3:=Mem.bA H0 hn
 clear hn
 refine rn ?_
 refine nt (hK1 _ _ ?_)
 refine wp_seq_k (fun K4 hK4=>?_)
 refine wp_seq_k (fun K5 hK5=>?_)
 refine rl ?_
 obtain ⟨br,hbr⟩:∃ b,Dr.bL (l.map itP)=b:=⟨_,rfl⟩
 refine an (by kernel_rfl) _ _ (by kernel_rfl) (kb w2 l _ (Mem.lay H3 h) hl hlen br hbr) ?_
 rintro e w6 ⟨rfl,hb8⟩
 refine ⟨_,rfl,rn ?_⟩
 have H7:=Mem.call H3 hb8
 cases br
 ·refine rn ?_
  refine nt (hK5 _ _ ?_)
  refine ct ?_
  refine wp_seq_k (fun K9 hK9=>?_)
  refine rl ?_
  refine nt (hK9 _ _ ?_)
  refine wp_ret ?_
  simp only [Exit.then]
  refine bodyPost_ret (results_tmp rfl _ _ _) rfl ?_
  have hz:=hd.symm.trans (tt hbr)
  subst hz
  exact ⟨rfl,Mem.below H7⟩
 ·refine rn ?_
  refine nt (hK5 _ _ ?_)
  refine cf ?_
  refine ks (hK4 _ _ ?_)
  refine wp_seq_k (fun K10 hK10=>?_)
  refine rl ?_
  refine nt (hK10 _ _ ?_)
  refine wp_seq_k (fun K11 hK11=>?_)
  refine wp_seq_k (fun K12 hK12=>?_)
  refine rl ?_
  refine nt (hK12 _ _ ?_)
  refine wp_block ?_
  have H13:=Mem.dI H7 w.heap.size 3 1
  go_loopw [5,6] (fun x5 x6 wr=>∃ j:Nat,∃ A:Option Addr,∃ c9:Nat,x5=.slice A (dq l j).length c9∧x6=.int .i64 (j:Int)∧(j≤l.length)∧Mem w wr [aw (w.heap.size) 3 1 (.slice A (dq l j).length c9) ((dq l j)).length (((dq l j)).flatMap nb),cC (w.heap.size) 34 (bv c).toArray]) (fun x5 x6 _=>l.length-(intOf x6).toNat)
  case atStart=>exact ⟨0,none,0,rfl,rfl,by omega,H13⟩
  case round =>
   obtain ⟨wo14,rfl⟩:∃ wo14,wo14=wr:=⟨_,rfl⟩
   obtain ⟨j,A,c9,rfl,rfl,hj,H15⟩:=hrel
   refine wp_seq_k (fun K17 hK17=>?_)
   refine wp_seq_k (fun K18 hK18=>?_)
   refine rl ?_
   by_cases p19:(j:Int)<((l.length:Nat):Int)
   ·refine rv (aB (decide_eq_true p19)) ?_
    refine nt (hK18 _ _ ?_)
    refine ct ?_
    refine ks (hK17 _ _ ?_)
    refine wp_seq_k (fun K20 hK20=>?_)
    refine wp_block ?_
    refine wp_seq_k (fun K21 hK21=>?_)
    refine rl ?_
    refine nt (hK21 _ _ ?_)
    refine wp_seq_k (fun K22 hK22=>?_)
    refine rl ?_
    obtain ⟨b23,o24,rfl,hlt26,hE25⟩:=hA (by omega)
    obtain ⟨x27,hx28⟩:∃ x,(l)[j]?=some x:=⟨_,List.getElem?_eq_getElem (by first | omega | (rw [List.length_map,List.length_range];omega))⟩
    have hd29:=av hx28
    obtain ⟨cs,hr30,ha31⟩:=hE25 (j) x27 hx28
    obtain ⟨v32,v33,rfl,xo34,xd35⟩:=dx.1 ha31
    obtain ⟨A36,c37,rfl,hlc37,hmc37,_,hA38⟩:=ak xd35.ins
    obtain ⟨A39,c40,rfl,hlc40,hmc40,_,hA41⟩:=ak xd35.rcp
    simp only [maxLen] at hmc37 hmc40
    have hcs:(az x27.2.2.1).length≤1000000:=by have h1:=ef x27.2.2.1 x27.2.2.1.length;rw [List.take_length] at h1;have h2:=hl _ (List.mem_of_getElem? hx28);omega
    refine rv (dw (j) Tryz.underlying40 cX) ?_
    refine rv (v:=.pointer (some ⟨b23,o24+j*23+20,none⟩)) (by kernel_rfl) ?_
    refine rv (xld (cg xo34 (Mem.range H15 hr30 hlt26)) Tryz.underlying26 (bJ x27.2 (.slice A36 x27.2.2.1.length c37) (.slice A39 x27.2.2.2.length c40))) ?_
    refine an (by kernel_rfl) _ _ (by kernel_rfl) (eK wo14 x27.2 _ _ (Mem.drv H15 xd35) (hl _ (List.mem_of_getElem? hx28))) ?_
    rintro e w46 ⟨A42,c43,rfl,hm44⟩
    refine ⟨_,rfl,rn ?_⟩
    have H47:=Mem.seq H15 hm44
    refine rn ?_
    refine nt (hK22 _ _ ?_)
    refine wp_seq_k (fun K49 hK49=>?_)
    refine wp_seq_k (fun K50 hK50=>?_)
    refine rl ?_
    refine nt (hK50 _ _ ?_)
    refine wp_block ?_
    have hdl:=su hj
    go_loopw [7,9] (fun x7 x9 wr=>∃ k:Nat,x7=.int .i64 ((Dr.nR (l.map itP) (az x27.2.2.1) k:Nat):Int)∧x9=.int .i64 (k:Int)∧(k≤j)∧Mem w wr [aw (wo14.heap.size) 34 20 (.slice A42 (az x27.2.2.1).length c43) ((az x27.2.2.1)).length (((az x27.2.2.1)).flatMap bv),aw (w.heap.size) 3 1 (.slice A (dq l j).length c9) ((dq l j)).length (((dq l j)).flatMap nb),cC (w.heap.size) 34 (bv c).toArray]) (fun x7 x9 _=>j-(intOf x9).toNat)
    case atStart=>exact ⟨0,rfl,rfl,by omega,H47⟩
    case round =>
     obtain ⟨wo51,rfl⟩:∃ wo51,wo51=wr:=⟨_,rfl⟩
     obtain ⟨k,rfl,rfl,hk,H52⟩:=hrel
     have hnb:=xY (ins:=az x27.2.2.1) (k:=k) hbr (by omega)
     refine wp_seq_k (fun K54 hK54=>?_)
     refine wp_seq_k (fun K55 hK55=>?_)
     refine rl ?_
     by_cases p56:(k:Int)<(j:Int)
     ·refine rv (aB (decide_eq_true p56)) ?_
      refine nt (hK55 _ _ ?_)
      refine ct ?_
      refine ks (hK54 _ _ ?_)
      refine wp_seq_k (fun K57 hK57=>?_)
      refine wp_block ?_
      refine wp_seq_k (fun K58 hK58=>?_)
      refine rl ?_
      obtain ⟨x59,hx60⟩:∃ x,(l)[k]?=some x:=⟨_,List.getElem?_eq_getElem (by first | omega | (rw [List.length_map,List.length_range];omega))⟩
      have hd61:=av hx60
      obtain ⟨cs,hr62,ha63⟩:=hE25 (k) x59 hx60
      obtain ⟨v64,v65,rfl,xo66,xd67⟩:=dx.1 ha63
      obtain ⟨A68,c69,rfl,hlc69,hmc69,_,hA70⟩:=ak xd67.ins
      obtain ⟨A71,c72,rfl,hlc72,hmc72,_,hA73⟩:=ak xd67.rcp
      simp only [maxLen] at hmc69 hmc72
      refine rv (dw (k) Tryz.underlying40 cX) ?_
      refine rv (v:=.pointer (some ⟨b23,o24+k*23,none⟩)) (by kernel_rfl) ?_
      refine rv (xld (cy (Mem.range H52 hr62 hlt26)) Tryz.underlying34 (cN xo66)) ?_
      obtain ⟨bm,hbm⟩:∃ b,decide (x59.1∈(az x27.2.2.1))=b:=⟨_,rfl⟩
      refine an (by kernel_rfl) _ _ (by kernel_rfl) (fq wo51 ((az x27.2.2.1)) _ (iX (Mem.own H52 0 rfl) (fJ xd35)) x59.1 xo66 bm hbm) ?_
      rintro e w74 ⟨rfl,hb76⟩
      refine ⟨_,rfl,rn ?_⟩
      have H75:=Mem.call H52 hb76
      cases bm
      ·refine nt (hK58 _ _ ?_)
       refine cf ?_
       refine wp_skip ?_
       refine aq ?_
       refine ab (hK57 _ _ ?_)
       refine rl ?_
       refine rv (aR (((k+1:Nat):Int))) ?_
       refine wpList_nil ?_
       have hnr:=AZ hx60 false hbm rfl
       refine ab ?_
       show _∧_
       go_roundw
       case rel=>exact ⟨(k+1),(by rw [hnr];rfl),rfl,by omega,H75⟩
       case measure=>simp [intOf];omega
      ·refine nt (hK58 _ _ ?_)
       refine ct ?_
       refine rl ?_
       obtain ⟨b77,rfl,hlt80⟩:=aG (Mem.own H75 1 rfl) (by omega)
       obtain ⟨x81,hx82⟩:∃ x,((dq l j))[k]?=some x:=⟨_,List.getElem?_eq_getElem (by first | omega | (rw [List.length_map,List.length_range];omega))⟩
       have hd83:=av hx82
       have hzk:=uU hx60 hx82
       have hzb:=r8 hbr hx60
       refine rv (aT (s:=1) (k) Tryz.underlying79 (by kernel_rfl)) ?_
       refine rv (xlc (range_cell (dW (f:=nb) (by decide) (Mem.own H75 1 rfl) (fun _ _=>rfl) hx82)) Tryz.underlying3) ?_
       refine rv (aR (((x81+1:Nat):Int))) ?_
       refine rv (BJ (o:=⟨some 44,_,_,_,_,_⟩) (.tmp 38) (.tmp 43) 3 3 rfl (Dr.nR (l.map itP) (az x27.2.2.1) k) (x81+1) rfl rfl w74) ?_
       refine wpList_nil ?_
       refine aq ?_
       refine ab (hK57 _ _ ?_)
       refine rl ?_
       refine rv (aR (((k+1:Nat):Int))) ?_
       refine wpList_nil ?_
       have hnr:=AZ hx60 true hbm hzk
       refine ab ?_
       show _∧_
       go_roundw
       case rel=>exact ⟨(k+1),(by rw [hnr];rfl),rfl,by omega,H75⟩
       case measure=>simp [intOf];omega
     ·refine rv (aB (decide_eq_false p56)) ?_
      refine nt (hK55 _ _ ?_)
      refine cf ?_
      refine wp_exit ?_
      refine aj ?_
      refine aj ?_
      refine ax ?_
      refine ab (hK49 _ _ ?_)
      refine rl ?_
      refine aL (o:=⟨some 47,_,_,_,_,_⟩) rfl 79 (.tmp 46) rfl 3 1 (.int .i64 0) (.int .i64 ((Dr.nR (l.map itP) (az x27.2.2.1) k:Nat):Int)) rfl Tryz.underlying79 (by kernel_rfl) (by decide) (by decide) (fun w=>by kernel_rfl) rfl ?_
      intro w84 hn
      have H85:=Mem.bA H52 hn
      clear hn
      refine rn ?_
      obtain ⟨inm3,iq3,ir3,is3,it3⟩:=info_parts vh
      refine aH (o:=⟨some 48,_,_,_,_,_⟩) rfl _ _ 79 rfl (w.heap.size) 3 _ _ 1 8 Tryz.underlying79 iq3 ir3 is3 it3 rfl (by decide) (.slice A (dq l j).length c9) (((dq l j)).length) (((dq l j)).flatMap nb) (Mem.own H85 2 rfl) ((some ⟨wo51.heap.size,0,none⟩)) (1) (1) ([.int .i64 ((Dr.nR (l.map itP) (az x27.2.2.1) k:Nat):Int)]) (bH (n:=1) (m:=1) (Mem.blk H85 0 rfl) rfl (fun u hu=>by rw [List.mem_singleton.1 hu];rfl)) ?hmt86 ?hbt86 ?hzt86 rfl rfl ?_
      case hmt86=>simp only [maxLen];omega
      case hbt86=>omega
      case hzt86=>exact (Mem.below H85).size
      intro u89 w87 ow92 gr93 hp94
      refine rn ?_
      have ow92:w87.ownsRow (w.heap.size) 3 1 u89 ((dq l j)++[Dr.nR (l.map itP) (az x27.2.2.1) k]).length (((dq l j)++[Dr.nR (l.map itP) (az x27.2.2.1) k]).flatMap nb):=by first | simpa using ow92 | (simp at ow92 ⊢;exact ow92)
      obtain ⟨A90,c91,rfl⟩:=aP ow92
      have H88:=Mem.app H85 2 rfl ow92 gr93 hp94
      clear ow92 gr93 hp94
      refine rn ?_
      refine wpList_nil ?_
      refine aq ?_
      refine ab (hK20 _ _ ?_)
      refine rl ?_
      refine rv (aR (((j+1:Nat):Int))) ?_
      refine wpList_nil ?_
      have hje:k=j:=by omega
      have et95:((dq l j)++[Dr.nR (l.map itP) (az x27.2.2.1) k])=(dq l (j+1)):=by rw [hje];exact wE hbr hx28
      rw [et95] at H88 ⊢
      have H96:=Mem.pick H88 [2,3] (by decide) rfl
      refine ab ?_
      show _∧_
      go_roundw
      case rel=>exact ⟨(j+1),A90,c91,rfl,rfl,by omega,H96⟩
      case measure=>simp [intOf];omega
   ·have he97:=bF (l:=l) (j:=j) (by omega)
    refine rv (aB (decide_eq_false p19)) ?_
    refine nt (hK18 _ _ ?_)
    refine cf ?_
    refine wp_exit ?_
    refine aj ?_
    refine aj ?_
    refine ax ?_
    refine ab (hK11 _ _ ?_)
    refine wp_seq_k (fun K98 hK98=>?_)
    refine wp_seq_k (fun K99 hK99=>?_)
    refine rl ?_
    refine nt (hK99 _ _ ?_)
    refine wp_block ?_
    have hje:j=l.length:=by omega
    subst hje
    have hdl:=su (Nat.le_refl l.length)
    go_loopw [10] (fun x10 wr=>∃ i:Nat,x10=.int .i64 (i:Int)∧(i≤l.length)∧(∀ y∈l.take i,¬ y.1=c)∧Mem w wr [aw (w.heap.size) 3 1 (.slice A (dq l l.length).length c9) ((dq l l.length)).length (((dq l l.length)).flatMap nb),cC (w.heap.size) 34 (bv c).toArray]) (fun x10 _=>l.length-(intOf x10).toNat)
    case atStart=>exact ⟨0,rfl,by omega,(fun y hy=>by simp at hy),H15⟩
    case round =>
     obtain ⟨wo100,rfl⟩:∃ wo100,wo100=wr:=⟨_,rfl⟩
     obtain ⟨i,rfl,hi,hni,H101⟩:=hrel
     refine wp_seq_k (fun K103 hK103=>?_)
     refine wp_seq_k (fun K104 hK104=>?_)
     refine rl ?_
     by_cases p105:(i:Int)<((l.length:Nat):Int)
     ·refine rv (aB (decide_eq_true p105)) ?_
      refine nt (hK104 _ _ ?_)
      refine ct ?_
      refine ks (hK103 _ _ ?_)
      refine wp_seq_k (fun K106 hK106=>?_)
      refine wp_block ?_
      refine wp_seq_k (fun K107 hK107=>?_)
      obtain ⟨b108,o109,rfl,hlt111,hE110⟩:=hA (by omega)
      obtain ⟨x112,hx113⟩:∃ x,(l)[i]?=some x:=⟨_,List.getElem?_eq_getElem (by first | omega | (rw [List.length_map,List.length_range];omega))⟩
      have hd114:=av hx113
      obtain ⟨cs,hr115,ha116⟩:=hE110 (i) x112 hx113
      obtain ⟨v117,v118,rfl,xo119,xd120⟩:=dx.1 ha116
      obtain ⟨A121,c122,rfl,hlc122,hmc122,_,hA123⟩:=ak xd120.ins
      obtain ⟨A124,c125,rfl,hlc125,hmc125,_,hA126⟩:=ak xd120.rcp
      simp only [maxLen] at hmc122 hmc125
      refine Fre.aW (X:=Bel) [] (by kernel_rfl) (by kernel_rfl) (by simp) (by simp) (by simp) ?_
      refine Fre.rmd ?_
      refine Fre.mvv (fun _ _=>dw (i) Tryz.underlying40 cX) ?_
      refine Fre.mvv (v:=.pointer (some ⟨b108,o109+i*23,none⟩)) (fun _ _=>by kernel_rfl) ?_
      refine Fre.mvv (fun W9 hW9=>xld (cy (Mem.range (Mem.call H101 hW9) hr115 hlt111)) Tryz.underlying34 (cN xo119)) ?_
      refine Fre.mvv (fun W9 hW9=>xld (Blk.range (Mem.blk (Mem.call H101 hW9) 1 rfl)) Tryz.underlying34 (cN hc)) ?_
      by_cases p127:x112.1=c
      ·refine Fre.mvv (fun W9 _=>b3 (o:=⟨some 61,_,_,_,_,_⟩) 34 34 (.tmp 59) (.tmp 60) rfl (bv x112.1).toArray (bv c).toArray rfl rfl (by kernel_rfl) _ W9 (by have h9:=cU (x112.1) (c) xo119 hc W9;rwa [show decide _=true from (decide_eq_true p127)] at h9)) ?_
       intro w128 hx130
       dsimp only [Fre.ended,List.drop]
       have H129:=Mem.call H101 hx130
       refine ab (hK107 _ _ ?_)
       refine ct ?_
       refine wp_seq_k (fun K131 hK131=>?_)
       refine rl ?_
       obtain ⟨b132,rfl,hlt135⟩:=aG (Mem.own H129 0 rfl) (by omega)
       obtain ⟨x136,hx137⟩:∃ x,((dq l l.length))[i]?=some x:=⟨_,List.getElem?_eq_getElem (by first | omega | (rw [List.length_map,List.length_range];omega))⟩
       have hd138:=av hx137
       refine rv (aT (s:=1) (i) Tryz.underlying79 (by kernel_rfl)) ?_
       refine rv (xlc (range_cell (dW (f:=nb) (by decide) (Mem.own H129 0 rfl) (fun _ _=>rfl) hx137)) Tryz.underlying3) ?_
       refine nt (hK131 _ _ ?_)
       refine wp_ret ?_
       simp only [Exit.then,Exit.inBlock]
       refine bodyPost_ret (results_tmp rfl _ _ _) rfl ?_
       have hz:r9=x136:=hd.symm.trans ((wv hbr hx113 p127).trans ((congrArg (Dr.cI (l.map itP)) p127.symm).trans (uU hx113 hx137).symm))
       subst hz
       exact ⟨rfl,Mem.below H129⟩
      ·refine Fre.mvv (fun W9 _=>b3 (o:=⟨some 61,_,_,_,_,_⟩) 34 34 (.tmp 59) (.tmp 60) rfl (bv x112.1).toArray (bv c).toArray rfl rfl (by kernel_rfl) _ W9 (by have h9:=cU (x112.1) (c) xo119 hc W9;rwa [show decide _=false from (decide_eq_false p127)] at h9)) ?_
       intro w139 hx141
       dsimp only [Fre.ended,List.drop]
       have H140:=Mem.call H101 hx141
       refine ab (hK107 _ _ ?_)
       refine cf ?_
       refine wp_skip ?_
       refine aq ?_
       refine ab (hK106 _ _ ?_)
       refine rl ?_
       refine rv (aR (((i+1:Nat):Int))) ?_
       refine wpList_nil ?_
       refine ab ?_
       show _∧_
       go_roundw
       case rel=>exact ⟨(i+1),rfl,by omega,uk hx113 hni p127,H140⟩
       case measure=>simp [intOf];omega
     ·have he142:=bF (l:=l) (j:=i) (by omega)
      refine rv (aB (decide_eq_false p105)) ?_
      refine nt (hK104 _ _ ?_)
      refine cf ?_
      refine wp_exit ?_
      refine aj ?_
      refine aj ?_
      refine ax ?_
      refine ab (hK98 _ _ ?_)
      refine wp_seq_k (fun K143 hK143=>?_)
      refine rl ?_
      refine nt (hK143 _ _ ?_)
      refine wp_ret ?_
      refine bodyPost_ret (results_tmp rfl _ _ _) rfl ?_
      have hni2:=hni
      rw [List.take_of_length_le (by omega)] at hni2
      have hz:=hd.symm.trans (uq hni2)
      subst hz
      exact ⟨rfl,Mem.below H101⟩
end Go.Proofs.YtomnhnmciopiiaaGreat
end
section
namespace Go.Proofs.YtomnhnmciopiiaaGreat
open Go Go.RowKit Go.Maps
set_option maxRecDepth 100000
attribute [local irreducible] wpList
theorem tX {l:List Itm} {c:Hsh} (h:Dr.bL (l.map itP)=false):dB l c=2∧cA l c=[]:=by
 unfold dB cA
 rw [h]
 exact ⟨rfl,rfl⟩
theorem j3 {l:List Itm} {c:Hsh}:(aX (dh l) c).isSome=(db l c).isSome:=by
 cases h1:(db l c).isSome
 ·cases h2:(aX (dh l) c).isSome
  ·rfl
  ·exfalso
   have h3:=gX h2
   rw [jH] at h3
   obtain ⟨x,hx,hxc⟩:=List.mem_map.1 h3
   have h5:db l c=none:=by
    cases h6:db l c with
    | none=>rfl
    | some _=>rw [h6] at h1;cases h1
   exact List.find?_eq_none.1 h5 x hx (decide_eq_true hxc)
 ·cases h2:(aX (dh l) c).isSome
  ·exfalso
   obtain ⟨x,hx⟩:=Option.isSome_iff_exists.1 h1
   have h3:=List.find?_some hx
   have h4:=List.mem_of_find?_eq_some hx
   refine pk h2 ?_
   rw [jH]
   exact List.mem_map.2 ⟨x,h4,of_decide_eq_true h3⟩
  ·rfl
theorem xa {l:List Itm} {c:Hsh} (h:Dr.bL (l.map itP)=true) (hf:(db l c).isSome=false):dB l c=5∧cA l c=[]:=by
 unfold dB cA
 rw [if_pos h,if_pos h,j3,hf]
 exact ⟨rfl,rfl⟩
theorem tG {l:List Itm} {c:Hsh} (h:Dr.bL (l.map itP)=true) (hf:(db l c).isSome=true):dB l c=0∧cA l c=Dr.bY (l.map itP) c:=by
 unfold dB cA
 rw [if_pos h,if_pos h,j3,if_pos hf,if_pos hf]
 exact ⟨rfl,rfl⟩
theorem yF {l:List Itm} {c:Hsh} (hf:(db l c).isSome=true):c∈Dr.css (l.map itP):=gX (j3.trans hf)
theorem xm {l:List Itm} {c:Hsh} {i:Nat} {all:List Hsh} {a:Hsh} (hg:Dr.kp (l.map itP) c i all) (ha:all[i]?=some a):∃ x,x∈l∧x.1=a∧findD l a=x.2∧(db l a).isSome=true:=by
 have h1:=jy (hg.sub a (List.mem_of_getElem? ha))
 have h2:(db l a).isSome=true:=by
  rw [jH] at h1
  obtain ⟨x,hx,hxa⟩:=List.mem_map.1 h1
  cases h:db l a with
  | some _=>rfl
  | none=>exact absurd (decide_eq_true hxa) (List.find?_eq_none.1 h x hx)
 obtain ⟨x,hx⟩:=Option.isSome_iff_exists.1 h2
 have h3:=List.find?_some hx
 exact ⟨x,List.mem_of_find?_eq_some hx,of_decide_eq_true h3,mV hx,h2⟩
theorem uM (all:List Hsh) (c:Hsh) (b:Bool) (hb:decide (c∈all)=b):Dr.iW all c=if b=true then all else all++[c]:=by
 unfold Dr.iW
 cases b
 ·have:=of_decide_eq_false hb
  rw [if_neg this];rfl
 ·have:=of_decide_eq_true hb
  rw [if_pos this];rfl
theorem yp {l:List Itm} {k:Nat} {x:Itm} (all:List Hsh) (h:l[k]?=some x) (b:Bool) (hb:decide (x.1∈all)=b):((l.take (k+1)).map (·.1)).filter (fun z=>decide (z∈all))=if b=true then ((l.take k).map (·.1)).filter (fun z=>decide (z∈all))++[x.1] else ((l.take k).map (·.1)).filter (fun z=>decide (z∈all)):=by
 rw [List.take_add_one,h,List.map_append,List.filter_append]
 cases b
 ·simp [of_decide_eq_false hb]
 ·simp [of_decide_eq_true hb]
def gW (l:List Itm) (all:List Hsh) (k:Nat):List Hsh:=((l.take k).map (·.1)).filter (fun z=>decide (z∈all))
theorem xK (l:List Itm) (all:List Hsh) (k:Nat):(gW l all k).length≤k:=by
 have h1:=List.length_filter_le (fun z=>decide (z∈all)) ((l.take k).map (·.1))
 rw [List.length_map,List.length_take] at h1
 unfold gW
 omega
theorem pA {l:List Itm} {k:Nat} {x:Itm} (all:List Hsh) (h:l[k]?=some x) (b:Bool) (hb:decide (x.1∈all)=b):gW l all (k+1)=if b=true then gW l all k++[x.1] else gW l all k:=yp all h b hb
theorem xW {l:List Itm} {all:List Hsh} {c:Hsh} (hr:Dr.bL (l.map itP)=true) (hg:Dr.kp (l.map itP) c all.length all):gW l all l.length=Dr.bY (l.map itP) c:=by
 have h:=Dr.xg ((Dr.dO _).1 hr) hg
 rw [jH] at h
 unfold gW
 rw [List.take_length,← h]
 refine List.filter_congr fun x _=>?_
 exact ly _ _ _
theorem Mem.Cc {w0 w w2:World} {L:List Ent} {d:Drv} {v1 v2:Value} (h:Mem w0 w L) (hx:aO w w0.heap.size d v1 v2):aO w0 w0.heap.size d v1 v2 :=
 aO.alike hx fun _ hk=>(h.old hk).symm
theorem uG {all cs:List Hsh} (h:∀ z∈all,okH z) (hc:∀ z∈cs,okH z):∀ z∈Dr.bQ all cs,okH z:=fun z hz=>by
 rcases Dr.eS.1 hz with hz | hz
 ·exact h z hz
 ·exact hc z hz
theorem rq (all:List Hsh):∀ cs:List Hsh,(Dr.bQ all cs).length≤all.length+cs.length
 | []=>Nat.le_refl _
 | c :: cs=>by
  have h1:=rq (Dr.iW all c) cs
  have h2:(Dr.iW all c).length≤all.length+1:=by
   unfold Dr.iW
   split
   ·omega
   ·simp
  show (Dr.bQ (Dr.iW all c) cs).length≤_
  rw [List.length_cons]
  omega
theorem zX {c:Hsh} (hc:okH c):∀ z∈[c],okH z:=fun z hz=>by rw [List.mem_singleton.1 hz];exact hc
theorem u0 {α:Type} {M:Lay α} {w0 w:World} {L:List Ent} {cs:List Value} {x:α} (h:Mem w0 w L) (hx:M.At w0 w0.heap.size cs x):M.At w w0.heap.size cs x:=M.alike hx h.alike
theorem Mem.kZ {α:Type} {f:α→List Value} {l:List α} {w0 w:World} {L:List Ent} {g B s cap:Nat} {t:TypeId} {cs:Array Value} (h:Mem w0 w L) (i:Nat) (hi:L[i]?=some (cC g t cs)) (hcs:cs.toList=l.flatMap f) (hl:(l.flatMap f).length=cap*s) (hc:l.length=cap) (h24:cap≤maxLen) (hB:B=w0.heap.size:=by rfl) :
  Mem w0 w (L.set i (aw B t s (.slice (some ⟨g,0,none⟩) l.length cap) l.length (l.flatMap f))) :=
 h.sq i hi (eh _ _ _ _ _ _) ⟨by rw [hl,hc],.inr ⟨g,cap,cs,rfl,hB▸(h.from_ i hi rfl).1,h.blk i hi,by omega,h24,by rw [← Array.length_toList,hcs,hl],by rw [hcs,hc,List.take_of_length_le (by omega)]⟩⟩ fun b hb=>by
  have e:some g=some b:=hb
  injection e with e
  exact e.symm
set_option maxHeartbeats 4000000 in
theorem uf (w:World) (l:List Itm) (v:Value) (h:eM.At w w.heap.size [v] l) (hl:∀ x∈l,x.2.2.1.length≤1000000) (hlen:l.length≤1000000) (c:Hsh) (hc:okH c) :
  Calls Tryz.prog 34 #[v,.agg (bv c).toArray] w fun e w'=>∃ A cap,e=.returned (.tuple #[.slice A (cA l c).length cap,.int .i64 (dB l c)])∧Mem w w' [aw w.heap.size 34 20 (.slice A (cA l c).length cap) (cA l c).length ((cA l c).flatMap bv)]:=by
 obtain ⟨A0,cap,rfl,_,hcm,_,hA⟩:=ak h
 simp only [maxLen] at hcm
 have H0:=Mem.start w
 go_enter Tryz.func34,Tryz.ntmps34
 refine wp_seq_k (fun K1 hK1=>?_)
 refine rl ?_
 refine ay (o:=⟨some 3,_,_,_,_,_⟩) rfl 34 (.tmp 1) rfl (bv c).toArray rfl ?_
 intro w2 hn
 have H3:=Mem.bA H0 hn
 clear hn
 refine rn ?_
 refine nt (hK1 _ _ ?_)
 refine wp_seq_k (fun K4 hK4=>?_)
 refine wp_seq_k (fun K5 hK5=>?_)
 refine rl ?_
 obtain ⟨br,hbr⟩:∃ b,Dr.bL (l.map itP)=b:=⟨_,rfl⟩
 refine an (by kernel_rfl) _ _ (by kernel_rfl) (kb w2 l _ (Mem.lay H3 h) hl hlen br hbr) ?_
 rintro e w6 ⟨rfl,hb8⟩
 refine ⟨_,rfl,rn ?_⟩
 have H7:=Mem.call H3 hb8
 cases br
 ·refine rn ?_
  refine nt (hK5 _ _ ?_)
  refine ct ?_
  refine wp_seq_k (fun K9 hK9=>?_)
  refine rl ?_
  refine nt (hK9 _ _ ?_)
  refine wp_ret ?_
  simp only [Exit.then]
  refine bodyPost_ret (cB (r1:=.tmp 4) (r2:=.tmp 5) rfl ⟨rfl,rfl,trivial⟩) rfl ?_
  obtain ⟨e1,e2⟩:=tX (c:=c) hbr
  rw [e1,e2]
  exact ⟨_,_,rfl,Mem.pick (Mem.dI H7 _ _ _) [0] (by decide) rfl⟩
 ·refine rn ?_
  refine nt (hK5 _ _ ?_)
  refine cf ?_
  refine ks (hK4 _ _ ?_)
  refine wp_seq_k (fun K10 hK10=>?_)
  refine rl ?_
  refine rv (xld (Blk.range (Mem.blk H7 0 rfl)) Tryz.underlying34 (cN hc)) ?_
  obtain ⟨bf,hbf⟩:∃ b,(db l c).isSome=b:=⟨_,rfl⟩
  obtain ⟨d13,hd13⟩:∃ d,findD l c=d:=⟨_,rfl⟩
  refine an (by kernel_rfl) _ _ (by kernel_rfl) (xJ w6 w.heap.size (Mem.below H7).size l _ (u0 H7 h) c hc d13 hd13 bf hbf) ?_
  rintro e w15 ⟨u11,u12,rfl,xd14,hb17⟩
  refine ⟨_,rfl,rn ?_⟩
  have H16:=Mem.call H7 hb17
  have xd14:=Mem.Cc (w2:=w) H7 xd14
  refine rn ?_
  refine aC (o:=⟨some 6,_,_,_,_,_⟩) rfl 26 zcD (by kernel_rfl) ?_
  intro w18 hn
  have H19:=Mem.bA H16 hn
  clear hn
  refine rn ?_
  refine al (o:=⟨none,_,_,_,_,_⟩) rfl 26 (.tmp 6) (.tmp 23) rfl w15.heap.size zcD (dC d13 u11 u12).toArray 26 (Mem.blk H19 0 rfl) (dF d13 u11 u12) (dk fP (dF d13 u11 u12)) (ll d13 (aO.iM xd14).1 (aO.iM xd14).2) rfl rfl ?_
  intro w20 hk hg
  have H21:=Mem.st H19 0 rfl hk hg
  clear hk hg
  refine rn ?_
  refine nt (hK10 _ _ ?_)
  refine wp_seq_k (fun K22 hK22=>?_)
  refine wp_seq_k (fun K23 hK23=>?_)
  refine rl ?_
  refine rv sQ ?_
  refine nt (hK23 _ _ ?_)
  cases bf
  ·refine ct ?_
   refine wp_seq_k (fun K24 hK24=>?_)
   refine rl ?_
   refine nt (hK24 _ _ ?_)
   refine wp_ret ?_
   simp only [Exit.then]
   refine bodyPost_ret (cB (r1:=.tmp 4) (r2:=.tmp 5) rfl ⟨rfl,rfl,trivial⟩) rfl ?_
   obtain ⟨e1,e2⟩:=xa hbr hbf
   rw [e1,e2]
   exact ⟨_,_,rfl,Mem.pick (Mem.dI H21 _ _ _) [0] (by decide) rfl⟩
  ·refine cf ?_
   refine ks (hK22 _ _ ?_)
   refine wp_seq_k (fun K25 hK25=>?_)
   refine rl ?_
   refine rv (xld (Blk.range (Mem.blk H21 1 rfl)) Tryz.underlying34 (cN hc)) ?_
   refine aL (o:=⟨some 28,_,_,_,_,_⟩) rfl 27 (.tmp 27) rfl 34 20 (.agg zcH) (.agg (bv c).toArray) rfl Tryz.underlying27 cJ (by decide) (by decide) (fun w=>by kernel_rfl) (by rw [Value.cells,List.size_toArray,bvL];exact hc) ?_
   intro w26 hn
   have H27:=Mem.bA H21 hn
   clear hn
   refine rn ?_
   refine nt (hK25 _ _ ?_)
   refine wp_seq_k (fun K28 hK28=>?_)
   refine wp_seq_k (fun K29 hK29=>?_)
   refine rl ?_
   refine nt (hK29 _ _ ?_)
   refine wp_block ?_
   have H30:=Mem.kZ H27 0 rfl (f:=bv) (l:=[c]) (B:=w.heap.size) (t:=34) (s:=20) (cap:=1) (by simp [Value.cells]) (by simp [bvL,show c.length=20 from hc]) rfl (by decide)
   have H31:=Mem.pick H30 [0,2] (by decide) rfl
   go_loopw [8,9] (fun x8 x9 wr=>∃ i:Nat,∃ all:List Hsh,∃ A:Option Addr,∃ c9:Nat,x8=.slice A all.length c9∧x9=.int .i64 (i:Int)∧(i≤all.length)∧(∀ z∈all,okH z)∧(Dr.kp (l.map itP) c i all)∧Mem w wr [aw (w.heap.size) 34 20 (.slice A all.length c9) (all).length ((all).flatMap bv),cC (w.heap.size) 34 (bv c).toArray]) (fun x8 x9 _=>l.length+1-(intOf x9).toNat)
   case atStart=>exact ⟨0,([c]),((some ⟨w20.heap.size,0,none⟩)),1,rfl,rfl,by omega,(zX hc),Dr.tP ((Dr.dO _).1 hbr) (yF hbf),H31⟩
   case round =>
    obtain ⟨wo32,rfl⟩:∃ wo32,wo32=wr:=⟨_,rfl⟩
    obtain ⟨i,all,A,c9,rfl,rfl,hi,hall,hg,H33⟩:=hrel
    have hgl:=Dr.qM hg
    rw [List.length_map] at hgl
    refine wp_seq_k (fun K35 hK35=>?_)
    refine wp_seq_k (fun K36 hK36=>?_)
    refine rl ?_
    by_cases p37:(i:Int)<((all.length:Nat):Int)
    ·refine rv (aB (decide_eq_true p37)) ?_
     refine nt (hK36 _ _ ?_)
     refine ct ?_
     refine ks (hK35 _ _ ?_)
     refine wp_seq_k (fun K38 hK38=>?_)
     refine wp_block ?_
     refine wp_seq_k (fun K39 hK39=>?_)
     refine rl ?_
     obtain ⟨b40,rfl,hlt43⟩:=aG (Mem.own H33 0 rfl) (by omega)
     obtain ⟨x44,hx45⟩:∃ x,(all)[i]?=some x:=⟨_,List.getElem?_eq_getElem (by first | omega | (rw [List.length_map,List.length_range];omega))⟩
     have hd46:=av hx45
     have ok47:=hall _ (List.mem_of_getElem? hx45)
     refine rv (aT (i) Tryz.underlying27 cJ) ?_
     refine rv (xld (dW (f:=bv) (by decide) (Mem.own H33 0 rfl) (fun z hz=>by rw [bvL];exact hall z hz) hx45) Tryz.underlying34 (cN ok47)) ?_
     obtain ⟨x48,hx49,hxa50,hfd51,hfi52⟩:=xm hg hx45
     have hcs:(az x48.2.2.1).length≤1000000:=by have h1:=ef x48.2.2.1 x48.2.2.1.length;rw [List.take_length] at h1;have h2:=hl _ hx49;omega
     refine an (by kernel_rfl) _ _ (by kernel_rfl) (xJ wo32 w.heap.size (Mem.below H33).size l _ (u0 H33 h) x44 ok47 x48.2 hfd51 true hfi52) ?_
     rintro e w56 ⟨u53,u54,rfl,xd55,hb58⟩
     refine ⟨_,rfl,rn ?_⟩
     have H57:=Mem.call H33 hb58
     have xd55:=Mem.Cc (w2:=w) H33 xd55
     refine rn ?_
     refine aC (o:=⟨some 10,_,_,_,_,_⟩) rfl 26 zcD (by kernel_rfl) ?_
     intro w59 hn
     have H60:=Mem.bA H57 hn
     clear hn
     refine rn ?_
     refine al (o:=⟨none,_,_,_,_,_⟩) rfl 26 (.tmp 10) (.tmp 42) rfl w56.heap.size zcD (dC x48.2 u53 u54).toArray 26 (Mem.blk H60 0 rfl) (dF x48.2 u53 u54) (dk fP (dF x48.2 u53 u54)) (ll x48.2 (aO.iM xd55).1 (aO.iM xd55).2) rfl rfl ?_
     intro w61 hk hg
     have H62:=Mem.st H60 0 rfl hk hg
     clear hk hg
     refine rn ?_
     refine nt (hK39 _ _ ?_)
     refine wp_seq_k (fun K63 hK63=>?_)
     refine rl ?_
     refine rv (xld (Blk.range (Mem.blk H62 0 rfl)) Tryz.underlying26 (bJ x48.2 u53 u54)) ?_
     refine an (by kernel_rfl) _ _ (by kernel_rfl) (eK w61 x48.2 _ _ (Mem.drv H62 xd55) (hl _ hx49)) ?_
     rintro e w68 ⟨A64,c65,rfl,hm66⟩
     refine ⟨_,rfl,rn ?_⟩
     have H69:=Mem.seq H62 hm66
     refine rn ?_
     refine nt (hK63 _ _ ?_)
     refine wp_seq_k (fun K71 hK71=>?_)
     refine rl ?_
     refine nt (hK71 _ _ ?_)
     refine wp_block ?_
     have H72:=Mem.pick H69 [2,0,3] (by decide) rfl
     go_loopw [8,13] (fun x8 x13 wr=>∃ k:Nat,∃ A2:Option Addr,∃ c2:Nat,x8=.slice A2 (Dr.bQ all ((az x48.2.2.1).take k)).length c2∧x13=.int .i64 (k:Int)∧(k≤(az x48.2.2.1).length)∧Mem w wr [aw (w.heap.size) 34 20 (.slice A2 (Dr.bQ all ((az x48.2.2.1).take k)).length c2) ((Dr.bQ all ((az x48.2.2.1).take k))).length (((Dr.bQ all ((az x48.2.2.1).take k))).flatMap bv),aw (w61.heap.size) 34 20 (.slice A64 (az x48.2.2.1).length c65) ((az x48.2.2.1)).length (((az x48.2.2.1)).flatMap bv),cC (w.heap.size) 34 (bv c).toArray]) (fun x8 x13 _=>(az x48.2.2.1).length-(intOf x13).toNat)
     case atStart=>exact ⟨0,((some ⟨b40,0,none⟩)),c9,rfl,rfl,by omega,H72⟩
     case round =>
      obtain ⟨wo73,rfl⟩:∃ wo73,wo73=wr:=⟨_,rfl⟩
      obtain ⟨k,A2,c2,rfl,rfl,hk,H74⟩:=hrel
      have hal:=rq all ((az x48.2.2.1).take k)
      rw [List.length_take] at hal
      refine wp_seq_k (fun K76 hK76=>?_)
      refine wp_seq_k (fun K77 hK77=>?_)
      refine rl ?_
      by_cases p78:(k:Int)<(((az x48.2.2.1).length:Nat):Int)
      ·refine rv (aB (decide_eq_true p78)) ?_
       refine nt (hK77 _ _ ?_)
       refine ct ?_
       refine ks (hK76 _ _ ?_)
       refine wp_seq_k (fun K79 hK79=>?_)
       refine wp_block ?_
       refine wp_seq_k (fun K80 hK80=>?_)
       refine rl ?_
       obtain ⟨b81,rfl,hlt84⟩:=aG (Mem.own H74 1 rfl) (by omega)
       obtain ⟨x85,hx86⟩:∃ x,((az x48.2.2.1))[k]?=some x:=⟨_,List.getElem?_eq_getElem (by first | omega | (rw [List.length_map,List.length_range];omega))⟩
       have hd87:=av hx86
       have ok88:=(fJ xd55) _ (List.mem_of_getElem? hx86)
       refine rv (aT (k) Tryz.underlying27 cJ) ?_
       refine rv (xld (dW (f:=bv) (by decide) (Mem.own H74 1 rfl) (fun z hz=>by rw [bvL];exact (fJ xd55) z hz) hx86) Tryz.underlying34 (cN ok88)) ?_
       obtain ⟨ba,hba⟩:∃ b,decide (x85∈(Dr.bQ all ((az x48.2.2.1).take k)))=b:=⟨_,rfl⟩
       refine an (by kernel_rfl) _ _ (by kernel_rfl) (fq wo73 ((Dr.bQ all ((az x48.2.2.1).take k))) _ (iX (Mem.own H74 0 rfl) (uG hall (fun z hz=>(fJ xd55) z (List.mem_of_mem_take hz)))) x85 ok88 ba hba) ?_
       rintro e w89 ⟨rfl,hb91⟩
       refine ⟨_,rfl,rn ?_⟩
       have H90:=Mem.call H74 hb91
       cases ba
       ·refine rn ?_
        refine nt (hK80 _ _ ?_)
        refine ct ?_
        refine rl ?_
        refine rv (aT (k) Tryz.underlying27 cJ) ?_
        refine rv (xld (dW (f:=bv) (by decide) (Mem.own H90 1 rfl) (fun z hz=>by rw [bvL];exact (fJ xd55) z hz) hx86) Tryz.underlying34 (cN ok88)) ?_
        refine aL (o:=⟨some 64,_,_,_,_,_⟩) rfl 27 (.tmp 63) rfl 34 20 (.agg zcH) (.agg (bv x85).toArray) rfl Tryz.underlying27 cJ (by decide) (by decide) (fun w=>by kernel_rfl) (by rw [Value.cells,List.size_toArray,bvL];exact ok88) ?_
        intro w92 hn
        have H93:=Mem.bA H90 hn
        clear hn
        refine rn ?_
        obtain ⟨inm34,iq34,ir34,is34,it34⟩:=info_parts dJ
        refine aH (o:=⟨some 65,_,_,_,_,_⟩) rfl _ _ 27 rfl (w.heap.size) 34 _ _ 20 20 Tryz.underlying27 iq34 ir34 is34 it34 rfl (by decide) (.slice A2 (Dr.bQ all ((az x48.2.2.1).take k)).length c2) (((Dr.bQ all ((az x48.2.2.1).take k))).length) (((Dr.bQ all ((az x48.2.2.1).take k))).flatMap bv) (Mem.own H93 1 rfl) ((some ⟨w89.heap.size,0,none⟩)) (1) (1) (bv x85) (bH (n:=20) (m:=1) (Mem.blk H93 0 rfl) (by rw [bvL];exact ok88) (bv1 _)) ?hmt94 ?hbt94 ?hzt94 rfl rfl ?_
        case hmt94=>simp only [maxLen];omega
        case hbt94=>omega
        case hzt94=>exact (Mem.below H93).size
        intro u97 w95 ow100 gr101 hp102
        refine rn ?_
        have ow100:w95.ownsRow (w.heap.size) 34 20 u97 ((Dr.bQ all ((az x48.2.2.1).take k))++[x85]).length (((Dr.bQ all ((az x48.2.2.1).take k))++[x85]).flatMap bv):=by first | simpa using ow100 | (simp at ow100 ⊢;exact ow100)
        obtain ⟨A98,c99,rfl⟩:=aP ow100
        have H96:=Mem.app H93 1 rfl ow100 gr101 hp102
        clear ow100 gr101 hp102
        refine rn ?_
        refine wpList_nil ?_
        refine aq ?_
        refine ab (hK79 _ _ ?_)
        refine rl ?_
        refine rv (aR (((k+1:Nat):Int))) ?_
        refine wpList_nil ?_
        have et103:((Dr.bQ all ((az x48.2.2.1).take k))++[x85])=(Dr.bQ all ((az x48.2.2.1).take (k+1))):=by rw [Dr.mj hx86,uM _ _ false hba];rfl
        rw [et103] at H96 ⊢
        have H104:=Mem.pick H96 [1,2,3] (by decide) rfl
        refine ab ?_
        show _∧_
        go_roundw
        case rel=>exact ⟨(k+1),A98,c99,rfl,rfl,by omega,H104⟩
        case measure=>simp [intOf];omega
       ·refine rn ?_
        refine nt (hK80 _ _ ?_)
        refine cf ?_
        refine wp_skip ?_
        refine aq ?_
        refine ab (hK79 _ _ ?_)
        refine rl ?_
        refine rv (aR (((k+1:Nat):Int))) ?_
        refine wpList_nil ?_
        have et105:(Dr.bQ all ((az x48.2.2.1).take k))=(Dr.bQ all ((az x48.2.2.1).take (k+1))):=by rw [Dr.mj hx86,uM _ _ true hba];rfl
        rw [et105] at H90 ⊢
        refine ab ?_
        show _∧_
        go_roundw
        case rel=>exact ⟨(k+1),A2,c2,rfl,rfl,by omega,H90⟩
        case measure=>simp [intOf];omega
      ·have he106:=bF (l:=(az x48.2.2.1)) (j:=k) (by omega)
       refine rv (aB (decide_eq_false p78)) ?_
       refine nt (hK77 _ _ ?_)
       refine cf ?_
       refine wp_exit ?_
       refine aj ?_
       refine aj ?_
       refine ax ?_
       refine aq ?_
       refine ab (hK38 _ _ ?_)
       refine rl ?_
       refine rv (aR (((i+1:Nat):Int))) ?_
       refine wpList_nil ?_
       have hke:k=(az x48.2.2.1).length:=by omega
       have et107:(Dr.bQ all ((az x48.2.2.1).take k))=(Dr.bQ all (az x48.2.2.1)):=by rw [hke,List.take_length]
       rw [et107] at H74 ⊢
       have hgn:=Dr.vl ((Dr.dO _).1 hbr) hg hx45 (x:=itP x48) (List.mem_map.2 ⟨_,hx49,rfl⟩) hxa50
       have hgnl:=Dr.qM hgn
       rw [List.length_map] at hgnl
       have hil:i+1≤(Dr.bQ all (az x48.2.2.1)).length:=by obtain ⟨t,ht⟩:=Dr.kc (az x48.2.2.1) all;rw [ht,List.length_append];omega
       have H108:=Mem.pick H74 [0,2] (by decide) rfl
       refine ab ?_
       show _∧_
       go_roundw
       case rel=>exact ⟨(i+1),((Dr.bQ all (az x48.2.2.1))),A2,c2,rfl,rfl,by omega,(uG hall (fJ xd55)),hgn,H108⟩
       case measure=>simp [intOf];omega
    ·have he109:=bF (l:=all) (j:=i) (by omega)
     refine rv (aB (decide_eq_false p37)) ?_
     refine nt (hK36 _ _ ?_)
     refine cf ?_
     refine wp_exit ?_
     refine aj ?_
     refine aj ?_
     refine ax ?_
     refine ab (hK28 _ _ ?_)
     refine wp_seq_k (fun K110 hK110=>?_)
     refine rl ?_
     refine nt (hK110 _ _ ?_)
     refine wp_seq_k (fun K111 hK111=>?_)
     refine wp_seq_k (fun K112 hK112=>?_)
     refine rl ?_
     refine nt (hK112 _ _ ?_)
     refine wp_block ?_
     have hie:i=all.length:=by omega
     have hg2:=hg
     rw [hie] at hg2
     have hgl2:=Dr.qM hg2
     rw [List.length_map] at hgl2
     have H113:=Mem.dI H33 w.heap.size 34 20
     go_loopw [14,15] (fun x14 x15 wr=>∃ j:Nat,∃ A3:Option Addr,∃ c3:Nat,x14=.slice A3 (gW l all j).length c3∧x15=.int .i64 (j:Int)∧(j≤l.length)∧Mem w wr [aw (w.heap.size) 34 20 (.slice A3 (gW l all j).length c3) ((gW l all j)).length (((gW l all j)).flatMap bv),aw (w.heap.size) 34 20 (.slice A all.length c9) (all).length ((all).flatMap bv),cC (w.heap.size) 34 (bv c).toArray]) (fun x14 x15 _=>l.length-(intOf x15).toNat)
     case atStart=>exact ⟨0,none,0,rfl,rfl,by omega,H113⟩
     case round =>
      obtain ⟨wo114,rfl⟩:∃ wo114,wo114=wr:=⟨_,rfl⟩
      obtain ⟨j,A3,c3,rfl,rfl,hj,H115⟩:=hrel
      have hfl:=xK l all j
      refine wp_seq_k (fun K117 hK117=>?_)
      refine wp_seq_k (fun K118 hK118=>?_)
      refine rl ?_
      by_cases p119:(j:Int)<((l.length:Nat):Int)
      ·refine rv (aB (decide_eq_true p119)) ?_
       refine nt (hK118 _ _ ?_)
       refine ct ?_
       refine ks (hK117 _ _ ?_)
       refine wp_seq_k (fun K120 hK120=>?_)
       refine wp_block ?_
       refine wp_seq_k (fun K121 hK121=>?_)
       refine rl ?_
       obtain ⟨b122,o123,rfl,hlt125,hE124⟩:=hA (by omega)
       obtain ⟨x126,hx127⟩:∃ x,(l)[j]?=some x:=⟨_,List.getElem?_eq_getElem (by first | omega | (rw [List.length_map,List.length_range];omega))⟩
       have hd128:=av hx127
       obtain ⟨cs,hr129,ha130⟩:=hE124 (j) x126 hx127
       obtain ⟨v131,v132,rfl,xo133,xd134⟩:=dx.1 ha130
       obtain ⟨A135,c136,rfl,hlc136,hmc136,_,hA137⟩:=ak xd134.ins
       obtain ⟨A138,c139,rfl,hlc139,hmc139,_,hA140⟩:=ak xd134.rcp
       simp only [maxLen] at hmc136 hmc139
       refine rv (dw (j) Tryz.underlying40 cX) ?_
       refine rv (v:=.pointer (some ⟨b122,o123+j*23,none⟩)) (by kernel_rfl) ?_
       refine rv (xld (cy (Mem.range H115 hr129 hlt125)) Tryz.underlying34 (cN xo133)) ?_
       obtain ⟨bo,hbo⟩:∃ b,decide (x126.1∈all)=b:=⟨_,rfl⟩
       refine an (by kernel_rfl) _ _ (by kernel_rfl) (fq wo114 (all) _ (iX (Mem.own H115 1 rfl) hall) x126.1 xo133 bo hbo) ?_
       rintro e w141 ⟨rfl,hb143⟩
       refine ⟨_,rfl,rn ?_⟩
       have H142:=Mem.call H115 hb143
       cases bo
       ·refine nt (hK121 _ _ ?_)
        refine cf ?_
        refine wp_skip ?_
        refine aq ?_
        refine ab (hK120 _ _ ?_)
        refine rl ?_
        refine rv (aR (((j+1:Nat):Int))) ?_
        refine wpList_nil ?_
        have et144:(gW l all j)=(gW l all (j+1)):=by rw [pA all hx127 false hbo];rfl
        rw [et144] at H142 ⊢
        refine ab ?_
        show _∧_
        go_roundw
        case rel=>exact ⟨(j+1),A3,c3,rfl,rfl,by omega,H142⟩
        case measure=>simp [intOf];omega
       ·refine nt (hK121 _ _ ?_)
        refine ct ?_
        refine rl ?_
        refine rv (dw (j) Tryz.underlying40 cX) ?_
        refine rv (v:=.pointer (some ⟨b122,o123+j*23,none⟩)) (by kernel_rfl) ?_
        refine rv (xld (cy (Mem.range H142 hr129 hlt125)) Tryz.underlying34 (cN xo133)) ?_
        refine aL (o:=⟨some 85,_,_,_,_,_⟩) rfl 27 (.tmp 84) rfl 34 20 (.agg zcH) (.agg (bv x126.1).toArray) rfl Tryz.underlying27 cJ (by decide) (by decide) (fun w=>by kernel_rfl) (by rw [Value.cells,List.size_toArray,bvL];exact xo133) ?_
        intro w145 hn
        have H146:=Mem.bA H142 hn
        clear hn
        refine rn ?_
        obtain ⟨inm34,iq34,ir34,is34,it34⟩:=info_parts dJ
        refine aH (o:=⟨some 86,_,_,_,_,_⟩) rfl _ _ 27 rfl (w.heap.size) 34 _ _ 20 20 Tryz.underlying27 iq34 ir34 is34 it34 rfl (by decide) (.slice A3 (gW l all j).length c3) (((gW l all j)).length) (((gW l all j)).flatMap bv) (Mem.own H146 1 rfl) ((some ⟨w141.heap.size,0,none⟩)) (1) (1) (bv x126.1) (bH (n:=20) (m:=1) (Mem.blk H146 0 rfl) (by rw [bvL];exact xo133) (bv1 _)) ?hmt147 ?hbt147 ?hzt147 rfl rfl ?_
        case hmt147=>simp only [maxLen];omega
        case hbt147=>omega
        case hzt147=>exact (Mem.below H146).size
        intro u150 w148 ow153 gr154 hp155
        refine rn ?_
        have ow153:w148.ownsRow (w.heap.size) 34 20 u150 ((gW l all j)++[x126.1]).length (((gW l all j)++[x126.1]).flatMap bv):=by first | simpa using ow153 | (simp at ow153 ⊢;exact ow153)
        obtain ⟨A151,c152,rfl⟩:=aP ow153
        have H149:=Mem.app H146 1 rfl ow153 gr154 hp155
        clear ow153 gr154 hp155
        refine rn ?_
        refine wpList_nil ?_
        refine aq ?_
        refine ab (hK120 _ _ ?_)
        refine rl ?_
        refine rv (aR (((j+1:Nat):Int))) ?_
        refine wpList_nil ?_
        have et156:((gW l all j)++[x126.1])=(gW l all (j+1)):=by rw [pA all hx127 true hbo];rfl
        rw [et156] at H149 ⊢
        have H157:=Mem.pick H149 [1,2,3] (by decide) rfl
        refine ab ?_
        show _∧_
        go_roundw
        case rel=>exact ⟨(j+1),A151,c152,rfl,rfl,by omega,H157⟩
        case measure=>simp [intOf];omega
      ·have he158:=bF (l:=l) (j:=j) (by omega)
       refine rv (aB (decide_eq_false p119)) ?_
       refine nt (hK118 _ _ ?_)
       refine cf ?_
       refine wp_exit ?_
       refine aj ?_
       refine aj ?_
       refine ax ?_
       refine ab (hK111 _ _ ?_)
       refine wp_seq_k (fun K159 hK159=>?_)
       refine rl ?_
       refine nt (hK159 _ _ ?_)
       refine wp_ret ?_
       refine bodyPost_ret (cB (r1:=.tmp 4) (r2:=.tmp 5) rfl ⟨rfl,rfl,trivial⟩) rfl ?_
       have hje:j=l.length:=by omega
       obtain ⟨e1,e2⟩:=tG hbr hbf
       have e3:=xW hbr hg2
       rw [← hje] at e3
       rw [e1,e2,← e3]
       exact ⟨_,_,rfl,(Mem.pick H115 [0] (by decide) rfl)⟩
end Go.Proofs.YtomnhnmciopiiaaGreat
end
section
namespace Go.Proofs.YtomnhnmciopiiaaGreat
open Go Go.RowKit Go.Maps
set_option maxRecDepth 100000
theorem wq:(Tryz.prog.info? 98).map (fun i=>(i.zero,i.size,i.bytes))=some (some (.agg zcT),23,88):=by kernel_rfl
theorem Cg (x:Itm) {v1 v2:Value} (h1:v1.oneCell'=true) (h2:v2.oneCell'=true):∀ u∈tC x v1 v2,u.oneCell'=true:=fun u hu=>by
 have h:=jh x h1 h2
 exact h u hu
theorem ya {w:World} {ls:List dD} {p:dD} (h:∀ q∈ls,okH q.1.1∧aO w w.heap.size q.1.2 q.2.1 q.2.2) (hp:okH p.1.1∧aO w w.heap.size p.1.2 p.2.1 p.2.2):∀ q∈ls++[p],okH q.1.1∧aO w w.heap.size q.1.2 q.2.1 q.2.2:=fun q hq=>by
 rcases List.mem_append.1 hq with hq | hq
 ·exact h q hq
 ·rw [List.mem_singleton.1 hq];exact hp
section
variable {hof:Drv→Hsh} {l:List Itm} {d:Drv}
end
end Go.Proofs.YtomnhnmciopiiaaGreat
end
section
namespace Go.Proofs.YtomnhnmciopiiaaGreat
open Go Go.RowKit Go.Maps
set_option maxRecDepth 100000
attribute [local irreducible] wpList
theorem vU {ρ:Operand→Value} {o:Oper} (x y:Operand) (ho:o.op=.build 98 #[(0,x),(1,y)]) {c:Hsh} {d:Drv} {v1 v2:Value} (hc:okH c) (hx:ρ x=.agg (bv c).toArray) (hy:ρ y=.agg (dC d v1 v2).toArray) (W:World) :
  (execOp ρ o).run Tryz.prog W=.ok (.value (.agg (tC (c,d) v1 v2).toArray)) W:=by
 have h:=gy (P:=Tryz.prog) (ρ:=ρ) (o:=o) 98 x y ho (n1:=20) (n2:=3) (z:=.agg zcT) hx hy Tryz.underlying98 (fun w=>by kernel_rfl) (by kernel_rfl) (fun w=>by kernel_rfl) (by rw [Value.cells,List.size_toArray,bvL];exact hc) rfl W
 rw [h]
 simp [Value.cells,tC]
end Go.Proofs.YtomnhnmciopiiaaGreat
end
section
namespace Go.Proofs.YtomnhnmciopiiaaGreat
open Go Go.RowKit Go.Maps
set_option maxRecDepth 100000
attribute [local irreducible] wpList
def dV9 (p:dD):List Value:=dC p.1.2 p.2.1 p.2.2
theorem np {α:Type} {l:List α} {k:Nat} {x:α} (h:l[k]?=some x):l.take k++[x]=l.take (k+1):=by rw [List.take_add_one,h];rfl
end Go.Proofs.YtomnhnmciopiiaaGreat
end
section
namespace Go.Proofs.YtomnhnmciopiiaaGreat
open Go Go.RowKit Go.Maps
set_option maxRecDepth 100000
attribute [local irreducible] wpList
theorem As {ls:List dD} {l:List Itm} (e:ls.map (·.1)=l) {j:Nat} {p:dD} {x:Itm} (hp:ls[j]?=some p) (hx:l[j]?=some x):p.1=x:=by
 rw [← e,List.getElem?_map,hp] at hx
 exact Option.some.inj hx
theorem wN (w:World) (d d2:Drv) (e:d2=d) (u1 u2 v1 v2:Value) (B:Nat) (hx9:cM w B d2 u1 u2) (h:aO w w.heap.size d v1 v2) (hl1:d.2.1.length≤1000000) (hl2:d.2.2.length≤1000000) :
  Calls Tryz.prog 23 #[.agg (dC d2 u1 u2).toArray,.agg (dC d v1 v2).toArray] w fun e w'=>e=.returned (.bool true)∧Below w.heap.size w w':=by
 subst e
 exact sA w d2 u1 u2 v1 v2 B hx9 h hl1 hl2
theorem cM.old {w0 w:World} {L:List Ent} {B:Nat} {d:Drv} {u1 u2:Value} (h:cM w0 B d u1 u2) (m:Mem w0 w L):cM w B d u1 u2:=h.xf fun b _ hl=>m.below.block b hl
end Go.Proofs.YtomnhnmciopiiaaGreat
end
section
namespace Go.Proofs.YtomnhnmciopiiaaGreat
open Go Go.RowKit Go.Maps
set_option maxRecDepth 100000
attribute [local irreducible] wpList
theorem rB {α:Type} {w:World} {s n c:Nat} {A:Option Addr} {f:α→List Value} {p:α} (h:gd w s A n c (f p)):gd w s A n c ([p].flatMap f):=by
 rw [List.flatMap_singleton]
 exact h
def xV (B:Nat) (x:Itm) (v1 v2:Value) (u:Value) (w:World):Prop:=∃ r:Nat,u=.slice (some ⟨r,0,none⟩) 1 1∧B≤r∧Blk w r 98 (tC x v1 v2).toArray
theorem xM (B:Nat) (x:Itm) (v1 v2:Value):Fre.eN Bel (xV B x v1 v2):=⟨fun _ _ _ ⟨r,h1,h0,h2⟩ hx=>⟨r,h1,h0,h2.below hx h2.lt⟩⟩
theorem vY {ρ:Operand→Value} {o:Oper} (x:Operand) (ho:o.op=.buildSlice 40 1 #[(0,x)]) (B:Nat) {y:Itm} {v1 v2:Value} (hy:okH y.1) {W:World} (hx:ρ x=.agg (tC y v1 v2).toArray) (hB:B≤W.heap.size):∃ u' w',(execOp ρ o).run Tryz.prog W=.ok (.value u') w'∧Fre.Ext Bel W w'∧xV B y v1 v2 u' w':=by
 have hb:Below W.heap.size W (W.alloc (.cells (tC y v1 v2).toArray 98)):=(Below.refl _ W).alloc (Nat.le_refl _) _
 exact ⟨_,_,bM (v:=.agg (tC y v1 v2).toArray) 40 x ho hx Tryz.underlying40 (e:=98) (n:=23) cX (by omega) (by omega) (z:=.agg zcT) (fun w=>by kernel_rfl) (by rw [Value.cells,List.size_toArray];exact dA hy) W,hb,_,rfl,hB,Blk.new _ _ _⟩
theorem pt {os:List dD} {l:List Itm} {k:Nat} {x:Itm} {p:dD} (h:os.map (·.1)=l.take k) (hx:l[k]?=some x) (e:p.1=x):(os++[p]).map (·.1)=l.take (k+1):=by
 rw [List.map_append,h,List.take_add_one,hx]
 subst e
 rfl
theorem yo {w:World} {B:Nat} {d:Drv} {u1 u2:Value} (h:cM w B d u1 u2) {b:Nat} (hf:(ldE B d u1 u2).F b):B≤b∧b<w.heap.size:=by
 obtain ⟨A,c,rfl,h1⟩:=h.yn
 obtain ⟨A2,c2,rfl,h2⟩:=h.yh
 rcases hf with hf | hf
 ·exact aD h1 ((jl ..).trans hf)
 ·exact aD h2 ((jl ..).trans hf)
def LdU (B:Nat) (d:Drv) (u:Value) (w:World):Prop:=∃ p:Value×Value,u=.agg (dC d p.1 p.2).toArray∧cM w B d p.1 p.2
def AI (B:Nat) (x:Itm) (u:Value) (w:World):Prop:=∃ p:Value×Value,u=.agg (tC x p.1 p.2).toArray∧cM w B x.2 p.1 p.2
def xZ (B:Nat) (x:Itm) (u:Value) (w:World):Prop:=∃ (r:Nat) (p:Value×Value),u=.slice (some ⟨r,0,none⟩) 1 1∧B≤r∧Blk w r 59 (tC x p.1 p.2).toArray∧cM w B x.2 p.1 p.2
theorem cM.yi {w w':World} {B:Nat} {d:Drv} {u1 u2:Value} (h:cM w B d u1 u2) (hb:Below w.heap.size w w'):cM w' B d u1 u2:=h.xf fun b _ hl=>hb.block b hl
theorem cM.iM {w:World} {B:Nat} {d:Drv} {u1 u2:Value} (h:cM w B d u1 u2):u1.oneCell'=true∧u2.oneCell'=true:=(h.at_ (Nat.le_refl _)).iM
theorem cM.lower {w:World} {B B':Nat} {d:Drv} {u1 u2:Value} (h:cM w B d u1 u2) (hB:B'≤B):cM w B' d u1 u2:=h.base fun b hf=>Nat.le_trans hB (yo h hf).1
theorem BY (B:Nat) (d:Drv):Fre.eN Bel (LdU B d):=⟨fun _ _ _ ⟨p,h1,h2⟩ hx=>⟨p,h1,h2.yi hx⟩⟩
theorem zN (B:Nat) (x:Itm):Fre.eN Bel (AI B x):=⟨fun _ _ _ ⟨p,h1,h2⟩ hx=>⟨p,h1,h2.yi hx⟩⟩
theorem zj (B:Nat) (x:Itm):Fre.eN Bel (xZ B x):=⟨fun _ _ _ ⟨r,p,h1,h0,h2,h3⟩ hx=>⟨r,p,h1,h0,h2.below hx h2.lt,h3.yi hx⟩⟩
theorem zq {ρ:Operand→Value} {o:Oper} (x y:Operand) (ho:o.op=.build 59 #[(0,x),(1,y)]) (B:Nat) {z:Itm} (hc:okH z.1) {u:Value} {W:World} (h1:ρ x=.agg (bv z.1).toArray) (h2:ρ y=u) (hu:LdU B z.2 u W):∃ u' w',(execOp ρ o).run Tryz.prog W=.ok (.value u') w'∧Fre.Ext Bel W w'∧AI B z u' w':=by
 obtain ⟨p,rfl,hp⟩:=hu
 refine ⟨.agg (tC z p.1 p.2).toArray,W,?_,Below.refl _ _,p,rfl,hp⟩
 refine Eq.trans (gy 59 x y ho (n1:=20) (n2:=3) (z:=.agg zcT) h1 h2 Tryz.underlying59 (fun w=>by kernel_rfl) (by kernel_rfl) (fun w=>by kernel_rfl) (by rw [Value.cells,List.size_toArray,bvL];exact hc) (by rfl) W) ?_
 simp [Value.cells,tC]
theorem vG {ρ:Operand→Value} {o:Oper} (x:Operand) (ho:o.op=.buildSlice 22 1 #[(0,x)]) (B:Nat) {y:Itm} (hy:okH y.1) {u:Value} {W:World} (hx:ρ x=u) (hu:AI B y u W) (hB:B≤W.heap.size):∃ u' w',(execOp ρ o).run Tryz.prog W=.ok (.value u') w'∧Fre.Ext Bel W w'∧xZ B y u' w':=by
 obtain ⟨p,rfl,hp⟩:=hu
 have hb:Below W.heap.size W (W.alloc (.cells (tC y p.1 p.2).toArray 59)):=(Below.refl _ W).alloc (Nat.le_refl _) _
 exact ⟨_,_,bM (v:=.agg (tC y p.1 p.2).toArray) 22 x ho hx Tryz.underlying22 (e:=59) (n:=23) cP (by omega) (by omega) (z:=.agg zcT) (fun w=>by kernel_rfl) (by rw [Value.cells,List.size_toArray];exact dA hy) W,hb,_,p,rfl,hB,Blk.new _ _ _,hp.yi hb⟩
def ldV (B:Nat) (p:dD):Ent:=ldE B p.1.2 p.2.1 p.2.2
theorem By (B:Nat) (p:dD):(ldV B p).Ok:=ur _ _ _ _
end Go.Proofs.YtomnhnmciopiiaaGreat
end
section
namespace Go.Proofs.YtomnhnmciopiiaaGreat
open Go Go.RowKit Go.Maps
set_option maxRecDepth 100000
attribute [local irreducible] wpList
theorem wu {α:Type} {P:α→Prop} {l:List α} {x:α} (h:∀ p∈l,P p) (hx:P x):∀ p∈l++[x],P p:=fun p hp=>by
 rcases List.mem_append.1 hp with hp | hp
 ·exact h p hp
 ·rw [List.mem_singleton.1 hp]
  exact hx
end Go.Proofs.YtomnhnmciopiiaaGreat
end
section
namespace Go.Proofs.YtomnhnmciopiiaaGreat
open Go Go.RowKit Go.Maps
set_option maxRecDepth 100000
def vb (v:Value):List Value:=[v]
section
variable {α:Type} (mk:Nat→Nat→α) (f:α→List Value) (s:Nat) (u:Nat→Value) (n:Nat→Nat) (xs:Nat→List Value)
def mkL (k q:Nat):List α:=(List.range q).map (mk k)
def mkC (k q:Nat):List Value:=(mkL mk k q).flatMap f
theorem jo (k q:Nat):mkC mk f k (q+1)=mkC mk f k q++f (mk k q):=by
 unfold mkC mkL
 rw [List.range_succ,List.map_append,List.flatMap_append]
 simp
theorem p5 (hf:∀ k i,(f (mk k i)).length=s) (k:Nat):∀ q,(mkC mk f k q).length=q*s
 | 0=>by simp [mkC,mkL]
 | q+1=>by rw [jo,List.length_append,p5 hf k q,hf,Nat.add_mul,Nat.one_mul]
theorem mE (h1:∀ k i,∀ v∈f (mk k i),v.oneCell'=true) (k q:Nat):∀ v∈mkC mk f k q,v.oneCell'=true:=fun v hv=>by
 obtain ⟨x,hx,hv⟩:=List.mem_flatMap.1 hv
 obtain ⟨i,_,rfl⟩:=List.mem_map.1 hx
 exact h1 k i v hv
def st1 (j:Nat) (i:Nat):PS:=if i<j then .self (u i) (n i) (mkC mk f i (n i)) else .self (u i) (n i) (xs i)
def fa (j q:Nat) (i:Nat):PS:=if i=j then .self (u j) (n j) (mkC mk f j q++(xs j).drop (q*s)) else st1 mk f u n xs j i
theorem jF (i:Nat):st1 mk f u n xs 0 i=.self (u i) (n i) (xs i):=if_neg (Nat.not_lt_zero _)
theorem iB (j i:Nat):st1 mk f u n xs j i=fa mk f s u n xs j 0 i:=by
 unfold fa
 by_cases h:i=j
 ·rw [if_pos h,h,st1,if_neg (Nat.lt_irrefl _)]
  simp [mkC,mkL]
 ·rw [if_neg h]
theorem vK (j q:Nat) {y:PS} (hy:y=.self (u j) (n j) (mkC mk f j (q+1)++(xs j).drop ((q+1)*s))) (i:Nat):(if i=j then y else fa mk f s u n xs j q i)=fa mk f s u n xs j (q+1) i:=by
 unfold fa
 by_cases h:i=j
 ·rw [if_pos h,if_pos h,hy]
 ·rw [if_neg h,if_neg h,if_neg h]
theorem kr (j:Nat) (hx:(xs j).length=n j*s) (i:Nat):fa mk f s u n xs j (n j) i=st1 mk f u n xs (j+1) i:=by
 unfold fa
 by_cases h:i=j
 ·rw [if_pos h,st1,if_pos (by omega),List.drop_of_length_le (by omega),List.append_nil,h]
 ·rw [if_neg h,st1,st1]
  by_cases h2:i<j
  ·rw [if_pos h2,if_pos (by omega)]
  ·rw [if_neg h2,if_neg (by omega)]
theorem mF (m i:Nat) (hi:i<m):st1 mk f u n xs m i=.self (u i) (n i) (mkC mk f i (n i)):=if_pos hi
theorem jd (hf:∀ k i,(f (mk k i)).length=s) (j q:Nat):(mkC mk f j q++(xs j).drop (q*s)).take (q*s)++(f (mk j q)++(mkC mk f j q++(xs j).drop (q*s)).drop (q*s+s))=mkC mk f j (q+1)++(xs j).drop ((q+1)*s):=by
 have hl:=p5 mk f s hf j q
 rw [List.take_left' hl,jo,List.append_assoc]
 congr 2
 rw [List.drop_append,hl,List.drop_of_length_le (by omega),List.nil_append,List.drop_drop]
 congr 1
 rw [Nat.add_mul,Nat.one_mul]
 omega
def st2 (gv:List Value) (j:Nat) (i:Nat):PS:=if i<j then ⟨u i,n i,mkC mk f i (n i),gv.getD i undef,n i+64,mkC mk f i (n i+64)⟩ else .self (u i) (n i) (mkC mk f i (n i))
def fm (gv:List Value) (v:Value) (j q:Nat) (i:Nat):PS:=if i=j then ⟨u j,n j,mkC mk f j (n j),v,n j+q,mkC mk f j (n j+q)⟩ else st2 mk f u n gv j i
theorem hX (gv:List Value) (j i:Nat):st2 mk f u n gv j i=fm mk f u n gv (u j) j 0 i:=by
 unfold fm
 by_cases h:i=j
 ·rw [if_pos h,h,st2,if_neg (Nat.lt_irrefl _)]
  rfl
 ·rw [if_neg h]
theorem xx (gv:List Value) (v:Value) (j q:Nat) {v':Value} {y:PS} (hy:y=⟨u j,n j,mkC mk f j (n j),v',n j+(q+1),mkC mk f j (n j+(q+1))⟩) (i:Nat):(if i=j then y else fm mk f u n gv v j q i)=fm mk f u n gv v' j (q+1) i:=by
 unfold fm
 by_cases h:i=j
 ·rw [if_pos h,if_pos h,hy]
 ·rw [if_neg h,if_neg h,if_neg h]
theorem lf (gv:List Value) (v:Value) (j:Nat) (hj:j<gv.length) (i:Nat):fm mk f u n gv v j 64 i=st2 mk f u n (gv.set j v) (j+1) i:=by
 unfold fm
 by_cases h:i=j
 ·subst h
  rw [if_pos rfl,st2,if_pos (by omega)]
  simp [List.getD,hj]
 ·rw [if_neg h,st2,st2]
  by_cases h2:i<j
  ·rw [if_pos h2,if_pos (by omega)]
   simp [List.getD,Ne.symm h]
  ·rw [if_neg h2,if_neg (by omega)]
def st4 (gv:List Value) (m j:Nat) (i:Nat):PS:=if i<j then ⟨u i,n i,mkC mk f i (n i),gv.getD i undef,n i+64,mkC mk f i (n i)++mkC mk f (i+m) 64⟩ else ⟨u i,n i,mkC mk f i (n i),gv.getD i undef,n i+64,mkC mk f i (n i+64)⟩
theorem jC (gv:List Value) (m i:Nat) (hi:i<m):st2 mk f u n gv m i=st4 mk f u n gv m 0 i:=by
 unfold st4 st2
 rw [if_pos hi,if_neg (Nat.not_lt_zero _)]
theorem yV (gv:List Value) (m j:Nat) (hj:j<gv.length) {v:Value} {y:PS} (hy:y=⟨u j,n j,mkC mk f j (n j),v,n j+64,mkC mk f j (n j)++mkC mk f (j+m) 64⟩) (i:Nat):(if i=j then y else st4 mk f u n gv m j i)=st4 mk f u n (gv.set j v) m (j+1) i:=by
 unfold st4
 by_cases h:i=j
 ·subst h
  rw [if_pos rfl,if_pos (by omega),hy]
  simp [List.getD,hj]
 ·rw [if_neg h]
  by_cases h2:i<j
  ·rw [if_pos h2,if_pos (by omega)]
   simp [List.getD,Ne.symm h]
  ·rw [if_neg h2,if_neg (by omega)]
   simp [List.getD,Ne.symm h]
end
theorem aM {α:Type} {u:Nat→α} {m k:Nat} {x:α} (h:((List.range m).map u)[k]?=some x):x=u k:=by
 have hlt:=(List.getElem?_eq_some_iff.1 h).1
 simp at hlt
 rw [List.getElem?_map,List.getElem?_range hlt] at h
 exact (Option.some.inj h).symm
theorem kz {w:World} {B g n cap s:Nat} {t:TypeId} {xs:List Value} (h:w.ownsRow B t s (.slice (some ⟨g,0,none⟩) n cap) n xs) (h1:∀ u∈xs,u.oneCell'=true):gd w s (some ⟨g,0,none⟩) n cap xs :=
 ⟨h.1,(fun e=>by cases e),h1,fun ad had j u hu=>by
  injection had with had
  subst had
  exact h.cells (g:=g) rfl j u hu⟩
theorem fG:∀ l:List Value,l.flatMap vb=l
 | []=>rfl
 | x :: l=>by rw [List.flatMap_cons,fG l];rfl
theorem Bi (l:List Value) (k:Nat) (v:Value):(l.set k v).flatMap vb=(l.flatMap vb).set k v:=by rw [fG,fG]
theorem jw {w:World} {B s g n cap:Nat} {t:TypeId} {xs:List Value} {k:Nat} (h:w.ownsRow B t s (.slice (some ⟨g,0,none⟩) n cap) k xs) {pre mid post:List Value} (e:xs=pre++(mid++post)) {o:Nat} (ho:pre.length=o):w.rangeAt g o mid:=fun j u hu=>by
 have h1:=h.cells (g:=g) rfl (o+j) u (by
  rw [e,List.getElem?_append_right (by omega),show o+j-pre.length=j by omega,List.getElem?_append_left (List.getElem?_eq_some_iff.1 hu).1]
  exact hu)
 rwa [Addr.add_mid,Nat.zero_add] at h1
theorem bw {w:World} {B m g n cap k:Nat} {t:TypeId} {u:Nat→Value} (h:w.ownsRow B t 1 (.slice (some ⟨g,0,none⟩) n cap) m (((List.range m).map u).flatMap vb)) (hk:k<m):w.rangeAt g (k*1) [u k]:=by
 rw [fG] at h
 refine jw h (pre:=((List.range m).map u).take k) (post:=((List.range m).map u).drop (k+1)) ?_ (by simp;omega)
 have h2:=List.take_append_drop k ((List.range m).map u)
 rw [List.drop_eq_getElem_cons (by simpa using hk)] at h2
 simpa using h2.symm
theorem ei {w:World} {B m g n cap k:Nat} {t:TypeId} {gv:List Value} {x:Value} (h:w.ownsRow B t 1 (.slice (some ⟨g,0,none⟩) n cap) m (gv.flatMap vb)) (hx:gv[k]?=some x):w.rangeAt g (k*1) [x]:=by
 rw [fG] at h
 have hlt:=(List.getElem?_eq_some_iff.1 hx).1
 refine jw h (pre:=gv.take k) (post:=gv.drop (k+1)) ?_ (by rw [List.length_take];omega)
 have h2:=List.take_append_drop k gv
 rw [av hx] at h2
 simpa using h2.symm
section
variable {α:Type} {mk:Nat→Nat→α} {f:α→List Value} {s:Nat}
theorem zG (hf:∀ k i,(f (mk k i)).length=s) {k q i:Nat} (hi:i<q):∃ post,mkC mk f k q=mkC mk f k i++(f (mk k i)++post):=by
 obtain ⟨d,rfl⟩:∃ d,q=i+1+d:=⟨q-(i+1),by omega⟩
 induction d with
 | zero=>exact ⟨[],by rw [Nat.add_zero,jo];simp⟩
 | succ d ih =>
  obtain ⟨post,e⟩:=ih (by omega)
  exact ⟨post++f (mk k (i+1+d)),by rw [← Nat.add_assoc,jo,e];simp⟩
theorem fB (hf:∀ k i,(f (mk k i)).length=s) {w:World} {B g n n' cap k q i:Nat} {t:TypeId} {more:List Value} (h:w.ownsRow B t s (.slice (some ⟨g,0,none⟩) n cap) n' (mkC mk f k q++more)) (hi:i<q):w.rangeAt g (i*s) (f (mk k i)):=by
 obtain ⟨post,e⟩:=zG hf (k:=k) hi
 exact jw h (pre:=mkC mk f k i) (post:=post++more) (by rw [e];simp) (p5 mk f s hf k i)
variable {w0 w:World} {L:List Ent} {B m:Nat} {t:TypeId} {u:Nat→Value} {n:Nat→Nat} {xs:Nat→List Value} {gv:List Value}
theorem qE {j q i0:Nat} (h:Mem w0 w L) (hi:L[i0]?=some (Ent.all (List.range m) fun i=>ar B t s (fa mk f s u n xs j q i))) (hj:j<m):w.ownsRow B t s (u j) (n j) (mkC mk f j q++(xs j).drop (q*s)):=by
 have h1:=(Mem.kE (g:=ar B t s) (st:=fa mk f s u n xs j q) h i0 hi hj).1
 rw [fa,if_pos rfl] at h1
 exact h1
theorem iu {j q i0:Nat} {v:Value} (h:Mem w0 w L) (hi:L[i0]?=some (Ent.all (List.range m) fun i=>ar B t s (fm mk f u n gv v j q i))) (hj:j<m):(ar B t s ⟨u j,n j,mkC mk f j (n j),v,n j+q,mkC mk f j (n j+q)⟩).P w:=by
 have h1:=Mem.kE (g:=ar B t s) (st:=fm mk f u n gv v j q) h i0 hi hj
 rwa [fm,if_pos rfl] at h1
theorem eW {j i0 k:Nat} (h:Mem w0 w L) (hi:L[i0]?=some (Ent.all (List.range m) fun i=>ar B t s (st4 mk f u n gv m j i))) (hk:k<m):w.ownsRow B t s (u k) (n k) (mkC mk f k (n k)++[]):=by
 have h1:=(Mem.kE (g:=ar B t s) (st:=st4 mk f u n gv m j) h i0 hi hk).1
 rw [List.append_nil]
 unfold st4 at h1
 split at h1<;>exact h1
theorem gi {j i0 k:Nat} {x:Value} (h:Mem w0 w L) (hi:L[i0]?=some (Ent.all (List.range m) fun i=>ar B t s (st4 mk f u n gv m j i))) (hk:k<m) (hj:j≤k) (hx:gv[k]?=some x):w.ownsRow B t s x (n k+64) (mkC mk f k (n k+64)++[]):=by
 have h1:=(Mem.kE (g:=ar B t s) (st:=st4 mk f u n gv m j) h i0 hi hk).2.1
 rw [List.append_nil]
 unfold st4 at h1
 rw [if_neg (by omega)] at h1
 have e:gv.getD k undef=x:=by simp [List.getD,hx]
 have h2:w.ownsRow B t s (gv.getD k undef) (n k+64) (mkC mk f k (n k+64)):=h1
 rwa [e] at h2
theorem gB {j i0 k:Nat} {x:Value} (h:Mem w0 w L) (hi:L[i0]?=some (Ent.all (List.range m) fun i=>ar B t s (st4 mk f u n gv m j i))) (hk:k<m) (hj:k<j) (hx:gv[k]?=some x):w.ownsRow B t s x (n k+64) (mkC mk f k (n k)++mkC mk f (k+m) 64):=by
 have h1:=(Mem.kE (g:=ar B t s) (st:=st4 mk f u n gv m j) h i0 hi hk).2.1
 unfold st4 at h1
 rw [if_pos (by omega)] at h1
 have e:gv.getD k undef=x:=by simp [List.getD,hx]
 have h2:w.ownsRow B t s (gv.getD k undef) (n k+64) (mkC mk f k (n k)++mkC mk f (k+m) 64):=h1
 rwa [e] at h2
theorem kX {w':World} {j q g c:Nat} (h:Mem w0 w (Ent.all (List.range m) (fun i=>ar B t s (fa mk f s u n xs j q i)) :: L)) (hj:j<m) (hf:∀ k i,(f (mk k i)).length=s) (hu:u j=.slice (some ⟨g,0,none⟩) (n j) c)
  (ho:w'.ownsRow B t s (u j) (n j) ((mkC mk f j q++(xs j).drop (q*s)).take (q*s)++(f (mk j q)++(mkC mk f j q++(xs j).drop (q*s)).drop (q*s+s)))) (hg:w.grownBy w' (some g)) :
  Mem w0 w' (Ent.all (List.range m) (fun i=>ar B t s (fa mk f s u n xs j (q+1) i)) :: L):=by
 rw [jd mk f s xs hf] at ho
 have hF:∀ b,(ar B t s (fa mk f s u n xs j q j)).F b↔some g=some b:=fun b=>by
  have e:(u j).ownBlock=some g:=by rw [hu];rfl
  rw [fa,if_pos rfl]
  show (u j).ownBlock=some b∨(u j).ownBlock=some b↔_
  rw [e,or_self]
 refine Mem.bq (Mem.tu (g:=ar B t s) (st:=fa mk f s u n xs j q) (y:=.self (u j) (n j) (mkC mk f j (q+1)++(xs j).drop ((q+1)*s))) h hj hg (fun b hb=>(hF b).2 hb) (gJ B t s) (gZ ho) fun b hb=>.inl ((hF b).2 ?_)) fun i _=>vK mk f s u n xs j q rfl i
 have e:(u j).ownBlock=some g:=by rw [hu];rfl
 have hb:(u j).ownBlock=some b∨(u j).ownBlock=some b:=hb
 rw [e,or_self] at hb
 exact hb
theorem kH {w':World} {j q:Nat} {v v':Value} (h:Mem w0 w (Ent.all (List.range m) (fun i=>ar B t s (fm mk f u n gv v j q i)) :: L)) (hj:j<m) (ho:w'.ownsRow B t s v' (n j+q+1) (mkC mk f j (n j+q)++f (mk j (n j+q)))) (hg:w.grownBy w' v.ownBlock) (hr:so w w' v v' (n j+q) 1) :
  Mem w0 w' (Ent.all (List.range m) (fun i=>ar B t s (fm mk f u n gv v' j (q+1) i)) :: L):=by
 have hP:=iu h (i0:=0) rfl hj
 obtain ⟨h1,h2⟩:=ri hP ho hg hr
 have hst:fm mk f u n gv v j q j=⟨u j,n j,mkC mk f j (n j),v,n j+q,mkC mk f j (n j+q)⟩:=if_pos rfl
 refine Mem.bq (Mem.tu (g:=ar B t s) (st:=fm mk f u n gv v j q) h hj hg (fun b hb=>?_) (gJ B t s) h1 fun b hb=>?_) fun i _=>xx mk f u n gv v j q (by rw [← jo];rfl) i
 ·rw [hst];exact .inr hb
 ·rw [hst];exact h2 b hb
theorem kA {w':World} {j:Nat} {v':Value} (h:Mem w0 w (Ent.all (List.range m) (fun i=>ar B t s (st4 mk f u n gv m j i)) :: L)) (hj:j<m) (hgl:gv.length=m) (ho:w'.ownsRow B t s v' (n j+64) (mkC mk f j (n j)++mkC mk f (j+m) 64)) (hg:w.grownBy w' (u j).ownBlock) (hr:so w w' (u j) v' (n j) 64) :
  Mem w0 w' (Ent.all (List.range m) (fun i=>ar B t s (st4 mk f u n (gv.set j v') m (j+1) i)) :: L):=by
 have hU:=eW h (i0:=0) rfl hj
 rw [List.append_nil] at hU
 obtain ⟨h1,h2⟩:=ri (p:=.self (u j) (n j) (mkC mk f j (n j))) (gZ hU) ho hg hr
 have hst:(st4 mk f u n gv m j j).u=u j:=by unfold st4;rw [if_neg (Nat.lt_irrefl _)]
 refine Mem.bq (Mem.tu (g:=ar B t s) (st:=st4 mk f u n gv m j) h hj hg (fun b hb=>.inl (by rw [hst];exact hb)) (gJ B t s) h1 fun b hb=>?_) fun i _=>yV mk f u n gv m j (by omega) rfl i
 rcases h2 b hb with h3 | h3
 ·refine .inl (.inl ?_)
  rw [hst]
  rcases h3 with h3 | h3<;>exact h3
 ·exact .inr h3
end
end Go.Proofs.YtomnhnmciopiiaaGreat
end
section
namespace Go.Proofs.YtomnhnmciopiiaaGreat
open Go Go.RowKit Go.Maps
set_option maxRecDepth 100000
theorem bK {P:Program} {w:World} {ops:Array Oper} {rest:List Oper} {o:Oper} {a:Act} {Q:Exit→Act→World→Prop} (hg:o.guard=none) (ty:TypeId) (x y:Operand) (ho:o.op=.store ty x y) {B g n cap k:Nat} {t:TypeId} {xs:List Value} (hown:w.ownsRow B t 1 (.slice (some ⟨g,0,none⟩) n cap) n xs) (hk:k<n) (hs:(P.info? ty).map (·.size)=some 1) (v:Value) (h1:v.oneCell'=true)
  (hx:a.eval x=.pointer (some ⟨g,k,none⟩)) (hy:a.eval y=v)
  (h:∀ w',w'.ownsRow B t 1 (.slice (some ⟨g,0,none⟩) n cap) n (xs.set k v)→w.grownBy w' (some g)→wpList P ops Q rest (a.put o.dst undef) w'):wpList P ops Q (o :: rest) a w:=by
 rcases aU hown with ⟨e,_⟩ | ⟨g',cap',cur,e,hb,hn,hc,hh,hsz,ht,_⟩
 ·cases e
 ·injection e with e1 _ e3
  injection e1 with e1
  injection e1 with e1
  subst e1 e3
  have hkc:k<cur.size:=by omega
  refine bW hg ty x y ho g k t cur hh hkc hs v h1 hx hy fun w' hk' hg' hz=>h w' ⟨?_,.inr ⟨g,cap,cur.setIfInBounds k v,rfl,hb,hk',hn,hc,by rw [Array.size_setIfInBounds];exact hsz,?_⟩⟩ hg'
  ·rw [List.length_set];exact hown.1
  ·rw [Array.toList_setIfInBounds,← ht,List.take_set]
theorem Mem.fA {w0 w w':World} {L:List Ent} {B s n n' g c:Nat} {t:TypeId} {xs xs':List Value} (h:Mem w0 w L) (i:Nat) (hi:L[i]?=some (aw B t s (.slice (some ⟨g,0,none⟩) n c) n' xs)) (ho:w'.ownsRow B t s (.slice (some ⟨g,0,none⟩) n c) n' xs') (hg:w.grownBy w' (some g)):Mem w0 w' (L.set i (aw B t s (.slice (some ⟨g,0,none⟩) n c) n' xs')) :=
 h.upd i hi hg (fun _ hb=>hb) (eh _ _ _ _ _ _) ho fun _ hf=>.inl hf
theorem gp (gv:List Value) (k:Nat) (v:Value):(gv.flatMap vb).set k v=(gv.set k v).flatMap vb:=(Bi gv k v).symm
theorem kO {w:World} {B n m:Nat} {t:TypeId} {u:Value} {xs:List Value} (h:w.ownsRow B t 1 u n xs) (hm:n=m):xs.length=m:=by rw [h.1,hm,Nat.mul_one]
end Go.Proofs.YtomnhnmciopiiaaGreat
end
