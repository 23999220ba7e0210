/- Part 12 of the texts of one proof. -/
import Derived.Test.YtomnhnmciopiiaaGreatMMT11
set_option maxRecDepth 100000
set_option linter.unusedVariables false
set_option linter.unusedSimpArgs false
set_option maxHeartbeats 40000000
open Go.Act renaming put → xae
open And renaming intro → xad
open Go.RowKit.Below renaming refl → xao
open Bool renaming and_eq_true → xaw, and_true → xby, false_and → xbc, true_and → xa8
open Go.Instr renaming sureAddr → xbM
open Int renaming tmod_eq_emod_of_nonneg → xbt, toNat_natCast → xbr
open Go.IntWalk renaming i64_in → xbP
open List renaming all_eq_true → xaO, append_assoc → xaR, drop → xaE, drop_succ_cons → xay, drop_zero → xaK, flatten_append → xbU, getD_eq_getElem?_getD → xaX, getElem?_cons_zero → xa3, getElem?_eq_getElem → xai, getElem?_eq_some_iff → xah, getElem?_map → xaL, getElem?_of_mem → xaP, length_append → xak, length_cons → xaF, length_map → xap, length_take → xaN, mem_append → xax, mem_cons → xaD, mem_map → xaA, mem_of_getElem? → xaj, mem_singleton → xan, not_mem_nil → xaS, replicate → xaz, setIfInBounds_toArray → xaa, set_cons_succ → xac, set_cons_zero → xab, size_toArray → xal, take_add_one → xaB, take_length → xaG, take_of_length_le → xav, take_succ_cons → xau, take_succ_eq_append_getElem → xbb, take_zero → xaC
open Nat renaming le_refl → xag
open Option.some renaming inj → xam
open Go.Result renaming andThen_ok → xat
open Go.Sem renaming run_bind → xaI, run_pure → xaQ
open UInt8 renaming ofNat → xaJ
open Go.Value renaming cells → xaU, slice → xas
open Go.World renaming cell?_of_block → xaV
open Go.World.grownBy renaming refl → xa1
section
namespace Go.Proofs.YtomnhnmciopiiaaGreat
open Go.RowKit
theorem DJ (N m:Nat) (h:m<8):(Sha.be N).take (8-m)=(Sha.be N).take (8-(m+1))++[xaJ (N / 2 ^ (8*m))]:=by
 match m,h with
 | 0,_=>simp [Sha.be]
 | 1,_=>simp [Sha.be]
 | 2,_=>simp [Sha.be]
 | 3,_=>simp [Sha.be]
 | 4,_=>simp [Sha.be]
 | 5,_=>simp [Sha.be]
 | 6,_=>simp [Sha.be]
 | 7,_=>simp [Sha.be]
def GU:Value→Nat
 | .slice _ n _=>n
 | _=>0
theorem xx (n k:Nat) (hk:k<Sha.du n):¬ (n+1+k) % 64=56:=by unfold Sha.du at hk;omega
theorem vd (n:Nat):(n+1+Sha.du n) % 64=56:=by unfold Sha.du;omega
theorem lA (n:Nat):Sha.du n<64:=by unfold Sha.du;omega
theorem xF (c:List UInt8) (hc:c.length≤1000000000) (A:Option Addr) (cap B:Nat) (w:World) (hv:dV w B (.slice A c.length cap) c) (hnil:A=none→cap=0) :
  Calls Tryz.prog 132 #[.slice A c.length cap] w fun e w'=>∃ v',e=.returned v'∧w'.ownsRow w.heap.size 5 1 v' (Sha.pad c).length (bv (Sha.pad c))∧Below w.heap.size w w':=by
 obtain ⟨i,hi,hz0,hz1,hz2⟩:=info_parts Cc
 obtain ⟨_,hcap,_,hcells⟩:=hv.cells
 have HV:=ab hv
 clear hv hcells
 have HOW:=ab (xad (sj w 5) ((sI HV.out hnil).alloc (.cells #[] 5)))
 have HL:=ab (xao w.heap.size w)
 go_enter Tryz.func132,Tryz.ntmps132
 go_wp2_with (first
  | (at_builtin;((with_reducible refine ae 8 ?_);refine dR rfl (.tmp 6) (.tmp 7) 24 rfl w.heap.size 5 i (.int .u8 0) 1 Tryz.underlying24 hi hz0 hz1 hz2 rfl _ 0 [] HOW.out.1 A c.length cap (bv c) HOW.out.2 (by simp only [maxLen];omega) (by omega) (by rw [size_alloc];omega) rfl rfl ?_);intro v1 w1 gj gr1 mv1 _;simp only [Nat.zero_add,List.nil_append] at gj;obtain ⟨A1,cap1,rfl⟩:=bq gj;have hs1:w.heap.size+1≤w1.heap.size:=(by have:=gr1.size;rw [size_alloc] at this;exact this);have hb1:Below w.heap.size w w1:=(HL.out.alloc (by omega) _).grown gr1 (by rw [size_alloc];omega) (by intro k hk;injection hk with hk;change w.heap.size=k at hk;omega);have HX1:=ab (xad (gj.alloc (.cells #[.int .u8 128] 5)) (hb1.alloc hb1.size (.cells #[.int .u8 128] 5)));clear gj gr1 mv1 hb1)
  | (at_builtin;((with_reducible refine ae 10 ?_);refine dR rfl (.tmp 8) (.tmp 9) 24 rfl w.heap.size 5 i (.int .u8 0) 1 Tryz.underlying24 hi hz0 hz1 hz2 rfl _ c.length (bv c) HX1.out.1 (some ⟨w1.heap.size,0,none⟩) 1 1 [.int .u8 128] (iS w1 (.int .u8 128) 5 rfl) (by simp only [maxLen];omega) (by omega) (by rw [size_alloc];omega) rfl rfl ?_);intro v2 w2 eM gr2 mv2 _;obtain ⟨A2,cap2,rfl⟩:=bq eM;have hs2:w1.heap.size+1≤w2.heap.size:=(by have:=gr2.size;rw [size_alloc] at this;exact this);have hb2:Below w.heap.size w w2:=HX1.out.2.grown gr2 (by rw [size_alloc];omega) (fun k hk=>(dm HX1.out.1 hk).1);have HX2:=ab (xad eM hb2);clear eM gr2 mv2 hb2))
 have hnl:=lA c.length
 go_loopw [3] (fun v3 wr=>∃ (k:Nat) (A3:Option Addr) (cap3:Nat),k≤Sha.du c.length∧v3=.slice A3 (c.length+1+k) cap3∧wr.ownsRow w.heap.size 5 1 v3 (c.length+1+k) (bv (c++[128]++xaz k 0))∧Below w.heap.size w wr) (fun v3 _=>c.length+65-GU v3)
 case atStart=>exact ⟨0,A2,cap2,by omega,rfl,by simpa [bv] using HX2.out.1,HX2.out.2⟩
 case round =>
  obtain ⟨k,A3,cap3,hk,rfl,own3,hb3⟩:=hrel
  have hs3:=hb3.size
  have HX3:=ab (xad (own3.alloc (.cells #[.int .u8 0] 5)) (hb3.alloc hs3 (.cells #[.int .u8 0] 5)))
  have HX3':=ab (xad own3 hb3)
  clear own3 hb3
  by_cases hlt:k<Sha.du c.length
  ·have hm:=xx _ _ hlt
   obtain ⟨m,hm0⟩:∃ m,m=c.length+1+k:=⟨_,rfl⟩
   rw [← hm0] at hm HX3 HX3' ⊢
   have q0:¬ ((m:Int) % 64=56):=by omega
   have q1:(0:Int)≤(m:Int):=by omega
   have q2:(m:Int).tmod 64=(m:Int) % 64:=xbt q1
   have q3:(((m:Int) % 64) != 56)=true:=by simpa [bne] using q0
   have q4:(((m:Int) % 64) == 56)=false:=beq_eq_false_iff_ne.2 q0
   have HM:=ab hm0
   clear hm0
   go_wp2_with (at_builtin;((with_reducible refine ae 17 ?_);refine dR rfl (.tmp 15) (.tmp 16) 24 rfl w.heap.size 5 i (.int .u8 0) 1 Tryz.underlying24 hi hz0 hz1 hz2 rfl _ m _ HX3.out.1 (some ⟨wr.heap.size,0,none⟩) 1 1 [.int .u8 0] (iS wr (.int .u8 0) 5 rfl) (by have:=HM.out;simp only [maxLen];omega) (by have:=HM.out;omega) (by rw [size_alloc];omega) rfl rfl ?_);intro v4 w4 own4 gr4 mv4 _;obtain ⟨A4,cap4,rfl⟩:=bq own4;have hb4:Below w.heap.size w w4:=HX3.out.2.grown gr4 (by rw [size_alloc];omega) (fun k hk=>(dm HX3.out.1 hk).1);have HX4:=ab (xad own4 hb4);clear own4 gr4 mv4 hb4)
   go_roundw
   case rel =>
    obtain ⟨own4,hb4⟩:=HX4.out
    rw [HM.out] at own4 ⊢
    refine ⟨k+1,A4,cap4,by omega,rfl,?_,hb4⟩
    rw [List.replicate_succ',← xaR,bvA]
    exact own4
   case measure=>have:=HM.out;simp only [GU];omega
  ·obtain rfl:k=Sha.du c.length:=by omega
   have hm:=vd c.length
   obtain ⟨m,hm0⟩:∃ m,m=c.length+1+Sha.du c.length:=⟨_,rfl⟩
   rw [← hm0] at hm HX3' ⊢
   have q0:((m:Int) % 64=56):=by omega
   have q1:(0:Int)≤(m:Int):=by omega
   have q2:(m:Int).tmod 64=(m:Int) % 64:=xbt q1
   have HM:=ab hm0
   obtain ⟨M,hM⟩:∃ M,M=8*c.length:=⟨_,rfl⟩
   have hM2:8*(c.length:Int)=(M:Int):=by omega
   have hM3:M≤8000000000:=by omega
   have HMM:=ab hM
   clear hm0 HX3 hlt hk hm hM
   go_wp2_with fail
   go_loopw [3,5] (fun v3 v5 wq=>∃ (j:Nat) (A5:Option Addr) (cap5:Nat),j≤8∧v5=.int .i64 ((j:Int)-1)∧v3=.slice A5 (m+(8-j)) cap5∧wq.ownsRow w.heap.size 5 1 v3 (m+(8-j)) (bv (c++[128]++xaz (Sha.du c.length) 0++(Sha.be M).take (8-j)))∧Below w.heap.size w wq) (fun _ v5 _=>(intOf v5+1).toNat)
   case atStart=>exact ⟨8,A3,cap3,by omega,rfl,rfl,by simpa using HX3'.out.1,HX3'.out.2⟩
   case round =>
    obtain ⟨j,A5,cap5,hj,rfl,rfl,own5,hb5⟩:=hrel
    by_cases hj0:j=0
    ·subst hj0
     go_wp2_with fail
     go_ret
     have e1:Sha.pad c=c++[128]++xaz (Sha.du c.length) 0++(Sha.be M).take (8-0):=by
      rw [Sha.pad,← HMM.out]
      rfl
     have e2:(Sha.pad c).length=m+(8-0):=by rw [Sha.jE,HM.out]
     exact ⟨_,rfl,by rw [e2,e1];exact own5,hb5⟩
    ·obtain ⟨t,rfl⟩:∃ t,j=t+1:=⟨j-1,by omega⟩
     have et:((t+1:Nat):Int)-1=(t:Int):=by omega
     rw [et]
     have n0:(0:Int)≤(t:Int):=by omega
     have n1:(t:Int)≤7:=by omega
     have n2:(0:Int)≤8*(t:Int):=by omega
     have n3:8*(t:Int)<64:=by omega
     have n4:(8*(t:Int)).toNat=8*t:=by omega
     have n5:IntKind.i64.wrap (8*(t:Int))=8*(t:Int):=xbP _ (by omega)
     obtain ⟨x,hx⟩:∃ x,x=xaJ (M / 2 ^ (8*t)):=⟨_,rfl⟩
     have n6:(M:Int) / 2 ^ (8*t) % 256=(x.toNat:Int):=by
      rw [hx,UInt8.toNat_ofNat']
      simp
     obtain ⟨r,hr⟩:∃ r,r=m+(8-(t+1)):=⟨_,rfl⟩
     rw [← hr] at own5 ⊢
     have hs5:=hb5.size
     have HX5:=ab (xad (own5.alloc (.cells #[.int .u8 (x.toNat:Int)] 5)) (hb5.alloc hs5 (.cells #[.int .u8 (x.toNat:Int)] 5)))
     have HRX:=ab (xad hr (xad hx (lA c.length)))
     clear own5 hb5 hr hx
     go_wp2_with (at_builtin;((with_reducible refine ae 32 ?_);refine dR rfl (.tmp 25) (.tmp 31) 24 rfl w.heap.size 5 i (.int .u8 0) 1 Tryz.underlying24 hi hz0 hz1 hz2 rfl _ r _ HX5.out.1 (some ⟨wr.heap.size,0,none⟩) 1 1 [.int .u8 (x.toNat:Int)] (iS wr (.int .u8 (x.toNat:Int)) 5 rfl) (by have:=HM.out;have:=HRX.out.1;simp only [maxLen];omega) (by have:=HM.out;have:=HRX.out.1;omega) (by rw [size_alloc];omega) rfl rfl ?_);intro v6 w6 own6 gr6 mv6 _;obtain ⟨A6,cap6,rfl⟩:=bq own6;have hb6:Below w.heap.size w w6:=HX5.out.2.grown gr6 (by rw [size_alloc];omega) (fun k hk=>(dm HX5.out.1 hk).1);have HX6:=ab (xad own6 hb6);clear own6 gr6 mv6 hb6)
     go_roundw
     case rel =>
      obtain ⟨own6,hb6⟩:=HX6.out
      have er:r+1=m+(8-t):=by have:=HRX.out.1;omega
      rw [er] at own6 ⊢
      refine ⟨t,A6,cap6,by omega,by go_num,rfl,?_,hb6⟩
      rw [DJ M t (by omega),← HRX.out.2.1,← xaR,bvA]
      exact own6
     case measure=>simp [intOf]
end Go.Proofs.YtomnhnmciopiiaaGreat
end
section
namespace Go.Proofs.YtomnhnmciopiiaaGreat
open Go.RowKit
section
variable {P:Program} {ρ:Operand→Value} {o:Oper}
theorem pk (ty:TypeId) (x:Operand) (ho:o.op=.load ty x) (g:Nat) (hx:ρ x=.pointer (some ⟨g,0,none⟩)) (t:TypeId) (cs:Array Value) (n:Nat) (e:TypeId) (hu:P.underlying ty=some (.array n e)) (hi:(P.info? ty).map (·.size)=some cs.size) (W:World) (hb:Blk W g t cs) :
  (execOp ρ o).run P W=.ok (.value (.agg cs)) W:=by
 unfold execOp
 simp only [ho,hx,Instr.loadAt,xbM,xaI,xaQ,xat,run_loadVar_row W g t ty cs (0,0) _ hb hu rfl hi]
end
theorem AH (b off n cap q:Nat) (h1:64*q+64≤n) (h2:n≤cap) (w:World) :
  (Instr.sliceAt 24 (.slice (some ⟨b,off,none⟩) n cap) (some (.int .i64 ((64*q:Nat):Int))) (some (.int .i64 ((64*q+64:Nat):Int))) none).run Tryz.prog w=.ok (.slice (some ⟨b,off+64*q,none⟩) 64 (cap-64*q)) w:=by
 have e2:Tryz.prog.elem 24=5:=by simp [Program.elem,Tryz.underlying24]
 have hs:(Tryz.prog.info? 5).map (·.size)=some 1:=nS
 rw [run_sliceAt_slice w 24 _ _ _ _ (by rw [e2];exact Tryz.underlying24)]
 have h:=run_slice_lh (P:=Tryz.prog) w 24 (some ⟨b,off,none⟩) n cap (by rw [e2];exact Tryz.underlying24) .i64 .i64 ((64*q:Nat):Int) ((64*q+64:Nat):Int) (by omega) (by omega) (by omega)
 have h3:¬ cap=64*q:=by omega
 have h4:64*q+64-64*q=64:=by omega
 rw [h,e2,Df 5 hs,xat,sliced,xbr,xbr,h4]
 simp [h3,Addr.add_mid]
theorem wB (c:List UInt8) (hc:c.length≤1000000000) (A:Option Addr) (cap B:Nat) (w:World) (hB:B≤w.heap.size) (hv:dV w B (.slice A c.length cap) c) (hnil:A=none→cap=0) :
  Calls Tryz.prog 93 #[.slice A c.length cap] w fun e w'=>e=.returned (.agg (bv (Sha.sum c)).toArray)∧Below w.heap.size w w':=by
 have HV:=ab hv
 clear hv
 obtain ⟨R,hR⟩:∃ R,R=w.heap.size:=⟨_,rfl⟩
 have HR:=ab hR
 clear hR
 obtain ⟨D,hD⟩:∃ D,D=Value.agg (bv (Sha.sum c)).toArray:=⟨_,rfl⟩
 rw [← hD]
 have HD:=ab hD
 clear hD
 go_enter Tryz.func93,Tryz.ntmps93
 go_step
 go_step
 apply wp_region_lit
 refine aa rfl (.pointer (some ⟨R,0,none⟩)) (w.alloc (.cells z32 153)) (by rw [HR.out];kernel_rfl) ?_
 dsimp only [xae,xaa,xab,xac]
 obtain ⟨w1,hw1⟩:∃ w1,w1=w.alloc (.cells z32 153):=⟨_,rfl⟩
 have hb1:Blk w1 R 153 z32:=by rw [hw1,HR.out];exact Blk.new _ _ _
 have hbl1:Below R w w1:=by rw [hw1,HR.out];exact (xao _ _).alloc (xag _) _
 have hs1:R+1=w1.heap.size:=by rw [hw1,HR.out];simp
 rw [← hw1]
 clear hw1
 go_step
 go_step
 go_step
 go_step
 apply wp_region_lit
 refine aa rfl (.agg (x8 Sha.first)) w1 (by kernel_rfl) ?_
 dsimp only [xae,xaa,xab,xac]
 refine aa rfl (.pointer (some ⟨w1.heap.size,0,none⟩)) (w1.alloc (.cells z8 194)) (by kernel_rfl) ?_
 dsimp only [xae,xaa,xab,xac]
 refine ak (o:=⟨none,.store 194 (.tmp 3) (.tmp 8),_,_,_,_⟩) rfl 194 (.tmp 3) (.tmp 8) rfl w1.heap.size z8 (x8 Sha.first) 194 (Blk.new _ _ _) (oP _) (by rw [← Dt];exact yU _ rfl) (yd _) rfl rfl ?_
 intro w2 hx2 hg2
 dsimp only [xae]
 obtain ⟨X,hX⟩:∃ X,X=w1.heap.size:=⟨_,rfl⟩
 rw [← hX] at hx2 hg2 ⊢
 have hs2:=hg2.size
 simp only [size_alloc] at hs2
 have hRX:R<X:=by omega
 have hb2:Blk w2 R 153 z32:=(hb1.alloc (.cells z8 194)).grown hg2 (by intro e;injection e with e;omega)
 have hbl2:Below R w w2:=(hbl1.alloc (by omega) _).grown hg2 (by rw [size_alloc];omega) (by intro k hk;injection hk with hk;omega)
 have HX2:=ab (xad hx2 (xad hb2 hbl2))
 have hX2:X<w2.heap.size:=by omega
 have HX:=ab (xad hX hs1)
 clear hx2 hb2 hbl2 hg2 hb1 hbl1 hs2 hX hs1
 go_wp2_with fail
 refine (xF c hc A cap B _ (HV.out.alike (fA (HX2.out.2.2.mono (by rw [HR.out];exact hB)))) hnil).mono ?_
 rintro e w4 ⟨v4,rfl,own4,hb4⟩
 obtain ⟨L,hL⟩:∃ L,L=Sha.pad c:=⟨_,rfl⟩
 rw [← hL] at own4
 have hL0:0<L.length:=by rw [hL,Sha.jE];omega
 have hL1:L.length≤1000000200:=by rw [hL,Sha.jE];have:=lA c.length;omega
 obtain ⟨A4,cap4,rfl⟩:=bq own4
 obtain ⟨A4',cap4',he,hc4,hcell4⟩:=fb own4
 injection he with e1 e2 e3
 subst e1 e3
 obtain ⟨b,off,rfl,hbl,hcell⟩:=hcell4 hL0
 have hbX:X<b:=by have h:=(dm own4 rfl).1;change w2.heap.size≤b at h;omega
 obtain ⟨Q,hQ⟩:∃ Q,L.length=64*Q:=⟨L.length / 64,by have:=Sha.EB c;rw [hL];omega⟩
 have hx4:Blk w4 X 194 (x8 Sha.first):=HX2.out.1.below hb4 hX2
 have hr4:Blk w4 R 153 z32:=HX2.out.2.1.below hb4 (by omega)
 have hbl4:Below R w w4:=HX2.out.2.2.trans (hb4.mono (by omega))
 have hs4:=hb4.size
 obtain ⟨n,hn⟩:∃ n,n=L.length:=⟨_,rfl⟩
 rw [← hn] at hc4 hL0 hL1 hQ ⊢
 have HX4:=ab (xad hx4 (xad hr4 (xad hbl4 (xad hcell hn))))
 have HL:=ab hL
 have HQ:=ab hQ
 clear hx4 hr4 hbl4 hcell hn hL own4 hb4 hcell4 hQ
 dsimp only
 go_wp2_with fail
 go_loopw [5] (fun i wr=>∃ q:Nat,q≤Q∧i=.int .i64 ((64*q:Nat):Int)∧Blk wr X 194 (x8 (Sha.stN L q))∧w4.grownBy wr (some X)) (fun i _=>n-(intOf i).toNat)
 case atStart=>exact ⟨0,by omega,rfl,HX4.out.1,xa1 _ _⟩
 case round =>
  obtain ⟨q,hq,rfl,hbk,hgr⟩:=hrel
  by_cases hlt:q<Q
  ·obtain ⟨i,hi⟩:∃ i,i=64*q:=⟨_,rfl⟩
   have hin:i+64≤n:=by have:=HQ.out;omega
   have i1:(i:Int)<(n:Int):=by omega
   have i2:((64*q:Nat):Int)=(i:Int):=by omega
   rw [i2]
   obtain ⟨st,hst⟩:∃ st,st=Sha.stN L q:=⟨_,rfl⟩
   rw [← hst] at hbk
   obtain ⟨Bq,hBq⟩:∃ Bq,Bq=(L.drop i).take 64:=⟨_,rfl⟩
   have hBl:Bq.length=64:=by rw [hBq,xaN,List.length_drop,← HX4.out.2.2.2.2];omega
   have hbc:∀ j,j<64→wr.cell? ⟨b,(off+i)+j,none⟩=some (.int .u8 ((Bq.getD j 0).toNat:Int)):=by
    intro j hj
    have e:Bq.getD j 0=L.getD (i+j) 0:=by
     rw [hBq,xaX,xaX,List.getElem?_take_of_lt hj,List.getElem?_drop]
    rw [e,Nat.add_assoc]
    have hlt':i+j<L.length:=by rw [← HX4.out.2.2.2.2];omega
    exact (xaV (hgr.block b hbl (by intro e;injection e with e;omega))).trans (HX4.out.2.2.2.1 (i+j) hlt')
   have hsl:=fun W=>AH b off n cap4 q (by omega) hc4 W
   rw [i2,show ((64*q+64:Nat):Int)=((i+64:Nat):Int) by omega,← hi] at hsl
   have hcall:=fun (W:World) (hx:Ext wr W)=>xK st Bq hBl b (off+i) 64 (cap4-i) (xag _) (by omega) W (fun j hj=>(hx.cell (p:=⟨b,(off+i)+j,none⟩) (by have:=hgr.size;show b<_;omega)).trans (hbc j hj))
   have HI:=ab (xad hi i2)
   have HS:=ab (xad hst hBq)
   have HBK:=ab hbk
   clear hi i2 hst hBq hbk hbc
   go_wp2_with fail
   refine b4 7 [] (by kernel_rfl) (by kernel_rfl) (by intro p hp;cases hp) List.nodup_nil (by intro t ht;cases ht) ?_
   simp only [xau,xaC,xay,xaK]
   refine ag (.agg (x8 st)) (by kernel_rfl) (by kernel_rfl) (by kernel_rfl) (fun W hx=>pk 194 _ rfl X rfl 194 (x8 st) _ _ Tryz.underlying194 (oP _) W (HBK.out.below hx HBK.out.lt)) ?_
   simp only [xae,xaa,xab,xac]
   refine ag (.slice (some ⟨b,off,none⟩) n cap4) (by kernel_rfl) (by kernel_rfl) (by kernel_rfl) (fun _ _=>by kernel_rfl) ?_
   simp only [xae,xaa,xab,xac]
   refine ag (.int .i64 (i:Int)) (by kernel_rfl) (by kernel_rfl) (by kernel_rfl) (fun _ _=>by kernel_rfl) ?_
   simp only [xae,xaa,xab,xac]
   refine ag (.int .i64 (i:Int)) (by kernel_rfl) (by kernel_rfl) (by kernel_rfl) (fun _ _=>by kernel_rfl) ?_
   simp only [xae,xaa,xab,xac]
   refine ag (.int .i64 (IntKind.i64.wrap ((i:Int)+64))) (by kernel_rfl) (by kernel_rfl) (by kernel_rfl) (fun _ _=>by kernel_rfl) ?_
   rw [show IntKind.i64.wrap ((i:Int)+64)=((i+64:Nat):Int) from xbP _ (by omega)]
   simp only [xae,xaa,xab,xac]
   refine ag (.slice (some ⟨b,off+i,none⟩) 64 (cap4-i)) (by kernel_rfl) (by kernel_rfl) (by kernel_rfl) (fun W _=>iq 24 _ (some _) (some _) none rfl _ hsl W) ?_
   simp only [xae,xaa,xab,xac]
   refine fZ (.agg (x8 (Sha.comp st Bq))) 133 #[.agg (x8 st),.slice (some ⟨b,off+i,none⟩) 64 (cap4-i)] (by kernel_rfl) (by kernel_rfl) (by kernel_rfl) (fun W=>by kernel_rfl) hcall ?_
   simp only [xae,xaa,xab,xac]
   show ∀ w',_→_
   intro w5 hx5
   simp only [ended]
   refine ak (o:=⟨none,.store 194 (.tmp 3) (.tmp 23),_,_,_,_⟩) rfl 194 (.tmp 3) (.tmp 23) rfl X (x8 st) (x8 (Sha.comp st Bq)) 194 (HBK.out.below hx5 HBK.out.lt) (oP _) (yT _ _) (yd _) rfl rfl ?_
   intro w6 hk6 hg6
   dsimp only [xae]
   have HK6:=ab (xad hk6 hg6)
   clear hk6 hg6 hcall hsl
   go_wp2_with fail
   go_roundw
   case rel =>
    refine ⟨q+1,by omega,?_,?_,?_⟩
    ·have:=HI.out.1;first | go_num | (congr 1;omega)
    ·rw [Sha.stN,← HS.out.1,show 64*q=i from HI.out.1.symm,← HS.out.2]
     exact HK6.out.1
    ·exact cI hgr (cI ⟨hx5.os,hx5.tape,hx5.output,hx5.size,fun k hk _=>hx5.block k hk⟩ HK6.out.2)
   case measure=>simp [intOf];omega
  ·obtain rfl:q=Q:=by omega
   have i2:((64*q:Nat):Int)=(n:Int):=by have:=HQ.out;omega
   rw [i2]
   obtain ⟨st,hst⟩:∃ st,st=Sha.stN L q:=⟨_,rfl⟩
   rw [← hst] at hbk
   have HST:=ab hst
   have HBK:=ab hbk
   clear hst hbk i2
   go_wp2_with fail
   have hgw:Below R w wr:=HX4.out.2.2.1.grown hgr (by have:=HX4.out.2.1.lt;omega) (by intro k hk;injection hk with hk;omega)
   have hRr:Blk wr R 153 z32:=HX4.out.2.1.grown hgr (by intro e;injection e with e;omega)
   obtain ⟨Z,hZ⟩:∃ Z,Z=wr.heap.size:=⟨_,rfl⟩
   obtain ⟨w7,hw7⟩:∃ w7,w7=wr.alloc (.cells (ov st 0) 153):=⟨_,rfl⟩
   have hXZ:X<Z:=by rw [hZ];exact HBK.out.lt
   have hb7:Below Z wr w7:=by rw [hw7,hZ];exact (xao _ _).alloc (xag _) _
   have hz7:Blk w7 Z 153 (ov st 0):=by rw [hw7,hZ];exact Blk.new _ _ _
   have hx7:Blk w7 X 194 (x8 st):=HBK.out.below hb7 hXZ
   have hR7:Blk w7 R 153 z32:=hRr.below hb7 (by omega)
   have hbw7:Below R w w7:=hgw.trans (hb7.mono (by omega))
   rw [← hZ]
   change Code.wp _ _ _ _ (wr.alloc (.cells (ov st 0) 153))
   rw [← hw7]
   have H7:=ab (xad hz7 (xad hx7 (xad hR7 hbw7)))
   clear hgw hRr hZ hw7 hb7 hz7 hx7 hR7 hbw7 HBK hgr
   go_loopw [7] (fun v wr=>∃ i:Nat,i≤32∧v=.int .i64 (i:Int)∧Blk wr Z 153 (ov st i)∧w7.grownBy wr (some Z)) (fun v _=>(32-intOf v).toNat)
   case atStart=>exact ⟨0,by omega,rfl,H7.out.1,xa1 _ _⟩
   case round =>
    obtain ⟨i,hi,rfl,hri,hgz⟩:=hrel
    by_cases h32:i<32
    ·obtain ⟨p,hp⟩:∃ p,p=i / 4:=⟨_,rfl⟩
     obtain ⟨r,hr⟩:∃ r,r=i % 4:=⟨_,rfl⟩
     have hp4:(i:Int) / 4=(p:Int):=by omega
     have hp4':(i:Int).tdiv 4=(p:Int):=by rw [Int.tdiv_eq_ediv_of_nonneg (by omega),hp4]
     have hr4:(i:Int) % 4=(r:Int):=by omega
     have hr4':(i:Int).tmod 4=(r:Int):=by rw [xbt (by omega),hr4]
     have hp8:p<8:=by omega
     have hr3:r≤3:=by omega
     have hr5:(r:Int)≤3:=by omega
     have hr6:(0:Int)≤(r:Int):=by omega
     have i0:(0:Int)≤(i:Int):=by omega
     have i1:(i:Int)<32:=by omega
     have cp:=((H7.out.2.1.grown hgz (by intro e;injection e with e;omega)).cell p).trans (gl st.list p hp8)
     have cR:=hri.cell i
     rw [CM st i h32] at cR
     have fR:=hri.frozen i
     obtain ⟨x,hx⟩:∃ x,x=st.list.getD p 0:=⟨_,rfl⟩
     rw [← hx] at cp
     have HX':=ab (xad hx (xad hp hr))
     have HRI:=ab hri
     clear hx hp hr hri
     go_wp2_with fail
     go_roundw
     case rel =>
      refine ⟨i+1,by omega,by go_num,?_,dL hgz (.inl rfl) _⟩
      have h3:=HRI.out.gP i (.int .u8 (((Sha.out st).getD i 0).toNat:Int))
      rw [CN st i h32] at h3
      rw [vl st i x p r h32 HX'.out]
      exact h3
     case measure=>simp [intOf];omega
    ·obtain rfl:i=32:=by omega
     have e32:ov st 32=(bv (Sha.out st)).toArray:=by unfold ov;rw [xav (by rw [dB];exact xag _)];simp
     rw [e32] at hri
     have hsz:(Tryz.prog.info? 153).map (·.size)=some (bv (Sha.out st)).toArray.size:=by rw [xal,bv,xap,dB];exact xT
     have hzs:z32.size=(bv (Sha.out st)).toArray.size:=by simp [z32,bv,dB]
     have hRz:Blk wr R 153 z32:=H7.out.2.2.1.grown hgz (by intro e;injection e with e;omega)
     have HRZ:=ab hRz
     have HK:=ab hri
     clear hri hRz
     go_wp2_with (first
      | ((with_reducible refine ae 40 ?_);(with_reducible refine dj rfl 153 (.tmp 6) rfl Z 153 (bv (Sha.out st)).toArray _ _ HK.out Tryz.underlying153 hsz ?_ ?_);rfl;dsimp only [xae,xaa,xab,xac])
      | ((with_reducible refine ak rfl 153 (.tmp 2) (.tmp 40) rfl R z32 (bv (Sha.out st)).toArray 153 HRZ.out hsz hzs (lj _) ?_ ?_ ?_);rfl;rfl;intro w9 h9 hg9;dsimp only [xae]))
     have hR0:=HR.out
     have hgs:=hgz.size
     have hbs:=H7.out.2.2.2.size
     have hRl:=H7.out.2.2.1.lt
     refine bodyPost_ret (ch rfl _ _ R 153 (bv (Sha.out st)).toArray _ _ rfl h9 Tryz.underlying153 hsz) rfl ⟨?_,?_⟩
     ·have h1:(Sha.pad c).length=n:=by rw [HX4.out.2.2.2.2,HL.out]
      have h2:(Sha.pad c).length / 64=q:=by have:=HQ.out;omega
      rw [HD.out,Sha.sum,h2,HST.out,HL.out]
     ·rw [← hR0]
      exact ((H7.out.2.2.2).grown hgz (by omega) (by intro k hk;injection hk with hk;omega)).grown hg9 (by omega) (by intro k hk;injection hk with hk;omega)
end Go.Proofs.YtomnhnmciopiiaaGreat
end
section
namespace Go.Proofs.YtomnhnmciopiiaaGreat
open Go.RowKit
theorem nQ (n:Nat) (hn:n≤1099511627776) (w:World) :
  Calls Tryz.prog 91 #[.int .i64 (n:Int)] w fun e w'=>∃ v',e=.returned v'∧w'.ownsRow w.heap.size 5 1 v' (num n).length (bv (num n))∧Below w.heap.size w w':=by
 obtain ⟨i,hi,hz0,hz1,hz2⟩:=info_parts Cc
 obtain ⟨N,hN⟩:∃ N,N=w.heap.size:=⟨_,rfl⟩
 rw [← hN]
 have HN:=ab hN
 have hlen:=jI n (by omega)
 obtain ⟨l,hl⟩:∃ l,l=num n:=⟨_,rfl⟩
 rw [← hl] at hlen ⊢
 have HL:=ab (xad hlen hl)
 clear hN hlen hl
 go_enter Tryz.func91,Tryz.ntmps91
 go_wp2_with fail
 go_loopw [0,3] (fun v0 v3 wr=>∃ (m k:Nat) (p:List UInt8) (A3:Option Addr) (cap3:Nat),v0=.int .i64 (m:Int)∧v3=.slice A3 k cap3∧k=p.length∧m≤1099511627776∧p++num m=l∧wr.ownsRow N 5 1 v3 k (bv p)∧Below N w wr) (fun v0 _ _=>(intOf v0).toNat)
 case atStart=>exact ⟨n,0,[],none,0,rfl,rfl,rfl,hn,HL.out.2.symm,⟨rfl,.inl ⟨rfl,rfl⟩⟩,xao _ _⟩
 case round =>
  obtain ⟨m,k,p,A3,cap3,rfl,rfl,hk,hm,hpl,own3,hb3⟩:=hrel
  have hk10:k≤10:=by
   have h1:=HL.out.1
   rw [← hpl,xak] at h1
   omega
  have hsz:=hb3.size
  have hNz:N≤wr.heap.size:=by have:=HN.out;omega
  by_cases h128:m<128
  ·obtain ⟨x,hx⟩:∃ x,x=xaJ m:=⟨_,rfl⟩
   have n0:(0:Int)≤(m:Int):=by omega
   have n1:(m:Int)≤127:=by omega
   have n3:(m:Int)=(x.toNat:Int):=by rw [hx,UInt8.toNat_ofNat'];omega
   have n2:¬ (128:Int)≤(m:Int):=by omega
   have H3:=ab (xad (own3.alloc (.cells #[.int .u8 (m:Int)] 5)) (xad (hb3.alloc (by omega) (.cells #[.int .u8 (m:Int)] 5)) (xad hk (xad hpl (xad hx n3)))))
   clear own3 hb3 hk hpl hx n3
   go_wp2_with (at_builtin;((with_reducible refine ae 19 ?_);refine dR rfl (.tmp 15) (.tmp 18) 24 rfl N 5 i (.int .u8 0) 1 Tryz.underlying24 hi hz0 hz1 hz2 rfl _ k _ H3.out.1 (some ⟨wr.heap.size,0,none⟩) 1 1 [.int .u8 (m:Int)] (iS wr (.int .u8 (m:Int)) 5 rfl) (by simp only [maxLen];omega) (by omega) (by rw [size_alloc];omega) rfl rfl ?_);intro v4 w4 own4 gr4 mv4 _;obtain ⟨A4,cap4,rfl⟩:=bq own4;have H4:=ab (xad own4 gr4);clear own4 gr4 mv4)
   go_ret
   obtain ⟨own3,hb3,hk,hpl,hx,n3⟩:=H3.out
   obtain ⟨own4,gr4⟩:=H4.out
   have e:l=p++[x]:=by rw [← hpl,tn h128,hx]
   refine ⟨_,rfl,?_,hb3.grown gr4 (by rw [size_alloc];omega) (fun q hq=>(dm own3 hq).1)⟩
   rw [n3] at own4
   rw [e,xak,bvA,← hk]
   exact own4
  ·obtain ⟨r,hr⟩:∃ r,r=m % 128:=⟨_,rfl⟩
   obtain ⟨x,hx⟩:∃ x,x=xaJ (m % 128+128):=⟨_,rfl⟩
   obtain ⟨d,hd⟩:∃ d,d=m / 128:=⟨_,rfl⟩
   have n0:(0:Int)≤(m:Int):=by omega
   have nx:(r:Int)+128=(x.toNat:Int):=by rw [hx,UInt8.toNat_ofNat'];omega
   have n2:(128:Int)≤(m:Int):=by omega
   have n3:(m:Int) % 128=(r:Int):=by omega
   have n4:(m:Int).tmod 128=(r:Int):=by rw [xbt n0,n3]
   have n5:(m:Int) / 128=(d:Int):=by omega
   have n6:(m:Int).tdiv 128=(d:Int):=by rw [Int.tdiv_eq_ediv_of_nonneg n0,n5]
   have n7:(r:Int)≤127:=by omega
   have n8:(0:Int)≤(r:Int):=by omega
   have hdm:d<m:=by omega
   have H3:=ab (xad (own3.alloc (.cells #[.int .u8 ((r:Int)+128)] 5)) (xad (hb3.alloc (by omega) (.cells #[.int .u8 ((r:Int)+128)] 5)) (xad hk (xad hpl (xad hx (xad hd nx))))))
   clear own3 hb3 hk hpl hx hd hr nx
   go_wp2_with (at_builtin;((with_reducible refine ae 12 ?_);refine dR rfl (.tmp 6) (.tmp 11) 24 rfl N 5 i (.int .u8 0) 1 Tryz.underlying24 hi hz0 hz1 hz2 rfl _ k _ H3.out.1 (some ⟨wr.heap.size,0,none⟩) 1 1 [.int .u8 ((r:Int)+128)] (iS wr (.int .u8 ((r:Int)+128)) 5 rfl) (by simp only [maxLen];omega) (by omega) (by rw [size_alloc];omega) rfl rfl ?_);intro v4 w4 own4 gr4 mv4 _;obtain ⟨A4,cap4,rfl⟩:=bq own4;have H4:=ab (xad own4 gr4);clear own4 gr4 mv4)
   go_roundw
   case rel =>
    obtain ⟨own3,hb3,hk,hpl,hx,hd,nx⟩:=H3.out
    obtain ⟨own4,gr4⟩:=H4.out
    rw [nx] at own4
    refine ⟨d,k+1,p++[x],A4,cap4,by go_num,rfl,by rw [xak,hk];rfl,by omega,?_,by rw [bvA];exact own4,hb3.grown gr4 (by rw [size_alloc];omega) (fun q hq=>(dm own3 hq).1)⟩
    rw [← hpl,xy h128,hx,hd,xaR]
    rfl
   case measure=>simp [intOf];omega
end Go.Proofs.YtomnhnmciopiiaaGreat
end
section
namespace Go.Proofs.YtomnhnmciopiiaaGreat
open Go.RowKit
def vU (w:World) (B:Nat) (v:Value) (ls:List (List UInt8)):Prop :=
 ∃ A cap,v=.slice A ls.length cap∧ls.length≤cap∧(0<ls.length→∃ b off,A=some ⟨b,off,none⟩∧b<B∧∀ j,j<ls.length→∃ A' c',w.cell? ⟨b,off+j,none⟩=some (.slice A' (ls.getD j []).length c')∧dV w B (.slice A' (ls.getD j []).length c') (ls.getD j [])∧(A'=none→c'=0))
theorem zm (ls:List (List UInt8)) (k:Nat) (h:k<ls.length):(ls.take (k+1)).flatten=(ls.take k).flatten++ls.getD k []:=by
 rw [xbb h,xbU];simp [List.getD,h]
theorem yu (ls:List (List UInt8)) (k:Nat):(ls.take k).flatten.length≤ls.flatten.length:=by
 have h2:ls.flatten=(ls.take k).flatten++(ls.drop k).flatten:=by rw [← xbU,List.take_append_drop]
 rw [h2,xak];omega
theorem BW (ls:List (List UInt8)) (k:Nat) (h:k<ls.length):(ls.getD k []).length≤ls.flatten.length:=by
 have h1:=yu ls (k+1)
 rw [zm ls k h,xak] at h1
 omega
def fl (ls:List (List UInt8)):Nat:=ls.flatten.length
theorem GG (ls:List (List UInt8)) (k:Nat):fl (ls.take k)≤fl ls:=yu ls k
end Go.Proofs.YtomnhnmciopiiaaGreat
end
section
namespace Go.Proofs.YtomnhnmciopiiaaGreat
open Go.RowKit
theorem jg (l:List UInt8) (n:Nat):(Tryz.prog.info? 34).map (·.size)=some (bv (fold l n)).toArray.size:=by rw [xal,bv,xap,dH];exact De
theorem zn (l m:List UInt8) (n k:Nat):(bv (fold l n)).toArray.size=(bv (fold m k)).toArray.size:=by simp [bv,dH]
theorem Au (l:List UInt8) (hl:l.length=32) (w:World) :
  Calls Tryz.prog 92 #[.agg (bv l).toArray] w fun e w'=>e=.returned (.agg (bv (fold l 32)).toArray)∧Below w.heap.size w w':=by
 obtain ⟨L,hL⟩:∃ L,L=(bv l).toArray:=⟨_,rfl⟩
 rw [← hL]
 have HL:=ab hL
 clear hL
 obtain ⟨N,hN⟩:∃ N,N=w.heap.size:=⟨_,rfl⟩
 obtain ⟨D,hD⟩:∃ D,D=Value.agg (bv (fold l 32)).toArray:=⟨_,rfl⟩
 rw [← hD]
 have HD:=ab hD
 clear hD
 go_enter Tryz.func92,Tryz.ntmps92
 go_wp2_with fail
 rw [← hN]
 obtain ⟨w3,hw3⟩:∃ w3,w3=((w.alloc (.cells L 153)).alloc (.cells (bv (fold l 0)).toArray 34)).alloc (.cells (bv (fold l 0)).toArray 34):=⟨_,rfl⟩
 have hs:Blk w3 N 153 L:=by rw [hw3,hN];exact ((Blk.new _ _ _).alloc _).alloc _
 have hr:Blk w3 (N+1) 34 (bv (fold l 0)).toArray:=by rw [hw3,hN];exact (Blk.aM _ _ _ _).alloc _
 have hz:Blk w3 (N+1+1) 34 (bv (fold l 0)).toArray:=by
  rw [hw3,hN,show w.heap.size+1+1=((w.alloc (.cells L 153)).alloc (.cells (bv (fold l 0)).toArray 34)).heap.size by simp]
  exact Blk.new _ _ _
 have hb:Below N w w3:=by rw [hw3,hN];exact (((xao _ _).alloc (xag _) _).alloc (by simp) _).alloc (by simp;omega) _
 change Code.wp _ _ _ _ (((w.alloc (.cells L 153)).alloc (.cells (bv (fold l 0)).toArray 34)).alloc (.cells (bv (fold l 0)).toArray 34))
 rw [← hw3]
 obtain ⟨X,hX⟩:∃ X,X=N+1+1:=⟨_,rfl⟩
 obtain ⟨R,hR⟩:∃ R,R=N+1:=⟨_,rfl⟩
 rw [← hX] at hz ⊢
 rw [← hR] at hr ⊢
 have h1:N<R:=by omega
 have h2:R<X:=by omega
 have H:=ab (xad hs (xad hr (xad hb hN)))
 have HZ:=ab hz
 clear hs hr hz hb hw3 hN hX hR
 go_loopw [4] (fun v wr=>∃ i:Nat,i≤32∧v=.int .i64 (i:Int)∧Blk wr X 34 (bv (fold l i)).toArray∧Below X w3 wr) (fun v _=>(32-intOf v).toNat)
 case atStart=>exact ⟨0,by omega,rfl,HZ.out,xao _ _⟩
 case round =>
  obtain ⟨i,hi,rfl,hb,hbl⟩:=hrel
  by_cases h32:i<32
  ·obtain ⟨q,hq⟩:∃ q,q=i % 20:=⟨_,rfl⟩
   have hqi:(i:Int) % 20=(q:Int):=by omega
   have hqi':(i:Int).tmod 20=(q:Int):=by rw [xbt (by omega),hqi]
   have hq2:q<20:=by omega
   have hq3:(q:Int)<20:=by omega
   have hq4:(0:Int)≤(q:Int):=by omega
   have i0:(0:Int)≤(i:Int):=by omega
   have i1:(i:Int)<32:=by omega
   obtain ⟨x,hx⟩:∃ x,x=l.getD i 0:=⟨_,rfl⟩
   obtain ⟨y,hy⟩:∃ y,y=(fold l i).getD q 0:=⟨_,rfl⟩
   have cs:wr.cell? ⟨N,i,none⟩=some (.int .u8 (x.toNat:Int)):=by rw [(H.out.1.below hbl (by omega)).cell i,HL.out,o6 _ _ (by omega),hx]
   have cq:wr.cell? ⟨X,q,none⟩=some (.int .u8 (y.toNat:Int)):=by rw [hb.cell,o6 _ _ (by rw [dH];omega),hy]
   have fq:=hb.frozen q
   have hxy:bits .xor .u8 (y.toNat:Int) (x.toNat:Int)=((y ^^^ x).toNat:Int):=by
    rw [u8_xor_nat _ _ y.toNat_lt x.toNat_lt,UInt8.toNat_xor]
   have HB:=ab hb
   have HQ:=ab (xad hq (xad hx hy))
   clear hb hq hx hy
   obtain ⟨z,hz⟩:∃ z,z=y ^^^ x:=⟨_,rfl⟩
   rw [← hz] at hxy
   have HZ2:=ab hz
   clear hz
   go_wp2_with fail
   refine bK 11 (by kernel_rfl) (by kernel_rfl) ?_
   simp only [xau,xaC,xay,xaK]
   repeat (go_big_quiet_step (fail))
   refine wpQuiet_nil ?_
   intro nq
   go_wp2_with fail
   go_roundw
   case rel =>
    refine ⟨i+1,by omega,by go_num,?_,(below_drewN hbl nq).setCell (xag _) _⟩
    have h3:=(HB.out.drewN nq).gP q (.int .u8 (z.toNat:Int))
    rw [By] at h3
    have e:fold l (i+1)=(fold l i).set q z:=by rw [fold,HZ2.out,HQ.out.1,HQ.out.2.1,HQ.out.2.2,HQ.out.1]
    rw [e]
    exact h3
   case measure=>simp [intOf];omega
  ·obtain rfl:i=32:=by omega
   have HK:=ab hb
   have HRZ:=ab (H.out.2.1.below hbl h2)
   clear hb
   go_wp2_with (first
    | ((with_reducible refine ae 20 ?_);(with_reducible refine dj rfl 34 (.tmp 3) rfl X 34 (bv (fold l 32)).toArray _ _ HK.out Tryz.underlying34 (jg l 32) ?_ ?_);rfl;dsimp only [xae,xaa,xab,xac])
    | ((with_reducible refine ak rfl 34 (.tmp 2) (.tmp 20) rfl R (bv (fold l 0)).toArray (bv (fold l 32)).toArray 34 HRZ.out (jg l 32) (zn l l 0 32) (lj _) ?_ ?_ ?_);rfl;rfl;intro w9 h9 hg9;dsimp only [xae]))
   have hN:=H.out.2.2.2
   have hs9:=hbl.size
   have hl9:=H.out.2.1.lt
   have hbs:=H.out.2.2.1.size
   refine bodyPost_ret (ch rfl _ _ R 34 (bv (fold l 32)).toArray _ _ rfl h9 Tryz.underlying34 (jg l 32)) rfl ⟨by rw [HD.out],?_⟩
   rw [← hN]
   exact (H.out.2.2.1.trans (hbl.mono (by omega))).grown hg9 (by omega) (by intro k hk;injection hk with hk;omega)
end Go.Proofs.YtomnhnmciopiiaaGreat
end
section
namespace Go.Proofs.YtomnhnmciopiiaaGreat
open Go.RowKit
theorem Dv (l:List UInt8):z20.size=(bv (fold l 32)).toArray.size:=by simp [z20,bv,dH]
def tb (t:List UInt8) (ls:List (List UInt8)):List UInt8:=(tx t ls).flatten
theorem Dm (t:List UInt8):tb t []=num t.length++t:=by simp [tb,tx]
theorem E0 (t:List UInt8) (ls:List (List UInt8)) (k:Nat) (h:k<ls.length):tb t (ls.take (k+1))=(tb t (ls.take k)++num (ls.getD k []).length)++ls.getD k []:=by
 unfold tb;rw [yR t ls k h,xbU];simp
theorem Gw (t:List UInt8) (ls:List (List UInt8)) (k:Nat) (h:t.length+fl ls+ls.length≤100000):(tb t (ls.take k)).length≤1100000:=by
 have h1:=GG ls k
 unfold fl at h1 h
 have h2:=yv t (ls.take k) (by omega) (fun l hl=>by have:=kf hl;omega)
 have h3:(ls.take k).length≤ls.length:=by rw [xaN];omega
 unfold tb
 omega
theorem EF (tag:ByteArray) (t:List UInt8) (ht:t=tag.data.toList) (ls:List (List UInt8)) (hsm:t.length+fl ls+ls.length≤100000) (v:Value) (w:World) (B:Nat) (hB:B≤w.heap.size) (hp:vU w B v ls) :
  Calls Tryz.prog 58 #[.string tag,v] w fun e w'=>e=.returned (.agg (bv (ofB t ls)).toArray)∧Below w.heap.size w w':=by
 obtain ⟨A,cap,rfl,hcap,hA⟩:=hp
 obtain ⟨i,hi,hz0,hz1,hz2⟩:=info_parts Cc
 have htn:t.length=tag.size:=by rw [ht];simp
 have hln:ls.length≤100000:=by omega
 have htl:tag.size≤100000:=by omega
 have HT:=ab (xad ht htn)
 have HA:=ab hA
 have HSM:=ab hsm
 obtain ⟨R,hR⟩:∃ R,R=w.heap.size:=⟨_,rfl⟩
 have HR:=ab hR
 obtain ⟨D,hD⟩:∃ D,D=Value.agg (bv (ofB t ls)).toArray:=⟨_,rfl⟩
 rw [← hD]
 have HD:=ab hD
 clear hD hA hsm ht htn
 go_enter Tryz.func58,Tryz.ntmps58
 go_step
 go_step
 apply wp_region_lit
 refine aa rfl (.pointer (some ⟨R,0,none⟩)) (w.alloc (.cells z20 34)) (by rw [HR.out];kernel_rfl) ?_
 dsimp only [xae,xaa,xab,xac]
 obtain ⟨w1,hw1⟩:∃ w1,w1=w.alloc (.cells z20 34):=⟨_,rfl⟩
 have hb1:Blk w1 R 34 z20:=by rw [hw1,HR.out];exact Blk.new _ _ _
 have hbl1:Below R w w1:=by rw [hw1,HR.out];exact (xao _ _).alloc (xag _) _
 have hs1:w1.heap.size=R+1:=by rw [hw1,HR.out];simp
 have hBR:B≤R:=by omega
 rw [← hw1]
 have H1:=ab (xad hb1 (xad hbl1 hs1))
 clear hw1 hb1 hbl1 hs1 hR hB
 go_wp2_with (first
  | (go_at_call 91;refine (nQ tag.size (by omega) _).mono ?_;rintro e w2 ⟨v2,rfl,eM,hb2⟩;obtain ⟨A2,k2,rfl⟩:=bq eM;have hn2:=jI tag.size (by omega);have hs2:=hb2.size;have HX2:=ab (xad eM hb2);clear eM hb2)
  | (at_builtin;(refine Lib.wpList_append_own_string w2 rfl (.tmp 9) (.tmp 10) 24 9 rfl w1.heap.size 5 i Tryz.underlying24 Tryz.underlying9 hi hz0 hz1 hz2 (.slice A2 (num tag.size).length k2) (num tag.size).length (bv (num tag.size)) rfl HX2.out.1 tag rfl (by simp only [maxLen];omega) (by omega) hs2 ?_);intro v3 w3 own3 gr3 _;obtain ⟨A3,k3,rfl⟩:=bq own3;have HX3:=ab (xad own3 gr3);clear own3 gr3))
 have hstart:∃ m,m=(tb t (ls.take 0)).length∧m=(num tag.size).length+tag.size∧w3.ownsRow (R+1) 5 1 (.slice A3 m k3) m (bv (tb t (ls.take 0)))∧Blk w3 R 34 z20∧Below R w w3∧R+1≤w3.heap.size:=by
  obtain ⟨ht,htn⟩:=HT.out
  obtain ⟨hb1,hbl1,hs1⟩:=H1.out
  obtain ⟨eM,hb2⟩:=HX2.out
  obtain ⟨own3,gr3⟩:=HX3.out
  have e:bv (num tag.size)++Lib.strCells tag=bv (tb t (ls.take 0)):=by
   rw [xaC,Dm,bvA,htn]
   congr 1
   rw [ht]
   rfl
  have hgq:∀ q,(xas A2 (num tag.size).length k2).ownBlock=some q→R+1≤q:=fun q hq=>by have:=(dm eM hq).1;omega
  refine ⟨_,?_,rfl,by rw [← e,← hs1];exact own3,(hb1.below hb2 (by omega)).grown gr3 (fun e=>by have:=hgq _ e.symm;omega),(hbl1.trans (hb2.mono (by omega))).grown gr3 (by omega) (fun q hq=>by have:=hgq q hq;omega),by have:=gr3.size;omega⟩
  rw [xaC,Dm,xak,htn]
 obtain ⟨m0,hm0,hm1,hst⟩:=hstart
 rw [← hm1]
 have HST:=ab (xad hm0 hst)
 clear hm0 hm1 hst
 go_loopw [5,6] (fun v5 v6 wr=>∃ (k m:Nat) (A5:Option Addr) (cap5:Nat),k≤ls.length∧v6=.int .i64 (k:Int)∧m=(tb t (ls.take k)).length∧v5=.slice A5 m cap5∧wr.ownsRow (R+1) 5 1 v5 m (bv (tb t (ls.take k)))∧Blk wr R 34 z20∧Below R w wr∧R+1≤wr.heap.size) (fun _ v6 _=>ls.length-(intOf v6).toNat)
 case atStart=>exact ⟨0,m0,A3,k3,by omega,rfl,HST.out.1,rfl,HST.out.2⟩
 case round =>
  obtain ⟨k,m,A5,cap5,hk,rfl,hm,rfl,own5,hbR,hbw,hsz⟩:=hrel
  have hmb:=Gw t ls k HSM.out
  rw [← hm] at hmb
  by_cases hlt:k<ls.length
  ·obtain ⟨b,off,rfl,hbB,hcells⟩:=HA.out (by omega)
   obtain ⟨Aj,cj,cu0,hby,hnil⟩:=hcells k hlt
   have ha:Alike B w wr:=fA (hbw.mono hBR)
   have cu:=(ha.cell (p:=⟨b,off+k,none⟩) hbB).trans cu0
   obtain ⟨l,hlk⟩:∃ l,l=ls.getD k []:=⟨_,rfl⟩
   have hll:l.length≤100000:=by
    have h1:=HSM.out
    have h2:=BW ls k hlt
    unfold fl at h1
    rw [hlk]
    omega
   rw [← hlk] at cu hby
   have htk:=E0 t ls k hlt
   rw [← hlk] at htk
   have hn3:=jI l.length (by omega)
   have i1:(0:Int)≤(k:Int):=by omega
   have i2:(k:Int)<(ls.length:Int):=by omega
   have hbz:b<wr.heap.size:=by omega
   obtain ⟨T,hT⟩:∃ T,T=tb t (ls.take k):=⟨_,rfl⟩
   rw [← hT] at own5 htk hm
   have H3:=ab (xad own5 (xad hbR (xad hbw (xad (hby.alike ha) (xad hnil (xad htk (xad hm cu)))))))
   clear own5 hbR hbw hby hnil hcells htk hm hlk cu0 ha hT
   go_wp2_with fail
   go_region_held3 (fun w'=>w'.cell? ⟨b,off+k,none⟩=some (.slice Aj l.length cj)) (first | go_keep | exact hkeep)
    (first
     | (go_at_call 91;refine (nQ l.length (by omega) _).mono ?_;rintro e w4 ⟨v4,rfl,own4,hb4⟩;obtain ⟨A4,k4,rfl⟩:=bq own4;have hs4:wr.heap.size≤w4.heap.size:=hb4.size;have hkeep:w4.cell? ⟨b,off+k,none⟩=some (.slice Aj l.length cj):=(hb4.cell (p:=⟨b,off+k,none⟩) hbz).trans H3.out.2.2.2.2.2.2.2;have HX4:=ab (xad own4 hb4);clear own4 hb4)
     | (refine vH rfl (.tmp 18) (.tmp 24) 24 rfl (R+1) 5 i (.int .u8 0) 1 Tryz.underlying24 hi hz0 hz1 hz2 rfl (.slice A5 m cap5) m (bv T) (gk H3.out.1 fun g _ hlt=>HX4.out.2.block g hlt) A4 (num l.length).length k4 (bv (num l.length)) (xD HX4.out.1) (by simp only [maxLen];omega) (by omega) (by omega) rfl rfl ?_;intro v5 w5 own5' gr5 mv5 _;obtain ⟨A6,k6,rfl⟩:=bq own5';have hs5:w4.heap.size≤w5.heap.size:=gr5.size;have hkeep:w5.cell? ⟨b,off+k,none⟩=some (.slice Aj l.length cj):=((xaV (gr5.block b (by omega) (fun e=>by have:=(dm H3.out.1 e.symm).1;omega))).trans ((HX4.out.2.cell (p:=⟨b,off+k,none⟩) hbz).trans H3.out.2.2.2.2.2.2.2));have hal5:Alike B wr w5:=(show Alike B wr w4 from fun q hq=>HX4.out.2.block q (show q<wr.heap.size by omega)).trans (fun q hq=>gr5.block q (by omega) (fun e=>by have:=(dm H3.out.1 e.symm).1;omega));have HX5:=ab (xad own5' (xad gr5 hal5));clear own5' gr5 mv5 hal5)
     | (refine vH rfl (.tmp 25) (.tmp 29) 24 rfl (R+1) 5 i (.int .u8 0) 1 Tryz.underlying24 hi hz0 hz1 hz2 rfl (.slice A6 (m+(num l.length).length) k6) (m+(num l.length).length) (bv T++bv (num l.length)) HX5.out.1 Aj l.length cj (bv l) (sI (H3.out.2.2.2.1.alike HX5.out.2.2) H3.out.2.2.2.2.1) (by simp only [maxLen];omega) (by omega) (by omega) rfl rfl ?_;intro v7 w7 own7 gr7 mv7 _;obtain ⟨A8,k8,rfl⟩:=bq own7;have hs7:w5.heap.size≤w7.heap.size:=gr7.size;have hkeep:w7.cell? ⟨b,off+k,none⟩=some (.slice Aj l.length cj):=(xaV (gr7.block b (by omega) (fun e=>by have:=(dm HX5.out.1 e.symm).1;omega))).trans ((HX5.out.2.2.cell (p:=⟨b,off+k,none⟩) hbB).trans H3.out.2.2.2.2.2.2.2);have HX7:=ab (xad own7 gr7);clear own7 gr7 mv7))
   go_wp2_with fail
   go_roundw
   case rel =>
    obtain ⟨own5,hbR,hbw,_,_,htk,hm,_⟩:=H3.out
    obtain ⟨own4,hb4⟩:=HX4.out
    obtain ⟨own6,gr6,_⟩:=HX5.out
    obtain ⟨own7,gr7⟩:=HX7.out
    have hb4':Below wr.heap.size wr w4:=((xao wr.heap.size wr).drew).trans hb4
    have g5:∀ q,(xas A5 m cap5).ownBlock=some q→R+1≤q:=fun q hq=>(dm own5 hq).1
    have g6:∀ q,(xas A6 (m+(num l.length).length) k6).ownBlock=some q→R+1≤q:=fun q hq=>(dm own6 hq).1
    refine ⟨k+1,m+(num l.length).length+l.length,A8,k8,by omega,by go_num,by rw [htk,xak,xak,hm],rfl,by rw [htk,bvA,bvA];exact own7,?_,?_,by omega⟩
    ·exact ((hbR.below hb4' (by omega)).grown gr6 (fun e=>by have:=g5 _ e.symm;omega)).grown gr7 (fun e=>by have:=g6 _ e.symm;omega)
    ·exact ((hbw.trans (hb4'.mono (by omega))).grown gr6 (by omega) (fun q hq=>by have:=g5 q hq;omega)).grown gr7 (by omega) (fun q hq=>by have:=g6 q hq;omega)
   case measure=>simp [intOf];omega
  ·obtain rfl:k=ls.length:=by omega
   obtain ⟨L,hL⟩:∃ L,L=tb t ls:=⟨_,rfl⟩
   rw [xav (xag _),← hL] at own5 hm
   have hLl:L.length≤1000000000:=by omega
   subst hm
   have HL:=ab hL
   have hby:=fb own5
   have hnil:=vp own5
   have H3:=ab (xad hby (xad hbR (xad hbw hnil)))
   clear own5 hbR hbw hby hnil hL
   have hS32:(Sha.sum L).length=32:=yP L
   obtain ⟨S,hS⟩:∃ S,S=Sha.sum L:=⟨_,rfl⟩
   rw [← hS] at hS32
   have HS:=ab (xad hS32 hS)
   clear hS hS32
   go_wp2_with (first
    | (go_at_call 93;refine (wB L hLl A5 cap5 wr.heap.size _ (xag _) H3.out.1 H3.out.2.2.2).mono ?_;rintro e w5 ⟨rfl,hb5⟩;rw [← HS.out.2];have hs5:=hb5.size;have HB5:=ab hb5;clear hb5)
    | (go_at_call 92;refine (Au S HS.out.1 _).mono ?_;rintro e w6 ⟨rfl,hb6⟩;have HB6:=ab (xad hb6 ((H3.out.2.1.below HB5.out H3.out.2.1.lt).below hb6 (by have:=H3.out.2.1.lt;omega)));clear hb6)
    | ((with_reducible refine ak (o:=⟨none,.store 34 (.tmp 4) (.tmp 33),_,_,_,_⟩) rfl 34 (.tmp 4) (.tmp 33) rfl R z20 (bv (fold S 32)).toArray 34 HB6.out.2 (jg S 32) (Dv S) (lj _) ?_ ?_ ?_);rfl;rfl;intro w9 h9 hg9;dsimp only [xae]))
   have hR0:=HR.out
   have hb6:=HB6.out.1.size
   refine bodyPost_ret (ch rfl _ _ R 34 (bv (fold S 32)).toArray _ _ rfl h9 Tryz.underlying34 (jg S 32)) rfl ⟨by rw [HD.out,HS.out.2,HL.out];rfl,?_⟩
   rw [← hR0]
   exact ((H3.out.2.2.1.trans (HB5.out.mono (by omega))).trans (HB6.out.1.mono (by omega))).grown hg9 (by omega) (by intro k hk;injection hk with hk;omega)
end Go.Proofs.YtomnhnmciopiiaaGreat
end
section
namespace Go.Proofs.YtomnhnmciopiiaaGreat
open Go Go.RowKit Go.Maps
attribute [local irreducible] wpList
theorem C8 {w w':World} {g cap r:Nat} {s:ByteArray} (hb:w'.cell? ⟨r,0,none⟩=some (.slice (some ⟨g,0,none⟩) s.size cap)) (hr:r<w'.heap.size) (hc:s.size≤cap) (hg:g<w.heap.size) (hl:w.heap.size≤w'.heap.size) (hk:∀ b,b<w.heap.size→w'.heap[b]?=w.heap[b]?) (h:dD w g s):vU w' w'.heap.size (.slice (some ⟨r,0,none⟩) 1 1) [s.data.toList]:=by
 have ht:sy w' 5 g s:=⟨by rw [hk g hg];exact h.1,fun j hj=>(xaV (hk g hg)).trans (h.2 j hj)⟩
 refine ⟨_,1,rfl,xag _,fun _=>⟨r,0,rfl,hr,fun j hj=>?_⟩⟩
 have hj0:j=0:=by simp at hj;omega
 subst hj0
 refine ⟨some ⟨g,0,none⟩,cap,?_,?_,fun h=>by cases h⟩
 ·rw [hb];rfl
 ·have h2:=(TB.oJ (w:=w') (base:=0) hc (by omega) ht).bytes
  exact h2
theorem zt {d:Drv} (h:bF d=0):[99,108,97,115,115].length+fl [(a8 d).data.toList]+[(a8 d).data.toList].length≤100000:=by
 have h1:=lN h
 have h2:fl [(a8 d).data.toList]=(a8 d).size:=by simp [fl]
 rw [h2]
 simp only [xaF,List.length_nil]
 omega
def hoE (d:Drv):Hsh:=if bF d=0 then bA d else aW
theorem sU (d:Drv):okH (hoE d):=by
 unfold hoE
 split
 ·exact gy d
 ·exact aX
theorem GQ (ls:List (List UInt8)) (v:Value) (w:World) (hp:vU w w.heap.size v ls) (hsm:[99,108,97,115,115].length+fl ls+ls.length≤100000) (c:Hsh) (hc:ofB [99,108,97,115,115] ls=c) :
  Calls Tryz.prog 58 #[.string ⟨#[99,108,97,115,115]⟩,v] w fun e w'=>e=.returned (.agg (bv c).toArray)∧Below w.heap.size w w' :=
 hc▸EF ⟨#[99,108,97,115,115]⟩ [99,108,97,115,115] rfl ls hsm v w w.heap.size (xag _) hp
theorem C5 (w:World) (d:Drv) (v1 v2:Value) (h:au w w.heap.size d v1 v2) (c:Hsh) (hc:hoE d=c) (e9:Int) (he:bF d=e9) :
  Calls Tryz.prog 13 #[.agg (dC d v1 v2).toArray] w fun e w'=>e=.returned (.tuple #[.agg (bv c).toArray,.int .i64 e9])∧Below w.heap.size w w':=by
 obtain ⟨ho1,ho2⟩:=h.dK
 have H0:=Mem.start w
 go_enter Tryz.func13,Tryz.ntmps13
 refine sk fun _ K1=>rl ?_
 refine bx 26 (dC d v1 v2) fun w2 hn_=>?_
 have H3:=Mem.aM H0 hn_
 refine rn ?_
 refine nz 34 zcH fun w4 hn_=>?_
 have H5:=Mem.aM H3 hn_
 refine rn ?_
 refine nt (K1 _ _ (sk fun _ K6=>rl ?_))
 refine rv (xld (Blk.range (Mem.blk H5 1 rfl)) Tryz.underlying26 (aS d v1 v2)) ?_
 refine ac (C9 w4 d _ _ (Mem.drv H5 h) e9 he) ?_
 rintro e w8 ⟨v7,rfl,hg9,hb10⟩
 refine ⟨_,rfl,rn ?_⟩
 have H9:=Mem.call H5 hb10
 refine rn ?_
 refine nt (K6 _ _ (sk fun _ K11=>sk fun _ K12=>rl ?_))
 by_cases p13:e9=0
 ·have he0:=p13
  obtain ⟨g9,cap9,rfl,hb9,hc9,hg9a,hg9b⟩:=hg9 he0
  have hcc:okH c:=hc▸sU d
  have hc2:ofB [99,108,97,115,115] [(a8 d).data.toList]=c:=by rw [← hc,hoE,if_pos (he.trans he0)];rfl
  refine rv (mK (decide_eq_true p13)) ?_
  refine nt (K12 _ _ (cf (ks (K11 _ _ (sk fun _ K14=>rl ?_)))))
  refine aO rfl 95 (.tmp 15) rfl 24 1 (.slice none 0 0) (.slice (some ⟨g9,0,none⟩) (a8 d).size cap9) rfl Tryz.underlying95 (by kernel_rfl) (by decide) (by decide) (fun w=>by kernel_rfl) rfl ?_
  intro w15 hn
  have hn9:=hn.below
  have H16:=Mem.aM H9 hn
  clear hn
  refine rn ?_
  have hp9:=C8 (Blk.cell (Mem.blk H16 0 rfl) 0) (Blk.lt (Mem.blk H16 0 rfl)) hc9 hg9b (Below.size hn9) hn9.block hb9
  refine ac (GQ [(a8 d).data.toList] _ w15 hp9 (zt (he.trans he0)) c hc2) ?_
  rintro e w17 ⟨rfl,hb19⟩
  refine ⟨_,rfl,rn ?_⟩
  have H18:=Mem.call H16 hb19
  refine stb (Mem.blk H18 1 rfl) (bB hcc) (bP cK (bB hcc)) (fa c) fun w20 hk_ hg_=>?_
  have H21:=Mem.st H18 1 rfl hk_ hg_
  refine rn ?_
  refine nt (K14 _ _ ?_)
  refine wp_ret ?_
  refine bodyPost_ret (bu (r1:=.cell 2 34) (r2:=.tmp 3) rfl ⟨⟨_,rfl,dP (Blk.range (Mem.blk H21 1 rfl)) Tryz.underlying34 rfl (bN hcc)⟩,rfl,trivial⟩) rfl ?_
  subst he0
  exact ⟨rfl,Mem.below H21⟩
 ·have hne9:=p13
  refine rv (mK (decide_eq_false p13)) ?_
  refine nt (K12 _ _ (ct (sk fun _ K22=>rl ?_)))
  refine rv (v:=.agg (bv aW).toArray) (by kernel_rfl) ?_
  refine stb (Mem.blk H9 0 rfl) (bB aX) (bP cK (bB aX)) (fa aW) fun w23 hk_ hg_=>?_
  have H24:=Mem.st H9 0 rfl hk_ hg_
  refine rn ?_
  refine nt (K22 _ _ ?_)
  refine wp_ret ?_
  simp only [Exit.then]
  refine bodyPost_ret (bu (r1:=.cell 2 34) (r2:=.tmp 3) rfl ⟨⟨_,rfl,dP (Blk.range (Mem.blk H24 0 rfl)) Tryz.underlying34 rfl (bN aX)⟩,rfl,trivial⟩) rfl ?_
  have hz:c=aW:=hc.symm.trans (by unfold hoE;rw [he];exact if_neg hne9)
  subst hz
  exact ⟨rfl,Mem.below H24⟩
end Go.Proofs.YtomnhnmciopiiaaGreat
end
section
namespace Go.Proofs.YtomnhnmciopiiaaGreat
open Go Go.RowKit Go.Maps
attribute [local irreducible] wpList
def E5 (g:Nat) (s:ByteArray):Ent:=⟨fun b=>b=g,fun w=>dD w g s⟩
theorem E6 (g:Nat) (s:ByteArray):(E5 g s).Ok:=fun w w' h hk=>by
 obtain ⟨⟨cs,fz,h1⟩,h2⟩:=h
 have hlt:g<w.heap.size:=by
  rcases Nat.lt_or_ge g w.heap.size with hlt | hge
  ·exact hlt
  ·rw [Array.getElem?_eq_none hge] at h1;cases h1
 have e:=hk g rfl hlt
 exact ⟨⟨cs,fz,e.trans h1⟩,fun j hj=>(xaV e).trans (h2 j hj)⟩
theorem vC (w:World) (d:Drv) (v1 v2:Value) (h:au w w.heap.size d v1 v2) (hp:bF d=0) :
  Calls Tryz.prog 57 #[.agg (dC d v1 v2).toArray] w fun e w'=>∃ g cap,e=.returned (.tuple #[.slice (some ⟨g,0,none⟩) (a8 d).size cap,.int .i64 0])∧(a8 d).size≤cap∧Mem w w' [E5 g (a8 d)]:=by
 refine (vA w d v1 v2 h).mono ?_
 rintro e w' ⟨v,rfl,hg,hb⟩
 obtain ⟨g,cap,rfl,h1,h2,h3,h4⟩:=hg hp
 refine ⟨g,cap,by rw [hp],h2,(Mem.start w).new hb (E6 _ _) h1 fun b hf=>?_⟩
 have e:b=g:=hf
 subst e
 exact ⟨h3,h4⟩
theorem uq {ρ:Operand→Value} {o:Oper} (src dst:TypeId) (x:Operand) (ho:o.op=.convert src dst x) (g cap:Nat) (s:ByteArray) (hx:ρ x=.slice (some ⟨g,0,none⟩) s.size cap) (hs:Tryz.prog.underlying src=some (.slice 5)) (hd:Tryz.prog.underlying dst=some .string) (w:World) (hb:dD w g s) :
  (execOp ρ o).run Tryz.prog w=.ok (.value (.string s)) w:=by
 have h:=run_convert_bytes_back (P:=Tryz.prog) w src dst 5 ⟨g,0,none⟩ cap s.data.toList hs Tryz.underlying5 hd fun j hj=>by
  rw [Addr.add_mid,Nat.zero_add,hb.2 j (by simpa using hj)]
  simp [List.getD,Array.getElem?_eq_getElem (show j<s.data.size by simpa using hj)]
 have e:s.data.toList.length=s.size:=by simp
 rw [e] at h
 unfold execOp
 simp only [ho,hx,xaI,h,xat,xaQ]
def tG:List Itm→Bool
 | []=>true
 | x :: l=>decide (bF x.2=0)&&(decide (hoE x.2=x.1)&&tG l)
theorem Dj:tG []=true:=rfl
theorem kQ (x:Itm) (l:List Itm):tG (x :: l)=(decide (bF x.2=0)&&(decide (hoE x.2=x.1)&&tG l)):=rfl
theorem qG {l:List Itm}:tG l=true↔∀ x∈l,bF x.2=0∧bA x.2=x.1:=by
 induction l with
 | nil=>simp [tG]
 | cons x l ih =>
  rw [kQ,xaw,xaw,ih]
  constructor
  ·rintro ⟨h1,h2,h3⟩ y hy
   have h1:=of_decide_eq_true h1
   have h2:=of_decide_eq_true h2
   rcases xaD.1 hy with rfl | hy
   ·refine ⟨h1,?_⟩
    unfold hoE at h2
    rwa [if_pos h1] at h2
   ·exact h3 y hy
  ·intro h
   obtain ⟨h1,h2⟩:=h x (by simp)
   exact ⟨decide_eq_true h1,decide_eq_true (by unfold hoE;rw [if_pos h1];exact h2),fun y hy=>h y (List.mem_cons_of_mem _ hy)⟩
theorem yQ (l:List Itm):dp bA l=(tG l&&Dr.bO (l.map itP)):=by
 unfold dp
 cases hr:Dr.bO (l.map itP)
 ·simp
 ·rw [xa8,xby]
  have hok:=((Dr.iA _).1 hr).ok
  have hp:∀ x∈l,bF x.2=0:=fun x hx=>by
   obtain ⟨n,hn⟩:=xaP hx
   have:=hok n (itP x) (by rw [xaL,hn];rfl)
   exact of_decide_eq_true this
  cases ht:tG l
  ·cases ha:(l.all fun x=>decide (bA x.2=x.1))
   ·rfl
   ·exfalso
    rw [qG.2 fun x hx=>⟨hp x hx,of_decide_eq_true (xaO.1 ha x hx)⟩] at ht
    cases ht
  ·exact xaO.2 fun x hx=>decide_eq_true (qG.1 ht x hx).2
theorem EK (w:World) (a:Drv) (v1a v2a:Value) (ha:au w w.heap.size a v1a v2a) (hpa:bF a=0) (b:Drv) (v1b v2b:Value) (hb0:au w w.heap.size b v1b v2b) (hpb:bF b=0) (b9:Bool) (hb9:decide (a8 a=a8 b)=b9) :
  Calls Tryz.prog 61 #[.agg (dC a v1a v2a).toArray,.agg (dC b v1b v2b).toArray] w fun e w'=>e=.returned (.bool b9)∧Below w.heap.size w w':=by
 have hb:=hb0
 have H0:=Mem.start w
 go_enter Tryz.func61,Tryz.ntmps61
 refine sk fun _ K1=>rl ?_
 refine bx 26 (dC a v1a v2a) fun w2 hn_=>?_
 have H3:=Mem.aM H0 hn_
 refine rn ?_
 refine bx 26 (dC b v1b v2b) fun w4 hn_=>?_
 have H5:=Mem.aM H3 hn_
 refine rn ?_
 refine nt (K1 _ _ (sk fun _ K6=>rl ?_))
 refine rv (xld (Blk.range (Mem.blk H5 1 rfl)) Tryz.underlying26 (aS a v1a v2a)) ?_
 refine ac (vC w4 a _ _ (Mem.drv H5 ha) hpa) ?_
 rintro e w12 ⟨g7,c8,rfl,hc9,hm10⟩
 refine ⟨_,rfl,rn ?_⟩
 have H13:=Mem.seq H5 hm10
 refine rn ?_
 refine nt (K6 _ _ (sk fun _ K15=>rl ?_))
 refine rv (xld (Blk.range (Mem.blk H13 1 rfl)) Tryz.underlying26 (aS b v1b v2b)) ?_
 refine ac (vC w12 b _ _ (Mem.drv H13 hb) hpb) ?_
 rintro e w21 ⟨g16,c17,rfl,hc18,hm19⟩
 refine ⟨_,rfl,rn ?_⟩
 have H22:=Mem.seq H13 hm19
 refine rn ?_
 refine nt (K15 _ _ (sk fun _ K24=>rl ?_))
 refine rv (uq 24 9 (.tmp 19) rfl g7 c8 (a8 a) rfl Tryz.underlying24 Tryz.underlying9 w21 (Mem.get (e:=E5 g7 (a8 a)) H22 1 rfl)) ?_
 refine rv (uq 24 9 (.tmp 21) rfl g16 c17 (a8 b) rfl Tryz.underlying24 Tryz.underlying9 w21 (Mem.get (e:=E5 g16 (a8 b)) H22 0 rfl)) ?_
 refine rv (Hl rfl) ?_
 refine nt (K24 _ _ (rt ?_))
 exact ⟨congrArg (fun z=>Ending.returned (Value.bool z)) hb9,Mem.below H22⟩
theorem lH (w:World) (l:List Itm) (v:Value) (h:eg.At w w.heap.size [v] l) (hl:∀ x∈l,x.2.2.1.length≤1000000) (hlen:l.length≤1000000) (b9:Bool) (hb:dp bA l=b9) :
  Calls Tryz.prog 20 #[v] w fun e w'=>e=.returned (.bool b9)∧Below w.heap.size w w':=by
 rw [yQ] at hb
 obtain ⟨A0,cap,rfl,_,hcm,_,hA⟩:=aj h
 simp only [maxLen] at hcm
 have H0:=Mem.start w
 go_enter Tryz.func20,Tryz.ntmps20
 refine sk fun _ K1=>rl ?_
 refine nt (K1 _ _ (sk fun _ K2=>sk fun _ K3=>rl ?_))
 refine nt (K3 _ _ (wp_block ?_))
 go_loopw [3] (fun x3 wr=>∃ j:Nat,x3=.int .i64 (j:Int)∧(j≤l.length)∧((tG (l.drop j)&&Dr.bO (l.map itP))=b9)∧Mem w wr []) (fun x3 _=>l.length-(intOf x3).toNat)
 case atStart=>exact ⟨0,rfl,by omega,hb,H0⟩
 case round =>
  obtain ⟨wo4,rfl⟩:∃ wo4,wo4=wr:=⟨_,rfl⟩
  obtain ⟨j,rfl,hj,HEQ,H5⟩:=hrel
  refine sk fun _ K7=>sk fun _ K8=>rl ?_
  by_cases p9:(j:Int)<((l.length:Nat):Int)
  ·refine rv (aK (decide_eq_true p9)) ?_
   refine nt (K8 _ _ (ct (ks (K7 _ _ (sk fun _ K10=>wp_block (sk fun _ K11=>rl ?_))))))
   obtain ⟨b12,o13,rfl,hlt15,hE14⟩:=hA (by omega)
   obtain ⟨x16,hx17⟩:=gx (l:=l) (j:=j)
   have hd18:=aD hx17
   obtain ⟨cs,hr19,ha20⟩:=hE14 (j) x16 hx17
   obtain ⟨v21,v22,rfl,xo23,xd24⟩:=eN.1 ha20
   obtain ⟨A25,c26,rfl,hlc26,hmc26,_,hA27⟩:=aj xd24.ins
   obtain ⟨A28,c29,rfl,hlc29,hmc29,_,hA30⟩:=aj xd24.rcp
   simp only [maxLen] at hmc26 hmc29
   refine rv (fw (j) Tryz.underlying40 dM) ?_
   refine rp b12 (o13+j*23+20) ?_
   refine rv (xld (de xo23 (Mem.range H5 hr19 hlt15)) Tryz.underlying26 (aS x16.2 (.slice A25 x16.2.2.1.length c26) (.slice A28 x16.2.2.2.length c29))) ?_
   obtain ⟨e32,he32⟩:∃ e,bF x16.2=e:=⟨_,rfl⟩
   obtain ⟨c31,hc31⟩:∃ c,hoE x16.2=c:=⟨_,rfl⟩
   have oc31:okH c31:=hc31▸sU _
   refine ac (C5 wo4 x16.2 _ _ (Mem.drv H5 xd24) c31 hc31 e32 he32) ?_
   rintro e w33 ⟨rfl,hb35⟩
   refine ⟨_,rfl,rn ?_⟩
   have H34:=Mem.call H5 hb35
   refine rn ?_
   refine nz 34 zcH fun w36 hn_=>?_
   have H37:=Mem.aM H34 hn_
   refine rn ?_
   refine stb (Mem.blk H37 0 rfl) (bB oc31) (bP cK (bB oc31)) (fa c31) fun w38 hk_ hg_=>?_
   have H39:=Mem.st H37 0 rfl hk_ hg_
   refine rn ?_
   refine nt (K11 _ _ (sk fun _ K40=>?_))
   refine Fre.cC (X:=Bel) [] (by kernel_rfl) (by kernel_rfl) (by simp) (by simp) (by simp) ?_
   refine Fre.rmd ?_
   by_cases p41:e32=0
   ·refine Fre.mvv (fun _ _=>mK (decide_eq_true p41)) ?_
    refine Fre.mvv (fun W9 hW9=>xld (Blk.range (Mem.blk (Mem.call H39 hW9) 0 rfl)) Tryz.underlying34 (bN oc31)) ?_
    refine Fre.mvv (fun _ _=>fw (j) Tryz.underlying40 dM) ?_
    refine Fre.mvv (v:=.pointer (some ⟨b12,o13+j*23,none⟩)) (fun _ _=>by kernel_rfl) ?_
    refine Fre.mvv (fun W9 hW9=>xld (cz (Mem.range (Mem.call H39 hW9) hr19 hlt15)) Tryz.underlying34 (bN xo23)) ?_
    by_cases p42:c31=x16.1
    ·refine Fre.mvv (fun W9 _=>dA 34 34 (.tmp 24) (.tmp 29) rfl (bv c31).toArray (bv x16.1).toArray rfl rfl (by kernel_rfl) _ W9 (by have h9:=dc (c31) (x16.1) oc31 xo23 W9;rwa [show decide _=true from (decide_eq_true p42)] at h9)) ?_
     intro w43 hx45
     dsimp only [Fre.ended,xaE]
     have H44:=Mem.call H39 hx45
     refine ah (K40 _ _ (cf ?_))
     refine wp_skip ?_
     refine ar (ah (K10 _ _ (rl ?_)))
     refine rv (bp (((j+1:Nat):Int))) ?_
     refine wpList_nil ?_
     have H46:=Mem.pick H44 [] (by decide) rfl
     refine ah ?_
     show _∧_
     go_roundw
     case rel=>exact ⟨(j+1),rfl,by omega,(by have h:=HEQ;simp only [kQ,xa8,decide_true,hd18,he32,hc31,p41,p42] at h;exact h),H46⟩
     case measure=>simp [intOf];omega
    ·refine Fre.mvv (fun W9 _=>dA 34 34 (.tmp 24) (.tmp 29) rfl (bv c31).toArray (bv x16.1).toArray rfl rfl (by kernel_rfl) _ W9 (by have h9:=dc (c31) (x16.1) oc31 xo23 W9;rwa [show decide _=false from (decide_eq_false p42)] at h9)) ?_
     intro w47 hx49
     dsimp only [Fre.ended,xaE]
     have H48:=Mem.call H39 hx49
     refine ah (K40 _ _ (ct (sk fun _ K50=>rl ?_)))
     refine nt (K50 _ _ (rt ?_))
     refine ⟨?_,Mem.below H48⟩
     have h:=HEQ
     simp only [kQ,xa8,xbc,decide_true,decide_false,hd18,he32,hc31,p41,p42] at h
     subst h
     rfl
   ·refine Fre.mvv (fun _ _=>mK (decide_eq_false p41)) ?_
    intro w51 hx53
    dsimp only [Fre.ended,xaE]
    have H52:=Mem.call H39 hx53
    refine ah (K40 _ _ (ct (sk fun _ K54=>rl ?_)))
    refine nt (K54 _ _ (rt ?_))
    refine ⟨?_,Mem.below H52⟩
    have h:=HEQ
    simp only [kQ,xbc,decide_false,hd18,he32,hc31,p41] at h
    subst h
    rfl
  ·have he55:=bE (l:=l) (j:=j) (by omega)
   refine rv (aK (decide_eq_false p9)) ?_
   refine nt (K8 _ _ (cf (wp_exit (an (an (aB (ah (K2 _ _ (sk fun _ K56=>rl ?_)))))))))
   obtain ⟨b57,hb57⟩:∃ b,Dr.bO (l.map itP)=b:=⟨_,rfl⟩
   refine ac (qz wo4 l _ (Mem.lay H5 h) hl hlen b57 hb57) ?_
   rintro e w58 ⟨rfl,hb60⟩
   refine ⟨_,rfl,rn ?_⟩
   have H59:=Mem.call H5 hb60
   refine rn ?_
   refine nt (K56 _ _ (rt ?_))
   refine ⟨?_,Mem.below H59⟩
   have h:=HEQ
   simp only [Dj,xa8,hb57,he55] at h
   subst h
   rfl
end Go.Proofs.YtomnhnmciopiiaaGreat
end
section
namespace Go.Proofs.YtomnhnmciopiiaaGreat
open Go Go.RowKit Go.Maps
theorem xN {w:World} {B n c:Nat} {A:Option Addr} {l:List Itm} (h:eg.At w B [.slice A n c] l):n=l.length∧∃ ls:List bI,ls.map (·.1)=l∧(∀ p∈ls,okH p.1.1∧au w B p.1.2 p.2.1 p.2.2)∧eZ w 23 A ls.length c (ls.flatMap tV):=by
 obtain ⟨A',c',e,h1,h2,h3,h4⟩:=h
 simp only [List.cons.injEq,Value.slice.injEq,and_true] at e
 obtain ⟨rfl,rfl,rfl⟩:=e
 refine ⟨rfl,?_⟩
 have hex:∀ (k:Nat),k≤l.length→∃ ls:List bI,ls.map (·.1)=l.take k∧∀ (j:Nat) (p:bI),ls[j]?=some p→okH p.1.1∧au w B p.1.2 p.2.1 p.2.2∧∀ ad,A=some ad→∀ i u,(tV p)[i]?=some u→w.cell? (ad.add (j*23+i))=some u:=by
  intro k
  induction k with
  | zero=>intro _;exact ⟨[],by simp,fun j p hp=>by simp at hp⟩
  | succ k ih =>
   intro hk
   obtain ⟨ls,e1,e2⟩:=ih (by omega)
   obtain ⟨b,off,e3,hb,hE⟩:=h4 (by omega)
   obtain ⟨cs,hr,hat⟩:=hE k l[k] (xai (by omega))
   obtain ⟨v1,v2,rfl,ho,hd⟩:=eN.1 hat
   have hl:ls.length=k:=by
    have:=congrArg List.length e1
    rw [xap,xaN] at this
    omega
   refine ⟨ls++[(l[k],v1,v2)],?_,fun j p hp=>?_⟩
   ·rw [List.map_append,e1,xaB,xai (by omega)]
    rfl
   ·rw [List.getElem?_append] at hp
    split at hp
    ·exact e2 j p hp
    ·have hj:j=k:=by
      have:=(xah.1 hp).1
      simp at this
      omega
     subst hj
     rw [hl,Nat.sub_self] at hp
     simp only [xa3,Option.some.injEq] at hp
     subst hp
     refine ⟨ho,hd,fun ad had i u hu=>?_⟩
     rw [e3] at had
     injection had with had
     subst had
     have:=hr i u hu
     rw [Addr.add_mid]
     rwa [Nat.add_assoc] at this
 obtain ⟨ls,e1,e2⟩:=hex l.length (xag _)
 rw [xaG] at e1
 have hlen:∀ p∈ls,(tV p).length=23:=fun p hp=>by
  obtain ⟨j,hj⟩:=xaP hp
  exact cl (e2 j p hj).1
 refine ⟨ls,e1,fun p hp=>?_,?_⟩
 ·obtain ⟨j,hj⟩:=xaP hp
  exact ⟨(e2 j p hj).1,(e2 j p hj).2.1⟩
 ·have hll:ls.length=l.length:=by rw [← e1,xap]
  refine ⟨gV ls hlen,fun hA=>⟨by rw [hll];have:=h3 hA;omega,h3 hA⟩,fun u hu=>?_,fun ad had j u hu=>?_⟩
  ·obtain ⟨p,hp,hup⟩:=List.mem_flatMap.1 hu
   obtain ⟨j,hj⟩:=xaP hp
   obtain ⟨o1,o2⟩:=(e2 j p hj).2.1.dK
   exact gQ _ o1 o2 u hup
  ·obtain ⟨p,h6,h7⟩:=kC (by decide) ls hlen j u hu
   have:=(e2 _ p h6).2.2 ad had _ u h7
   rwa [show j / 23*23+j % 23=j by rw [Nat.mul_comm];exact Nat.div_add_mod j 23] at this
theorem vP {P:Program} {ops:Array Oper} {rest:List Oper} {o:Oper} {a:Act} {w:World} {Q:Exit→Act→World→Prop} (hg:o.guard=none) (e:TypeId) (hr:(execOp a.eval o).run P w=.ok (.value (.slice (some ⟨w.heap.size,0,none⟩) 0 0)) (w.alloc (.cells #[] e)))
  (h:∀ w',fy w w' e #[]→wpList P ops Q rest (a.put o.dst (.slice (some ⟨w.heap.size,0,none⟩) 0 0)) w'):wpList P ops Q (o :: rest) a w :=
 aa hg _ _ hr (h _ (bS w e #[]))
theorem kN:(Tryz.prog.info? 98).map (fun i=>(i.zero,i.size,i.bytes))=some (some (.agg zcT),23,88):=by kernel_rfl
theorem yL (x:Itm) {v1 v2:Value} (h1:v1.oneCell'=true) (h2:v2.oneCell'=true):∀ u∈tC x v1 v2,u.oneCell'=true:=fun u hu=>by
 have h:=gQ x h1 h2
 exact h u hu
theorem mF {w:World} {ls:List bI} {p:bI} (h:∀ q∈ls,okH q.1.1∧au w w.heap.size q.1.2 q.2.1 q.2.2) (hp:okH p.1.1∧au w w.heap.size p.1.2 p.2.1 p.2.2):∀ q∈ls++[p],okH q.1.1∧au w w.heap.size q.1.2 q.2.1 q.2.2:=fun q hq=>by
 rcases xax.1 hq with hq | hq
 ·exact h q hq
 ·rw [xan.1 hq];exact hp
theorem Dk {l:List Itm} {c:Hsh} {d:Drv} (ht:dp bA l=true) (hf:(aY l c).isSome=true) (hd:findD l c=d):bF d=0:=by
 rw [yQ,xaw] at ht
 obtain ⟨x,hx⟩:=Option.isSome_iff_exists.1 hf
 have e:=mf hx
 rw [← hd,e]
 exact (qG.1 ht.1 x (List.mem_of_find?_eq_some hx)).1
section
variable {hof:Drv→Hsh} {l:List Itm} {d:Drv}
theorem Bh (h:dp hof l=false):dq hof l d=([],aW,2):=by unfold dq;rw [h];rfl
theorem Be (h:dp hof l=true) (hp:¬ bF d=0):dq hof l d=([],aW,bF d):=by unfold dq;rw [if_pos h,if_neg hp]
theorem yV (h:dp hof l=true) (hp:bF d=0) (ha:((aA d.2.1).all fun c=>(aY l c).isSome)=false):dq hof l d=([],aW,5):=by unfold dq;rw [if_pos h,if_pos hp,ha];rfl
theorem Bg (h:dp hof l=true) (hp:bF d=0) (ha:((aA d.2.1).all fun c=>(aY l c).isSome)=true) (hf:(aY l (hof d)).isSome=false):dq hof l d=(l++[(hof d,d)],hof d,0):=by
 unfold dq
 rw [if_pos h,if_pos hp,if_pos ha]
 cases e:aY l (hof d) with
 | none=>rfl
 | some x=>rw [e] at hf;cases hf
theorem tS (h:dp hof l=true) (hp:bF d=0) (ha:((aA d.2.1).all fun c=>(aY l c).isSome)=true) (hf:(aY l (hof d)).isSome=true) {d9:Drv} (hd:findD l (hof d)=d9) (b:Bool) (hb:decide (a8 d9=a8 d)=b):dq hof l d=if b=true then (l,hof d,0) else ([],aW,14):=by
 unfold dq
 rw [if_pos h,if_pos hp,if_pos ha]
 obtain ⟨x,hx⟩:=Option.isSome_iff_exists.1 hf
 have e:=mf hx
 rw [hd] at e
 rw [hx]
 show (if a8 x.2=a8 d then _ else _)=_
 rw [← e]
 cases b
 ·rw [if_neg (of_decide_eq_false hb)];rfl
 ·rw [if_pos (of_decide_eq_true hb)];rfl
end
theorem D4 {d:Drv} (hp:bF d=0):hoE d=bA d:=by
 unfold hoE
 exact if_pos hp
theorem D5 {d:Drv} {c:Hsh} (h:hoE d=c) (hp:bF d=0):bA d=c:=(D4 hp).symm.trans h
theorem rz {l:List Itm} {cs:List Hsh} {k:Nat} {z:Hsh} (h:cs[k]?=some z) (b:Bool) (hb:(aY l z).isSome=b):((cs.drop k).all fun c=>(aY l c).isSome)=(b&&((cs.drop (k+1)).all fun c=>(aY l c).isSome)):=by
 rw [aD h,List.all_cons,hb]
end Go.Proofs.YtomnhnmciopiiaaGreat
end
section
namespace Go.Proofs.YtomnhnmciopiiaaGreat
open Go Go.RowKit Go.Maps
attribute [local irreducible] wpList
theorem mS {ρ:Operand→Value} {o:Oper} (x y:Operand) (ho:o.op=.build 98 #[(0,x),(1,y)]) {c:Hsh} {d:Drv} {v1 v2:Value} (hc:okH c) (hx:ρ x=.agg (bv c).toArray) (hy:ρ y=.agg (dC d v1 v2).toArray) (W:World) :
  (execOp ρ o).run Tryz.prog W=.ok (.value (.agg (tC (c,d) v1 v2).toArray)) W:=by
 have h:=gC (P:=Tryz.prog) (ρ:=ρ) (o:=o) 98 x y ho (n1:=20) (n2:=3) (z:=.agg zcT) hx hy Tryz.underlying98 (fun w=>by kernel_rfl) (by kernel_rfl) (fun w=>by kernel_rfl) (by rw [xaU,xal,bvL];exact hc) rfl W
 rw [h]
 simp [xaU,tC]
end Go.Proofs.YtomnhnmciopiiaaGreat
end
section
namespace Go.Proofs.YtomnhnmciopiiaaGreat
open Go Go.RowKit Go.Maps
attribute [local irreducible] wpList
theorem yY (l:List Itm) (k:Hsh) (ks:List Hsh) (c:Hsh):fQ l (k :: ks) c=(decide (c∈aP l k)||fQ l ks c):=rfl
def inD (c:Hsh):List Hsh→Bool
 | []=>false
 | y :: l=>decide (y=c)||inD c l
theorem Eb (c:Hsh):inD c []=false:=rfl
theorem pN (c y:Hsh) (l:List Hsh):inD c (y :: l)=(decide (y=c)||inD c l):=rfl
theorem yy (c:Hsh):∀ l:List Hsh,decide (c∈l)=inD c l
 | []=>by simp [inD]
 | y :: l=>by
  rw [pN,← yy c l]
  by_cases h:y=c
  ·subst h;simp
  ·have h2:¬ c=y:=fun e=>h e.symm
   simp [h,h2]
theorem u4 {l:List Itm} {c:Hsh} (h:0<(aP l c).length):eF l c=0:=by
 unfold aP at h
 unfold eF
 split at h
 ·rename_i h1
  rw [if_pos h1]
  split at h
  ·rename_i h2;rw [if_pos h2]
  ·simp at h
 ·simp at h
def ml (l:List Itm) (aL:List Hsh) (j:Nat):List Itm:=(l.take j).filter fun x=>fQ l aL x.1
theorem pP {l:List Itm} {aL:List Hsh} {j:Nat} {x:Itm} (h:l[j]?=some x) (b:Bool) (hb:fQ l aL x.1=b):ml l aL (j+1)=if b=true then ml l aL j++[x] else ml l aL j:=by
 unfold ml
 rw [xaB,h,List.filter_append]
 cases b
 ·simp [hb]
 ·simp [hb]
theorem zG (l:List Itm) (aL:List Hsh) (j:Nat):(ml l aL j).length≤j:=by
 have h1:=List.length_filter_le (fun x=>fQ l aL x.1) (l.take j)
 rw [xaN] at h1
 unfold ml
 omega
theorem zF (l:List Itm) (aL:List Hsh):ml l aL l.length=fc l aL:=by
 unfold ml
 rw [xaG]
 rfl
theorem xv (l:List Itm) (c:Hsh):(aP l c).length≤l.length:=qd c
theorem z6 {l:List Itm} {c:Hsh} (hl:∀ x∈l,okH x.1):∀ z∈aP l c,okH z:=na hl c
theorem C4 (w:World) (l:List Itm) (v:Value) (h:eg.At w w.heap.size [v] l) (hl:∀ x∈l,x.2.2.1.length≤1000000) (hlen:l.length≤1000000) (c:Hsh) (hc:okH c) (e9:Int) (he:eF l c=e9) :
  Calls Tryz.prog 34 #[v,.agg (bv c).toArray] w fun e w'=>∃ A cap,e=.returned (.tuple #[.slice A (aP l c).length cap,.int .i64 e9])∧Mem w w' [ax w.heap.size 34 20 (.slice A (aP l c).length cap) (aP l c).length ((aP l c).flatMap bv)]:=he▸xO w l v h hl hlen c hc
theorem As (w:World) (l:List Itm) (v:Value) (h:eg.At w w.heap.size [v] l) (hl:∀ x∈l,x.2.2.1.length≤1000000∧x.2.2.2.length≤1000000) (hlen:l.length≤1000000) (aL:List Hsh) (vk:Value) (hk0:cT.At w w.heap.size [vk] aL) (dropL:List Itm) (hdL:(if dp bA l=true then fc l aL else [])=dropL) (dropE:Int) (hdE:(if dp bA l=true then (0:Int) else 2)=dropE) :
  Calls Tryz.prog 18 #[v,vk] w fun e w'=>∃ A cap,∃ ls:List bI,e=.returned (.tuple #[.slice A ls.length cap,.int .i64 dropE])∧ls.map (·.1)=dropL∧(∀ p∈ls,okH p.1.1∧au w w.heap.size p.1.2 p.2.1 p.2.2)∧Mem w w' [ax w.heap.size 98 23 (.slice A ls.length cap) ls.length (ls.flatMap tV)]:=by
 obtain ⟨A0,cap,rfl,_,hcm,_,hA⟩:=aj h
 obtain ⟨Ak,ck,rfl,_,hckm,_,hAk⟩:=aj hk0
 obtain ⟨_,ls0,hls0,hlo0,hsrc0⟩:=xN h
 have hokl:∀ x∈l,okH x.1:=fun x hx=>by
  rw [← hls0] at hx
  obtain ⟨p,hp,rfl⟩:=xaA.1 hx
  exact (hlo0 p hp).1
 clear hls0 hlo0 hsrc0
 simp only [maxLen] at hcm hckm
 have H0:=Mem.start w
 go_enter Tryz.func18,Tryz.ntmps18
 refine sk fun _ K1=>rl ?_
 refine nt (K1 _ _ (sk fun _ K2=>sk fun _ K3=>rl ?_))
 obtain ⟨bt,hbt⟩:∃ b,dp bA l=b:=⟨_,rfl⟩
 refine ac (lH w l _ (Mem.lay H0 h) (fun x hx=>(hl x hx).1) hlen bt hbt) ?_
 rintro e w4 ⟨rfl,hb6⟩
 refine ⟨_,rfl,rn ?_⟩
 have H5:=Mem.call H0 hb6
 cases bt
 ·refine rn ?_
  refine nt (K3 _ _ (ct (sk fun _ K7=>rl ?_)))
  refine nt (K7 _ _ ?_)
  refine wp_ret ?_
  simp only [Exit.then]
  refine bodyPost_ret (bu (r1:=.tmp 4) (r2:=.tmp 5) rfl ⟨rfl,rfl,trivial⟩) rfl ?_
  have hz1:dropE=2:=hdE.symm.trans (by rw [hbt];rfl)
  have hz2:dropL=[]:=hdL.symm.trans (by rw [hbt];rfl)
  subst hz1 hz2
  exact ⟨_,_,[],rfl,rfl,(fun _ h=>by cases h),Mem.pick (Mem.dE H5 _ _ _) [0] (by decide) rfl⟩
 ·refine rn ?_
  refine nt (K3 _ _ (cf (ks (K2 _ _ (sk fun _ K8=>rl ?_)))))
  refine nt (K8 _ _ (sk fun _ K9=>sk fun _ K10=>rl ?_))
  refine nt (K10 _ _ (wp_block ?_))
  have H11:=Mem.dE H5 w.heap.size 98 23
  go_loopw [6,7] (fun x6 x7 wr=>∃ j:Nat,∃ ls:List bI,∃ A:Option Addr,∃ c9:Nat,x6=.slice A ls.length c9∧x7=.int .i64 (j:Int)∧(j≤l.length)∧(ls.map (·.1)=ml l aL j)∧(∀ p∈ls,okH p.1.1∧au w w.heap.size p.1.2 p.2.1 p.2.2)∧Mem w wr [ax (w.heap.size) 98 23 (.slice A ls.length c9) (ls).length ((ls).flatMap tV)]) (fun x6 x7 _=>l.length-(intOf x7).toNat)
  case atStart=>exact ⟨0,([]),none,0,rfl,rfl,by omega,(by rfl),(fun _ h=>by cases h),H11⟩
  case round =>
   obtain ⟨wo12,rfl⟩:∃ wo12,wo12=wr:=⟨_,rfl⟩
   obtain ⟨j,ls,A,c9,rfl,rfl,hj,hls,hlo,H13⟩:=hrel
   have hkl:=zG l aL j
   rw [← hls,xap] at hkl
   refine sk fun _ K15=>sk fun _ K16=>rl ?_
   by_cases p17:(j:Int)<((l.length:Nat):Int)
   ·refine rv (aK (decide_eq_true p17)) ?_
    refine nt (K16 _ _ (ct (ks (K15 _ _ (sk fun _ K18=>wp_block (sk fun _ K19=>rl ?_))))))
    refine nt (K19 _ _ (sk fun _ K20=>sk fun _ K21=>rl ?_))
    refine nt (K21 _ _ (wp_block ?_))
    obtain ⟨b22,o23,rfl,hlt25,hE24⟩:=hA (by omega)
    obtain ⟨x26,hx27⟩:=gx (l:=l) (j:=j)
    have hd28:=aD hx27
    obtain ⟨cs,hr29,ha30⟩:=hE24 (j) x26 hx27
    obtain ⟨v31,v32,rfl,xo33,xd34⟩:=eN.1 ha30
    obtain ⟨A35,c36,rfl,hlc36,hmc36,_,hA37⟩:=aj xd34.ins
    obtain ⟨A38,c39,rfl,hlc39,hmc39,_,hA40⟩:=aj xd34.rcp
    simp only [maxLen] at hmc36 hmc39
    obtain ⟨t9,ht9⟩:∃ t,fQ l aL x26.1=t:=⟨_,rfl⟩
    go_loopw [8,9] (fun x8 x9 wr=>∃ k:Nat,∃ b:Bool,x8=.bool b∧x9=.int .i64 (k:Int)∧(k≤aL.length)∧((b||fQ l (aL.drop k) x26.1)=t9)∧Mem w wr [ax (w.heap.size) 98 23 (.slice A ls.length c9) (ls).length ((ls).flatMap tV)]) (fun x8 x9 _=>aL.length-(intOf x9).toNat)
    case atStart=>exact ⟨0,false,rfl,rfl,by omega,ht9,H13⟩
    case round =>
     obtain ⟨wo41,rfl⟩:∃ wo41,wo41=wr:=⟨_,rfl⟩
     obtain ⟨k,b,rfl,rfl,hk,HEQ,H42⟩:=hrel
     refine sk fun _ K44=>sk fun _ K45=>rl ?_
     by_cases p46:(k:Int)<((aL.length:Nat):Int)
     ·refine rv (aK (decide_eq_true p46)) ?_
      refine nt (K45 _ _ (ct (ks (K44 _ _ (sk fun _ K47=>wp_block (sk fun _ K48=>rl ?_))))))
      obtain ⟨b49,o50,rfl,hlt52,hE51⟩:=hAk (by omega)
      obtain ⟨x53,hx54⟩:=gx (l:=aL) (j:=k)
      have hd55:=aD hx54
      obtain ⟨cs,hr56,ha57⟩:=hE51 (k) x53 hx54
      obtain ⟨rfl,ok58⟩:=ep.1 ha57
      refine rv (fw (k) Tryz.underlying27 cr) ?_
      refine rv (xld (Mem.range H42 hr56 hlt52) Tryz.underlying34 (bN ok58)) ?_
      obtain ⟨e9,he9⟩:∃ e,eF l x53=e:=⟨_,rfl⟩
      have hnl9:=xv l x53
      have hnok:=z6 (fun x hx=>(hokl x hx)) (c:=x53)
      refine ac (C4 wo41 l _ (Mem.lay H42 h) (fun x hx=>(hl x hx).1) hlen x53 ok58 e9 he9) ?_
      rintro e w63 ⟨A59,c60,rfl,hm61⟩
      refine ⟨_,rfl,rn ?_⟩
      have H64:=Mem.seq H42 hm61
      refine rn ?_
      refine nt (K48 _ _ (sk fun _ K66=>rl ?_))
      refine nt (K66 _ _ (wp_block ?_))
      go_loopw [8,12] (fun x8 x12 wr=>∃ m:Nat,∃ b2:Bool,x8=.bool b2∧x12=.int .i64 (m:Int)∧(m≤(aP l x53).length)∧(((b2||inD x26.1 ((aP l x53).drop m))||fQ l (aL.drop (k+1)) x26.1)=t9)∧Mem w wr [ax (wo41.heap.size) 34 20 (.slice A59 (aP l x53).length c60) ((aP l x53)).length (((aP l x53)).flatMap bv),ax (w.heap.size) 98 23 (.slice A ls.length c9) (ls).length ((ls).flatMap tV)]) (fun x8 x12 _=>(aP l x53).length-(intOf x12).toNat)
      case atStart=>exact ⟨0,b,rfl,rfl,by omega,(by have h:=HEQ;rw [aD hx54,yY,yy,← Bool.or_assoc] at h;exact h),H64⟩
      case round =>
       obtain ⟨wo67,rfl⟩:∃ wo67,wo67=wr:=⟨_,rfl⟩
       obtain ⟨m,b2,rfl,rfl,hm,HEQm,H68⟩:=hrel
       refine sk fun _ K70=>sk fun _ K71=>rl ?_
       by_cases p72:(m:Int)<(((aP l x53).length:Nat):Int)
       ·refine rv (aK (decide_eq_true p72)) ?_
        by_cases p73:e9=0
        ·refine rv (vR (decide_eq_true p73)) ?_
         refine nt (K71 _ _ (ct (ks (K70 _ _ (sk fun _ K74=>wp_block ?_)))))
         refine Fre.cC (X:=Bel) [] (by kernel_rfl) (by kernel_rfl) (by simp) (by simp) (by simp) ?_
         refine Fre.rmd ?_
         cases b2
         ·refine Fre.rmd ?_
          obtain ⟨b75,rfl,hlt78⟩:=aR (Mem.own H68 0 rfl) (by omega)
          obtain ⟨x79,hx80⟩:=gx (l:=(aP l x53)) (j:=m)
          have hd81:=aD hx80
          have ok82:=hnok _ (xaj hx80)
          refine Fre.mvv (fun _ _=>bT (m) Tryz.underlying27 cr) ?_
          refine Fre.mvv (fun W9 hW9=>xld (dQ (f:=bv) (by decide) (Mem.own (Mem.call H68 hW9) 0 rfl) (fun z hz=>by rw [bvL];exact hnok z hz) hx80) Tryz.underlying34 (bN ok82)) ?_
          refine Fre.mvv (fun _ _=>fw (j) Tryz.underlying40 dM) ?_
          refine Fre.mvv (v:=.pointer (some ⟨b22,o23+j*23,none⟩)) (fun _ _=>by kernel_rfl) ?_
          refine Fre.mvv (fun W9 hW9=>xld (cz (Mem.range (Mem.call H68 hW9) hr29 hlt25)) Tryz.underlying34 (bN xo33)) ?_
          by_cases p83:x79=x26.1
          ·refine Fre.mvv (fun W9 _=>dG 34 34 (.tmp 52) (.tmp 57) rfl (bv x79).toArray (bv x26.1).toArray rfl rfl (by kernel_rfl) _ W9 (by have h9:=dc (x79) (x26.1) ok82 xo33 W9;rwa [show decide _=true from (decide_eq_true p83)] at h9)) ?_
           intro w84 hx86
           dsimp only [Fre.ended,xaE]
           have H85:=Mem.call H68 hx86
           refine ar (ah (K74 _ _ (rl ?_)))
           refine rv (bp (((m+1:Nat):Int))) ?_
           refine wpList_nil ?_
           refine ah ?_
           show _∧_
           go_roundw
           case rel=>exact ⟨(m+1),true,rfl,rfl,by omega,(by have h:=HEQm;simp only [pN,Bool.true_or,Bool.or_true,decide_true,hd81,p83] at h ⊢;exact h),H85⟩
           case measure=>simp [intOf];omega
          ·refine Fre.mvv (fun W9 _=>dG 34 34 (.tmp 52) (.tmp 57) rfl (bv x79).toArray (bv x26.1).toArray rfl rfl (by kernel_rfl) _ W9 (by have h9:=dc (x79) (x26.1) ok82 xo33 W9;rwa [show decide _=false from (decide_eq_false p83)] at h9)) ?_
           intro w87 hx89
           dsimp only [Fre.ended,xaE]
           have H88:=Mem.call H68 hx89
           refine ar (ah (K74 _ _ (rl ?_)))
           refine rv (bp (((m+1:Nat):Int))) ?_
           refine wpList_nil ?_
           refine ah ?_
           show _∧_
           go_roundw
           case rel=>exact ⟨(m+1),false,rfl,rfl,by omega,(by have h:=HEQm;simp only [pN,Bool.false_or,decide_false,hd81,p83] at h ⊢;exact h),H88⟩
           case measure=>simp [intOf];omega
         ·refine Fre.rmd ?_
          intro w90 hx92
          dsimp only [Fre.ended,xaE]
          have H91:=Mem.call H68 hx92
          refine ar (ah (K74 _ _ (rl ?_)))
          refine rv (bp (((m+1:Nat):Int))) ?_
          refine wpList_nil ?_
          refine ah ?_
          show _∧_
          go_roundw
          case rel=>exact ⟨(m+1),true,rfl,rfl,by omega,(by have h:=HEQm;simp only [Bool.true_or] at h ⊢;exact h),H91⟩
          case measure=>simp [intOf];omega
        ·exact absurd (he9.symm.trans (u4 (by omega))) p73
       ·have he93:=bE (l:=(aP l x53)) (j:=m) (by omega)
        refine rv (aK (decide_eq_false p72)) ?_
        refine nt (K71 _ _ (cf (wp_exit (an (an (aB (ar (ah (K47 _ _ (rl ?_))))))))))
        refine rv (bp (((k+1:Nat):Int))) ?_
        refine wpList_nil ?_
        have H94:=Mem.pick H68 [1] (by decide) rfl
        refine ah ?_
        show _∧_
        go_roundw
        case rel=>exact ⟨(k+1),b2,rfl,rfl,by omega,(by have h:=HEQm;simp only [Eb,Bool.or_false,he93] at h ⊢;exact h),H94⟩
        case measure=>simp [intOf];omega
     ·have he95:=bE (l:=aL) (j:=k) (by omega)
      refine rv (aK (decide_eq_false p46)) ?_
      refine nt (K45 _ _ (cf (wp_exit (an (an (aB (ah (K20 _ _ (sk fun _ K96=>rl ?_)))))))))
      refine nt (K96 _ _ ?_)
      cases b
      ·have hta:fQ l aL x26.1=false:=ht9.trans (HEQ.symm.trans (by rw [bE (by omega)];rfl))
       refine cf ?_
       refine wp_skip ?_
       refine ar (ah (K18 _ _ (rl ?_)))
       refine rv (bp (((j+1:Nat):Int))) ?_
       refine wpList_nil ?_
       have hkt:=pP hx27 false hta
       refine ah ?_
       show _∧_
       go_roundw
       case rel=>exact ⟨(j+1),ls,A,c9,rfl,rfl,by omega,(by rw [hls,hkt];rfl),hlo,H42⟩
       case measure=>simp [intOf];omega
      ·have hta:fQ l aL x26.1=true:=ht9.trans (HEQ.symm.trans (by rw [bE (by omega)];rfl))
       refine ct (rl ?_)
       refine rv (fw (j) Tryz.underlying40 dM) ?_
       refine rv (xld (Mem.range H42 hr29 hlt25) Tryz.underlying98 (EL xo33)) ?_
       refine aO rfl 40 (.tmp 65) rfl 98 23 (.agg zcT) (.agg (tC x26 (.slice A35 x26.2.2.1.length c36) (.slice A38 x26.2.2.2.length c39)).toArray) rfl Tryz.underlying40 dM (by decide) (by decide) (fun w=>by kernel_rfl) (by rw [xaU,xal];exact cl (x:=x26) xo33) ?_
       intro w97 hn
       have H98:=Mem.aM H42 hn
       clear hn
       refine rn ?_
       obtain ⟨inm98,iq98,ir98,is98,it98⟩:=info_parts kN
       refine aE rfl _ _ 40 rfl (w.heap.size) 98 _ _ 23 88 Tryz.underlying40 iq98 ir98 is98 it98 rfl (by decide) (.slice A ls.length c9) ((ls).length) ((ls).flatMap tV) (Mem.own H98 1 rfl) ((some ⟨wo41.heap.size,0,none⟩)) (1) (1) (tC x26 (.slice A35 x26.2.2.1.length c36) (.slice A38 x26.2.2.2.length c39)) (bU (n:=23) (m:=1) (Mem.blk H98 0 rfl) (cl (x:=x26) xo33) (yL x26 rfl rfl)) ?hmt99 ?hbt99 ?hzt99 rfl rfl ?_
       case hmt99=>simp only [maxLen];omega
       case hbt99=>omega
       case hzt99=>exact (Mem.below H98).size
       intro u102 w100 ow105 gr106 hp107
       refine rn ?_
       have ow105:w100.ownsRow (w.heap.size) 98 23 u102 (ls++[(x26,(xas A35 x26.2.2.1.length c36),(xas A38 x26.2.2.2.length c39))]).length ((ls++[(x26,(xas A35 x26.2.2.1.length c36),(xas A38 x26.2.2.2.length c39))]).flatMap tV):=by first | simpa using ow105 | (simp at ow105 ⊢;exact ow105)
       obtain ⟨A103,c104,rfl⟩:=aI ow105
       have H101:=Mem.app H98 1 rfl ow105 gr106 hp107
       clear ow105 gr106 hp107
       refine rn ?_
       refine wpList_nil ?_
       refine ar (ah (K18 _ _ (rl ?_)))
       refine rv (bp (((j+1:Nat):Int))) ?_
       refine wpList_nil ?_
       have hkt:=pP hx27 true hta
       have H108:=Mem.pick H101 [1] (by decide) rfl
       refine ah ?_
       show _∧_
       go_roundw
       case rel=>exact ⟨(j+1),((ls++[(x26,(xas A35 x26.2.2.1.length c36),(xas A38 x26.2.2.2.length c39))])),A103,c104,rfl,rfl,by omega,(by rw [List.map_append,hls,hkt];rfl),mF hlo ⟨xo33,xd34⟩,H108⟩
       case measure=>simp [intOf];omega
   ·have he109:=bE (l:=l) (j:=j) (by omega)
    refine rv (aK (decide_eq_false p17)) ?_
    refine nt (K16 _ _ (cf (wp_exit (an (an (aB (ah (K9 _ _ (sk fun _ K110=>rl ?_)))))))))
    refine nt (K110 _ _ ?_)
    refine wp_ret ?_
    refine bodyPost_ret (bu (r1:=.tmp 4) (r2:=.tmp 5) rfl ⟨rfl,rfl,trivial⟩) rfl ?_
    have hz1:dropE=0:=hdE.symm.trans (by rw [hbt];rfl)
    have hje:j=l.length:=by omega
    have hz2:dropL=fc l aL:=hdL.symm.trans (by rw [hbt];rfl)
    rw [← zF,← hje] at hz2
    subst hz1 hz2
    exact ⟨_,_,ls,rfl,hls,hlo,H13⟩
end Go.Proofs.YtomnhnmciopiiaaGreat
end
section
namespace Go.Proofs.YtomnhnmciopiiaaGreat
open Go Go.RowKit Go.Maps
attribute [local irreducible] wpList
def dV9 (p:bI):List Value:=dC p.1.2 p.2.1 p.2.2
theorem zy:(Tryz.prog.info? 26).map (fun i=>(i.zero,i.size,i.bytes))=some (some (.agg zcD),3,64):=by kernel_rfl
theorem lM {α:Type} {l:List α} {k:Nat} {x:α} (h:l[k]?=some x):l.take k++[x]=l.take (k+1):=by rw [xaB,h];rfl
theorem DR (d:Drv) {v1 v2:Value} (h1:v1.oneCell'=true) (h2:v2.oneCell'=true):∀ v∈dC d v1 v2,v.oneCell'=true:=fun v hv=>by
 simp only [dC,xaD,xaS,or_false] at hv
 rcases hv with rfl | rfl | rfl
 ·rfl
 ·exact h1
 ·exact h2
theorem wE (w:World) (B:Nat) (ls:List bI) (A:Option Addr) (c:Nat) (ho:w.ownsRow B 59 23 (.slice A ls.length c) ls.length (ls.flatMap tV)) (hok:∀ p∈ls,okH p.1.1∧p.2.1.oneCell'=true∧p.2.2.oneCell'=true) (hn:ls.length≤1000000) :
  Calls Tryz.prog 25 #[.slice A ls.length c] w fun e w'=>∃ u,e=.returned u∧Mem w w' [ax w.heap.size 26 3 u ls.length (ls.flatMap dV9)]:=by
 have H0:=Mem.start w
 go_enter Tryz.func25,Tryz.ntmps25
 refine sk fun _ K1=>rl ?_
 refine nt (K1 _ _ (sk fun _ K2=>rl ?_))
 refine nt (K2 _ _ (sk fun _ K3=>sk fun _ K4=>rl ?_))
 refine nt (K4 _ _ (wp_block ?_))
 have H5:=Mem.dE H0 w.heap.size 26 3
 go_loopw [3,4] (fun x3 x4 wr=>∃ k:Nat,∃ os:List bI,∃ A9:Option Addr,∃ c9:Nat,x3=.slice A9 os.length c9∧x4=.int .i64 (k:Int)∧(k≤ls.length)∧(os=ls.take k)∧Mem w wr [ax (w.heap.size) 26 3 (.slice A9 os.length c9) (os).length ((os).flatMap dV9)]) (fun x3 x4 _=>ls.length-(intOf x4).toNat)
 case atStart=>exact ⟨0,([]),none,0,rfl,rfl,by omega,(by rfl),H5⟩
 case round =>
  obtain ⟨wo6,rfl⟩:∃ wo6,wo6=wr:=⟨_,rfl⟩
  obtain ⟨k,os,A9,c9,rfl,rfl,hk,hos,H7⟩:=hrel
  have hol:os.length=k:=by rw [hos,xaN];omega
  refine sk fun _ K9=>sk fun _ K10=>rl ?_
  by_cases p11:(k:Int)<((ls.length:Nat):Int)
  ·refine rv (aK (decide_eq_true p11)) ?_
   refine nt (K10 _ _ (ct (ks (K9 _ _ (sk fun _ K12=>wp_block (rl ?_))))))
   obtain ⟨b13,rfl,hlt16⟩:=aR ho (by omega)
   obtain ⟨p17,hx18⟩:∃ x,ls[k]?=some x:=⟨_,xai (by omega)⟩
   have ok19:=hok _ (xaj hx18)
   refine rv (bT (k) Tryz.underlying22 cJ) ?_
   refine rp b13 (k*23+20) ?_
   refine rv (xld (de ok19.1 (Mem.range H7 (dQ (f:=tV) (by decide) ho (fun p hp=>cl (x:=p.1) (hok p hp).1) hx18) (az ho rfl).2)) Tryz.underlying26 (aS p17.1.2 p17.2.1 p17.2.2)) ?_
   refine aO rfl 53 (.tmp 16) rfl 26 3 (.agg zcD) (.agg (dC p17.1.2 p17.2.1 p17.2.2).toArray) rfl Tryz.underlying53 (by kernel_rfl) (by decide) (by decide) (fun w=>by kernel_rfl) rfl ?_
   intro w20 hn
   have H21:=Mem.aM H7 hn
   clear hn
   refine rn ?_
   obtain ⟨inm26,iq26,ir26,is26,it26⟩:=info_parts zy
   refine aE rfl _ _ 53 rfl (w.heap.size) 26 _ _ 3 64 Tryz.underlying53 iq26 ir26 is26 it26 rfl (by decide) (.slice A9 os.length c9) ((os).length) ((os).flatMap dV9) (Mem.own H21 1 rfl) ((some ⟨wo6.heap.size,0,none⟩)) (1) (1) (dC p17.1.2 p17.2.1 p17.2.2) (bU (n:=3) (m:=1) (Mem.blk H21 0 rfl) rfl (DR p17.1.2 ok19.2.1 ok19.2.2)) ?hmt22 ?hbt22 ?hzt22 rfl rfl ?_
   case hmt22=>simp only [maxLen];omega
   case hbt22=>omega
   case hzt22=>exact (Mem.below H21).size
   intro u25 w23 ow28 gr29 hp30
   refine rn ?_
   have ow28:w23.ownsRow (w.heap.size) 26 3 u25 (os++[p17]).length ((os++[p17]).flatMap dV9):=by first | simpa using ow28 | simpa [dV9] using ow28 | (simp at ow28 ⊢;exact ow28)
   obtain ⟨A26,c27,rfl⟩:=aI ow28
   have H24:=Mem.app H21 1 rfl ow28 gr29 hp30
   clear ow28 gr29 hp30
   refine rn ?_
   refine wpList_nil ?_
   refine ar (ah (K12 _ _ (rl ?_)))
   refine rv (bp (((k+1:Nat):Int))) ?_
   refine wpList_nil ?_
   have H31:=Mem.pick H24 [1] (by decide) rfl
   refine ah ?_
   show _∧_
   go_roundw
   case rel=>exact ⟨(k+1),((os++[p17])),A26,c27,rfl,rfl,by omega,(by rw [hos,lM hx18]),H31⟩
   case measure=>simp [intOf];omega
  ·have he32:=bE (l:=ls) (j:=k) (by omega)
   refine rv (aK (decide_eq_false p11)) ?_
   refine nt (K10 _ _ (cf (wp_exit (an (an (aB (ah (K3 _ _ (sk fun _ K33=>rl ?_)))))))))
   refine nt (K33 _ _ (rt ?_))
   have hke:k=ls.length:=by omega
   rw [hke,xaG] at hos
   subst hos
   exact ⟨_,rfl,H7⟩
end Go.Proofs.YtomnhnmciopiiaaGreat
end
section
namespace Go.Proofs.YtomnhnmciopiiaaGreat
open Go Go.RowKit Go.Maps
attribute [local irreducible] wpList
theorem Ep {ls:List bI} {l:List Itm} (e:ls.map (·.1)=l) {j:Nat} {p:bI} {x:Itm} (hp:ls[j]?=some p) (hx:l[j]?=some x):p.1=x:=by
 rw [← e,xaL,hp] at hx
 exact xam hx
theorem Cs {l l2:List Itm} (e:l=l2) {j:Nat} {x y:Itm} (hx:l[j]?=some x) (hy:l2[j]?=some y):x=y:=by
 rw [e,hy] at hx
 exact (xam hx).symm
theorem zH (w:World) (d d2:Drv) (e:d2=d) (u1 u2 v1 v2:Value) (B:Nat) (hx9:bY w B d2 u1 u2) (h:au w w.heap.size d v1 v2) (hl1:d.2.1.length≤1000000) (hl2:d.2.2.length≤1000000) :
  Calls Tryz.prog 23 #[.agg (dC d2 u1 u2).toArray,.agg (dC d v1 v2).toArray] w fun e w'=>e=.returned (.bool true)∧Below w.heap.size w w':=by
 subst e
 exact kb w d2 u1 u2 v1 v2 B hx9 h hl1 hl2
theorem bY.old {w0 w:World} {L:List Ent} {B:Nat} {d:Drv} {u1 u2:Value} (h:bY w0 B d u1 u2) (m:Mem w0 w L):bY w B d u1 u2:=h.aL fun b _ hl=>m.below.block b hl
theorem qB (w:World) (l l2:List Itm) (u v:Value) (h:aH.At w w.heap.size [u] l) (h2:eg.At w w.heap.size [v] l2) (he:l=l2) (hn:l.length≤1000000) :
  Calls Tryz.prog 21 #[u,v] w fun e w'=>e=.returned (.bool true)∧Below w.heap.size w w':=by
 obtain ⟨A,c,rfl,_,hcm,_,hA⟩:=aj h
 obtain ⟨A2,c2,rfl,_,hcm2,_,hA2⟩:=aj h2
 simp only [maxLen] at hcm hcm2
 have hll:l2.length=l.length:=by rw [he]
 have H0:=Mem.start w
 go_enter Tryz.func21,Tryz.ntmps21
 refine sk fun _ K1=>rl ?_
 refine nt (K1 _ _ (sk fun _ K2=>sk fun _ K3=>rl ?_))
 by_cases p4:((l.length:Nat):Int)=((l2.length:Nat):Int)
 ·refine rv (mK (decide_eq_true p4)) ?_
  refine nt (K3 _ _ (cf (ks (K2 _ _ (sk fun _ K5=>sk fun _ K6=>rl ?_)))))
  refine nt (K6 _ _ (wp_block ?_))
  go_loopw [5] (fun x5 wr=>∃ j:Nat,x5=.int .i64 (j:Int)∧(j≤l.length)∧Mem w wr []) (fun x5 _=>l.length-(intOf x5).toNat)
  case atStart=>exact ⟨0,rfl,by omega,H0⟩
  case round =>
   obtain ⟨wo7,rfl⟩:∃ wo7,wo7=wr:=⟨_,rfl⟩
   obtain ⟨j,rfl,hj,H8⟩:=hrel
   refine sk fun _ K10=>sk fun _ K11=>rl ?_
   by_cases p12:(j:Int)<((l.length:Nat):Int)
   ·refine rv (aK (decide_eq_true p12)) ?_
    refine nt (K11 _ _ (ct (ks (K10 _ _ (sk fun _ K13=>wp_block (sk fun _ K14=>?_))))))
    obtain ⟨b15,o16,rfl,hlt18,hE17⟩:=hA (by omega)
    obtain ⟨x19,hx20⟩:=gx (l:=l) (j:=j)
    have hd21:=aD hx20
    obtain ⟨cs,hr22,ha23⟩:=hE17 (j) x19 hx20
    obtain ⟨v24,v25,rfl,xo26,xd27⟩:=cF.1 ha23
    obtain ⟨A28,c29,rfl,hlc29,hmc29,_,hA30⟩:=aj xd27.ins
    obtain ⟨A31,c32,rfl,hlc32,hmc32,_,hA33⟩:=aj xd27.rcp
    simp only [maxLen] at hmc29 hmc32
    obtain ⟨b34,o35,rfl,hlt37,hE36⟩:=hA2 (by omega)
    obtain ⟨x38,hx39⟩:=gx (l:=l2) (j:=j)
    have hd40:=aD hx39
    obtain ⟨cs,hr41,ha42⟩:=hE36 (j) x38 hx39
    obtain ⟨v43,v44,rfl,xo45,xd46⟩:=eN.1 ha42
    obtain ⟨A47,c48,rfl,hlc48,hmc48,_,hA49⟩:=aj xd46.ins
    obtain ⟨A50,c51,rfl,hlc51,hmc51,_,hA52⟩:=aj xd46.rcp
    simp only [maxLen] at hmc48 hmc51
    have hxy:=Cs he hx20 hx39
    refine Fre.cC (X:=Bel) [] (by kernel_rfl) (by kernel_rfl) (by simp) (by simp) (by simp) ?_
    refine Fre.rmd ?_
    refine Fre.mvv (fun _ _=>fw (j) Tryz.underlying22 cJ) ?_
    refine Fre.mvv (v:=.pointer (some ⟨b15,o16+j*23,none⟩)) (fun _ _=>by kernel_rfl) ?_
    refine Fre.mvv (fun W9 hW9=>xld (cz (Mem.range (Mem.call H8 hW9) hr22 hlt18)) Tryz.underlying34 (bN xo26)) ?_
    refine Fre.mvv (fun _ _=>fw (j) Tryz.underlying40 dM) ?_
    refine Fre.mvv (v:=.pointer (some ⟨b34,o35+j*23,none⟩)) (fun _ _=>by kernel_rfl) ?_
    refine Fre.mvv (fun W9 hW9=>xld (cz (Mem.range (Mem.call H8 hW9) hr41 hlt37)) Tryz.underlying34 (bN xo45)) ?_
    refine Fre.mvv (fun W9 _=>dA 34 34 (.tmp 21) (.tmp 26) rfl (bv x19.1).toArray (bv x38.1).toArray rfl rfl (by kernel_rfl) _ W9 (by have h9:=dc (x19.1) (x38.1) xo26 xo45 W9;rwa [show decide _=true from (decide_eq_true (congrArg (·.1) hxy))] at h9)) ?_
    refine Fre.mvv (fun _ _=>fw (j) Tryz.underlying22 cJ) ?_
    refine Fre.mvv (v:=.pointer (some ⟨b15,o16+j*23+20,none⟩)) (fun _ _=>by kernel_rfl) ?_
    refine Fre.mvv (fun W9 hW9=>xld (de xo26 (Mem.range (Mem.call H8 hW9) hr22 hlt18)) Tryz.underlying26 (aS x19.2 (.slice A28 x19.2.2.1.length c29) (.slice A31 x19.2.2.2.length c32))) ?_
    refine Fre.mvv (fun _ _=>fw (j) Tryz.underlying40 dM) ?_
    refine Fre.mvv (v:=.pointer (some ⟨b34,o35+j*23+20,none⟩)) (fun _ _=>by kernel_rfl) ?_
    refine Fre.mvv (fun W9 hW9=>xld (de xo45 (Mem.range (Mem.call H8 hW9) hr41 hlt37)) Tryz.underlying26 (aS x38.2 (.slice A47 x38.2.2.1.length c48) (.slice A50 x38.2.2.2.length c51))) ?_
    refine Fre.mc (fun W9 hW9=>EP W9 x19.2 x38.2 _ _ _ _ (Mem.drv (Mem.call H8 hW9) xd27) (Mem.drv (Mem.call H8 hW9) xd46) true (decide_eq_true (congrArg (·.2) hxy))) ?_
    refine Fre.rmd ?_
    intro w53 hx55
    dsimp only [Fre.ended,xaE]
    have H54:=Mem.call H8 hx55
    refine ah (K14 _ _ (cf ?_))
    refine wp_skip ?_
    refine ar (ah (K13 _ _ (rl ?_)))
    refine rv (bp (((j+1:Nat):Int))) ?_
    refine wpList_nil ?_
    refine ah ?_
    show _∧_
    go_roundw
    case rel=>exact ⟨(j+1),rfl,by omega,H54⟩
    case measure=>simp [intOf];omega
   ·have he56:=bE (l:=l) (j:=j) (by omega)
    refine rv (aK (decide_eq_false p12)) ?_
    refine nt (K11 _ _ (cf (wp_exit (an (an (aB (ah (K5 _ _ (sk fun _ K57=>rl ?_)))))))))
    refine nt (K57 _ _ (rt ?_))
    exact ⟨rfl,Mem.below H8⟩
 ·exact absurd (congrArg List.length he) (fun e=>p4 (congrArg Int.ofNat e))
theorem xh (w:World) (B B2:Nat) (ls:List bI) (A:Option Addr) (c:Nat) (ho:w.ownsRow B2 59 23 (.slice A ls.length c) ls.length (ls.flatMap tV)) (hle:∀ p∈ls,okH p.1.1∧bY w B p.1.2 p.2.1 p.2.2) (l:List Itm) (v:Value) (h:aH.At w w.heap.size [v] l) (hl:∀ x∈l,x.2.2.1.length≤1000000∧x.2.2.2.length≤1000000) (hls:ls.map (·.1)=l) (hn:l.length≤1000000) :
  Calls Tryz.prog 22 #[.slice A ls.length c,v] w fun e w'=>e=.returned (.bool true)∧Below w.heap.size w w':=by
 have hok:∀ p∈ls,okH p.1.1∧p.2.1.oneCell'=true∧p.2.2.oneCell'=true:=fun p hp=>⟨(hle p hp).1,((hle p hp).2.at_ (xag _)).dK⟩
 have hll:ls.length=l.length:=by rw [← hls,xap]
 obtain ⟨A2,c2,rfl,_,hcm2,_,hA2⟩:=aj h
 simp only [maxLen] at hcm2
 have H0:=Mem.start w
 go_enter Tryz.func22,Tryz.ntmps22
 refine sk fun _ K1=>rl ?_
 refine nt (K1 _ _ (sk fun _ K2=>sk fun _ K3=>rl ?_))
 refine nt (K3 _ _ (wp_block ?_))
 go_loopw [5] (fun x5 wr=>∃ j:Nat,x5=.int .i64 (j:Int)∧(j≤l.length)∧Mem w wr []) (fun x5 _=>l.length-(intOf x5).toNat)
 case atStart=>exact ⟨0,rfl,by omega,H0⟩
 case round =>
  obtain ⟨wo4,rfl⟩:∃ wo4,wo4=wr:=⟨_,rfl⟩
  obtain ⟨j,rfl,hj,H5⟩:=hrel
  refine sk fun _ K7=>sk fun _ K8=>rl ?_
  by_cases p9:(j:Int)<((l.length:Nat):Int)
  ·refine rv (aK (decide_eq_true p9)) ?_
   refine nt (K8 _ _ (ct (ks (K7 _ _ (sk fun _ K10=>wp_block (sk fun _ K11=>?_))))))
   obtain ⟨b12,rfl,hlt15⟩:=aR ho (by omega)
   obtain ⟨p16,hx17⟩:∃ x,ls[j]?=some x:=⟨_,xai (by omega)⟩
   have ok18:=hok _ (xaj hx17)
   obtain ⟨b19,o20,rfl,hlt22,hE21⟩:=hA2 (by omega)
   obtain ⟨x23,hx24⟩:=gx (l:=l) (j:=j)
   have hd25:=aD hx24
   obtain ⟨cs,hr26,ha27⟩:=hE21 (j) x23 hx24
   obtain ⟨v28,v29,rfl,xo30,xd31⟩:=cF.1 ha27
   obtain ⟨A32,c33,rfl,hlc33,hmc33,_,hA34⟩:=aj xd31.ins
   obtain ⟨A35,c36,rfl,hlc36,hmc36,_,hA37⟩:=aj xd31.rcp
   simp only [maxLen] at hmc33 hmc36
   have hxy:=Ep hls hx17 hx24
   refine Fre.cC (X:=Bel) [] (by kernel_rfl) (by kernel_rfl) (by simp) (by simp) (by simp) ?_
   refine Fre.rmd ?_
   refine Fre.mvv (fun _ _=>bT (j) Tryz.underlying22 cJ) ?_
   refine Fre.mvv (v:=.pointer (some ⟨b12,j*23,none⟩)) (fun _ _=>by kernel_rfl) ?_
   refine Fre.mvv (fun W9 hW9=>xld (cz (Mem.range (Mem.call H5 hW9) (dQ (f:=tV) (by decide) ho (fun p hp=>cl (x:=p.1) (hok p hp).1) hx17) (az ho rfl).2)) Tryz.underlying34 (bN ok18.1)) ?_
   refine Fre.mvv (fun _ _=>fw (j) Tryz.underlying22 cJ) ?_
   refine Fre.mvv (v:=.pointer (some ⟨b19,o20+j*23,none⟩)) (fun _ _=>by kernel_rfl) ?_
   refine Fre.mvv (fun W9 hW9=>xld (cz (Mem.range (Mem.call H5 hW9) hr26 hlt22)) Tryz.underlying34 (bN xo30)) ?_
   refine Fre.mvv (fun W9 _=>dA 34 34 (.tmp 16) (.tmp 21) rfl (bv p16.1.1).toArray (bv x23.1).toArray rfl rfl (by kernel_rfl) _ W9 (by have h9:=dc (p16.1.1) (x23.1) ok18.1 xo30 W9;rwa [show decide _=true from (decide_eq_true (congrArg (·.1) hxy))] at h9)) ?_
   refine Fre.mvv (fun _ _=>bT (j) Tryz.underlying22 cJ) ?_
   refine Fre.mvv (v:=.pointer (some ⟨b12,j*23+20,none⟩)) (fun _ _=>by kernel_rfl) ?_
   refine Fre.mvv (fun W9 hW9=>xld (de ok18.1 (Mem.range (Mem.call H5 hW9) (dQ (f:=tV) (by decide) ho (fun p hp=>cl (x:=p.1) (hok p hp).1) hx17) (az ho rfl).2)) Tryz.underlying26 (aS p16.1.2 p16.2.1 p16.2.2)) ?_
   refine Fre.mvv (fun _ _=>fw (j) Tryz.underlying22 cJ) ?_
   refine Fre.mvv (v:=.pointer (some ⟨b19,o20+j*23+20,none⟩)) (fun _ _=>by kernel_rfl) ?_
   refine Fre.mvv (fun W9 hW9=>xld (de xo30 (Mem.range (Mem.call H5 hW9) hr26 hlt22)) Tryz.underlying26 (aS x23.2 (.slice A32 x23.2.2.1.length c33) (.slice A35 x23.2.2.2.length c36))) ?_
   refine Fre.mc (fun W9 hW9=>zH W9 x23.2 p16.1.2 (congrArg (·.2) hxy) _ _ _ _ B ((hle _ (xaj hx17)).2.old (Mem.call H5 hW9)) (Mem.drv (Mem.call H5 hW9) xd31) (hl x23 (xaj hx24)).1 (hl x23 (xaj hx24)).2) ?_
   refine Fre.rmd ?_
   intro w38 hx40
   dsimp only [Fre.ended,xaE]
   have H39:=Mem.call H5 hx40
   refine ah (K11 _ _ (cf ?_))
   refine wp_skip ?_
   refine ar (ah (K10 _ _ (rl ?_)))
   refine rv (bp (((j+1:Nat):Int))) ?_
   refine wpList_nil ?_
   refine ah ?_
   show _∧_
   go_roundw
   case rel=>exact ⟨(j+1),rfl,by omega,H39⟩
   case measure=>simp [intOf];omega
  ·have he41:=bE (l:=l) (j:=j) (by omega)
   refine rv (aK (decide_eq_false p9)) ?_
   refine nt (K8 _ _ (cf (wp_exit (an (an (aB (ah (K2 _ _ (sk fun _ K42=>rl ?_)))))))))
   refine nt (K42 _ _ (rt ?_))
   exact ⟨rfl,Mem.below H5⟩
end Go.Proofs.YtomnhnmciopiiaaGreat
end
