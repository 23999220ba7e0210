/- Part 13 of the texts of one proof. -/
import Derived.Test.YtomnhnmciopiiaaGreatMMS12
set_option maxRecDepth 100000
set_option linter.unusedVariables false
set_option linter.unusedSimpArgs false
set_option maxHeartbeats 40000000
open Go.Act renaming put → xad
open List renaming append_nil → xaT, drop → xas, drop_succ_cons → xaH, drop_zero → xaQ, length_append → xap, length_map → xat, length_set → xa6, length_singleton → xa0, mem_append → xau, mem_append_left → xa1, mem_cons → xax, mem_of_getElem? → xak, mem_singleton → xan, not_mem_nil → xaP, perm_append_comm → xbV, perm_append_comm_assoc → xb2, range → xaf, setIfInBounds_toArray → xaa, set_cons_succ → xab, set_cons_zero → xac, size_toArray → xal, take_length → xaB, take_succ_cons → xaI, take_zero → xaR
open Nat renaming le_of_ble_eq_true → xaL, le_refl → xai
open Option.some renaming inj → xao
open Go.Region renaming wanted → xaw
open Go.Value renaming pointer → xbu, slice → xag
open Go.World renaming ownsRow_nil → xaW
section
namespace Go.Proofs.YtomnhnmciopiiaaGreat
open Go Go.RowKit Go.Maps
attribute [local irreducible] wpList
theorem rN {α:Type} {l l2:List α} (e:l=l2) {j:Nat} {x y:α} (hx:l[j]?=some x) (hy:l2[j]?=some y):x=y:=by
 rw [e,hy] at hx
 exact (xao hx).symm
theorem tU (w:World) (l l2:List Hsh) (u v:Value) (h:eW.At w w.heap.size [u] l) (h2:eW.At w w.heap.size [v] l2) (he:l=l2) (hn:l.length≤1000000) :
  Calls Tryz.prog 38 #[u,v] w fun e w'=>e=.returned (.bool true)∧Below w.heap.size w w':=by
 obtain ⟨A,c,rfl,_,hcm,_,hA⟩:=ak h
 obtain ⟨A2,c2,rfl,_,hcm2,_,hA2⟩:=ak h2
 simp only [maxLen] at hcm hcm2
 have hll:l2.length=l.length:=by rw [he]
 have H0:=Mem.start w
 go_enter Tryz.func38,Tryz.ntmps38
 refine sk fun _ K1=>rl ?_
 refine nt (K1 _ _ (sk fun _ K2=>sk fun _ K3=>rl ?_))
 by_cases p4:((l.length:Nat):Int)=((l2.length:Nat):Int)
 ·refine rv (sC (decide_eq_true p4)) ?_
  refine nt (K3 _ _ (cf (ks (K2 _ _ (sk fun _ K5=>sk fun _ K6=>rl ?_)))))
  refine nt (K6 _ _ (wp_block ?_))
  go_loopw [5] (fun x5 wr=>∃ j:Nat,x5=.int .i64 (j:Int)∧(j≤l.length)∧Mem w wr []) (fun x5 _=>l.length-(intOf x5).toNat)
  case atStart=>exact ⟨0,rfl,by omega,H0⟩
  case round =>
   obtain ⟨wo7,rfl⟩:∃ wo7,wo7=wr:=⟨_,rfl⟩
   obtain ⟨j,rfl,hj,H8⟩:=hrel
   refine sk fun _ K10=>sk fun _ K11=>rl ?_
   by_cases p12:(j:Int)<((l.length:Nat):Int)
   ·refine rv (aA (decide_eq_true p12)) ?_
    refine nt (K11 _ _ (ct (ks (K10 _ _ (sk fun _ K13=>wp_block (sk fun _ K14=>?_))))))
    obtain ⟨b15,o16,rfl,hlt18,hE17⟩:=hA (by omega)
    obtain ⟨x19,hx20⟩:=gx (l:=l) (j:=j)
    have hd21:=ay hx20
    obtain ⟨cs,hr22,ha23⟩:=hE17 (j) x19 hx20
    obtain ⟨rfl,ok24⟩:=dt.1 ha23
    obtain ⟨b25,o26,rfl,hlt28,hE27⟩:=hA2 (by omega)
    obtain ⟨x29,hx30⟩:=gx (l:=l2) (j:=j)
    have hd31:=ay hx30
    obtain ⟨cs,hr32,ha33⟩:=hE27 (j) x29 hx30
    obtain ⟨rfl,ok34⟩:=dt.1 ha33
    have hxy:=rN he hx20 hx30
    refine Fre.aV (X:=Bel) [] (by kernel_rfl) (by kernel_rfl) (by simp) (by simp) (by simp) ?_
    refine Fre.rmd ?_
    refine Fre.mvv (fun _ _=>dy (j) Tryz.underlying27 cK) ?_
    refine Fre.mvv (fun W9 hW9=>xld (Mem.range (Mem.call H8 hW9) hr22 hlt18) Tryz.underlying34 (cP ok24)) ?_
    refine Fre.mvv (fun _ _=>dy (j) Tryz.underlying27 cK) ?_
    refine Fre.mvv (fun W9 hW9=>xld (Mem.range (Mem.call H8 hW9) hr32 hlt28) Tryz.underlying34 (cP ok34)) ?_
    refine Fre.mvv (fun W9 _=>dK 34 34 (.tmp 20) (.tmp 24) rfl (bv x19).toArray (bv x29).toArray rfl rfl (by kernel_rfl) _ W9 (by have h9:=cW (x19) (x29) ok24 ok34 W9;rwa [show decide _=true from (decide_eq_true hxy)] at h9)) ?_
    intro w35 hx37
    dsimp only [Fre.ended,xas]
    have H36:=Mem.call H8 hx37
    refine ab (K14 _ _ (cf ?_))
    refine wp_skip ?_
    refine al (ab (K13 _ _ (rl ?_)))
    refine rv (aL (((j+1:Nat):Int))) ?_
    refine wpList_nil ?_
    refine ab ?_
    show _∧_
    go_roundw
    case rel=>exact ⟨(j+1),rfl,by omega,H36⟩
    case measure=>simp [intOf];omega
   ·have he38:=bJ (l:=l) (j:=j) (by omega)
    refine rv (aA (decide_eq_false p12)) ?_
    refine nt (K11 _ _ (cf (wp_exit (ai (ai (ax (ab (K5 _ _ (sk fun _ K39=>rl ?_)))))))))
    refine nt (K39 _ _ (rt ?_))
    exact ⟨rfl,Mem.below H8⟩
 ·exact absurd (congrArg List.length he) (fun e=>p4 (congrArg Int.ofNat e))
theorem tW (w:World) (l l2:List Pth) (u v:Value) (h:gZ.At w w.heap.size [u] l) (h2:gZ.At w w.heap.size [v] l2) (he:l=l2) (hn:l.length≤1000000) :
  Calls Tryz.prog 44 #[u,v] w fun e w'=>e=.returned (.bool true)∧Below w.heap.size w w':=by
 obtain ⟨A,c,rfl,_,hcm,_,hA⟩:=ak h
 obtain ⟨A2,c2,rfl,_,hcm2,_,hA2⟩:=ak h2
 simp only [maxLen] at hcm hcm2
 have hll:l2.length=l.length:=by rw [he]
 have H0:=Mem.start w
 go_enter Tryz.func44,Tryz.ntmps44
 refine sk fun _ K1=>rl ?_
 refine nt (K1 _ _ (sk fun _ K2=>sk fun _ K3=>rl ?_))
 by_cases p4:((l.length:Nat):Int)=((l2.length:Nat):Int)
 ·refine rv (sC (decide_eq_true p4)) ?_
  refine nt (K3 _ _ (cf (ks (K2 _ _ (sk fun _ K5=>sk fun _ K6=>rl ?_)))))
  refine nt (K6 _ _ (wp_block ?_))
  go_loopw [5] (fun x5 wr=>∃ j:Nat,x5=.int .i64 (j:Int)∧(j≤l.length)∧Mem w wr []) (fun x5 _=>l.length-(intOf x5).toNat)
  case atStart=>exact ⟨0,rfl,by omega,H0⟩
  case round =>
   obtain ⟨wo7,rfl⟩:∃ wo7,wo7=wr:=⟨_,rfl⟩
   obtain ⟨j,rfl,hj,H8⟩:=hrel
   refine sk fun _ K10=>sk fun _ K11=>rl ?_
   by_cases p12:(j:Int)<((l.length:Nat):Int)
   ·refine rv (aA (decide_eq_true p12)) ?_
    refine nt (K11 _ _ (ct (ks (K10 _ _ (sk fun _ K13=>wp_block (sk fun _ K14=>?_))))))
    obtain ⟨b15,o16,rfl,hlt18,hE17⟩:=hA (by omega)
    obtain ⟨x19,hx20⟩:=gx (l:=l) (j:=j)
    have hd21:=ay hx20
    obtain ⟨cs,hr22,ha23⟩:=hE17 (j) x19 hx20
    obtain ⟨rfl,ok24⟩:=cG.1 ha23
    obtain ⟨b25,o26,rfl,hlt28,hE27⟩:=hA2 (by omega)
    obtain ⟨x29,hx30⟩:=gx (l:=l2) (j:=j)
    have hd31:=ay hx30
    obtain ⟨cs,hr32,ha33⟩:=hE27 (j) x29 hx30
    obtain ⟨rfl,ok34⟩:=cG.1 ha33
    have hxy:=rN he hx20 hx30
    refine Fre.aV (X:=Bel) [] (by kernel_rfl) (by kernel_rfl) (by simp) (by simp) (by simp) ?_
    refine Fre.rmd ?_
    refine Fre.mvv (fun _ _=>dy (j) Tryz.underlying72 b8) ?_
    refine Fre.mvv (fun W9 hW9=>xld (Mem.range (Mem.call H8 hW9) hr22 hlt18) Tryz.underlying83 (cj ok24)) ?_
    refine Fre.mvv (fun _ _=>dy (j) Tryz.underlying72 b8) ?_
    refine Fre.mvv (fun W9 hW9=>xld (Mem.range (Mem.call H8 hW9) hr32 hlt28) Tryz.underlying83 (cj ok34)) ?_
    refine Fre.mvv (fun W9 _=>dK 83 83 (.tmp 20) (.tmp 24) rfl (pC x19).toArray (pC x29).toArray rfl rfl (by kernel_rfl) _ W9 (by have h9:=fg (x19) (x29) ok24 ok34 W9;rwa [show decide _=true from (decide_eq_true hxy)] at h9)) ?_
    intro w35 hx37
    dsimp only [Fre.ended,xas]
    have H36:=Mem.call H8 hx37
    refine ab (K14 _ _ (cf ?_))
    refine wp_skip ?_
    refine al (ab (K13 _ _ (rl ?_)))
    refine rv (aL (((j+1:Nat):Int))) ?_
    refine wpList_nil ?_
    refine ab ?_
    show _∧_
    go_roundw
    case rel=>exact ⟨(j+1),rfl,by omega,H36⟩
    case measure=>simp [intOf];omega
   ·have he38:=bJ (l:=l) (j:=j) (by omega)
    refine rv (aA (decide_eq_false p12)) ?_
    refine nt (K11 _ _ (cf (wp_exit (ai (ai (ax (ab (K5 _ _ (sk fun _ K39=>rl ?_)))))))))
    refine nt (K39 _ _ (rt ?_))
    exact ⟨rfl,Mem.below H8⟩
 ·exact absurd (congrArg List.length he) (fun e=>p4 (congrArg Int.ofNat e))
end Go.Proofs.YtomnhnmciopiiaaGreat
end
section
namespace Go.Proofs.YtomnhnmciopiiaaGreat
open Go Go.RowKit Go.Maps
attribute [local irreducible] wpList
def mgP (k i:Nat):Pth:=(di,⟨(mtG k i).toArray⟩)
theorem cv (k i:Nat):okP (mgP k i):=⟨fp,nP k i⟩
theorem ix (k i:Nat) (w:World):Calls Tryz.prog 138 #[.int .i64 (k:Int),.int .i64 (i:Int)] w fun e w'=>e=.returned (.agg (pC (mgP k i)).toArray)∧Below w.heap.size w w':=by
 have H0:=Mem.start w
 go_enter Tryz.func138,Tryz.ntmps138
 refine sk fun _ K1=>rl ?_
 refine nz 83 zcP fun w2 hn_=>?_
 have H3:=Mem.bh H0 hn_
 refine rn ?_
 refine nt (K1 _ _ (sk fun _ K4=>rl ?_))
 refine ac (gE k i w2) ?_
 rintro e w5 ⟨rfl,hb7⟩
 refine ⟨_,rfl,rn ?_⟩
 have H6:=Mem.call H3 hb7
 refine rv (v:=.agg (pC (mgP k i)).toArray) (by kernel_rfl) ?_
 refine stb (Mem.blk H6 0 rfl) (eQ (cv k i)) (dr zA (eQ (cv k i))) (r8 (mgP k i)) fun w8 hk_ hg_=>?_
 have H9:=Mem.st H6 0 rfl hk_ hg_
 refine rn ?_
 refine nt (K4 _ _ ?_)
 refine wp_ret ?_
 refine bodyPost_ret (fl (r1:=.cell 4 83) rfl ⟨⟨_,rfl,im (Blk.range (Mem.blk H9 0 rfl)) Tryz.underlying83 rfl (cj (cv k i))⟩,trivial⟩) rfl ?_
 exact ⟨rfl,Mem.below H9⟩
end Go.Proofs.YtomnhnmciopiiaaGreat
end
section
namespace Go.Proofs.YtomnhnmciopiiaaGreat
open Go Go.RowKit Go.Maps
attribute [local irreducible] wpList
theorem ni:(Tryz.prog.info? 83).map (fun i=>(i.zero,i.size,i.bytes))=some (some (Value.agg zcP),21,40):=by kernel_rfl
theorem rh:(Tryz.prog.info? 72).map (fun i=>(i.zero,i.size,i.bytes))=some (some (.slice none 0 0),1,24):=by kernel_rfl
theorem oy (w0 w:World) (R:Ent) (m:Nat) (u:Nat→Value) (n:Nat→Nat) (xs:Nat→List Value) (B2:Nat) (A:Option Addr) (c:Nat) (hm9:m≤1000000) (hn:∀ i,i<m→n i≤1000000)
  (hm:Mem w0 w [Ent.all (xaf m) (fun i=>au w0.heap.size 83 21 (PS.self (u i) (n i) (xs i))),aq B2 72 1 (.slice A m c) m (((xaf m).map u).flatMap vb),R]) :
  Calls Tryz.prog 106 #[.slice A m c] w fun e w'=>e=.returned (.bool true)∧Mem w0 w' [aq B2 72 1 (.slice A m c) m (((xaf m).map u).flatMap vb),R]:=by
 have hown:∀ i,i<m→w.ownsRow w0.heap.size 83 21 (u i) (n i) (xs i):=fun i hi=>(Mem.kE (g:=au w0.heap.size 83 21) (st:=fun i=>PS.self (u i) (n i) (xs i)) hm 0 rfl hi).1
 have hxl:∀ i,i<m→(xs i).length=n i*21:=fun i hi=>(hown i hi).1
 have hu0:∀ i,i<m→∃ A c,u i=.slice A (n i) c∧(0<n i→∃ g,A=some ⟨g,0,none⟩):=fun i hi=>by
  obtain ⟨A,c,e⟩:=aI (hown i hi)
  refine ⟨A,c,e,fun h0=>?_⟩
  obtain ⟨g,hg,_⟩:=aE (e▸hown i hi) h0
  exact ⟨g,hg⟩
 have hm:=Mem.bA (g:=au w0.heap.size 83 21) (st:=fun i=>PS.self (u i) (n i) (xs i)) (st':=st1 mgP pC u n xs 0) hm (fun i _=>(jE mgP pC u n xs i).symm)
 clear hown
 go_enter Tryz.func106,Tryz.ntmps106
 refine sk fun _ K1=>rl ?_
 refine nt (K1 _ _ (sk fun _ K2=>sk fun _ K3=>rl ?_))
 refine nt (K3 _ _ (wp_block ?_))
 go_loopw [3] (fun x3 wr=>∃ k:Nat,x3=.int .i64 (k:Int)∧(k≤m)∧Mem w0 wr [Ent.all (xaf m) (fun i=>au w0.heap.size 83 21 (st1 mgP pC u n xs k i)),aq B2 72 1 (.slice A m c) m (((xaf m).map u).flatMap vb),R]) (fun x3 _=>m-(intOf x3).toNat)
 case atStart=>exact ⟨0,rfl,by omega,hm⟩
 case round =>
  obtain ⟨wo4,rfl⟩:∃ wo4,wo4=wr:=⟨_,rfl⟩
  obtain ⟨k,rfl,hk,H5⟩:=hrel
  refine sk fun _ K7=>sk fun _ K8=>rl ?_
  by_cases p9:(k:Int)<(m:Int)
  ·refine rv (aA (decide_eq_true p9)) ?_
   refine nt (K8 _ _ (ct (ks (K7 _ _ (sk fun _ K10=>wp_block (sk fun _ K11=>rl ?_))))))
   refine nt (K11 _ _ (wp_block ?_))
   have H12:=Mem.bA (g:=au w0.heap.size 83 21) (st:=st1 mgP pC u n xs k) (st':=fe mgP pC 21 u n xs k 0) H5 (fun i _=>iA mgP pC 21 u n xs k i)
   have hxl9:=hxl k (by omega)
   have hnk:=hn k (by omega)
   go_loopw [4] (fun x4 wr=>∃ q:Nat,x4=.int .i64 (q:Int)∧(q≤n k)∧Mem w0 wr [Ent.all (xaf m) (fun i=>au w0.heap.size 83 21 (fe mgP pC 21 u n xs k q i)),aq B2 72 1 (.slice A m c) m (((xaf m).map u).flatMap vb),R]) (fun x4 _=>n k-(intOf x4).toNat)
   case atStart=>exact ⟨0,rfl,by omega,H12⟩
   case round =>
    obtain ⟨wo13,rfl⟩:∃ wo13,wo13=wr:=⟨_,rfl⟩
    obtain ⟨q,rfl,hq,H14⟩:=hrel
    refine sk fun _ K16=>sk fun _ K17=>rl ?_
    obtain ⟨b18,rfl,hlt21⟩:=aE (Mem.own H14 1 rfl) (by omega)
    obtain ⟨x22,hx23⟩:=gx (l:=((xaf m).map u)) (j:=k)
    have hd24:=ay hx23
    obtain rfl:=aJ hx23
    obtain ⟨A25,c26,hu27,hg28⟩:=hu0 k (by omega)
    refine rv (aT (s:=1) (k) Tryz.underlying77 (by kernel_rfl)) ?_
    refine rv (v:=.slice A25 (n k) c26) (by rw [← hu27];exact exec_load_cell 72 (.tmp 25) rfl ⟨b18,k*1,none⟩ rfl _ _ wo13 Tryz.underlying72 rfl (range_cell (bE (Mem.own H14 1 rfl) (by omega)))) ?_
    by_cases p29:(q:Int)<(((n k):Nat):Int)
    ·refine rv (aA (decide_eq_true p29)) ?_
     refine nt (K17 _ _ (ct (ks (K16 _ _ (sk fun _ K30=>wp_block ?_)))))
     obtain ⟨b31,rfl⟩:=hg28 (by omega)
     refine Fre.cq (X:=Bel) 9 [] (by kernel_rfl) (by kernel_rfl) (by simp) (by simp) (by simp) ?_
     simp only [xaI,xaR,xaH,xaQ]
     refine Fre.rmd ?_
     refine Fre.mvv (fun _ _=>aT (s:=1) (k) Tryz.underlying77 (by kernel_rfl)) ?_
     refine Fre.mvv (v:=.slice (some ⟨b31,0,none⟩) (n k) c26) (fun W9 hW9=>by rw [← hu27];exact exec_load_cell 72 (.tmp 33) rfl ⟨b18,k*1,none⟩ rfl _ _ W9 Tryz.underlying72 rfl (range_cell (bE (Mem.own (Mem.call H14 hW9) 1 rfl) (by omega)))) ?_
     refine Fre.mc (fun W9 hW9=>ix k q W9) ?_
     refine Fre.rmd ?_
     refine Fre.mvv (fun _ _=>aT (q) Tryz.underlying72 b8) ?_
     intro w35 hx37
     dsimp only [Fre.ended,xas]
     have H36:=Mem.call H14 hx37
     have ow9:=qc (mk:=mgP) (f:=pC) H36 (i0:=0) rfl (show k<m by omega)
     rw [hu27] at ow9
     refine cU rfl 83 (.tmp 39) (.tmp 38) rfl ow9 (k:=q) (pC (mgP k q)) (by omega) (bQ (cv k q)) (eQ (cv k q)) (r8 (mgP k q)) rfl rfl ?_
     intro w38 ho9 hg9 hz9
     refine rn ?_
     rw [← hu27] at ho9
     have H39:=kB (mk:=mgP) (f:=pC) H36 (show k<m by omega) (fun k i=>bQ (cv k i)) hu27 ho9 hg9
     clear ho9 hg9 ow9
     refine wpList_nil ?_
     refine al (ab (K30 _ _ (rl ?_)))
     refine rv (aL (((q+1:Nat):Int))) ?_
     refine wpList_nil ?_
     refine ab ?_
     show _∧_
     go_roundw
     case rel=>exact ⟨(q+1),rfl,by omega,H39⟩
     case measure=>simp [intOf];omega
    ·refine rv (aA (decide_eq_false p29)) ?_
     refine nt (K17 _ _ (cf (wp_exit (ai (ai (ax (al (ab (K10 _ _ (rl ?_))))))))))
     refine rv (aL (((k+1:Nat):Int))) ?_
     refine wpList_nil ?_
     have H40:=Mem.bA (g:=au w0.heap.size 83 21) (st:=fe mgP pC 21 u n xs k q) (st':=st1 mgP pC u n xs (k+1)) H14 (fun i _=>by rw [show q=n k by omega];exact kY mgP pC 21 u n xs k hxl9 i)
     refine ab ?_
     show _∧_
     go_roundw
     case rel=>exact ⟨(k+1),rfl,by omega,H40⟩
     case measure=>simp [intOf];omega
  ·refine rv (aA (decide_eq_false p9)) ?_
   refine nt (K8 _ _ (cf (wp_exit (ai (ai (ax (ab (K2 _ _ (sk fun _ K41=>rl ?_)))))))))
   obtain ⟨inm72,iq72,ir72,is72,it72⟩:=info_parts rh
   refine wpList_make_full _ rfl _ _ 77 rfl w0.heap.size 72 _ _ 1 Tryz.underlying77 iq72 ir72 is72 _ _ _ _ m rfl rfl rfl rfl (by rw [it72];omega) (by simp only [maxLen];omega) (Mem.below H5).size ?_
   intro w42 ow gr
   refine rn ?_
   obtain ⟨gv0,hgv0⟩:∃ gv:List Value,gv=(madeCells (xag none 0 0).cells (m*1)).toList:=⟨_,rfl⟩
   rw [← hgv0] at ow
   have hgl0:=kR ow rfl
   rw [← fG gv0] at ow
   have H43:=Mem.make H5 ow gr
   obtain ⟨gg,hgg⟩:∃ g,g=wo4.heap.size:=⟨_,rfl⟩
   rw [← hgg] at H43 ⊢
   clear ow gr hgg hgv0
   refine rn ?_
   refine nt (K41 _ _ (sk fun _ K44=>sk fun _ K45=>rl ?_))
   refine nt (K45 _ _ (wp_block ?_))
   have H46:=Mem.bA (g:=au w0.heap.size 83 21) (st:=st1 mgP pC u n xs k) (st':=st2 mgP pC u n gv0 0) (Mem.pick H43 [1,0,2,3] (by decide) rfl) (fun i hi=>by rw [show k=m by omega];exact (mH mgP pC u n xs m i hi).trans (if_neg (Nat.not_lt_zero _)).symm)
   go_loopw [6] (fun x6 wr=>∃ k:Nat,∃ gv:List Value,x6=.int .i64 (k:Int)∧(k≤m)∧(gv.length=m)∧Mem w0 wr [Ent.all (xaf m) (fun i=>au w0.heap.size 83 21 (st2 mgP pC u n gv k i)),aq w0.heap.size 72 1 (.slice (some ⟨gg,0,none⟩) m m) m ((gv).flatMap vb),aq B2 72 1 (.slice A m c) m (((xaf m).map u).flatMap vb),R]) (fun x6 _=>m-(intOf x6).toNat)
   case atStart=>exact ⟨0,gv0,rfl,by omega,hgl0,H46⟩
   case round =>
    obtain ⟨wo47,rfl⟩:∃ wo47,wo47=wr:=⟨_,rfl⟩
    obtain ⟨k,gv,rfl,hk,hgl,H48⟩:=hrel
    refine sk fun _ K50=>sk fun _ K51=>rl ?_
    by_cases p52:(k:Int)<(m:Int)
    ·refine rv (aA (decide_eq_true p52)) ?_
     refine nt (K51 _ _ (ct (ks (K50 _ _ (sk fun _ K53=>wp_block (sk fun _ K54=>rl ?_))))))
     obtain ⟨b55,rfl,hlt58⟩:=aE (Mem.own H48 2 rfl) (by omega)
     obtain ⟨x59,hx60⟩:=gx (l:=((xaf m).map u)) (j:=k)
     have hd61:=ay hx60
     obtain rfl:=aJ hx60
     obtain ⟨A62,c63,hu64,hg65⟩:=hu0 k (by omega)
     refine rv (aT (s:=1) (k) Tryz.underlying77 (by kernel_rfl)) ?_
     refine rv (v:=.slice A62 (n k) c63) (by rw [← hu64];exact exec_load_cell 72 (.tmp 51) rfl ⟨b55,k*1,none⟩ rfl _ _ wo47 Tryz.underlying72 rfl (range_cell (bE (Mem.own H48 2 rfl) (by omega)))) ?_
     refine nt (K54 _ _ (sk fun _ K66=>sk fun _ K67=>rl ?_))
     refine nt (K67 _ _ (wp_block ?_))
     have H68:=Mem.bA (g:=au w0.heap.size 83 21) (st:=st2 mgP pC u n gv k) (st':=fo mgP pC u n gv (u k) k 0) H48 (fun i _=>iB mgP pC u n gv k i)
     have hnk:=hn k (by omega)
     rw [← hu64]
     go_loopw [7,8] (fun x7 x8 wr=>∃ q:Nat,∃ v:Value,v=x7∧x8=.int .i64 (q:Int)∧(q≤64)∧Mem w0 wr [Ent.all (xaf m) (fun i=>au w0.heap.size 83 21 (fo mgP pC u n gv v k q i)),aq w0.heap.size 72 1 (.slice (some ⟨gg,0,none⟩) m m) m ((gv).flatMap vb),aq B2 72 1 (.slice (some ⟨b55,0,none⟩) m c) m (((xaf m).map u).flatMap vb),R]) (fun x7 x8 _=>64-(intOf x8).toNat)
     case atStart=>exact ⟨0,((u k)),rfl,rfl,by omega,H68⟩
     case round =>
      obtain ⟨wo69,rfl⟩:∃ wo69,wo69=wr:=⟨_,rfl⟩
      obtain ⟨q,v,rfl,rfl,hq,H70⟩:=hrel
      refine sk fun _ K72=>sk fun _ K73=>rl ?_
      by_cases p74:(q:Int)<64
      ·refine rv (aA (decide_eq_true p74)) ?_
       refine nt (K73 _ _ (ct (ks (K72 _ _ (sk fun _ K75=>wp_block (rl ?_))))))
       obtain ⟨x76,hx77⟩:=gx (l:=((xaf m).map u)) (j:=k)
       have hd78:=ay hx77
       obtain rfl:=aJ hx77
       obtain ⟨A79,c80,hu81,hg82⟩:=hu0 k (by omega)
       refine rv (aT (s:=1) (k) Tryz.underlying77 (by kernel_rfl)) ?_
       refine rv (v:=.slice A79 (n k) c80) (by rw [← hu81];exact exec_load_cell 72 (.tmp 61) rfl ⟨b55,k*1,none⟩ rfl _ _ wo69 Tryz.underlying72 rfl (range_cell (bE (Mem.own H70 2 rfl) (by omega)))) ?_
       refine rv (aL ((((n k)+q:Nat):Int))) ?_
       refine ac (ix k ((n k)+q) wo69) ?_
       rintro e w83 ⟨rfl,hb85⟩
       refine ⟨_,rfl,rn ?_⟩
       have H84:=Mem.call H70 hb85
       refine aG rfl 72 (.tmp 66) rfl 83 21 (Value.agg zcP) (.agg (pC (mgP k ((n k)+q))).toArray) rfl Tryz.underlying72 b8 (by decide) (by decide) (fun w=>by kernel_rfl) (by rw [Value.cells,xal,bQ (cv k ((n k)+q))]) ?_
       intro w86 hn
       have H87:=Mem.bh H84 hn
       clear hn
       refine rn ?_
       obtain ⟨inm83,iq83,ir83,is83,it83⟩:=info_parts ni
       have hP9:=ig (mk:=mgP) (f:=pC) H87 (i0:=1) rfl (show k<m by omega)
       refine cZ rfl _ _ 72 rfl w0.heap.size 83 _ _ 21 40 Tryz.underlying72 iq83 ir83 is83 it83 rfl (by decide) v (n k+q) (mkC mgP pC k (n k+q)) hP9.2.1 (some ⟨w83.heap.size,0,none⟩) 1 1 (pC (mgP k ((n k)+q))) (bl (n:=21) (m:=1) (Mem.blk H87 0 rfl) (bQ (cv k ((n k)+q))) (jj (mgP k ((n k)+q)))) (by decide) (by simp only [maxLen];omega) (by omega) (Mem.below H87).size rfl rfl ?_
       intro v9 w88 ho9 hg9 hr9
       refine rn ?_
       have H89:=kC (mk:=mgP) (f:=pC) (Mem.pick H87 [1,0,2,3,4] (by decide) rfl) (show k<m by omega) ho9 hg9 hr9
       clear ho9 hg9 hr9 hP9
       refine rn ?_
       refine wpList_nil ?_
       refine al (ab (K75 _ _ (rl ?_)))
       refine rv (aL (((q+1:Nat):Int))) ?_
       refine wpList_nil ?_
       have H90:=Mem.pick H89 [0,2,3,4] (by decide) rfl
       refine ab ?_
       show _∧_
       go_roundw
       case rel=>exact ⟨(q+1),v9,rfl,rfl,by omega,H90⟩
       case measure=>simp [intOf];omega
      ·refine rv (aA (decide_eq_false p74)) ?_
       refine nt (K73 _ _ (cf (wp_exit (ai (ai (ax (ab (K66 _ _ (rl ?_)))))))))
       refine rv (aT (s:=1) (k) Tryz.underlying77 (by kernel_rfl)) ?_
       refine bN rfl 72 (.tmp 72) (.tmp 71) rfl (Mem.own H70 1 rfl) (k:=k) (by omega) (by kernel_rfl) v (by obtain ⟨_,_,e9⟩:=aI (ig (mk:=mgP) (f:=pC) H70 (i0:=0) rfl (show k<m by omega)).2.1;rw [show v=_ from e9];rfl) (by show xbu (some ⟨gg,k*1,none⟩)=_;rw [Nat.mul_one]) rfl ?_
       intro w91 ho9 hg9
       refine rn ?_
       rw [gy] at ho9
       have H92:=Mem.fu H70 1 rfl ho9 hg9
       clear ho9 hg9
       refine wpList_nil ?_
       refine al (ab (K53 _ _ (rl ?_)))
       refine rv (aL (((k+1:Nat):Int))) ?_
       refine wpList_nil ?_
       have H93:=Mem.bA (g:=au w0.heap.size 83 21) (st:=fo mgP pC u n gv v k q) (st':=st2 mgP pC u n (gv.set k v) (k+1)) H92 (fun i _=>by rw [show q=64 by omega];exact kZ mgP pC u n gv v k (by omega) i)
       refine ab ?_
       show _∧_
       go_roundw
       case rel=>exact ⟨(k+1),(gv.set k v),rfl,by omega,(by rw [xa6];exact hgl),H93⟩
       case measure=>simp [intOf];omega
    ·refine rv (aA (decide_eq_false p52)) ?_
     refine nt (K51 _ _ (cf (wp_exit (ai (ai (ax (ab (K44 _ _ (sk fun _ K94=>sk fun _ K95=>rl ?_)))))))))
     refine nt (K95 _ _ (wp_block ?_))
     have H96:=Mem.bA (g:=au w0.heap.size 83 21) (st:=st2 mgP pC u n gv k) (st':=st4 mgP pC u n gv m 0) H48 (fun i hi=>by rw [show k=m by omega];exact jF mgP pC u n gv m i hi)
     go_loopw [9] (fun x9 wr=>∃ k3:Nat,x9=.int .i64 (k3:Int)∧(k3≤m)∧Mem w0 wr [Ent.all (xaf m) (fun i=>au w0.heap.size 83 21 (st4 mgP pC u n gv m 0 i)),aq w0.heap.size 72 1 (.slice (some ⟨gg,0,none⟩) m m) m ((gv).flatMap vb),aq B2 72 1 (.slice A m c) m (((xaf m).map u).flatMap vb),R]) (fun x9 _=>m-(intOf x9).toNat)
     case atStart=>exact ⟨0,rfl,by omega,H96⟩
     case round =>
      obtain ⟨wo97,rfl⟩:∃ wo97,wo97=wr:=⟨_,rfl⟩
      obtain ⟨k3,rfl,hk3,H98⟩:=hrel
      refine sk fun _ K100=>sk fun _ K101=>rl ?_
      by_cases p102:(k3:Int)<(m:Int)
      ·refine rv (aA (decide_eq_true p102)) ?_
       refine nt (K101 _ _ (ct (ks (K100 _ _ (sk fun _ K103=>wp_block (sk fun _ K104=>rl ?_))))))
       refine nt (K104 _ _ (wp_block ?_))
       have hnk:=hn k3 (by omega)
       go_loopw [10] (fun x10 wr=>∃ i:Nat,x10=.int .i64 (i:Int)∧(i≤n k3+64)∧Mem w0 wr [Ent.all (xaf m) (fun i=>au w0.heap.size 83 21 (st4 mgP pC u n gv m 0 i)),aq w0.heap.size 72 1 (.slice (some ⟨gg,0,none⟩) m m) m ((gv).flatMap vb),aq B2 72 1 (.slice A m c) m (((xaf m).map u).flatMap vb),R]) (fun x10 _=>n k3+64-(intOf x10).toNat)
       case atStart=>exact ⟨0,rfl,by omega,H98⟩
       case round =>
        obtain ⟨wo105,rfl⟩:∃ wo105,wo105=wr:=⟨_,rfl⟩
        obtain ⟨i,rfl,hi,H106⟩:=hrel
        refine sk fun _ K108=>sk fun _ K109=>rl ?_
        obtain ⟨x110,hx111⟩:=gx (l:=gv) (j:=k3)
        have hd112:=ay hx111
        have hv113:=gh (mk:=mgP) (f:=pC) H106 (i0:=0) rfl (show k3<m by omega) (Nat.zero_le _) hx111
        obtain ⟨A114,c115,rfl⟩:=aI hv113
        refine rv (aT (s:=1) (k3) Tryz.underlying77 (by kernel_rfl)) ?_
        refine rv (xlc (range_cell (eg (Mem.own H106 1 rfl) hx111)) Tryz.underlying72) ?_
        by_cases p116:(i:Int)<(((n k3+64):Nat):Int)
        ·refine rv (aA (decide_eq_true p116)) ?_
         refine nt (K109 _ _ (ct (ks (K108 _ _ (sk fun _ K117=>wp_block (sk fun _ K118=>?_))))))
         obtain ⟨b119,rfl,hlt122⟩:=aE hv113 (by omega)
         obtain ⟨b123,rfl,hlt126⟩:=aE (Mem.own H106 2 rfl) (by omega)
         obtain ⟨x127,hx128⟩:=gx (l:=((xaf m).map u)) (j:=k3)
         have hd129:=ay hx128
         obtain rfl:=aJ hx128
         obtain ⟨A130,c131,hu132,hg133⟩:=hu0 k3 (by omega)
         refine Fre.aV (X:=Bel) [] (by kernel_rfl) (by kernel_rfl) (by simp) (by simp) (by simp) ?_
         refine Fre.rmd ?_
         refine Fre.mvv (fun _ _=>aT (s:=1) (k3) Tryz.underlying77 (by kernel_rfl)) ?_
         refine Fre.mvv (fun W9 hW9=>xlc (range_cell (eg (Mem.own (Mem.call H106 hW9) 1 rfl) hx111)) Tryz.underlying72) ?_
         refine Fre.mvv (fun _ _=>aT (i) Tryz.underlying72 b8) ?_
         refine Fre.mvv (fun W9 hW9=>xld (fy (mk:=mgP) (f:=pC) (k:=k3) (i:=i) (fun k i=>bQ (cv k i)) (gh (mk:=mgP) (f:=pC) (Mem.call H106 hW9) (i0:=0) rfl (show k3<m by omega) (Nat.zero_le _) hx111) (by omega)) Tryz.underlying83 (cj (cv k3 i))) ?_
         refine Fre.mc (fun W9 hW9=>ix k3 i W9) ?_
         refine Fre.rmd ?_
         refine Fre.mvv (fun W9 _=>bX 83 83 (.tmp 94) (.tmp 97) rfl (pC (mgP k3 i)).toArray (pC (mgP k3 i)).toArray rfl rfl (by kernel_rfl) _ W9 (by have h9:=fg ((mgP k3 i)) ((mgP k3 i)) (cv k3 i) (cv k3 i) W9;rwa [show decide _=true from (decide_eq_true rfl)] at h9)) ?_
         refine Fre.mvv (fun _ _=>aT (s:=1) (k3) Tryz.underlying77 (by kernel_rfl)) ?_
         refine Fre.mvv (v:=.slice A130 (n k3) c131) (fun W9 hW9=>by rw [← hu132];exact exec_load_cell 72 (.tmp 104) rfl ⟨b123,k3*1,none⟩ rfl _ _ W9 Tryz.underlying72 rfl (range_cell (bE (Mem.own (Mem.call H106 hW9) 2 rfl) (by omega)))) ?_
         by_cases p134:(i:Int)<(((n k3):Nat):Int)
         ·refine Fre.mvv (fun _ _=>aA (decide_eq_true p134)) ?_
          refine Fre.mvv (fun _ _=>aT (s:=1) (k3) Tryz.underlying77 (by kernel_rfl)) ?_
          refine Fre.mvv (v:=.slice A130 (n k3) c131) (fun W9 hW9=>by rw [← hu132];exact exec_load_cell 72 (.tmp 111) rfl ⟨b123,k3*1,none⟩ rfl _ _ W9 Tryz.underlying72 rfl (range_cell (bE (Mem.own (Mem.call H106 hW9) 2 rfl) (by omega)))) ?_
          obtain ⟨b135,rfl⟩:=hg133 (by omega)
          refine Fre.mvv (fun _ _=>aT (i) Tryz.underlying72 b8) ?_
          refine Fre.mvv (fun W9 hW9=>xld (fy (mk:=mgP) (f:=pC) (k:=k3) (i:=i) (fun k i=>bQ (cv k i)) (hu132▸eV (mk:=mgP) (f:=pC) (Mem.call H106 hW9) (i0:=0) rfl (by omega)) (by omega)) Tryz.underlying83 (cj (cv k3 i))) ?_
          refine Fre.mc (fun W9 hW9=>ix k3 i W9) ?_
          refine Fre.rmd ?_
          refine Fre.mvv (fun W9 _=>bX 83 83 (.tmp 115) (.tmp 118) rfl (pC (mgP k3 i)).toArray (pC (mgP k3 i)).toArray rfl rfl (by kernel_rfl) _ W9 (by have h9:=fg ((mgP k3 i)) ((mgP k3 i)) (cv k3 i) (cv k3 i) W9;rwa [show decide _=true from (decide_eq_true rfl)] at h9)) ?_
          intro w139 hx141
          dsimp only [Fre.ended,xas]
          have H140:=Mem.call H106 hx141
          refine ab (K118 _ _ (cf ?_))
          refine wp_skip ?_
          refine al (ab (K117 _ _ (rl ?_)))
          refine rv (aL (((i+1:Nat):Int))) ?_
          refine wpList_nil ?_
          refine ab ?_
          show _∧_
          go_roundw
          case rel=>exact ⟨(i+1),rfl,by omega,H140⟩
          case measure=>simp [intOf];omega
         ·refine Fre.mvv (fun _ _=>aA (decide_eq_false p134)) ?_
          intro w142 hx144
          dsimp only [Fre.ended,xas]
          have H143:=Mem.call H106 hx144
          refine ab (K118 _ _ (cf ?_))
          refine wp_skip ?_
          refine al (ab (K117 _ _ (rl ?_)))
          refine rv (aL (((i+1:Nat):Int))) ?_
          refine wpList_nil ?_
          refine ab ?_
          show _∧_
          go_roundw
          case rel=>exact ⟨(i+1),rfl,by omega,H143⟩
          case measure=>simp [intOf];omega
        ·refine rv (aA (decide_eq_false p116)) ?_
         refine nt (K109 _ _ (cf (wp_exit (ai (ai (ax (al (ab (K103 _ _ (rl ?_))))))))))
         refine rv (aL (((k3+1:Nat):Int))) ?_
         refine wpList_nil ?_
         refine ab ?_
         show _∧_
         go_roundw
         case rel=>exact ⟨(k3+1),rfl,by omega,H106⟩
         case measure=>simp [intOf];omega
      ·refine rv (aA (decide_eq_false p102)) ?_
       refine nt (K101 _ _ (cf (wp_exit (ai (ai (ax (ab (K94 _ _ (sk fun _ K145=>sk fun _ K146=>rl ?_)))))))))
       refine nt (K146 _ _ (wp_block ?_))
       obtain ⟨gw,hgw⟩:∃ g,g=gv:=⟨_,rfl⟩
       rw [← hgw] at H98
       rw [← hgw] at hgl
       have hgl6:=hgl
       clear hgl
       go_loopw [11] (fun x11 wr=>∃ k:Nat,∃ gv:List Value,x11=.int .i64 (k:Int)∧(k≤m)∧(gv.length=m)∧Mem w0 wr [Ent.all (xaf m) (fun i=>au w0.heap.size 83 21 (st4 mgP pC u n gv m k i)),aq w0.heap.size 72 1 (.slice (some ⟨gg,0,none⟩) m m) m ((gv).flatMap vb),aq B2 72 1 (.slice A m c) m (((xaf m).map u).flatMap vb),R]) (fun x11 _=>m-(intOf x11).toNat)
       case atStart=>exact ⟨0,gw,rfl,by omega,hgl6,H98⟩
       case round =>
        obtain ⟨wo147,rfl⟩:∃ wo147,wo147=wr:=⟨_,rfl⟩
        obtain ⟨k,gv,rfl,hk,hgl,H148⟩:=hrel
        refine sk fun _ K150=>sk fun _ K151=>rl ?_
        by_cases p152:(k:Int)<(m:Int)
        ·refine rv (aA (decide_eq_true p152)) ?_
         refine nt (K151 _ _ (ct (ks (K150 _ _ (sk fun _ K153=>wp_block (sk fun _ K154=>rl ?_))))))
         obtain ⟨inm83,iq83,ir83,is83,it83⟩:=info_parts ni
         refine wpList_make_full _ rfl _ _ 72 rfl w0.heap.size 83 _ _ 21 Tryz.underlying72 iq83 ir83 is83 _ _ _ _ 64 rfl rfl rfl rfl (by rw [it83];omega) (by simp only [maxLen];omega) (Mem.below H148).size ?_
         intro w155 ow gr
         refine rn ?_
         obtain ⟨zs,hzs⟩:∃ zs:List Value,zs=(madeCells (Value.agg zcP).cells (64*21)).toList:=⟨_,rfl⟩
         rw [← hzs] at ow
         have hzl:=ow.1
         have H156:=Mem.make H148 ow gr
         obtain ⟨gm,hgm⟩:∃ g,g=wo147.heap.size:=⟨_,rfl⟩
         rw [← hgm] at H156 ⊢
         clear ow gr hgm hzs
         refine rn ?_
         refine nt (K154 _ _ (sk fun _ K157=>sk fun _ K158=>rl ?_))
         refine nt (K158 _ _ (wp_block ?_))
         have hnk:=hn k (by omega)
         go_loopw [13] (fun x13 wr=>∃ i:Nat,x13=.int .i64 (i:Int)∧(i≤64)∧Mem w0 wr [aq w0.heap.size 83 21 (.slice (some ⟨gm,0,none⟩) 64 64) 64 (mkC mgP pC (k+m) i++zs.drop (i*21)),Ent.all (xaf m) (fun i=>au w0.heap.size 83 21 (st4 mgP pC u n gv m k i)),aq w0.heap.size 72 1 (.slice (some ⟨gg,0,none⟩) m m) m ((gv).flatMap vb),aq B2 72 1 (.slice A m c) m (((xaf m).map u).flatMap vb),R]) (fun x13 _=>64-(intOf x13).toNat)
         case atStart=>exact ⟨0,rfl,by omega,H156⟩
         case round =>
          obtain ⟨wo159,rfl⟩:∃ wo159,wo159=wr:=⟨_,rfl⟩
          obtain ⟨i,rfl,hi,H160⟩:=hrel
          refine sk fun _ K162=>sk fun _ K163=>rl ?_
          by_cases p164:(i:Int)<64
          ·refine rv (aA (decide_eq_true p164)) ?_
           refine nt (K163 _ _ (ct (ks (K162 _ _ (sk fun _ K165=>wp_block (rl ?_))))))
           refine rv (aL (((k+m:Nat):Int))) ?_
           refine ac (ix (k+m) i wo159) ?_
           rintro e w166 ⟨rfl,hb168⟩
           refine ⟨_,rfl,rn ?_⟩
           have H167:=Mem.call H160 hb168
           refine rv (aT (i) Tryz.underlying72 b8) ?_
           refine cU rfl 83 (.tmp 142) (.tmp 141) rfl (Mem.own H167 0 rfl) (k:=i) (pC (mgP (k+m) i)) (by omega) (bQ (cv (k+m) i)) (eQ (cv (k+m) i)) (r8 (mgP (k+m) i)) rfl rfl ?_
           intro w169 ho9 hg9 hz9
           refine rn ?_
           rw [jl mgP pC 21 (fun _=>zs) (fun k i=>bQ (cv k i)) (k+m) i] at ho9
           have H170:=Mem.fu H167 0 rfl ho9 hg9
           clear ho9 hg9
           refine wpList_nil ?_
           refine al (ab (K165 _ _ (rl ?_)))
           refine rv (aL (((i+1:Nat):Int))) ?_
           refine wpList_nil ?_
           refine ab ?_
           show _∧_
           go_roundw
           case rel=>exact ⟨(i+1),rfl,by omega,H170⟩
           case measure=>simp [intOf];omega
          ·refine rv (aA (decide_eq_false p164)) ?_
           refine nt (K163 _ _ (cf (wp_exit (ai (ai (ax (ab (K157 _ _ (rl ?_)))))))))
           obtain ⟨b171,rfl,hlt174⟩:=aE (Mem.own H160 3 rfl) (by omega)
           obtain ⟨x175,hx176⟩:=gx (l:=((xaf m).map u)) (j:=k)
           have hd177:=ay hx176
           obtain rfl:=aJ hx176
           obtain ⟨A178,c179,hu180,hg181⟩:=hu0 k (by omega)
           refine rv (aT (s:=1) (k) Tryz.underlying77 (by kernel_rfl)) ?_
           refine rv (v:=.slice A178 (n k) c179) (by rw [← hu180];exact exec_load_cell 72 (.tmp 147) rfl ⟨b171,k*1,none⟩ rfl _ _ wo159 Tryz.underlying72 rfl (range_cell (bE (Mem.own H160 3 rfl) (by omega)))) ?_
           have hie:i=64:=by omega
           subst hie
           have hU9:=eV (mk:=mgP) (f:=pC) H160 (i0:=1) rfl (show k<m by omega)
           rw [xaT] at hU9
           have hM9:=Mem.own H160 0 rfl
           rw [List.drop_of_length_le (by omega),xaT] at hM9
           refine cZ rfl _ _ 72 rfl w0.heap.size 83 _ _ 21 40 Tryz.underlying72 iq83 ir83 is83 it83 rfl (by decide) (u k) (n k) (mkC mgP pC k (n k)) hU9 (some ⟨gm,0,none⟩) 64 64 (mkC mgP pC (k+m) 64) (kS hM9 (mD mgP pC (fun k i=>jj _) _ _)) (by decide) (by simp only [maxLen];omega) (by omega) (Mem.below H160).size hu180.symm rfl ?_
           intro v9 w182 ho9 hg9 hr9
           refine rn ?_
           have H183:=kD (mk:=mgP) (f:=pC) (Mem.pick H160 [1,0,2,3,4] (by decide) rfl) (show k<m by omega) hgl ho9 hg9 hr9
           obtain ⟨A9,c99,hv9⟩:=aI ho9
           clear ho9 hg9 hr9 hU9 hM9
           refine rv (aT (s:=1) (k) Tryz.underlying77 (by kernel_rfl)) ?_
           refine bN rfl 72 (.tmp 151) (.tmp 150) rfl (Mem.own H183 2 rfl) (k:=k) (by omega) (by kernel_rfl) v9 (by rw [hv9];rfl) (by show xbu (some ⟨gg,k*1,none⟩)=_;rw [Nat.mul_one]) rfl ?_
           intro w184 ho9 hg9
           refine rn ?_
           rw [gy] at ho9
           have H185:=Mem.fu H183 2 rfl ho9 hg9
           clear ho9 hg9
           refine wpList_nil ?_
           refine al (ab (K153 _ _ (rl ?_)))
           refine rv (aL (((k+1:Nat):Int))) ?_
           refine wpList_nil ?_
           have H186:=Mem.pick H185 [0,2,3,4] (by decide) rfl
           refine ab ?_
           show _∧_
           go_roundw
           case rel=>exact ⟨(k+1),(gv.set k v9),rfl,by omega,(by rw [xa6];exact hgl),H186⟩
           case measure=>simp [intOf];omega
        ·refine rv (aA (decide_eq_false p152)) ?_
         refine nt (K151 _ _ (cf (wp_exit (ai (ai (ax (ab (K145 _ _ (sk fun _ K187=>sk fun _ K188=>rl ?_)))))))))
         refine nt (K188 _ _ (wp_block ?_))
         have hke8:k=m:=by omega
         rw [hke8] at H148
         go_loopw [14] (fun x14 wr=>∃ k5:Nat,x14=.int .i64 (k5:Int)∧(k5≤m)∧Mem w0 wr [Ent.all (xaf m) (fun i=>au w0.heap.size 83 21 (st4 mgP pC u n gv m m i)),aq w0.heap.size 72 1 (.slice (some ⟨gg,0,none⟩) m m) m ((gv).flatMap vb),aq B2 72 1 (.slice A m c) m (((xaf m).map u).flatMap vb),R]) (fun x14 _=>m-(intOf x14).toNat)
         case atStart=>exact ⟨0,rfl,by omega,H148⟩
         case round =>
          obtain ⟨wo189,rfl⟩:∃ wo189,wo189=wr:=⟨_,rfl⟩
          obtain ⟨k5,rfl,hk5,H190⟩:=hrel
          refine sk fun _ K192=>sk fun _ K193=>rl ?_
          by_cases p194:(k5:Int)<(m:Int)
          ·refine rv (aA (decide_eq_true p194)) ?_
           refine nt (K193 _ _ (ct (ks (K192 _ _ (sk fun _ K195=>wp_block (sk fun _ K196=>rl ?_))))))
           refine nt (K196 _ _ (wp_block ?_))
           have hnk:=hn k5 (by omega)
           go_loopw [15] (fun x15 wr=>∃ i:Nat,x15=.int .i64 (i:Int)∧(i≤n k5)∧Mem w0 wr [Ent.all (xaf m) (fun i=>au w0.heap.size 83 21 (st4 mgP pC u n gv m m i)),aq w0.heap.size 72 1 (.slice (some ⟨gg,0,none⟩) m m) m ((gv).flatMap vb),aq B2 72 1 (.slice A m c) m (((xaf m).map u).flatMap vb),R]) (fun x15 _=>n k5-(intOf x15).toNat)
           case atStart=>exact ⟨0,rfl,by omega,H190⟩
           case round =>
            obtain ⟨wo197,rfl⟩:∃ wo197,wo197=wr:=⟨_,rfl⟩
            obtain ⟨i,rfl,hi,H198⟩:=hrel
            refine sk fun _ K200=>sk fun _ K201=>rl ?_
            obtain ⟨b202,rfl,hlt205⟩:=aE (Mem.own H198 2 rfl) (by omega)
            obtain ⟨x206,hx207⟩:=gx (l:=((xaf m).map u)) (j:=k5)
            have hd208:=ay hx207
            obtain rfl:=aJ hx207
            obtain ⟨A209,c210,hu211,hg212⟩:=hu0 k5 (by omega)
            refine rv (aT (s:=1) (k5) Tryz.underlying77 (by kernel_rfl)) ?_
            refine rv (v:=.slice A209 (n k5) c210) (by rw [← hu211];exact exec_load_cell 72 (.tmp 161) rfl ⟨b202,k5*1,none⟩ rfl _ _ wo197 Tryz.underlying72 rfl (range_cell (bE (Mem.own H198 2 rfl) (by omega)))) ?_
            by_cases p213:(i:Int)<(((n k5):Nat):Int)
            ·refine rv (aA (decide_eq_true p213)) ?_
             refine nt (K201 _ _ (ct (ks (K200 _ _ (sk fun _ K214=>wp_block (sk fun _ K215=>?_))))))
             obtain ⟨b216,rfl⟩:=hg212 (by omega)
             obtain ⟨x220,hx221⟩:=gx (l:=gv) (j:=k5)
             have hd222:=ay hx221
             have hv223:=gi (mk:=mgP) (f:=pC) H198 (i0:=0) rfl (show k5<m by omega) (by omega) hx221
             obtain ⟨A224,c225,rfl⟩:=aI hv223
             obtain ⟨b226,rfl,hlt229⟩:=aE hv223 (by omega)
             refine Fre.aV (X:=Bel) [] (by kernel_rfl) (by kernel_rfl) (by simp) (by simp) (by simp) ?_
             refine Fre.rmd ?_
             refine Fre.mvv (fun _ _=>aT (s:=1) (k5) Tryz.underlying77 (by kernel_rfl)) ?_
             refine Fre.mvv (v:=.slice (some ⟨b216,0,none⟩) (n k5) c210) (fun W9 hW9=>by rw [← hu211];exact exec_load_cell 72 (.tmp 169) rfl ⟨b202,k5*1,none⟩ rfl _ _ W9 Tryz.underlying72 rfl (range_cell (bE (Mem.own (Mem.call H198 hW9) 2 rfl) (by omega)))) ?_
             refine Fre.mvv (fun _ _=>aT (i) Tryz.underlying72 b8) ?_
             refine Fre.mvv (fun W9 hW9=>xld (fy (mk:=mgP) (f:=pC) (k:=k5) (i:=i) (fun k i=>bQ (cv k i)) (hu211▸eV (mk:=mgP) (f:=pC) (Mem.call H198 hW9) (i0:=0) rfl (by omega)) (by omega)) Tryz.underlying83 (cj (cv k5 i))) ?_
             refine Fre.mc (fun W9 hW9=>ix k5 i W9) ?_
             refine Fre.rmd ?_
             refine Fre.mvv (fun W9 _=>bX 83 83 (.tmp 173) (.tmp 176) rfl (pC (mgP k5 i)).toArray (pC (mgP k5 i)).toArray rfl rfl (by kernel_rfl) _ W9 (by have h9:=fg ((mgP k5 i)) ((mgP k5 i)) (cv k5 i) (cv k5 i) W9;rwa [show decide _=true from (decide_eq_true rfl)] at h9)) ?_
             refine Fre.mvv (fun _ _=>aT (s:=1) (k5) Tryz.underlying77 (by kernel_rfl)) ?_
             refine Fre.mvv (fun W9 hW9=>xlc (range_cell (eg (Mem.own (Mem.call H198 hW9) 1 rfl) hx221)) Tryz.underlying72) ?_
             refine Fre.mvv (fun _ _=>aT (i) Tryz.underlying72 b8) ?_
             refine Fre.mvv (fun W9 hW9=>xld (fy (mk:=mgP) (f:=pC) (k:=k5) (i:=i) (fun k i=>bQ (cv k i)) (gi (mk:=mgP) (f:=pC) (Mem.call H198 hW9) (i0:=0) rfl (show k5<m by omega) (by omega) hx221) (by omega)) Tryz.underlying83 (cj (cv k5 i))) ?_
             refine Fre.mc (fun W9 hW9=>ix k5 i W9) ?_
             refine Fre.rmd ?_
             refine Fre.mvv (fun W9 _=>bX 83 83 (.tmp 186) (.tmp 189) rfl (pC (mgP k5 i)).toArray (pC (mgP k5 i)).toArray rfl rfl (by kernel_rfl) _ W9 (by have h9:=fg ((mgP k5 i)) ((mgP k5 i)) (cv k5 i) (cv k5 i) W9;rwa [show decide _=true from (decide_eq_true rfl)] at h9)) ?_
             intro w230 hx232
             dsimp only [Fre.ended,xas]
             have H231:=Mem.call H198 hx232
             refine ab (K215 _ _ (cf ?_))
             refine wp_skip ?_
             refine al (ab (K214 _ _ (rl ?_)))
             refine rv (aL (((i+1:Nat):Int))) ?_
             refine wpList_nil ?_
             refine ab ?_
             show _∧_
             go_roundw
             case rel=>exact ⟨(i+1),rfl,by omega,H231⟩
             case measure=>simp [intOf];omega
            ·refine rv (aA (decide_eq_false p213)) ?_
             refine nt (K201 _ _ (cf (wp_exit (ai (ai (ax (al (ab (K195 _ _ (rl ?_))))))))))
             refine rv (aL (((k5+1:Nat):Int))) ?_
             refine wpList_nil ?_
             refine ab ?_
             show _∧_
             go_roundw
             case rel=>exact ⟨(k5+1),rfl,by omega,H198⟩
             case measure=>simp [intOf];omega
          ·refine rv (aA (decide_eq_false p194)) ?_
           refine nt (K193 _ _ (cf (wp_exit (ai (ai (ax (ab (K187 _ _ (sk fun _ K233=>rl ?_)))))))))
           refine nt (K233 _ _ (rt ?_))
           exact ⟨rfl,(Mem.pick H190 [2,3] (by decide) rfl)⟩
end Go.Proofs.YtomnhnmciopiiaaGreat
end
section
namespace Go.Proofs.YtomnhnmciopiiaaGreat
open Go Go.RowKit Go.Maps
attribute [local irreducible] wpList
def dY (r:Value):List Value:=[.slice none 0 0,.slice none 0 0,.slice none 0 0,.slice none 0 0,.slice none 0 0,.slice none 0 0,.slice none 0 0,r,.slice none 0 0,.slice none 0 0,.slice none 0 0,.slice none 0 0,.slice none 0 0,.slice none 0 0,.slice none 0 0,.slice none 0 0,.slice none 0 0,.slice none 0 0,.slice none 0 0,.slice none 0 0,.slice none 0 0]
theorem aS {w:World} {g:Nat} {r:Value} (i:Nat) (v:Value) (hv:(dY r)[i]?=some v) (h:w.rangeAt g 0 (dY r)):w.rangeAt g i [v]:=fun j u hu=>by
 cases j with
 | zero =>
  have h1:=h i v hv
  injection hu with hu
  rw [← hu]
  rwa [Nat.zero_add] at h1
 | succ j=>simp at hu
theorem qZ:(Tryz.prog.info? 72).map (fun i=>(i.zero,i.size,i.bytes))=some (some (.slice none 0 0),1,24):=by kernel_rfl
theorem ov (w:World):Calls Tryz.prog 104 #[.slice none 0 0] w fun e w'=>e=.returned (.bool true)∧Below w.heap.size w w':=by
 have hb:=jI w w ⟨fun _=>False,fun _=>True⟩ 0 (fun _=>.slice none 0 0) (fun _=>0) (fun _=>[]) w.heap.size none 0 (by omega) (fun i hi=>by omega) ?_
 ·exact hb.mono fun e w' ⟨h1,h2⟩=>⟨h1,h2.below⟩
 ·refine Mem.cons (Mem.cons (Mem.cons (Mem.start w) (fun _ _ _ _=>trivial) trivial (fun b hb=>hb.elim)) (cM _ _ _ _ _ _) (xaW _ _ _ _) (fun b hb=>by cases hb)) ?_ ?_ ?_
  ·exact Ent.mL fun x hx=>by simp at hx
  ·exact ⟨fun x hx=>by simp at hx,List.Pairwise.nil⟩
  ·rintro b ⟨x,hx,_⟩
   simp at hx
theorem p0 (w0 w:World) (R:Ent) (g:Nat) (l:List Value) (A1:Option Addr) (c1:Nat) (x:Value) (hx1:il x) (hl:l.length≤100000000) (hm:Mem w0 w [cC g 125 (dY (.slice A1 l.length c1)).toArray,b3 w0.heap.size 72 A1 c1 l,R]) :
  Calls Tryz.prog 81 #[.pointer (some ⟨g,0,none⟩),x] w fun e w'=>e=.returned (.tuple #[])∧∃ A2 c2,Mem w0 w' [cC g 125 (dY (.slice A2 (l++[x]).length c2)).toArray,b3 w0.heap.size 72 A2 c2 (l++[x]),R]:=by
 obtain ⟨Ax,nx,cx,rfl⟩:=hx1
 unfold b3 at hm ⊢
 go_enter Tryz.func81,Tryz.ntmps81
 refine rl ?_
 refine rp g 0 ?_
 refine rp g 7 ?_
 refine rv (xlc (range_cell (aS 7 _ rfl (Blk.range (Mem.blk hm 0 rfl)))) Tryz.underlying77) ?_
 refine aG rfl 77 (.tmp 9) rfl 72 1 (xag none 0 0) (.slice Ax nx cx) rfl Tryz.underlying77 (by kernel_rfl) (by decide) (by decide) (fun w=>by kernel_rfl) rfl ?_
 intro w1 hn
 have H2:=Mem.bh hm hn
 clear hn
 refine rn ?_
 obtain ⟨inm72,iq72,ir72,is72,it72⟩:=info_parts qZ
 refine aD rfl _ _ 77 rfl (w0.heap.size) 72 _ _ 1 24 Tryz.underlying77 iq72 ir72 is72 it72 rfl (by decide) (.slice A1 l.length c1) ((l).length) ((l).flatMap vb) (Mem.own H2 2 rfl) ((some ⟨w.heap.size,0,none⟩)) (1) (1) ([.slice Ax nx cx]) (bl (n:=1) (m:=1) (Mem.blk H2 0 rfl) rfl (fun u hu=>by rw [xan.1 hu];rfl)) ?hmt3 ?hbt3 ?hzt3 rfl rfl ?_
 case hmt3=>simp only [maxLen];omega
 case hbt3=>omega
 case hzt3=>exact (Mem.below H2).size
 intro u6 w4 ow9 gr10 hp11
 refine rn ?_
 have ow9:w4.ownsRow (w0.heap.size) 72 1 u6 (l++[(xag Ax nx cx)]).length ((l++[(xag Ax nx cx)]).flatMap vb):=by first | simpa using ow9 | simpa [vb] using ow9 | (simp at ow9 ⊢;exact ow9)
 obtain ⟨A7,c8,rfl⟩:=aI ow9
 have H5:=Mem.app H2 2 rfl ow9 gr10 hp11
 clear ow9 gr10 hp11
 refine rp g 0 ?_
 refine rp g 7 ?_
 refine bM rfl 77 (.tmp 13) (.tmp 11) rfl g (7) 125 (dY (.slice A1 l.length c1)).toArray (Mem.blk H5 1 rfl) (xaL rfl) (by kernel_rfl) (.slice A7 (l++[(xag Ax nx cx)]).length c8) rfl rfl rfl ?_
 intro w12 hk hg hz
 have H13:=Mem.st (cs':=(dY (.slice A7 (l++[(xag Ax nx cx)]).length c8)).toArray) H5 1 rfl hk hg
 clear hk hg hz
 refine rn ?_
 refine wpList_nil ?_
 refine bodyPost_end (results_none rfl _ _ _) rfl ?_
 exact ⟨rfl,_,_,(Mem.pick H13 [1,2,3] (by decide) rfl)⟩
theorem sX (w0 w:World) (L:List Ent) (m:Nat) (u:Nat→Value) (n:Nat→Nat) (x:Nat→List Value) (A:Option Addr) (c:Nat) (hm9:m≤1000000) (hn9:∀ i,i<m→n i≤1000000) (hm:Mem w0 w (Ent.all (xaf m) (fun i=>au w0.heap.size 83 21 (PS.self (u i) (n i) (x i))) :: aq w0.heap.size 72 1 (.slice A m c) m (((xaf m).map u).flatMap vb) :: L)) :
  Calls Tryz.prog 106 #[.slice A m c] w fun e w'=>e=.returned (.bool true)∧Mem w0 w' (aq w0.heap.size 72 1 (.slice A m c) m (((xaf m).map u).flatMap vb) :: L):=by
 obtain ⟨hp,hok,hfar⟩:=Mem.pack [Ent.all (xaf m) (fun i=>au w0.heap.size 83 21 (PS.self (u i) (n i) (x i))),aq w0.heap.size 72 1 (.slice A m c) m (((xaf m).map u).flatMap vb)] hm
 exact (oy w0 w _ m u n x _ A c hm9 hn9 hp).mono fun e w' ⟨h1,h2⟩=>⟨h1,Mem.unpack [aq w0.heap.size 72 1 (.slice A m c) m (((xaf m).map u).flatMap vb)] h2 hok hfar⟩
theorem mP (w0 w:World) (R:Ent) (g:Nat) (m:Nat) (u:Nat→Value) (n:Nat→Nat) (x:Nat→List Value) (A:Option Addr) (c:Nat) (hm9:m≤1000000) (hn9:∀ i,i<m→n i≤1000000)
  (hm:Mem w0 w [Ent.all (xaf m) (fun i=>au w0.heap.size 83 21 (PS.self (u i) (n i) (x i))),aq w0.heap.size 72 1 (.slice A m c) m (((xaf m).map u).flatMap vb),cC g 125 (dY (.slice A m c)).toArray,R]) :
  Calls Tryz.prog 71 #[.pointer (some ⟨g,0,none⟩)] w fun e w'=>e=.returned (.bool true)∧Mem w0 w' [R]:=by
 go_enter Tryz.func71,Tryz.ntmps71
 refine sk fun _ K1=>rl ?_
 refine nt (K1 _ _ (sk fun _ K2=>rl ?_))
 refine rp g 0 ?_
 refine rp g 0 ?_
 refine rv (xlc (range_cell (aS 0 _ rfl (Blk.range (Mem.blk hm 2 rfl)))) Tryz.underlying106) ?_
 refine ac (jJ w) ?_
 rintro e w3 ⟨rfl,hb5⟩
 refine ⟨_,rfl,rn ?_⟩
 have H4:=Mem.call hm hb5
 refine rn ?_
 refine rp g 0 ?_
 refine rp g 1 ?_
 refine rv (xlc (range_cell (aS 1 _ rfl (Blk.range (Mem.blk H4 2 rfl)))) Tryz.underlying107) ?_
 refine ac (jP w3) ?_
 rintro e w6 ⟨rfl,hb8⟩
 refine ⟨_,rfl,rn ?_⟩
 have H7:=Mem.call H4 hb8
 refine rn ?_
 refine rp g 0 ?_
 refine rp g 2 ?_
 refine rv (xlc (range_cell (aS 2 _ rfl (Blk.range (Mem.blk H7 2 rfl)))) Tryz.underlying108) ?_
 refine ac (kG w6) ?_
 rintro e w9 ⟨rfl,hb11⟩
 refine ⟨_,rfl,rn ?_⟩
 have H10:=Mem.call H7 hb11
 refine rn ?_
 refine rp g 0 ?_
 refine rp g 3 ?_
 refine rv (xlc (range_cell (aS 3 _ rfl (Blk.range (Mem.blk H10 2 rfl)))) Tryz.underlying109) ?_
 refine ac (jL w9) ?_
 rintro e w12 ⟨rfl,hb14⟩
 refine ⟨_,rfl,rn ?_⟩
 have H13:=Mem.call H10 hb14
 refine rn ?_
 refine rp g 0 ?_
 refine rp g 4 ?_
 refine rv (xlc (range_cell (aS 4 _ rfl (Blk.range (Mem.blk H13 2 rfl)))) Tryz.underlying110) ?_
 refine ac (jO w12) ?_
 rintro e w15 ⟨rfl,hb17⟩
 refine ⟨_,rfl,rn ?_⟩
 have H16:=Mem.call H13 hb17
 refine rn ?_
 refine rp g 0 ?_
 refine rp g 5 ?_
 refine rv (xlc (range_cell (aS 5 _ rfl (Blk.range (Mem.blk H16 2 rfl)))) Tryz.underlying95) ?_
 refine ac (ov w15) ?_
 rintro e w18 ⟨rfl,hb20⟩
 refine ⟨_,rfl,rn ?_⟩
 have H19:=Mem.call H16 hb20
 refine rn ?_
 refine rp g 0 ?_
 refine rp g 6 ?_
 refine rv (xlc (range_cell (aS 6 _ rfl (Blk.range (Mem.blk H19 2 rfl)))) Tryz.underlying111) ?_
 refine ac (iY w18) ?_
 rintro e w21 ⟨rfl,hb23⟩
 refine ⟨_,rfl,rn ?_⟩
 have H22:=Mem.call H19 hb23
 refine rn ?_
 refine rp g 0 ?_
 refine rp g 7 ?_
 refine rv (xlc (range_cell (aS 7 _ rfl (Blk.range (Mem.blk H22 2 rfl)))) Tryz.underlying77) ?_
 refine ac (sX w0 w21 _ m u n x A c hm9 hn9 (Mem.pick H22 [0,1,2,3] (by decide) rfl)) ?_
 rintro e w25 ⟨rfl,hm24⟩
 refine ⟨_,rfl,rn ?_⟩
 have H26:=hm24
 refine rn ?_
 refine rp g 0 ?_
 refine rp g 8 ?_
 refine rv (xlc (range_cell (aS 8 _ rfl (Blk.range (Mem.blk H26 1 rfl)))) Tryz.underlying112) ?_
 refine ac (kH w25) ?_
 rintro e w28 ⟨rfl,hb30⟩
 refine ⟨_,rfl,rn ?_⟩
 have H29:=Mem.call H26 hb30
 refine rn ?_
 refine rp g 0 ?_
 refine rp g 9 ?_
 refine rv (xlc (range_cell (aS 9 _ rfl (Blk.range (Mem.blk H29 1 rfl)))) Tryz.underlying113) ?_
 refine ac (jN w28) ?_
 rintro e w31 ⟨rfl,hb33⟩
 refine ⟨_,rfl,rn ?_⟩
 have H32:=Mem.call H29 hb33
 refine rn ?_
 refine rp g 0 ?_
 refine rp g 10 ?_
 refine rv (xlc (range_cell (aS 10 _ rfl (Blk.range (Mem.blk H32 1 rfl)))) Tryz.underlying114) ?_
 refine ac (jK w31) ?_
 rintro e w34 ⟨rfl,hb36⟩
 refine ⟨_,rfl,rn ?_⟩
 have H35:=Mem.call H32 hb36
 refine rn ?_
 refine rp g 0 ?_
 refine rp g 11 ?_
 refine rv (xlc (range_cell (aS 11 _ rfl (Blk.range (Mem.blk H35 1 rfl)))) Tryz.underlying115) ?_
 refine ac (iF w34) ?_
 rintro e w37 ⟨rfl,hb39⟩
 refine ⟨_,rfl,rn ?_⟩
 have H38:=Mem.call H35 hb39
 refine rn ?_
 refine rp g 0 ?_
 refine rp g 12 ?_
 refine rv (xlc (range_cell (aS 12 _ rfl (Blk.range (Mem.blk H38 1 rfl)))) Tryz.underlying116) ?_
 refine ac (kI w37) ?_
 rintro e w40 ⟨rfl,hb42⟩
 refine ⟨_,rfl,rn ?_⟩
 have H41:=Mem.call H38 hb42
 refine rn ?_
 refine rp g 0 ?_
 refine rp g 13 ?_
 refine rv (xlc (range_cell (aS 13 _ rfl (Blk.range (Mem.blk H41 1 rfl)))) Tryz.underlying117) ?_
 refine ac (iG w40) ?_
 rintro e w43 ⟨rfl,hb45⟩
 refine ⟨_,rfl,rn ?_⟩
 have H44:=Mem.call H41 hb45
 refine rn ?_
 refine rp g 0 ?_
 refine rp g 14 ?_
 refine rv (xlc (range_cell (aS 14 _ rfl (Blk.range (Mem.blk H44 1 rfl)))) Tryz.underlying118) ?_
 refine ac (iX w43) ?_
 rintro e w46 ⟨rfl,hb48⟩
 refine ⟨_,rfl,rn ?_⟩
 have H47:=Mem.call H44 hb48
 refine rn ?_
 refine rp g 0 ?_
 refine rp g 15 ?_
 refine rv (xlc (range_cell (aS 15 _ rfl (Blk.range (Mem.blk H47 1 rfl)))) Tryz.underlying119) ?_
 refine ac (np w46) ?_
 rintro e w49 ⟨rfl,hb51⟩
 refine ⟨_,rfl,rn ?_⟩
 have H50:=Mem.call H47 hb51
 refine rn ?_
 refine rp g 0 ?_
 refine rp g 16 ?_
 refine rv (xlc (range_cell (aS 16 _ rfl (Blk.range (Mem.blk H50 1 rfl)))) Tryz.underlying55) ?_
 refine ac (qe w49) ?_
 rintro e w52 ⟨rfl,hb54⟩
 refine ⟨_,rfl,rn ?_⟩
 have H53:=Mem.call H50 hb54
 refine rn ?_
 refine rp g 0 ?_
 refine rp g 17 ?_
 refine rv (xlc (range_cell (aS 17 _ rfl (Blk.range (Mem.blk H53 1 rfl)))) Tryz.underlying120) ?_
 refine ac (jM w52) ?_
 rintro e w55 ⟨rfl,hb57⟩
 refine ⟨_,rfl,rn ?_⟩
 have H56:=Mem.call H53 hb57
 refine rn ?_
 refine rp g 0 ?_
 refine rp g 18 ?_
 refine rv (xlc (range_cell (aS 18 _ rfl (Blk.range (Mem.blk H56 1 rfl)))) Tryz.underlying121) ?_
 refine ac (iV w55) ?_
 rintro e w58 ⟨rfl,hb60⟩
 refine ⟨_,rfl,rn ?_⟩
 have H59:=Mem.call H56 hb60
 refine rn ?_
 refine rp g 0 ?_
 refine rp g 19 ?_
 refine rv (xlc (range_cell (aS 19 _ rfl (Blk.range (Mem.blk H59 1 rfl)))) Tryz.underlying122) ?_
 refine ac (gL w58) ?_
 rintro e w61 ⟨rfl,hb63⟩
 refine ⟨_,rfl,rn ?_⟩
 have H62:=Mem.call H59 hb63
 refine rn ?_
 refine rp g 0 ?_
 refine rp g 20 ?_
 refine rv (xlc (range_cell (aS 20 _ rfl (Blk.range (Mem.blk H62 1 rfl)))) Tryz.underlying123) ?_
 refine ac (iH w61) ?_
 rintro e w64 ⟨rfl,hb66⟩
 refine ⟨_,rfl,rn ?_⟩
 have H65:=Mem.call H62 hb66
 refine rn ?_
 refine nt (K2 _ _ (rt ?_))
 exact ⟨rfl,(Mem.pick H65 [2] (by decide) rfl)⟩
theorem qM (u:Nat→Value) (k:Nat):(xaf (k+1)).map u=(xaf k).map u++[u k]:=by
 rw [List.range_succ,List.map_append]
 rfl
theorem mN (w0 w:World) (R:Ent) (B4:Nat) (m:Nat) (u:Nat→Value) (n:Nat→Nat) (x:Nat→List Value) (A:Option Addr) (c:Nat) (hm9:m≤1000) (hn9:∀ i,i<m→n i≤1000000) (hsl:∀ k,k<m→∃ A c,u k=.slice A (n k) c)
  (hm:Mem w0 w [Ent.all (xaf m) (fun i=>au w0.heap.size 83 21 (PS.self (u i) (n i) (x i))),aq B4 72 1 (.slice A m c) m (((xaf m).map u).flatMap vb),R]) :
  Calls Tryz.prog 48 #[.slice A m c] w fun e w'=>e=.returned (.bool true)∧Mem w0 w' [R]:=by
 have hRl0:=Mem.own hm 1 rfl
 go_enter Tryz.func48,Tryz.ntmps48
 refine sk fun _ K1=>rl ?_
 refine nt (K1 _ _ (sk fun _ K2=>rl ?_))
 refine rv (v:=.agg (dY (.slice none 0 0)).toArray) (by kernel_rfl) ?_
 refine bx 125 (dY (.slice none 0 0)) fun w3 hn_=>?_
 have H4:=Mem.bh hm hn_
 refine rn ?_
 refine nt (K2 _ _ (sk fun _ K5=>sk fun _ K6=>rl ?_))
 refine nt (K6 _ _ (wp_block ?_))
 have H7:=Mem.dw H4 w0.heap.size 72 1
 obtain ⟨g,hg⟩:∃ g,g=w.heap.size:=⟨_,rfl⟩
 rw [← hg] at H7 ⊢
 have H8:=Mem.pick H7 [1,0,2,3,4] (by decide) rfl
 go_loopw [4] (fun x4 wr=>∃ k:Nat,∃ ps9:List Value,∃ Ap:Option Addr,∃ cp:Nat,x4=.int .i64 (k:Int)∧(k≤m)∧(ps9=(xaf k).map u)∧Mem w0 wr [cC g 125 (dY (.slice Ap ps9.length cp)).toArray,b3 w0.heap.size 72 Ap cp ps9,Ent.all (xaf m) (fun i=>au w0.heap.size 83 21 (PS.self (u i) (n i) (x i))),aq B4 72 1 (.slice A m c) m (((xaf m).map u).flatMap vb),R]) (fun x4 _=>m-(intOf x4).toNat)
 case atStart=>exact ⟨0,([]:List Value),none,0,rfl,by omega,rfl,H8⟩
 case round =>
  obtain ⟨wo9,rfl⟩:∃ wo9,wo9=wr:=⟨_,rfl⟩
  obtain ⟨k,ps9,Ap,cp,rfl,hk,hps,H10⟩:=hrel
  have hp9:ps9.length≤1000000:=by rw [hps,xat,List.length_range];omega
  refine sk fun _ K12=>sk fun _ K13=>rl ?_
  by_cases p14:(k:Int)<(m:Int)
  ·refine rv (aA (decide_eq_true p14)) ?_
   refine nt (K13 _ _ (ct (ks (K12 _ _ (sk fun _ K15=>wp_block (rl ?_))))))
   obtain ⟨b16,rfl⟩:=(fun h0=>(aE hRl0 h0).imp fun _ h9=>h9.1) (by omega)
   obtain ⟨A20,c21,hu22⟩:=hsl k (by omega)
   refine rv (aT (s:=1) (k) Tryz.underlying77 (by kernel_rfl)) ?_
   refine rv (v:=.slice A20 (n k) c21) (by rw [← hu22];exact exec_load_cell 72 (.tmp 16) rfl ⟨b16,k*1,none⟩ rfl _ _ wo9 Tryz.underlying72 rfl (range_cell (bE (Mem.own H10 3 rfl) (by omega)))) ?_
   obtain ⟨hp26,hok27,hfar28⟩:=Mem.pack [_,_] (Mem.pick H10 [0,1,2,3,4] (by decide) rfl)
   refine ac (p0 w0 wo9 _ g ps9 Ap cp (.slice A20 (n k) c21) ⟨_,_,_,rfl⟩ (by omega) hp26) ?_
   rintro e w29 ⟨rfl,A23,c24,hm25⟩
   refine ⟨_,rfl,rn ?_⟩
   have H30:=Mem.unpack [_,_] hm25 hok27 hfar28
   refine wpList_nil ?_
   refine al (ab (K15 _ _ (rl ?_)))
   refine rv (aL (((k+1:Nat):Int))) ?_
   refine wpList_nil ?_
   refine ab ?_
   show _∧_
   go_roundw
   case rel=>exact ⟨(k+1),(ps9++[xag A20 (n k) c21]),A23,c24,rfl,by omega,(by rw [hps,qM,hu22]),H30⟩
   case measure=>simp [intOf];omega
  ·refine rv (aA (decide_eq_false p14)) ?_
   refine nt (K13 _ _ (cf (wp_exit (ai (ai (ax (ab (K5 _ _ (sk fun _ K32=>rl ?_)))))))))
   have hke:k=m:=by omega
   rw [hke] at hps
   have hpl:ps9.length=m:=by rw [hps,xat,List.length_range]
   have hq9:=(Mem.pick H10 [2,1,0,4] (by decide) rfl)
   unfold b3 at hq9
   rw [hpl,hps] at hq9
   refine ac (mP w0 wo9 R g m u n x Ap cp (by omega) hn9 hq9) ?_
   rintro e w34 ⟨rfl,hm33⟩
   refine ⟨_,rfl,rn ?_⟩
   have H35:=hm33
   refine rn ?_
   refine nt (K32 _ _ (rt ?_))
   exact ⟨rfl,H35⟩
end Go.Proofs.YtomnhnmciopiiaaGreat
end
section
namespace Go.Proofs.YtomnhnmciopiiaaGreat
open Go Go.RowKit Go.Maps
attribute [local irreducible] wpList
theorem oh (x:Itm) (l:List Itm) (c:Hsh):Dr.cy ((x :: l).map itP) c=if c∈az x.2.2.1 then x.1 :: Dr.cy (l.map itP) c else Dr.cy (l.map itP) c:=by
 have e:=sz (itP x) (l.map itP) c
 by_cases h:c∈az x.2.2.1
 ·rw [if_pos h];exact e.trans (if_pos h)
 ·rw [if_neg h];exact e.trans (if_neg h)
theorem xp (c:Hsh):Dr.cy (([]:List Itm).map itP) c=[]:=rfl
theorem tT (w:World) (l:List Itm) (v:Value) (h:eJ.At w w.heap.size [v] l) (hl:∀ x∈l,x.2.2.1.length≤1000000) (hlen:l.length≤1000000) (c:Hsh) (hc:okH c) (us:List Hsh) (hb:Dr.cy (l.map itP) c=us) :
  Calls Tryz.prog 42 #[v,.agg (bv c).toArray] w fun e w'=>∃ A cap,e=.returned (.slice A us.length cap)∧Mem w w' [aq w.heap.size 34 20 (.slice A us.length cap) us.length (us.flatMap bv)]:=by
 obtain ⟨A0,cap,rfl,_,hcm,_,hA⟩:=ak h
 simp only [maxLen] at hcm
 have H0:=Mem.start w
 go_enter Tryz.func42,Tryz.ntmps42
 refine sk fun _ K1=>rl ?_
 refine bx 34 (bv c) fun w2 hn_=>?_
 have H3:=Mem.bh H0 hn_
 refine rn ?_
 refine nt (K1 _ _ (sk fun _ K4=>rl ?_))
 refine nt (K4 _ _ (sk fun _ K5=>sk fun _ K6=>rl ?_))
 refine nt (K6 _ _ (wp_block ?_))
 have H0r:=Mem.dw H3 w.heap.size 34 20
 go_loopw [5,6] (fun x5 x6 wr=>∃ j:Nat,∃ kn:List Hsh,∃ A:Option Addr,∃ c9:Nat,x5=.slice A kn.length c9∧x6=.int .i64 (j:Int)∧(j≤l.length)∧(kn.length≤j)∧(∀ z∈kn,okH z)∧(kn++Dr.cy ((l.drop j).map itP) c=us)∧Mem w wr [aq (w.heap.size) 34 20 (.slice A kn.length c9) (kn).length ((kn).flatMap bv),cC (w.heap.size) 34 (bv c).toArray]) (fun x5 x6 _=>l.length-(intOf x6).toNat)
 case atStart=>exact ⟨0,([]),none,0,rfl,rfl,by omega,(by simp),(fun _ h=>by cases h),hb,H0r⟩
 case round =>
  obtain ⟨wo7,rfl⟩:∃ wo7,wo7=wr:=⟨_,rfl⟩
  obtain ⟨j,kn,A,c9,rfl,rfl,hj,hkl,hall,HEQ,H8⟩:=hrel
  refine sk fun _ K10=>sk fun _ K11=>rl ?_
  by_cases p12:(j:Int)<((l.length:Nat):Int)
  ·refine rv (aA (decide_eq_true p12)) ?_
   refine nt (K11 _ _ (ct (ks (K10 _ _ (sk fun _ K13=>wp_block (sk fun _ K14=>?_))))))
   obtain ⟨b15,o16,rfl,hlt18,hE17⟩:=hA (by omega)
   obtain ⟨x19,hx20⟩:=gx (l:=l) (j:=j)
   have hd21:=ay hx20
   obtain ⟨cs,hr22,ha23⟩:=hE17 (j) x19 hx20
   obtain ⟨v24,v25,rfl,xo26,xd27⟩:=dx.1 ha23
   obtain ⟨A28,c29,rfl,hlc29,hmc29,_,hA30⟩:=ak xd27.ins
   obtain ⟨A31,c32,rfl,hlc32,hmc32,_,hA33⟩:=ak xd27.rcp
   simp only [maxLen] at hmc29 hmc32
   have hcs:(az x19.2.2.1).length≤1000000:=by have h1:=dZ x19.2.2.1 x19.2.2.1.length;rw [xaB] at h1;have h2:=hl _ (xak hx20);omega
   obtain ⟨bu,hbu⟩:∃ b,decide (c∈(az x19.2.2.1))=b:=⟨_,rfl⟩
   refine Fre.aV (X:=Bel) [(18,xu wo7 (fun u=>aq (wo7.heap.size) 34 20 u (az x19.2.2.1).length ((az x19.2.2.1).flatMap bv)))] (by kernel_rfl) (by kernel_rfl) (by intro p hp;simp only [xax,xaP,or_false] at hp;subst hp;exact (yE _ fun u=>cM _ _ _ _ _ _)) (by simp) (by simp) ?_
   refine Fre.rmd ?_
   refine Fre.mvv (fun _ _=>dy (j) Tryz.underlying40 cY) ?_
   refine Fre.mvv (v:=.pointer (some ⟨b15,o16+j*23+20,none⟩)) (fun _ _=>by kernel_rfl) ?_
   refine Fre.mvv (fun W9 hW9=>xld (cg xo26 (Mem.range (Mem.call H8 hW9) hr22 hlt18)) Tryz.underlying26 (bL x19.2 (.slice A28 x19.2.2.1.length c29) (.slice A31 x19.2.2.2.length c32))) ?_
   refine Fre.fD 18 _ _ _ (by kernel_rfl) (by kernel_rfl) rfl rfl (fun W9=>by kernel_rfl) (fun W9 hW9=>yF (eK W9 x19.2 _ _ (Mem.drv (Mem.call H8 hW9) xd27) (hl _ (xak hx20))) hW9) ?_
   refine Fre.rmd ?_
   refine Fre.mvv (fun W9 hW9=>xld (Blk.range (Mem.blk (Mem.call H8 hW9) 1 rfl)) Tryz.underlying34 (cP hc)) ?_
   refine Fre.eZ 18 _ (.bool bu) _ (fun u=>#[u,.agg (bv c).toArray]) (by kernel_rfl) rfl (by kernel_rfl) (by kernel_rfl) (fun u W9=>by kernel_rfl) (fun u W9 hW9 hu=>fm W9 ((az x19.2.2.1)) _ (ji hu.1 (fB xd27)) c hc bu hbu) ?_
   refine Fre.rmd ?_
   cases bu
   ·have hq38:=of_decide_eq_false hbu
    intro w39 hx41
    dsimp only [Fre.ended,xas]
    intro u42 hu43
    simp only [xad,xaa,xac,xab]
    obtain ⟨A45,c46,rfl⟩:=aI hu43.1
    have H40:=Mem.new H8 hx41 (cM _ _ _ _ _ _) hu43.1 hu43.2
    refine ab (K14 _ _ (cf ?_))
    refine wp_skip ?_
    refine al (ab (K13 _ _ (rl ?_)))
    refine rv (aL (((j+1:Nat):Int))) ?_
    refine wpList_nil ?_
    have H47:=Mem.pick H40 [1,2] (by decide) rfl
    refine ab ?_
    show _∧_
    go_roundw
    case rel=>exact ⟨(j+1),kn,A,c9,rfl,rfl,by omega,(by first | omega | (simp only [xap,xa0];omega)),hall,(by have h:=HEQ;simp only [oh,hd21,hq38,↓reduceIte] at h;simpa only [List.append_assoc,List.cons_append,List.nil_append] using h),H47⟩
    case measure=>simp [intOf];omega
   ·have hq48:=of_decide_eq_true hbu
    intro w49 hx51
    dsimp only [Fre.ended,xas]
    intro u52 hu53
    simp only [xad,xaa,xac,xab]
    obtain ⟨A55,c56,rfl⟩:=aI hu53.1
    have H50:=Mem.new H8 hx51 (cM _ _ _ _ _ _) hu53.1 hu53.2
    refine ab (K14 _ _ (ct (rl ?_)))
    refine rv (dy (j) Tryz.underlying40 cY) ?_
    refine rp b15 (o16+j*23) ?_
    refine rv (xld (cr (Mem.range H50 hr22 hlt18)) Tryz.underlying34 (cP xo26)) ?_
    refine aG rfl 27 (.tmp 26) rfl 34 20 (.agg zcH) (.agg (bv x19.1).toArray) rfl Tryz.underlying27 cK (by decide) (by decide) (fun w=>by kernel_rfl) (by rw [Value.cells,xal,bvL];exact xo26) ?_
    intro w57 hn
    have H58:=Mem.bh H50 hn
    clear hn
    refine rn ?_
    obtain ⟨inm34,iq34,ir34,is34,it34⟩:=info_parts dM
    refine aD rfl _ _ 27 rfl (w.heap.size) 34 _ _ 20 20 Tryz.underlying27 iq34 ir34 is34 it34 rfl (by decide) (.slice A kn.length c9) ((kn).length) ((kn).flatMap bv) (Mem.own H58 2 rfl) ((some ⟨w49.heap.size,0,none⟩)) (1) (1) (bv x19.1) (bl (n:=20) (m:=1) (Mem.blk H58 0 rfl) (by rw [bvL];exact xo26) (bv1 _)) ?hmt59 ?hbt59 ?hzt59 rfl rfl ?_
    case hmt59=>simp only [maxLen];omega
    case hbt59=>omega
    case hzt59=>exact (Mem.below H58).size
    intro u62 w60 ow65 gr66 hp67
    refine rn ?_
    have ow65:w60.ownsRow (w.heap.size) 34 20 u62 (kn++[x19.1]).length ((kn++[x19.1]).flatMap bv):=by first | simpa using ow65 | (simp at ow65 ⊢;exact ow65)
    obtain ⟨A63,c64,rfl⟩:=aI ow65
    have H61:=Mem.app H58 2 rfl ow65 gr66 hp67
    clear ow65 gr66 hp67
    refine rn ?_
    refine wpList_nil ?_
    refine al (ab (K13 _ _ (rl ?_)))
    refine rv (aL (((j+1:Nat):Int))) ?_
    refine wpList_nil ?_
    have H68:=Mem.pick H61 [2,3] (by decide) rfl
    refine ab ?_
    show _∧_
    go_roundw
    case rel=>exact ⟨(j+1),((kn++[x19.1])),A63,c64,rfl,rfl,by omega,(by first | omega | (simp only [xap,xa0];omega)),(qY hall xo26),(by have h:=HEQ;simp only [oh,hd21,hq48,↓reduceIte] at h;simpa only [List.append_assoc,List.cons_append,List.nil_append] using h),H68⟩
    case measure=>simp [intOf];omega
  ·have he69:=bJ (l:=l) (j:=j) (by omega)
   refine rv (aA (decide_eq_false p12)) ?_
   refine nt (K11 _ _ (cf (wp_exit (ai (ai (ax (ab (K5 _ _ (sk fun _ K70=>rl ?_)))))))))
   refine nt (K70 _ _ (rt ?_))
   have h:=HEQ
   simp only [xp,xaT,he69] at h
   subst h
   exact ⟨_,_,rfl,(Mem.pick H8 [0] (by decide) rfl)⟩
end Go.Proofs.YtomnhnmciopiiaaGreat
end
section
namespace Go.Proofs.YtomnhnmciopiiaaGreat
open Go Go.RowKit Go.Maps
theorem lf {P:Program} {ops:Array Oper} {rest:List Oper} {o:Oper} {a:Act} {w:World} {Q:Exit→Act→World→Prop} (hg:xaw o (yielded ops a.tmps)=true) (t:TypeId) (x:Operand) (ho:o.op=.buildSlice t 1 #[(0,x)]) (e n:Nat) (z v:Value) (hx:a.eval x=v) (ht:P.underlying t=some (.slice e)) (hs:(P.info? e).map (·.size)=some n) (hn:0<n) (h24:n≤16777216) (hz:∀ w,(zeroValue e).run P w=.ok z w) (hv:v.cells.size=n)
  (h:∀ w',hI w w' e v.cells→wpList P ops Q rest (a.put o.dst (.slice (some ⟨w.heap.size,0,none⟩) 1 1)) w'):wpList P ops Q (o :: rest) a w :=
 aC hg _ _ (bO t x ho hx ht hs hn h24 hz hv w) (h _ (cF w e v.cells))
theorem Aq (w:World) (l:List Itm) (v:Value) (h:bB.At w w.heap.size [v] l) (hl:∀ x∈l,x.2.2.1.length≤1000000∧x.2.2.2.length≤1000000) (hn:l.length≤1000000) :
  Calls Tryz.prog 29 #[v] w fun e w'=>∃ os A c,e=.returned (.slice A l.length c)∧Below w.heap.size w w'∧InP w' l os A c:=by
 refine (tp w l v h hl hn).mono fun e w' ⟨u,os,h1,h2,h3,h4⟩=>?_
 obtain ⟨A,c,rfl⟩:=aI (h4.own 0 rfl)
 have hlen:l.length=os.length:=by rw [← h2,xat]
 have hle:∀ p∈os,okH p.1.1∧cO w' w.heap.size p.1.2 p.2.1 p.2.2:=fun p hp=>⟨h3 p hp,(h4.get (e:=Ent.all os (ldV w.heap.size)) 1 rfl).1 p hp⟩
 refine ⟨os,A,c,by rw [hlen];exact h1,h4.below,?_,h2,⟨_,h4.own 0 rfl⟩,_,hle⟩
 rw [hlen]
 have h9:=yx (h4.own 0 rfl) hle
 rw [h2] at h9
 exact h9
theorem AL (w:World) (l:List Itm) (v:Value) (h:bB.At w w.heap.size [v] l) (hn:l.length≤1000000) :
  Calls Tryz.prog 30 #[v] w fun e w'=>∃ u,e=.returned u∧Below w.heap.size w w'∧eJ.At w' w'.heap.size [u] l:=by
 refine (tN w l v h hn).mono fun e w' ⟨u,os,h1,h2,h3,h4⟩=>⟨u,h1,h4.below,?_⟩
 have h9:=zd h4 (h4.own 0 rfl) h3
 rw [h2] at h9
 exact h9
theorem uJ (w:World) (l:List Itm) (os:List b4) (A:Option Addr) (c:Nat) (hin:InP w l os A c) (v:Value) (h:bB.At w w.heap.size [v] l) (hl:∀ x∈l,x.2.2.1.length≤1000000∧x.2.2.2.length≤1000000) (hn:l.length≤1000000) :
  Calls Tryz.prog 49 #[.slice A l.length c,v] w fun e w'=>e=.returned (.bool true)∧Below w.heap.size w w':=by
 have e:l.length=os.length:=by rw [← hin.eq,xat]
 obtain ⟨B,hr⟩:=hin.row
 obtain ⟨B2,he⟩:=hin.each
 rw [e]
 exact tm w B2 B os A c hr he l v h hl hin.eq hn
theorem qI {w w':World} {t:TypeId} {s n:Nat} {u:Value} {xs:List Value} (ho:w'.ownsRow w.heap.size t s u n xs) (hb:Below w.heap.size w w'):Mem w w' [aq w.heap.size t s u n xs] :=
 (Mem.start w).new hb (cM _ _ _ _ _ _) ho fun _ hf=>aB ho hf
theorem z6 (w:World) (l:List Itm) (A:Option Addr) (cap:Nat) (h:bB.At w w.heap.size [.slice A l.length cap] l) (hl:∀ x∈l,iN x.2) (b:Bool) (hb:gB l=b) :
  Calls Tryz.prog 27 #[.slice A l.length cap] w fun e w'=>e=.returned (.bool b)∧Below w.heap.size w w':=hb▸vC w l A cap h hl
theorem ye (w:World) (l:List Itm) (v:Value) (h:bB.At w w.heap.size [v] l) (c:Hsh) (hc:okH c) (hl:∀ x∈l,x.2.2.1.length≤1000000∧x.2.2.2.length≤1000000) (d:Drv) (hd:findD l c=d) (b:Bool) (hb:(db l c).isSome=b) :
  Calls Tryz.prog 31 #[v,.agg (bv c).toArray] w fun e w'=>∃ u1 u2,e=.returned (.tuple #[.agg (dC d u1 u2).toArray,.bool b])∧Mem w w' [ia w.heap.size ((c,d),u1,u2)]:=by
 subst hd hb
 refine (yf w l v h c hc hl).mono fun e w' ⟨u1,u2,h1,h2,h3⟩=>⟨u1,u2,h1,?_⟩
 exact (Mem.start w).new h3 (uC _ _) h2 fun _ hf=>zS h2 hf
theorem AA (w:World) (l:List Itm) (A:Option Addr) (cap:Nat) (h:bB.At w w.heap.size [.slice A l.length cap] l) (hl:∀ x∈l,x.2.2.1.length≤1000000) (hlen:l.length≤1000000) (c:Hsh) (hc:okH c) (ns:List Hsh) (hns:cA l c=ns) (ne:Int) (hne:dE l c=ne) :
  Calls Tryz.prog 33 #[.slice A l.length cap,.agg (bv c).toArray] w fun e w'=>∃ A2 c2,e=.returned (.tuple #[.slice A2 ns.length c2,.int .i64 ne])∧Mem w w' [aq w.heap.size 34 20 (.slice A2 ns.length c2) ns.length (ns.flatMap bv)]:=by
 subst hns hne
 refine (py w l A cap h hl hlen c hc).mono fun e w' ⟨u,h1,h2,h3⟩=>?_
 obtain ⟨A2,c2,rfl⟩:=aI h2
 exact ⟨A2,c2,h1,qI h2 h3⟩
theorem ze (w:World) (l:List Itm) (v:Value) (h:eJ.At w w.heap.size [v] l) (hl:∀ x∈l,x.2.2.1.length≤1000000) (hlen:l.length≤1000000) (c:Hsh) (hc:okH c) (ns:List Hsh) (hns:cA l c=ns) (ne:Int) (hne:dE l c=ne) :
  Calls Tryz.prog 34 #[v,.agg (bv c).toArray] w fun e w'=>∃ A2 c2,e=.returned (.tuple #[.slice A2 ns.length c2,.int .i64 ne])∧Mem w w' [aq w.heap.size 34 20 (.slice A2 ns.length c2) ns.length (ns.flatMap bv)]:=by
 subst hns hne
 exact tQ w l v h hl hlen c hc
theorem AM (w:World) (l:List Itm) (A:Option Addr) (cap:Nat) (h:bB.At w w.heap.size [.slice A l.length cap] l) (hl:∀ x∈l,x.2.2.1.length≤1000000) (b:Bool) (hb:Dr.bR (l.map itP)=b) :
  Calls Tryz.prog 35 #[.slice A l.length cap] w fun e w'=>e=.returned (.bool b)∧Below w.heap.size w w':=hb▸wR w l A cap h hl
theorem zP (w:World) (l:List Itm) (A:Option Addr) (cap:Nat) (h:bB.At w w.heap.size [.slice A l.length cap] l) (hl:∀ x∈l,x.2.2.1.length≤1000000) (hlen:l.length≤1000000) (c:Hsh) (hc:okH c) (n:Nat) (hd:dI l c=n) :
  Calls Tryz.prog 39 #[.slice A l.length cap,.agg (bv c).toArray] w fun e w'=>e=.returned (.int .i64 (n:Int))∧Below w.heap.size w w':=hd▸oU w l A cap h hl hlen c hc
theorem vx {l:List Itm} {c:Hsh} {n:Nat} (hl:∀ x∈l,x.2.2.1.length≤n∧x.2.2.2.length≤n) {d:Drv} (hd:findD l c=d):d.2.1.length≤n∧d.2.2.length≤n:=by
 rw [← hd]
 unfold findD
 cases e:l.find? fun x=>decide (x.1=c) with
 | none=>exact ⟨Nat.zero_le _,Nat.zero_le _⟩
 | some x=>exact hl x (List.mem_of_find?_eq_some e)
theorem AW (w:World) (l:List Itm) (A:Option Addr) (cap:Nat) (h:bB.At w w.heap.size [.slice A l.length cap] l) (hl:∀ x∈l,x.2.2.1.length≤1000000) (hlen:l.length≤1000000) (c:Hsh) (hc:okH c) (us:List Hsh) (hu:Dr.cy (l.map itP) c=us) :
  Calls Tryz.prog 41 #[.slice A l.length cap,.agg (bv c).toArray] w fun e w'=>∃ A2 c2,e=.returned (.slice A2 us.length c2)∧Mem w w' [aq w.heap.size 34 20 (.slice A2 us.length c2) us.length (us.flatMap bv)]:=by
 subst hu
 refine (xm w l A cap h hl hlen c hc).mono fun e w' ⟨u,h1,h2,h3⟩=>?_
 obtain ⟨A2,c2,rfl⟩:=aI h2
 exact ⟨A2,c2,h1,qI h2 h3⟩
theorem vl (w:World) (d:Drv) (v1 v2:Value) (h:aK w w.heap.size d v1 v2) (hl:d.2.1.length≤1000000) (cs:List Hsh) (hc:az d.2.1=cs) :
  Calls Tryz.prog 46 #[.agg (dC d v1 v2).toArray] w fun e w'=>∃ A2 c2,e=.returned (.slice A2 cs.length c2)∧Mem w w' [aq w.heap.size 34 20 (.slice A2 cs.length c2) cs.length (cs.flatMap bv)]:=by
 subst hc
 refine (eo w d v1 v2 h hl).mono fun e w' ⟨u,h1,h2,h3⟩=>?_
 obtain ⟨A2,c2,rfl⟩:=aI h2
 exact ⟨A2,c2,h1,qI h2 h3⟩
theorem tL (w:World) (d:Drv) (v1 v2:Value) (h:aK w w.heap.size d v1 v2) (hl:d.2.1.length≤1000000) (cs:List Hsh) (hc:az d.2.1=cs) :
  Calls Tryz.prog 47 #[.agg (dC d v1 v2).toArray] w fun e w'=>∃ A2 c2,e=.returned (.slice A2 cs.length c2)∧Mem w w' [aq w.heap.size 34 20 (.slice A2 cs.length c2) cs.length (cs.flatMap bv)]:=by
 subst hc
 exact eK w d v1 v2 h hl
theorem pK (w:World) (d:Drv) (v1 v2:Value) (h:aK w w.heap.size d v1 v2) (hn:d.2.1.length≤1000000) (ps:List Pth) (hp:bV (eB d.2.1)=ps) :
  Calls Tryz.prog 43 #[.agg (dC d v1 v2).toArray] w fun e w'=>∃ B A c,e=.returned (.slice A ps.length c)∧Mem w w' [aq B 83 21 (.slice A ps.length c) ps.length (ps.flatMap pC)]:=hp▸sr w d v1 v2 h hn
theorem tR (w:World) (d:Drv) (v1 v2:Value) (h:aK w w.heap.size d v1 v2) (hn:d.2.1.length≤1000000) (ps:List Pth) (hp:bV (eB d.2.1)=ps) :
  Calls Tryz.prog 45 #[.agg (dC d v1 v2).toArray] w fun e w'=>∃ B A c,e=.returned (.slice A ps.length c)∧Mem w w' [aq B 83 21 (.slice A ps.length c) ps.length (ps.flatMap pC)]:=hp▸qR w d v1 v2 h hn
theorem kg (w:World) (B1 B2:Nat) (l:List Hsh) (u v:Value) (h:w.ownsRow B1 34 20 u l.length (l.flatMap bv)) (h2:w.ownsRow B2 34 20 v l.length (l.flatMap bv)) (hok:∀ x∈l,okH x) (hn:l.length≤1000000) :
  Calls Tryz.prog 38 #[u,v] w fun e w'=>e=.returned (.bool true)∧Below w.heap.size w w' :=
 tU w l l u v (dg (by decide) h _ (xai _) fun x hx=>dt.2 ⟨rfl,hok x hx⟩) (dg (by decide) h2 _ (xai _) fun x hx=>dt.2 ⟨rfl,hok x hx⟩) rfl hn
theorem tX (w:World) (B1 B2:Nat) (l:List Pth) (u v:Value) (h:w.ownsRow B1 83 21 u l.length (l.flatMap pC)) (h2:w.ownsRow B2 83 21 v l.length (l.flatMap pC)) (hok:∀ x∈l,okP x) (hn:l.length≤1000000) :
  Calls Tryz.prog 44 #[u,v] w fun e w'=>e=.returned (.bool true)∧Below w.heap.size w w' :=
 tW w l l u v (dg (by decide) h _ (xai _) fun x hx=>cG.2 ⟨rfl,hok x hx⟩) (dg (by decide) h2 _ (xai _) fun x hx=>cG.2 ⟨rfl,hok x hx⟩) rfl hn
def two {α:Type} (a b:α):Nat→α
 | 0=>a
 | _=>b
theorem Mem.BZ {α:Type} {w0 w:World} {L:List Ent} {f:α→Ent} {a b:α} (h:Mem w0 w (f a :: f b :: L)):Mem w0 w (Ent.all [a,b] f :: L):=by
 have ha:=h.ok (f a) (by simp)
 have hb:=h.ok (f b) (by simp)
 have h1:=Mem.push (f:=f) (l:=[]) (x:=a) (Mem.pS h f).swap ha
 exact Mem.push (f:=f) (l:=[a]) (x:=b) h1.swap hb
theorem vg (w0 w:World) (L:List Ent) (n1 n2:Nat) (x1 x2:List Value) (A1 A2:Option Addr) (c1 c2 C1 C2 B4 g:Nat) (hn1:n1≤1000000) (hn2:n2≤1000000)
  (hm:Mem w0 w (aq B4 72 1 (.slice (some ⟨g,0,none⟩) 2 2) 2 ([xag A1 n1 c1,xag A2 n2 c2].flatMap vb) :: aq C1 83 21 (.slice A1 n1 c1) n1 x1 :: aq C2 83 21 (.slice A2 n2 c2) n2 x2 :: L)) :
  Calls Tryz.prog 48 #[.slice (some ⟨g,0,none⟩) 2 2] w fun e w'=>e=.returned (.bool true)∧Mem w0 w' L:=by
 have h1:=hm.swap.perm (List.Perm.cons _ (List.Perm.swap _ _ _))
 have h2:Mem w0 w (Ent.all (xaf 2) (fun k=>aq (two C1 C2 k) 83 21 (two (xag A1 n1 c1) (.slice A2 n2 c2) k) (two n1 n2 k) (two x1 x2 k)) :: _):=Mem.BZ (f:=fun k=>aq (two C1 C2 k) 83 21 (two (xag A1 n1 c1) (.slice A2 n2 c2) k) (two n1 n2 k) (two x1 x2 k)) (a:=0) (b:=1) h1
 have h3:=h2.zh
 obtain ⟨hp,hok,hfar⟩:=Mem.pack [_,_] h3
 refine (mN w0 w (kU L) B4 2 (two (xag A1 n1 c1) (.slice A2 n2 c2)) (two n1 n2) (two x1 x2) _ 2 (by omega) (fun i hi=>?_) (fun k hk=>?_) hp).mono fun e w' ⟨k1,k2⟩=>⟨k1,Mem.unpack [] k2 hok hfar⟩
 ·match i,hi with
  | 0,_=>exact hn1
  | 1,_=>exact hn2
 ·match k,hk with
  | 0,_=>exact ⟨_,_,rfl⟩
  | 1,_=>exact ⟨_,_,rfl⟩
theorem AU (l1 l2:List b4):(xaf 2).flatMap (two l1 l2)=l1++l2:=by
 show l1++(l2++[])=_
 rw [xaT]
theorem zu {w0 W:World} {T:List Ent} {l1 l2:List b4} {u1 u2:Value} {C1 C2 B1 B2:Nat}
  (h:Mem w0 W (aq C1 26 3 u1 l1.length (l1.flatMap dV9) :: aq C2 26 3 u2 l2.length (l2.flatMap dV9) :: Ent.all l1 (ia B1) :: Ent.all l2 (ia B2) :: T)) :
  Mem w0 W (Ent.all (xaf (l1++l2).length) (fun i=>au w0.heap.size 5 1 (PS.self ((l1++l2).getD i eG).2.2 ((l1++l2).getD i eG).1.2.2.2.length (((l1++l2).getD i eG).1.2.2.2.flatMap ib))) ::
   Ent.all (xaf (l1++l2).length) (fun i=>au w0.heap.size 87 43 (PS.self ((l1++l2).getD i eG).2.1 ((l1++l2).getD i eG).1.2.2.1.length (((l1++l2).getD i eG).1.2.2.1.flatMap nC))) ::
   Ent.all (xaf 2) (fun k=>au w0.heap.size 26 3 (PS.self (two u1 u2 k) (two l1 l2 k).length ((two l1 l2 k).flatMap dV9))) :: T):=by
 have h2:Mem w0 W (Ent.all (xaf 2) (fun k=>aq (two C1 C2 k) 26 3 (two u1 u2 k) (two l1 l2 k).length ((two l1 l2 k).flatMap dV9)) :: _):=Mem.BZ (f:=fun k=>aq (two C1 C2 k) 26 3 (two u1 u2 k) (two l1 l2 k).length ((two l1 l2 k).flatMap dV9)) (a:=0) (b:=1) h
 have h3:=h2.zh
 have h4:=h3.perm (xb2 [_] [Ent.all l1 (ia B1),Ent.all l2 (ia B2)] T)
 have h5:=(Mem.swap (Mem.xO (Mem.swap (Mem.xO h4)))).Be
 exact h5.Bp
theorem pW (w0 w:World) (L:List Ent) (l1 l2:List b4) (u1 u2:Value) (C1 C2 B1 B2:Nat) (B4 g:Nat)
  (hm:Mem w0 w (aq B4 53 1 (.slice (some ⟨g,0,none⟩) 2 2) 2 ([u1,u2].flatMap vb) :: aq C1 26 3 u1 l1.length (l1.flatMap dV9) :: aq C2 26 3 u2 l2.length (l2.flatMap dV9) :: Ent.all l1 (ia B1) :: Ent.all l2 (ia B2) :: L))
  (htot:(l1++l2).length≤1000000) (hall:∀ p∈l1++l2,p.1.2.2.1.length≤1000000∧p.1.2.2.2.length≤1000000) :
  Calls Tryz.prog 24 #[.slice (some ⟨g,0,none⟩) 2 2] w fun e w'=>e=.returned (.bool true)∧Mem w0 w' L:=by
 have hL:=hm.drop 5
 obtain ⟨hp,hok,hfar⟩:=Mem.pack [] hm
 have hsl:∀ p∈l1++l2,il p.2.1∧il p.2.2:=fun p hp9=>by
  have d1:=(hm.get (e:=Ent.all l1 (ia B1)) 3 rfl).1
  have d2:=(hm.get (e:=Ent.all l2 (ia B2)) 4 rfl).1
  rcases xau.1 hp9 with hp9 | hp9
  ·exact bz.sls (d1 p hp9)
  ·exact bz.sls (d2 p hp9)
 have e9:=AU l1 l2
 refine (oo w0 w _ (kU L) 2 (two u1 u2) (two l1 l2) (some ⟨g,0,none⟩) 2 B4 (two C1 C2) (by omega) (by rw [e9];exact htot) (fun W hW=>?_) (fun W hW k hk=>?_) (fun k hk p hp9=>?_) (by rw [e9];exact hall) (fun W K hK=>?_) hp).mono fun e w' ⟨h1,h2⟩=>⟨h1,Mem.unpack [] h2 (fun e he=>hL.ok e he) hL.far⟩
 ·exact hW _ (.head _)
 ·match k,hk with
  | 0,_=>exact hW _ (.tail _ (.head _))
  | 1,_=>exact hW _ (.tail _ (.tail _ (.head _)))
 ·refine hsl p ?_
  match k,hk with
  | 0,_=>exact xa1 _ hp9
  | 1,_=>exact List.mem_append_right _ hp9
 ·rw [e9]
  have k1:=(Mem.unpack K hK hok hfar).perm xbV
  have k2:=zu (k1.drop 1)
  have k3:=k2.perm (xb2 [_,_,_] L K)
  have k4:=k3.perm (xbV (l₁:=L))
  have k5:=(Mem.pack _ k4).1
  have k6:=k5.perm ((xbV (l₁:=[_,_,_]) (l₂:=K)).append_right [kU L])
  rw [List.append_assoc] at k6
  exact k6
theorem Mem.BY {α:Type} {w0 w:World} {L:List Ent} {f:α→Ent} {a:α} (h:Mem w0 w (f a :: L)):Mem w0 w (Ent.all [a] f :: L) :=
 Mem.push (f:=f) (l:=[]) (x:=a) (Mem.pS h f).swap (h.ok (f a) (by simp))
theorem pU (w0 w:World) (p1 p2:b4) (u1 u2:Value) (C1 C2 B1 B2 B4 g:Nat)
  (hm:Mem w0 w [aq B4 53 1 (.slice (some ⟨g,0,none⟩) 2 2) 2 ([u1,u2].flatMap vb),aq C1 26 3 u1 [p1].length ([p1].flatMap dV9),aq C2 26 3 u2 [p2].length ([p2].flatMap dV9),ia B1 p1,ia B2 p2])
  (h1:p1.1.2.2.1.length≤1000000∧p1.1.2.2.2.length≤1000000) (h2:p2.1.2.2.1.length≤1000000∧p2.1.2.2.2.length≤1000000) :
  Calls Tryz.prog 24 #[.slice (some ⟨g,0,none⟩) 2 2] w fun e w'=>e=.returned (.bool true)∧Mem w0 w' []:=by
 have k1:=Mem.BY (f:=ia B1) (a:=p1) (Mem.pick hm [3,4,0,1,2] (by decide) rfl)
 have k2:=Mem.BY (f:=ia B2) (a:=p2) (Mem.pick k1 [1,0,2,3,4] (by decide) rfl)
 refine pW w0 w [] [p1] [p2] u1 u2 C1 C2 B1 B2 B4 g (Mem.pick k2 [2,3,4,1,0] (by decide) rfl) (by simp) fun p hp=>?_
 rcases xax.1 hp with rfl | hp
 ·exact h1
 ·rw [xan.1 hp]
  exact h2
end Go.Proofs.YtomnhnmciopiiaaGreat
end
section
namespace Go.Proofs.YtomnhnmciopiiaaGreat
open Go Go.RowKit
theorem pY (w:World):Calls Tryz.prog 28 #[] w fun e w'=>e=.returned (.bool true)∧Below w.heap.size w w':=vh w
end Go.Proofs.YtomnhnmciopiiaaGreat
end
