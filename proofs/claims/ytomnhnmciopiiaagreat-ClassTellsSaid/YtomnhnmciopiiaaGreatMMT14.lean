/- Part 14 of the texts of one proof. -/
import Derived.Test.YtomnhnmciopiiaaGreatMMT13
set_option maxRecDepth 100000
set_option linter.unusedVariables false
set_option linter.unusedSimpArgs false
set_option maxHeartbeats 40000000
open Go.RowKit.Below renaming refl → xao
open List.Pairwise renaming imp_of_mem → xcs
open List renaming append_assoc → xaR, append_nil → xbo, drop → xaE, drop_succ_cons → xay, drop_zero → xaK, getD_eq_getElem?_getD → xaX, getElem?_eq_getElem → xai, getElem?_eq_none → xbH, getElem?_map → xaL, length_append → xak, length_map → xap, length_set → xbh, length_take → xaN, mem_append → xax, mem_append_left → xaY, mem_append_right → xbi, mem_cons → xaD, mem_map → xaA, mem_map_of_mem → xbj, mem_of_getElem? → xaj, mem_singleton → xan, pairwise_append → xbw, pairwise_cons → xbQ, pairwise_iff_getElem → xa6, perm_append_comm → xcm, perm_append_comm_assoc → xcq, range → xaf, take_length → xaG, take_succ_cons → xau, take_zero → xaC
open Nat renaming le_of_ble_eq_true → xaW, le_refl → xag
open Option.some renaming inj → xam
open Go.Result renaming andThen_ok → xat
open Go.Sem renaming run_bind → xaI, run_pure → xaQ
open Go.Value renaming pointer → xb4, slice → xas
section
namespace Go.Proofs.YtomnhnmciopiiaaGreat
open Go Go.RowKit Go.Maps
attribute [local irreducible] wpList
theorem pA:(Tryz.prog.info? 5).map (fun i=>(i.zero,i.size,i.bytes))=some (some (Value.int .u8 0),1,1):=by kernel_rfl
theorem ux:(Tryz.prog.info? 24).map (fun i=>(i.zero,i.size,i.bytes))=some (some (.slice none 0 0),1,24):=by kernel_rfl
theorem qT (w0 w:World) (R:Ent) (m:Nat) (u:Nat→Value) (n:Nat→Nat) (xs:Nat→List Value) (B2:Nat) (A:Option Addr) (c:Nat) (hm9:m≤1000000) (hn:∀ i,i<m→n i≤1000000)
  (hm:Mem w0 w [Ent.all (xaf m) (fun i=>aw w0.heap.size 5 1 (PS.self (u i) (n i) (xs i))),ax B2 24 1 (.slice A m c) m (((xaf m).map u).flatMap vb),R]) :
  Calls Tryz.prog 104 #[.slice A m c] w fun e w'=>e=.returned (.bool true)∧Mem w0 w' [ax B2 24 1 (.slice A m c) m (((xaf m).map u).flatMap vb),R]:=by
 have hown:∀ i,i<m→w.ownsRow w0.heap.size 5 1 (u i) (n i) (xs i):=fun i hi=>(Mem.nD (g:=aw w0.heap.size 5 1) (st:=fun i=>PS.self (u i) (n i) (xs i)) hm 0 rfl hi).1
 have hxl:∀ i,i<m→(xs i).length=n i*1:=fun i hi=>(hown i hi).1
 have hu0:∀ i,i<m→∃ A c,u i=.slice A (n i) c∧(0<n i→∃ g,A=some ⟨g,0,none⟩):=fun i hi=>by
  obtain ⟨A,c,e⟩:=aI (hown i hi)
  refine ⟨A,c,e,fun h0=>?_⟩
  obtain ⟨g,hg,_⟩:=aR (e▸hown i hi) h0
  exact ⟨g,hg⟩
 have hm:=Mem.cG (g:=aw w0.heap.size 5 1) (st:=fun i=>PS.self (u i) (n i) (xs i)) (st':=st1 mgB bC u n xs 0) hm (fun i _=>(nv mgB bC u n xs i).symm)
 clear hown
 go_enter Tryz.func104,Tryz.ntmps104
 refine sk fun _ K1=>rl ?_
 refine nt (K1 _ _ (sk fun _ K2=>sk fun _ K3=>rl ?_))
 refine nt (K3 _ _ (wp_block ?_))
 go_loopw [3] (fun x3 wr=>∃ k:Nat,x3=.int .i64 (k:Int)∧(k≤m)∧Mem w0 wr [Ent.all (xaf m) (fun i=>aw w0.heap.size 5 1 (st1 mgB bC u n xs k i)),ax B2 24 1 (.slice A m c) m (((xaf m).map u).flatMap vb),R]) (fun x3 _=>m-(intOf x3).toNat)
 case atStart=>exact ⟨0,rfl,by omega,hm⟩
 case round =>
  obtain ⟨wo4,rfl⟩:∃ wo4,wo4=wr:=⟨_,rfl⟩
  obtain ⟨k,rfl,hk,H5⟩:=hrel
  refine sk fun _ K7=>sk fun _ K8=>rl ?_
  by_cases p9:(k:Int)<(m:Int)
  ·refine rv (aK (decide_eq_true p9)) ?_
   refine nt (K8 _ _ (ct (ks (K7 _ _ (sk fun _ K10=>wp_block (sk fun _ K11=>rl ?_))))))
   refine nt (K11 _ _ (wp_block ?_))
   have H12:=Mem.cG (g:=aw w0.heap.size 5 1) (st:=st1 mgB bC u n xs k) (st':=hO mgB bC 1 u n xs k 0) H5 (fun i _=>lJ mgB bC 1 u n xs k i)
   have hxl9:=hxl k (by omega)
   have hnk:=hn k (by omega)
   go_loopw [4] (fun x4 wr=>∃ q:Nat,x4=.int .i64 (q:Int)∧(q≤n k)∧Mem w0 wr [Ent.all (xaf m) (fun i=>aw w0.heap.size 5 1 (hO mgB bC 1 u n xs k q i)),ax B2 24 1 (.slice A m c) m (((xaf m).map u).flatMap vb),R]) (fun x4 _=>n k-(intOf x4).toNat)
   case atStart=>exact ⟨0,rfl,by omega,H12⟩
   case round =>
    obtain ⟨wo13,rfl⟩:∃ wo13,wo13=wr:=⟨_,rfl⟩
    obtain ⟨q,rfl,hq,H14⟩:=hrel
    refine sk fun _ K16=>sk fun _ K17=>rl ?_
    obtain ⟨b18,rfl,hlt21⟩:=aR (Mem.own H14 1 rfl) (by omega)
    obtain ⟨x22,hx23⟩:=gx (l:=((xaf m).map u)) (j:=k)
    have hd24:=aD hx23
    obtain rfl:=bm hx23
    obtain ⟨A25,c26,hu27,hg28⟩:=hu0 k (by omega)
    refine rv (bT (s:=1) (k) Tryz.underlying95 (by kernel_rfl)) ?_
    refine rv (v:=.slice A25 (n k) c26) (by rw [← hu27];exact exec_load_cell 24 (.tmp 25) rfl ⟨b18,k*1,none⟩ rfl _ _ wo13 Tryz.underlying24 rfl (range_cell (cO (Mem.own H14 1 rfl) (by omega)))) ?_
    by_cases p29:(q:Int)<(((n k):Nat):Int)
    ·refine rv (aK (decide_eq_true p29)) ?_
     refine nt (K17 _ _ (ct (ks (K16 _ _ (sk fun _ K30=>wp_block ?_)))))
     obtain ⟨b31,rfl⟩:=hg28 (by omega)
     refine Fre.b4 (X:=Bel) 9 [] (by kernel_rfl) (by kernel_rfl) (by simp) (by simp) (by simp) ?_
     simp only [xau,xaC,xay,xaK]
     refine Fre.rmd ?_
     refine Fre.mvv (fun _ _=>bT (s:=1) (k) Tryz.underlying95 (by kernel_rfl)) ?_
     refine Fre.mvv (v:=.slice (some ⟨b31,0,none⟩) (n k) c26) (fun W9 hW9=>by rw [← hu27];exact exec_load_cell 24 (.tmp 33) rfl ⟨b18,k*1,none⟩ rfl _ _ W9 Tryz.underlying24 rfl (range_cell (cO (Mem.own (Mem.call H14 hW9) 1 rfl) (by omega)))) ?_
     refine Fre.mc (fun W9 hW9=>iO k q (by omega) (by omega) W9) ?_
     refine Fre.rmd ?_
     refine Fre.mvv (fun _ _=>bT (s:=1) (q) Tryz.underlying24 (by kernel_rfl)) ?_
     intro w35 hx37
     dsimp only [Fre.ended,xaE]
     have H36:=Mem.call H14 hx37
     have ow9:=wG (mk:=mgB) (f:=bC) H36 (i0:=0) rfl (show k<m by omega)
     rw [hu27] at ow9
     refine cM rfl 5 (.tmp 39) (.tmp 38) rfl ow9 (k:=q) (by omega) (by kernel_rfl) (.int .u8 (((mgB k q).toNat:Int))) rfl (by show xb4 (some ⟨_,q*1,none⟩)=_;rw [Nat.mul_one]) rfl ?_
     intro w38 ho9 hg9
     refine rn ?_
     have ho9:=vq (bC (mgB k q)) rfl ho9 (by omega)
     rw [← hu27] at ho9
     have H39:=pw (mk:=mgB) (f:=bC) H36 (show k<m by omega) (fun k i=>rfl) hu27 ho9 hg9
     clear ho9 hg9 ow9
     refine wpList_nil ?_
     refine ar (ah (K30 _ _ (rl ?_)))
     refine rv (bp (((q+1:Nat):Int))) ?_
     refine wpList_nil ?_
     refine ah ?_
     show _∧_
     go_roundw
     case rel=>exact ⟨(q+1),rfl,by omega,H39⟩
     case measure=>simp [intOf];omega
    ·refine rv (aK (decide_eq_false p29)) ?_
     refine nt (K17 _ _ (cf (wp_exit (an (an (aB (ar (ah (K10 _ _ (rl ?_))))))))))
     refine rv (bp (((k+1:Nat):Int))) ?_
     refine wpList_nil ?_
     have H40:=Mem.cG (g:=aw w0.heap.size 5 1) (st:=hO mgB bC 1 u n xs k q) (st':=st1 mgB bC u n xs (k+1)) H14 (fun i _=>by rw [show q=n k by omega];exact qD mgB bC 1 u n xs k hxl9 i)
     refine ah ?_
     show _∧_
     go_roundw
     case rel=>exact ⟨(k+1),rfl,by omega,H40⟩
     case measure=>simp [intOf];omega
  ·refine rv (aK (decide_eq_false p9)) ?_
   refine nt (K8 _ _ (cf (wp_exit (an (an (aB (ah (K2 _ _ (sk fun _ K41=>rl ?_)))))))))
   obtain ⟨inm24,iq24,ir24,is24,it24⟩:=info_parts ux
   refine wpList_make_full _ rfl _ _ 95 rfl w0.heap.size 24 _ _ 1 Tryz.underlying95 iq24 ir24 is24 _ _ _ _ m rfl rfl rfl rfl (by rw [it24];omega) (by simp only [maxLen];omega) (Mem.below H5).size ?_
   intro w42 ow gr
   refine rn ?_
   obtain ⟨gv0,hgv0⟩:∃ gv:List Value,gv=(madeCells (xas none 0 0).cells (m*1)).toList:=⟨_,rfl⟩
   rw [← hgv0] at ow
   have hgl0:=qj ow rfl
   rw [← iT gv0] at ow
   have H43:=Mem.make H5 ow gr
   obtain ⟨gg,hgg⟩:∃ g,g=wo4.heap.size:=⟨_,rfl⟩
   rw [← hgg] at H43 ⊢
   clear ow gr hgg hgv0
   refine rn ?_
   refine nt (K41 _ _ (sk fun _ K44=>sk fun _ K45=>rl ?_))
   refine nt (K45 _ _ (wp_block ?_))
   have H46:=Mem.cG (g:=aw w0.heap.size 5 1) (st:=st1 mgB bC u n xs k) (st':=st2 mgB bC u n gv0 0) (Mem.pick H43 [1,0,2,3] (by decide) rfl) (fun i hi=>by rw [show k=m by omega];exact (tF mgB bC u n xs m i hi).trans (if_neg (Nat.not_lt_zero _)).symm)
   go_loopw [6] (fun x6 wr=>∃ k:Nat,∃ gv:List Value,x6=.int .i64 (k:Int)∧(k≤m)∧(gv.length=m)∧Mem w0 wr [Ent.all (xaf m) (fun i=>aw w0.heap.size 5 1 (st2 mgB bC u n gv k i)),ax w0.heap.size 24 1 (.slice (some ⟨gg,0,none⟩) m m) m ((gv).flatMap vb),ax B2 24 1 (.slice A m c) m (((xaf m).map u).flatMap vb),R]) (fun x6 _=>m-(intOf x6).toNat)
   case atStart=>exact ⟨0,gv0,rfl,by omega,hgl0,H46⟩
   case round =>
    obtain ⟨wo47,rfl⟩:∃ wo47,wo47=wr:=⟨_,rfl⟩
    obtain ⟨k,gv,rfl,hk,hgl,H48⟩:=hrel
    refine sk fun _ K50=>sk fun _ K51=>rl ?_
    by_cases p52:(k:Int)<(m:Int)
    ·refine rv (aK (decide_eq_true p52)) ?_
     refine nt (K51 _ _ (ct (ks (K50 _ _ (sk fun _ K53=>wp_block (sk fun _ K54=>rl ?_))))))
     obtain ⟨b55,rfl,hlt58⟩:=aR (Mem.own H48 2 rfl) (by omega)
     obtain ⟨x59,hx60⟩:=gx (l:=((xaf m).map u)) (j:=k)
     have hd61:=aD hx60
     obtain rfl:=bm hx60
     obtain ⟨A62,c63,hu64,hg65⟩:=hu0 k (by omega)
     refine rv (bT (s:=1) (k) Tryz.underlying95 (by kernel_rfl)) ?_
     refine rv (v:=.slice A62 (n k) c63) (by rw [← hu64];exact exec_load_cell 24 (.tmp 51) rfl ⟨b55,k*1,none⟩ rfl _ _ wo47 Tryz.underlying24 rfl (range_cell (cO (Mem.own H48 2 rfl) (by omega)))) ?_
     refine nt (K54 _ _ (sk fun _ K66=>sk fun _ K67=>rl ?_))
     refine nt (K67 _ _ (wp_block ?_))
     have H68:=Mem.cG (g:=aw w0.heap.size 5 1) (st:=st2 mgB bC u n gv k) (st':=iD mgB bC u n gv (u k) k 0) H48 (fun i _=>lK mgB bC u n gv k i)
     have hnk:=hn k (by omega)
     rw [← hu64]
     go_loopw [7,8] (fun x7 x8 wr=>∃ q:Nat,∃ v:Value,v=x7∧x8=.int .i64 (q:Int)∧(q≤64)∧Mem w0 wr [Ent.all (xaf m) (fun i=>aw w0.heap.size 5 1 (iD mgB bC u n gv v k q i)),ax w0.heap.size 24 1 (.slice (some ⟨gg,0,none⟩) m m) m ((gv).flatMap vb),ax B2 24 1 (.slice (some ⟨b55,0,none⟩) m c) m (((xaf m).map u).flatMap vb),R]) (fun x7 x8 _=>64-(intOf x8).toNat)
     case atStart=>exact ⟨0,((u k)),rfl,rfl,by omega,H68⟩
     case round =>
      obtain ⟨wo69,rfl⟩:∃ wo69,wo69=wr:=⟨_,rfl⟩
      obtain ⟨q,v,rfl,rfl,hq,H70⟩:=hrel
      refine sk fun _ K72=>sk fun _ K73=>rl ?_
      by_cases p74:(q:Int)<64
      ·refine rv (aK (decide_eq_true p74)) ?_
       refine nt (K73 _ _ (ct (ks (K72 _ _ (sk fun _ K75=>wp_block (rl ?_))))))
       obtain ⟨x76,hx77⟩:=gx (l:=((xaf m).map u)) (j:=k)
       have hd78:=aD hx77
       obtain rfl:=bm hx77
       obtain ⟨A79,c80,hu81,hg82⟩:=hu0 k (by omega)
       refine rv (bT (s:=1) (k) Tryz.underlying95 (by kernel_rfl)) ?_
       refine rv (v:=.slice A79 (n k) c80) (by rw [← hu81];exact exec_load_cell 24 (.tmp 61) rfl ⟨b55,k*1,none⟩ rfl _ _ wo69 Tryz.underlying24 rfl (range_cell (cO (Mem.own H70 2 rfl) (by omega)))) ?_
       refine rv (bp ((((n k)+q:Nat):Int))) ?_
       refine ac (iO k ((n k)+q) (by omega) (by omega) wo69) ?_
       rintro e w83 ⟨rfl,hb85⟩
       refine ⟨_,rfl,rn ?_⟩
       have H84:=Mem.call H70 hb85
       refine aO rfl 24 (.tmp 66) rfl 5 1 (Value.int .u8 0) (.int .u8 (((mgB k ((n k)+q)).toNat:Int))) rfl Tryz.underlying24 (by kernel_rfl) (by decide) (by decide) (fun w=>by kernel_rfl) rfl ?_
       intro w86 hn
       have H87:=Mem.aM H84 hn
       clear hn
       refine rn ?_
       obtain ⟨inm5,iq5,ir5,is5,it5⟩:=info_parts pA
       have hP9:=lr (mk:=mgB) (f:=bC) H87 (i0:=1) rfl (show k<m by omega)
       refine eU rfl _ _ 24 rfl w0.heap.size 5 _ _ 1 1 Tryz.underlying24 iq5 ir5 is5 it5 rfl (by decide) v (n k+q) (mkC mgB bC k (n k+q)) hP9.2.1 (some ⟨w83.heap.size,0,none⟩) 1 1 ([.int .u8 (((mgB k ((n k)+q)).toNat:Int))]) (bU (n:=1) (m:=1) (Mem.blk H87 0 rfl) rfl (fun u hu=>by rw [xan.1 hu];rfl)) (by decide) (by simp only [maxLen];omega) (by omega) (Mem.below H87).size rfl rfl ?_
       intro v9 w88 ho9 hg9 hr9
       refine rn ?_
       have H89:=px (mk:=mgB) (f:=bC) (Mem.pick H87 [1,0,2,3,4] (by decide) rfl) (show k<m by omega) ho9 hg9 hr9
       clear ho9 hg9 hr9 hP9
       refine rn ?_
       refine wpList_nil ?_
       refine ar (ah (K75 _ _ (rl ?_)))
       refine rv (bp (((q+1:Nat):Int))) ?_
       refine wpList_nil ?_
       have H90:=Mem.pick H89 [0,2,3,4] (by decide) rfl
       refine ah ?_
       show _∧_
       go_roundw
       case rel=>exact ⟨(q+1),v9,rfl,rfl,by omega,H90⟩
       case measure=>simp [intOf];omega
      ·refine rv (aK (decide_eq_false p74)) ?_
       refine nt (K73 _ _ (cf (wp_exit (an (an (aB (ah (K66 _ _ (rl ?_)))))))))
       refine rv (bT (s:=1) (k) Tryz.underlying95 (by kernel_rfl)) ?_
       refine cM rfl 24 (.tmp 72) (.tmp 71) rfl (Mem.own H70 1 rfl) (k:=k) (by omega) (by kernel_rfl) v (by obtain ⟨_,_,e9⟩:=aI (lr (mk:=mgB) (f:=bC) H70 (i0:=0) rfl (show k<m by omega)).2.1;rw [show v=_ from e9];rfl) (by show xb4 (some ⟨gg,k*1,none⟩)=_;rw [Nat.mul_one]) rfl ?_
       intro w91 ho9 hg9
       refine rn ?_
       rw [kR] at ho9
       have H92:=Mem.jM H70 1 rfl ho9 hg9
       clear ho9 hg9
       refine wpList_nil ?_
       refine ar (ah (K53 _ _ (rl ?_)))
       refine rv (bp (((k+1:Nat):Int))) ?_
       refine wpList_nil ?_
       have H93:=Mem.cG (g:=aw w0.heap.size 5 1) (st:=iD mgB bC u n gv v k q) (st':=st2 mgB bC u n (gv.set k v) (k+1)) H92 (fun i _=>by rw [show q=64 by omega];exact qE mgB bC u n gv v k (by omega) i)
       refine ah ?_
       show _∧_
       go_roundw
       case rel=>exact ⟨(k+1),(gv.set k v),rfl,by omega,(by rw [xbh];exact hgl),H93⟩
       case measure=>simp [intOf];omega
    ·refine rv (aK (decide_eq_false p52)) ?_
     refine nt (K51 _ _ (cf (wp_exit (an (an (aB (ah (K44 _ _ (sk fun _ K94=>sk fun _ K95=>rl ?_)))))))))
     refine nt (K95 _ _ (wp_block ?_))
     have H96:=Mem.cG (g:=aw w0.heap.size 5 1) (st:=st2 mgB bC u n gv k) (st':=st4 mgB bC u n gv m 0) H48 (fun i hi=>by rw [show k=m by omega];exact nw mgB bC u n gv m i hi)
     go_loopw [9] (fun x9 wr=>∃ k3:Nat,x9=.int .i64 (k3:Int)∧(k3≤m)∧Mem w0 wr [Ent.all (xaf m) (fun i=>aw w0.heap.size 5 1 (st4 mgB bC u n gv m 0 i)),ax w0.heap.size 24 1 (.slice (some ⟨gg,0,none⟩) m m) m ((gv).flatMap vb),ax B2 24 1 (.slice A m c) m (((xaf m).map u).flatMap vb),R]) (fun x9 _=>m-(intOf x9).toNat)
     case atStart=>exact ⟨0,rfl,by omega,H96⟩
     case round =>
      obtain ⟨wo97,rfl⟩:∃ wo97,wo97=wr:=⟨_,rfl⟩
      obtain ⟨k3,rfl,hk3,H98⟩:=hrel
      refine sk fun _ K100=>sk fun _ K101=>rl ?_
      by_cases p102:(k3:Int)<(m:Int)
      ·refine rv (aK (decide_eq_true p102)) ?_
       refine nt (K101 _ _ (ct (ks (K100 _ _ (sk fun _ K103=>wp_block (sk fun _ K104=>rl ?_))))))
       refine nt (K104 _ _ (wp_block ?_))
       have hnk:=hn k3 (by omega)
       go_loopw [10] (fun x10 wr=>∃ i:Nat,x10=.int .i64 (i:Int)∧(i≤n k3+64)∧Mem w0 wr [Ent.all (xaf m) (fun i=>aw w0.heap.size 5 1 (st4 mgB bC u n gv m 0 i)),ax w0.heap.size 24 1 (.slice (some ⟨gg,0,none⟩) m m) m ((gv).flatMap vb),ax B2 24 1 (.slice A m c) m (((xaf m).map u).flatMap vb),R]) (fun x10 _=>n k3+64-(intOf x10).toNat)
       case atStart=>exact ⟨0,rfl,by omega,H98⟩
       case round =>
        obtain ⟨wo105,rfl⟩:∃ wo105,wo105=wr:=⟨_,rfl⟩
        obtain ⟨i,rfl,hi,H106⟩:=hrel
        refine sk fun _ K108=>sk fun _ K109=>rl ?_
        obtain ⟨x110,hx111⟩:=gx (l:=gv) (j:=k3)
        have hd112:=aD hx111
        have hv113:=kz (mk:=mgB) (f:=bC) H106 (i0:=0) rfl (show k3<m by omega) (Nat.zero_le _) hx111
        obtain ⟨A114,c115,rfl⟩:=aI hv113
        refine rv (bT (s:=1) (k3) Tryz.underlying95 (by kernel_rfl)) ?_
        refine rv (xlc (range_cell (gZ (Mem.own H106 1 rfl) hx111)) Tryz.underlying24) ?_
        by_cases p116:(i:Int)<(((n k3+64):Nat):Int)
        ·refine rv (aK (decide_eq_true p116)) ?_
         refine nt (K109 _ _ (ct (ks (K108 _ _ (sk fun _ K117=>wp_block (sk fun _ K118=>?_))))))
         obtain ⟨b119,rfl,hlt122⟩:=aR hv113 (by omega)
         obtain ⟨b123,rfl,hlt126⟩:=aR (Mem.own H106 2 rfl) (by omega)
         obtain ⟨x127,hx128⟩:=gx (l:=((xaf m).map u)) (j:=k3)
         have hd129:=aD hx128
         obtain rfl:=bm hx128
         obtain ⟨A130,c131,hu132,hg133⟩:=hu0 k3 (by omega)
         refine Fre.cC (X:=Bel) [] (by kernel_rfl) (by kernel_rfl) (by simp) (by simp) (by simp) ?_
         refine Fre.rmd ?_
         refine Fre.mvv (fun _ _=>bT (s:=1) (k3) Tryz.underlying95 (by kernel_rfl)) ?_
         refine Fre.mvv (fun W9 hW9=>xlc (range_cell (gZ (Mem.own (Mem.call H106 hW9) 1 rfl) hx111)) Tryz.underlying24) ?_
         refine Fre.mvv (fun _ _=>bT (s:=1) (i) Tryz.underlying24 (by kernel_rfl)) ?_
         refine Fre.mvv (fun W9 hW9=>xlc (range_cell (jS (mk:=mgB) (f:=bC) (k:=k3) (i:=i) (fun k i=>rfl) (kz (mk:=mgB) (f:=bC) (Mem.call H106 hW9) (i0:=0) rfl (show k3<m by omega) (Nat.zero_le _) hx111) (by omega))) Tryz.underlying5) ?_
         refine Fre.mc (fun W9 hW9=>iO k3 i (by omega) (by omega) W9) ?_
         refine Fre.rmd ?_
         refine Fre.mvv (fun _ _=>vR (decide_eq_true rfl)) ?_
         refine Fre.mvv (fun _ _=>bT (s:=1) (k3) Tryz.underlying95 (by kernel_rfl)) ?_
         refine Fre.mvv (v:=.slice A130 (n k3) c131) (fun W9 hW9=>by rw [← hu132];exact exec_load_cell 24 (.tmp 104) rfl ⟨b123,k3*1,none⟩ rfl _ _ W9 Tryz.underlying24 rfl (range_cell (cO (Mem.own (Mem.call H106 hW9) 2 rfl) (by omega)))) ?_
         by_cases p134:(i:Int)<(((n k3):Nat):Int)
         ·refine Fre.mvv (fun _ _=>aK (decide_eq_true p134)) ?_
          refine Fre.mvv (fun _ _=>bT (s:=1) (k3) Tryz.underlying95 (by kernel_rfl)) ?_
          refine Fre.mvv (v:=.slice A130 (n k3) c131) (fun W9 hW9=>by rw [← hu132];exact exec_load_cell 24 (.tmp 111) rfl ⟨b123,k3*1,none⟩ rfl _ _ W9 Tryz.underlying24 rfl (range_cell (cO (Mem.own (Mem.call H106 hW9) 2 rfl) (by omega)))) ?_
          obtain ⟨b135,rfl⟩:=hg133 (by omega)
          refine Fre.mvv (fun _ _=>bT (s:=1) (i) Tryz.underlying24 (by kernel_rfl)) ?_
          refine Fre.mvv (fun W9 hW9=>xlc (range_cell (jS (mk:=mgB) (f:=bC) (k:=k3) (i:=i) (fun k i=>rfl) (hu132▸iW (mk:=mgB) (f:=bC) (Mem.call H106 hW9) (i0:=0) rfl (by omega)) (by omega))) Tryz.underlying5) ?_
          refine Fre.mc (fun W9 hW9=>iO k3 i (by omega) (by omega) W9) ?_
          refine Fre.rmd ?_
          refine Fre.mvv (fun _ _=>vR (decide_eq_true rfl)) ?_
          intro w139 hx141
          dsimp only [Fre.ended,xaE]
          have H140:=Mem.call H106 hx141
          refine ah (K118 _ _ (cf ?_))
          refine wp_skip ?_
          refine ar (ah (K117 _ _ (rl ?_)))
          refine rv (bp (((i+1:Nat):Int))) ?_
          refine wpList_nil ?_
          refine ah ?_
          show _∧_
          go_roundw
          case rel=>exact ⟨(i+1),rfl,by omega,H140⟩
          case measure=>simp [intOf];omega
         ·refine Fre.mvv (fun _ _=>aK (decide_eq_false p134)) ?_
          intro w142 hx144
          dsimp only [Fre.ended,xaE]
          have H143:=Mem.call H106 hx144
          refine ah (K118 _ _ (cf ?_))
          refine wp_skip ?_
          refine ar (ah (K117 _ _ (rl ?_)))
          refine rv (bp (((i+1:Nat):Int))) ?_
          refine wpList_nil ?_
          refine ah ?_
          show _∧_
          go_roundw
          case rel=>exact ⟨(i+1),rfl,by omega,H143⟩
          case measure=>simp [intOf];omega
        ·refine rv (aK (decide_eq_false p116)) ?_
         refine nt (K109 _ _ (cf (wp_exit (an (an (aB (ar (ah (K103 _ _ (rl ?_))))))))))
         refine rv (bp (((k3+1:Nat):Int))) ?_
         refine wpList_nil ?_
         refine ah ?_
         show _∧_
         go_roundw
         case rel=>exact ⟨(k3+1),rfl,by omega,H106⟩
         case measure=>simp [intOf];omega
      ·refine rv (aK (decide_eq_false p102)) ?_
       refine nt (K101 _ _ (cf (wp_exit (an (an (aB (ah (K94 _ _ (sk fun _ K145=>sk fun _ K146=>rl ?_)))))))))
       refine nt (K146 _ _ (wp_block ?_))
       obtain ⟨gw,hgw⟩:∃ g,g=gv:=⟨_,rfl⟩
       rw [← hgw] at H98
       rw [← hgw] at hgl
       have hgl6:=hgl
       clear hgl
       go_loopw [11] (fun x11 wr=>∃ k:Nat,∃ gv:List Value,x11=.int .i64 (k:Int)∧(k≤m)∧(gv.length=m)∧Mem w0 wr [Ent.all (xaf m) (fun i=>aw w0.heap.size 5 1 (st4 mgB bC u n gv m k i)),ax w0.heap.size 24 1 (.slice (some ⟨gg,0,none⟩) m m) m ((gv).flatMap vb),ax B2 24 1 (.slice A m c) m (((xaf m).map u).flatMap vb),R]) (fun x11 _=>m-(intOf x11).toNat)
       case atStart=>exact ⟨0,gw,rfl,by omega,hgl6,H98⟩
       case round =>
        obtain ⟨wo147,rfl⟩:∃ wo147,wo147=wr:=⟨_,rfl⟩
        obtain ⟨k,gv,rfl,hk,hgl,H148⟩:=hrel
        refine sk fun _ K150=>sk fun _ K151=>rl ?_
        by_cases p152:(k:Int)<(m:Int)
        ·refine rv (aK (decide_eq_true p152)) ?_
         refine nt (K151 _ _ (ct (ks (K150 _ _ (sk fun _ K153=>wp_block (sk fun _ K154=>rl ?_))))))
         obtain ⟨inm5,iq5,ir5,is5,it5⟩:=info_parts pA
         refine wpList_make_full _ rfl _ _ 24 rfl w0.heap.size 5 _ _ 1 Tryz.underlying24 iq5 ir5 is5 _ _ _ _ 64 rfl rfl rfl rfl (by rw [it5];omega) (by simp only [maxLen];omega) (Mem.below H148).size ?_
         intro w155 ow gr
         refine rn ?_
         obtain ⟨zs,hzs⟩:∃ zs:List Value,zs=(madeCells (Value.int .u8 0).cells (64*1)).toList:=⟨_,rfl⟩
         rw [← hzs] at ow
         have hzl:=ow.1
         have H156:=Mem.make H148 ow gr
         obtain ⟨gm,hgm⟩:∃ g,g=wo147.heap.size:=⟨_,rfl⟩
         rw [← hgm] at H156 ⊢
         clear ow gr hgm hzs
         refine rn ?_
         refine nt (K154 _ _ (sk fun _ K157=>sk fun _ K158=>rl ?_))
         refine nt (K158 _ _ (wp_block ?_))
         have hnk:=hn k (by omega)
         go_loopw [13] (fun x13 wr=>∃ i:Nat,x13=.int .i64 (i:Int)∧(i≤64)∧Mem w0 wr [ax w0.heap.size 5 1 (.slice (some ⟨gm,0,none⟩) 64 64) 64 (mkC mgB bC (k+m) i++zs.drop (i*1)),Ent.all (xaf m) (fun i=>aw w0.heap.size 5 1 (st4 mgB bC u n gv m k i)),ax w0.heap.size 24 1 (.slice (some ⟨gg,0,none⟩) m m) m ((gv).flatMap vb),ax B2 24 1 (.slice A m c) m (((xaf m).map u).flatMap vb),R]) (fun x13 _=>64-(intOf x13).toNat)
         case atStart=>exact ⟨0,rfl,by omega,H156⟩
         case round =>
          obtain ⟨wo159,rfl⟩:∃ wo159,wo159=wr:=⟨_,rfl⟩
          obtain ⟨i,rfl,hi,H160⟩:=hrel
          refine sk fun _ K162=>sk fun _ K163=>rl ?_
          by_cases p164:(i:Int)<64
          ·refine rv (aK (decide_eq_true p164)) ?_
           refine nt (K163 _ _ (ct (ks (K162 _ _ (sk fun _ K165=>wp_block (rl ?_))))))
           refine rv (bp (((k+m:Nat):Int))) ?_
           refine ac (iO (k+m) i (by omega) (by omega) wo159) ?_
           rintro e w166 ⟨rfl,hb168⟩
           refine ⟨_,rfl,rn ?_⟩
           have H167:=Mem.call H160 hb168
           refine rv (bT (s:=1) (i) Tryz.underlying24 (by kernel_rfl)) ?_
           refine cM rfl 5 (.tmp 142) (.tmp 141) rfl (Mem.own H167 0 rfl) (k:=i) (by omega) (by kernel_rfl) (.int .u8 (((mgB (k+m) i).toNat:Int))) rfl (by show xb4 (some ⟨_,i*1,none⟩)=_;rw [Nat.mul_one]) rfl ?_
           intro w169 ho9 hg9
           refine rn ?_
           have ho9:=vq (bC (mgB (k+m) i)) rfl ho9 (by omega)
           rw [mB mgB bC 1 (fun _=>zs) (fun k i=>rfl) (k+m) i] at ho9
           have H170:=Mem.jM H167 0 rfl ho9 hg9
           clear ho9 hg9
           refine wpList_nil ?_
           refine ar (ah (K165 _ _ (rl ?_)))
           refine rv (bp (((i+1:Nat):Int))) ?_
           refine wpList_nil ?_
           refine ah ?_
           show _∧_
           go_roundw
           case rel=>exact ⟨(i+1),rfl,by omega,H170⟩
           case measure=>simp [intOf];omega
          ·refine rv (aK (decide_eq_false p164)) ?_
           refine nt (K163 _ _ (cf (wp_exit (an (an (aB (ah (K157 _ _ (rl ?_)))))))))
           obtain ⟨b171,rfl,hlt174⟩:=aR (Mem.own H160 3 rfl) (by omega)
           obtain ⟨x175,hx176⟩:=gx (l:=((xaf m).map u)) (j:=k)
           have hd177:=aD hx176
           obtain rfl:=bm hx176
           obtain ⟨A178,c179,hu180,hg181⟩:=hu0 k (by omega)
           refine rv (bT (s:=1) (k) Tryz.underlying95 (by kernel_rfl)) ?_
           refine rv (v:=.slice A178 (n k) c179) (by rw [← hu180];exact exec_load_cell 24 (.tmp 147) rfl ⟨b171,k*1,none⟩ rfl _ _ wo159 Tryz.underlying24 rfl (range_cell (cO (Mem.own H160 3 rfl) (by omega)))) ?_
           have hie:i=64:=by omega
           subst hie
           have hU9:=iW (mk:=mgB) (f:=bC) H160 (i0:=1) rfl (show k<m by omega)
           rw [xbo] at hU9
           have hM9:=Mem.own H160 0 rfl
           rw [List.drop_of_length_le (by omega),xbo] at hM9
           refine eU rfl _ _ 24 rfl w0.heap.size 5 _ _ 1 1 Tryz.underlying24 iq5 ir5 is5 it5 rfl (by decide) (u k) (n k) (mkC mgB bC k (n k)) hU9 (some ⟨gm,0,none⟩) 64 64 (mkC mgB bC (k+m) 64) (mz hM9 (tk mgB bC (fun k i=>Fx _) _ _)) (by decide) (by simp only [maxLen];omega) (by omega) (Mem.below H160).size hu180.symm rfl ?_
           intro v9 w182 ho9 hg9 hr9
           refine rn ?_
           have H183:=py (mk:=mgB) (f:=bC) (Mem.pick H160 [1,0,2,3,4] (by decide) rfl) (show k<m by omega) hgl ho9 hg9 hr9
           obtain ⟨A9,c99,hv9⟩:=aI ho9
           clear ho9 hg9 hr9 hU9 hM9
           refine rv (bT (s:=1) (k) Tryz.underlying95 (by kernel_rfl)) ?_
           refine cM rfl 24 (.tmp 151) (.tmp 150) rfl (Mem.own H183 2 rfl) (k:=k) (by omega) (by kernel_rfl) v9 (by rw [hv9];rfl) (by show xb4 (some ⟨gg,k*1,none⟩)=_;rw [Nat.mul_one]) rfl ?_
           intro w184 ho9 hg9
           refine rn ?_
           rw [kR] at ho9
           have H185:=Mem.jM H183 2 rfl ho9 hg9
           clear ho9 hg9
           refine wpList_nil ?_
           refine ar (ah (K153 _ _ (rl ?_)))
           refine rv (bp (((k+1:Nat):Int))) ?_
           refine wpList_nil ?_
           have H186:=Mem.pick H185 [0,2,3,4] (by decide) rfl
           refine ah ?_
           show _∧_
           go_roundw
           case rel=>exact ⟨(k+1),(gv.set k v9),rfl,by omega,(by rw [xbh];exact hgl),H186⟩
           case measure=>simp [intOf];omega
        ·refine rv (aK (decide_eq_false p152)) ?_
         refine nt (K151 _ _ (cf (wp_exit (an (an (aB (ah (K145 _ _ (sk fun _ K187=>sk fun _ K188=>rl ?_)))))))))
         refine nt (K188 _ _ (wp_block ?_))
         have hke8:k=m:=by omega
         rw [hke8] at H148
         go_loopw [14] (fun x14 wr=>∃ k5:Nat,x14=.int .i64 (k5:Int)∧(k5≤m)∧Mem w0 wr [Ent.all (xaf m) (fun i=>aw w0.heap.size 5 1 (st4 mgB bC u n gv m m i)),ax w0.heap.size 24 1 (.slice (some ⟨gg,0,none⟩) m m) m ((gv).flatMap vb),ax B2 24 1 (.slice A m c) m (((xaf m).map u).flatMap vb),R]) (fun x14 _=>m-(intOf x14).toNat)
         case atStart=>exact ⟨0,rfl,by omega,H148⟩
         case round =>
          obtain ⟨wo189,rfl⟩:∃ wo189,wo189=wr:=⟨_,rfl⟩
          obtain ⟨k5,rfl,hk5,H190⟩:=hrel
          refine sk fun _ K192=>sk fun _ K193=>rl ?_
          by_cases p194:(k5:Int)<(m:Int)
          ·refine rv (aK (decide_eq_true p194)) ?_
           refine nt (K193 _ _ (ct (ks (K192 _ _ (sk fun _ K195=>wp_block (sk fun _ K196=>rl ?_))))))
           refine nt (K196 _ _ (wp_block ?_))
           have hnk:=hn k5 (by omega)
           go_loopw [15] (fun x15 wr=>∃ i:Nat,x15=.int .i64 (i:Int)∧(i≤n k5)∧Mem w0 wr [Ent.all (xaf m) (fun i=>aw w0.heap.size 5 1 (st4 mgB bC u n gv m m i)),ax w0.heap.size 24 1 (.slice (some ⟨gg,0,none⟩) m m) m ((gv).flatMap vb),ax B2 24 1 (.slice A m c) m (((xaf m).map u).flatMap vb),R]) (fun x15 _=>n k5-(intOf x15).toNat)
           case atStart=>exact ⟨0,rfl,by omega,H190⟩
           case round =>
            obtain ⟨wo197,rfl⟩:∃ wo197,wo197=wr:=⟨_,rfl⟩
            obtain ⟨i,rfl,hi,H198⟩:=hrel
            refine sk fun _ K200=>sk fun _ K201=>rl ?_
            obtain ⟨b202,rfl,hlt205⟩:=aR (Mem.own H198 2 rfl) (by omega)
            obtain ⟨x206,hx207⟩:=gx (l:=((xaf m).map u)) (j:=k5)
            have hd208:=aD hx207
            obtain rfl:=bm hx207
            obtain ⟨A209,c210,hu211,hg212⟩:=hu0 k5 (by omega)
            refine rv (bT (s:=1) (k5) Tryz.underlying95 (by kernel_rfl)) ?_
            refine rv (v:=.slice A209 (n k5) c210) (by rw [← hu211];exact exec_load_cell 24 (.tmp 161) rfl ⟨b202,k5*1,none⟩ rfl _ _ wo197 Tryz.underlying24 rfl (range_cell (cO (Mem.own H198 2 rfl) (by omega)))) ?_
            by_cases p213:(i:Int)<(((n k5):Nat):Int)
            ·refine rv (aK (decide_eq_true p213)) ?_
             refine nt (K201 _ _ (ct (ks (K200 _ _ (sk fun _ K214=>wp_block (sk fun _ K215=>?_))))))
             obtain ⟨b216,rfl⟩:=hg212 (by omega)
             obtain ⟨x220,hx221⟩:=gx (l:=gv) (j:=k5)
             have hd222:=aD hx221
             have hv223:=kA (mk:=mgB) (f:=bC) H198 (i0:=0) rfl (show k5<m by omega) (by omega) hx221
             obtain ⟨A224,c225,rfl⟩:=aI hv223
             obtain ⟨b226,rfl,hlt229⟩:=aR hv223 (by omega)
             refine Fre.cC (X:=Bel) [] (by kernel_rfl) (by kernel_rfl) (by simp) (by simp) (by simp) ?_
             refine Fre.rmd ?_
             refine Fre.mvv (fun _ _=>bT (s:=1) (k5) Tryz.underlying95 (by kernel_rfl)) ?_
             refine Fre.mvv (v:=.slice (some ⟨b216,0,none⟩) (n k5) c210) (fun W9 hW9=>by rw [← hu211];exact exec_load_cell 24 (.tmp 169) rfl ⟨b202,k5*1,none⟩ rfl _ _ W9 Tryz.underlying24 rfl (range_cell (cO (Mem.own (Mem.call H198 hW9) 2 rfl) (by omega)))) ?_
             refine Fre.mvv (fun _ _=>bT (s:=1) (i) Tryz.underlying24 (by kernel_rfl)) ?_
             refine Fre.mvv (fun W9 hW9=>xlc (range_cell (jS (mk:=mgB) (f:=bC) (k:=k5) (i:=i) (fun k i=>rfl) (hu211▸iW (mk:=mgB) (f:=bC) (Mem.call H198 hW9) (i0:=0) rfl (by omega)) (by omega))) Tryz.underlying5) ?_
             refine Fre.mc (fun W9 hW9=>iO k5 i (by omega) (by omega) W9) ?_
             refine Fre.rmd ?_
             refine Fre.mvv (fun _ _=>vR (decide_eq_true rfl)) ?_
             refine Fre.mvv (fun _ _=>bT (s:=1) (k5) Tryz.underlying95 (by kernel_rfl)) ?_
             refine Fre.mvv (fun W9 hW9=>xlc (range_cell (gZ (Mem.own (Mem.call H198 hW9) 1 rfl) hx221)) Tryz.underlying24) ?_
             refine Fre.mvv (fun _ _=>bT (s:=1) (i) Tryz.underlying24 (by kernel_rfl)) ?_
             refine Fre.mvv (fun W9 hW9=>xlc (range_cell (jS (mk:=mgB) (f:=bC) (k:=k5) (i:=i) (fun k i=>rfl) (kA (mk:=mgB) (f:=bC) (Mem.call H198 hW9) (i0:=0) rfl (show k5<m by omega) (by omega) hx221) (by omega))) Tryz.underlying5) ?_
             refine Fre.mc (fun W9 hW9=>iO k5 i (by omega) (by omega) W9) ?_
             refine Fre.rmd ?_
             refine Fre.mvv (fun _ _=>vR (decide_eq_true rfl)) ?_
             intro w230 hx232
             dsimp only [Fre.ended,xaE]
             have H231:=Mem.call H198 hx232
             refine ah (K215 _ _ (cf ?_))
             refine wp_skip ?_
             refine ar (ah (K214 _ _ (rl ?_)))
             refine rv (bp (((i+1:Nat):Int))) ?_
             refine wpList_nil ?_
             refine ah ?_
             show _∧_
             go_roundw
             case rel=>exact ⟨(i+1),rfl,by omega,H231⟩
             case measure=>simp [intOf];omega
            ·refine rv (aK (decide_eq_false p213)) ?_
             refine nt (K201 _ _ (cf (wp_exit (an (an (aB (ar (ah (K195 _ _ (rl ?_))))))))))
             refine rv (bp (((k5+1:Nat):Int))) ?_
             refine wpList_nil ?_
             refine ah ?_
             show _∧_
             go_roundw
             case rel=>exact ⟨(k5+1),rfl,by omega,H198⟩
             case measure=>simp [intOf];omega
          ·refine rv (aK (decide_eq_false p194)) ?_
           refine nt (K193 _ _ (cf (wp_exit (an (an (aB (ah (K187 _ _ (sk fun _ K233=>rl ?_)))))))))
           refine nt (K233 _ _ (rt ?_))
           exact ⟨rfl,(Mem.pick H190 [2,3] (by decide) rfl)⟩
end Go.Proofs.YtomnhnmciopiiaaGreat
end
section
namespace Go.Proofs.YtomnhnmciopiiaaGreat
open Go Go.RowKit Go.Maps
attribute [local irreducible] wpList
def fu (b n d:Value):List Value:=[.slice none 0 0,.slice none 0 0,.slice none 0 0,.slice none 0 0,.slice none 0 0,b,.slice none 0 0,.slice none 0 0,.slice none 0 0,.slice none 0 0,.slice none 0 0,.slice none 0 0,.slice none 0 0,.slice none 0 0,.slice none 0 0,n,d,.slice none 0 0,.slice none 0 0,.slice none 0 0,.slice none 0 0]
theorem dr {w:World} {g:Nat} {b n d:Value} (i:Nat) (v:Value) (hv:(fu b n d)[i]?=some v) (h:w.rangeAt g 0 (fu b n d)):w.rangeAt g i [v]:=fun j u hu=>by
 cases j with
 | zero =>
  have h1:=h i v hv
  injection hu with hu
  rw [← hu]
  rwa [Nat.zero_add] at h1
 | succ j=>simp at hu
theorem Fy:(Tryz.prog.info? 24).map (fun i=>(i.zero,i.size,i.bytes))=some (some (.slice none 0 0),1,24):=by kernel_rfl
theorem FA:(Tryz.prog.info? 23).map (fun i=>(i.zero,i.size,i.bytes))=some (some (.slice none 0 0),1,24):=by kernel_rfl
theorem Fz:(Tryz.prog.info? 53).map (fun i=>(i.zero,i.size,i.bytes))=some (some (.slice none 0 0),1,24):=by kernel_rfl
def db (B:Nat) (t:TypeId) (A:Option Addr) (c:Nat) (l:List Value):Ent:=ax B t 1 (.slice A l.length c) l.length (l.flatMap vb)
def jU (x:Value):Prop:=∃ A n c,x=.slice A n c
theorem qO (w0 w:World) (R:Ent) (g:Nat) (l:List Value) (A1:Option Addr) (c1:Nat) (ub ud x:Value) (hx1:jU x) (hl:l.length≤100000000) (hm:Mem w0 w [bh g 125 (fu ub (.slice A1 l.length c1) ud).toArray,db w0.heap.size 23 A1 c1 l,R]) :
  Calls Tryz.prog 136 #[.pointer (some ⟨g,0,none⟩),x] w fun e w'=>e=.returned (.tuple #[])∧∃ A2 c2,Mem w0 w' [bh g 125 (fu ub (.slice A2 (l++[x]).length c2) ud).toArray,db w0.heap.size 23 A2 c2 (l++[x]),R]:=by
 obtain ⟨Ax,nx,cx,rfl⟩:=hx1
 unfold db at hm ⊢
 go_enter Tryz.func136,Tryz.ntmps136
 refine rl ?_
 refine rp g 0 ?_
 refine rp g 15 ?_
 refine rv (xlc (range_cell (dr 15 _ rfl (Blk.range (Mem.blk hm 0 rfl)))) Tryz.underlying119) ?_
 refine aO rfl 119 (.tmp 9) rfl 23 1 (xas none 0 0) (.slice Ax nx cx) rfl Tryz.underlying119 (by kernel_rfl) (by decide) (by decide) (fun w=>by kernel_rfl) rfl ?_
 intro w1 hn
 have H2:=Mem.aM hm hn
 clear hn
 refine rn ?_
 obtain ⟨inm23,iq23,ir23,is23,it23⟩:=info_parts FA
 refine aE rfl _ _ 119 rfl (w0.heap.size) 23 _ _ 1 24 Tryz.underlying119 iq23 ir23 is23 it23 rfl (by decide) (.slice A1 l.length c1) ((l).length) ((l).flatMap vb) (Mem.own H2 2 rfl) ((some ⟨w.heap.size,0,none⟩)) (1) (1) ([.slice Ax nx cx]) (bU (n:=1) (m:=1) (Mem.blk H2 0 rfl) rfl (fun u hu=>by rw [xan.1 hu];rfl)) ?hmt3 ?hbt3 ?hzt3 rfl rfl ?_
 case hmt3=>simp only [maxLen];omega
 case hbt3=>omega
 case hzt3=>exact (Mem.below H2).size
 intro u6 w4 ow9 gr10 hp11
 refine rn ?_
 have ow9:w4.ownsRow (w0.heap.size) 23 1 u6 (l++[(xas Ax nx cx)]).length ((l++[(xas Ax nx cx)]).flatMap vb):=by first | simpa using ow9 | simpa [vb] using ow9 | (simp at ow9 ⊢;exact ow9)
 obtain ⟨A7,c8,rfl⟩:=aI ow9
 have H5:=Mem.app H2 2 rfl ow9 gr10 hp11
 clear ow9 gr10 hp11
 refine rp g 0 ?_
 refine rp g 15 ?_
 refine bD rfl 119 (.tmp 13) (.tmp 11) rfl g (15) 125 (fu ub (.slice A1 l.length c1) ud).toArray (Mem.blk H5 1 rfl) (xaW rfl) (by kernel_rfl) (.slice A7 (l++[(xas Ax nx cx)]).length c8) rfl rfl rfl ?_
 intro w12 hk hg hz
 have H13:=Mem.st (cs':=(fu ub (.slice A7 (l++[(xas Ax nx cx)]).length c8) ud).toArray) H5 1 rfl hk hg
 clear hk hg hz
 refine rn ?_
 refine wpList_nil ?_
 refine bodyPost_end (results_none rfl _ _ _) rfl ?_
 exact ⟨rfl,_,_,(Mem.pick H13 [1,2,3] (by decide) rfl)⟩
theorem o4 (w0 w:World) (L:List Ent) (g:Nat) (l:List Value) (A1:Option Addr) (c1:Nat) (ub ud x:Value) (hx1:jU x) (hl:l.length≤100000000) (hm:Mem w0 w (bh g 125 (fu ub (.slice A1 l.length c1) ud).toArray :: db w0.heap.size 23 A1 c1 l :: L)) :
  Calls Tryz.prog 136 #[.pointer (some ⟨g,0,none⟩),x] w fun e w'=>e=.returned (.tuple #[])∧∃ A2 c2,Mem w0 w' (bh g 125 (fu ub (.slice A2 (l++[x]).length c2) ud).toArray :: db w0.heap.size 23 A2 c2 (l++[x]) :: L):=by
 obtain ⟨hp,hok,hfar⟩:=Mem.pack [bh g 125 (fu ub (.slice A1 l.length c1) ud).toArray,db w0.heap.size 23 A1 c1 l] hm
 exact (qO w0 w _ g l A1 c1 ub ud x hx1 hl hp).mono fun e w' ⟨h1,A2,c2,h2⟩=>⟨h1,A2,c2,Mem.unpack [_,_] h2 hok hfar⟩
theorem sC (w0 w:World) (R:Ent) (g:Nat) (l:List Value) (A1:Option Addr) (c1:Nat) (un ud x:Value) (hx1:jU x) (hl:l.length≤100000000) (hm:Mem w0 w [bh g 125 (fu (.slice A1 l.length c1) un ud).toArray,db w0.heap.size 24 A1 c1 l,R]) :
  Calls Tryz.prog 137 #[.pointer (some ⟨g,0,none⟩),x] w fun e w'=>e=.returned (.tuple #[])∧∃ A2 c2,Mem w0 w' [bh g 125 (fu (.slice A2 (l++[x]).length c2) un ud).toArray,db w0.heap.size 24 A2 c2 (l++[x]),R]:=by
 obtain ⟨Ax,nx,cx,rfl⟩:=hx1
 unfold db at hm ⊢
 go_enter Tryz.func137,Tryz.ntmps137
 refine rl ?_
 refine rp g 0 ?_
 refine rp g 5 ?_
 refine rv (xlc (range_cell (dr 5 _ rfl (Blk.range (Mem.blk hm 0 rfl)))) Tryz.underlying95) ?_
 refine aO rfl 95 (.tmp 9) rfl 24 1 (xas none 0 0) (.slice Ax nx cx) rfl Tryz.underlying95 (by kernel_rfl) (by decide) (by decide) (fun w=>by kernel_rfl) rfl ?_
 intro w1 hn
 have H2:=Mem.aM hm hn
 clear hn
 refine rn ?_
 obtain ⟨inm24,iq24,ir24,is24,it24⟩:=info_parts Fy
 refine aE rfl _ _ 95 rfl (w0.heap.size) 24 _ _ 1 24 Tryz.underlying95 iq24 ir24 is24 it24 rfl (by decide) (.slice A1 l.length c1) ((l).length) ((l).flatMap vb) (Mem.own H2 2 rfl) ((some ⟨w.heap.size,0,none⟩)) (1) (1) ([.slice Ax nx cx]) (bU (n:=1) (m:=1) (Mem.blk H2 0 rfl) rfl (fun u hu=>by rw [xan.1 hu];rfl)) ?hmt3 ?hbt3 ?hzt3 rfl rfl ?_
 case hmt3=>simp only [maxLen];omega
 case hbt3=>omega
 case hzt3=>exact (Mem.below H2).size
 intro u6 w4 ow9 gr10 hp11
 refine rn ?_
 have ow9:w4.ownsRow (w0.heap.size) 24 1 u6 (l++[(xas Ax nx cx)]).length ((l++[(xas Ax nx cx)]).flatMap vb):=by first | simpa using ow9 | simpa [vb] using ow9 | (simp at ow9 ⊢;exact ow9)
 obtain ⟨A7,c8,rfl⟩:=aI ow9
 have H5:=Mem.app H2 2 rfl ow9 gr10 hp11
 clear ow9 gr10 hp11
 refine rp g 0 ?_
 refine rp g 5 ?_
 refine bD rfl 95 (.tmp 13) (.tmp 11) rfl g (5) 125 (fu (.slice A1 l.length c1) un ud).toArray (Mem.blk H5 1 rfl) (xaW rfl) (by kernel_rfl) (.slice A7 (l++[(xas Ax nx cx)]).length c8) rfl rfl rfl ?_
 intro w12 hk hg hz
 have H13:=Mem.st (cs':=(fu (.slice A7 (l++[(xas Ax nx cx)]).length c8) un ud).toArray) H5 1 rfl hk hg
 clear hk hg hz
 refine rn ?_
 refine wpList_nil ?_
 refine bodyPost_end (results_none rfl _ _ _) rfl ?_
 exact ⟨rfl,_,_,(Mem.pick H13 [1,2,3] (by decide) rfl)⟩
theorem qN (w0 w:World) (L:List Ent) (g:Nat) (l:List Value) (A1:Option Addr) (c1:Nat) (un ud x:Value) (hx1:jU x) (hl:l.length≤100000000) (hm:Mem w0 w (bh g 125 (fu (.slice A1 l.length c1) un ud).toArray :: db w0.heap.size 24 A1 c1 l :: L)) :
  Calls Tryz.prog 137 #[.pointer (some ⟨g,0,none⟩),x] w fun e w'=>e=.returned (.tuple #[])∧∃ A2 c2,Mem w0 w' (bh g 125 (fu (.slice A2 (l++[x]).length c2) un ud).toArray :: db w0.heap.size 24 A2 c2 (l++[x]) :: L):=by
 obtain ⟨hp,hok,hfar⟩:=Mem.pack [bh g 125 (fu (.slice A1 l.length c1) un ud).toArray,db w0.heap.size 24 A1 c1 l] hm
 exact (sC w0 w _ g l A1 c1 un ud x hx1 hl hp).mono fun e w' ⟨h1,A2,c2,h2⟩=>⟨h1,A2,c2,Mem.unpack [_,_] h2 hok hfar⟩
end Go.Proofs.YtomnhnmciopiiaaGreat
end
section
namespace Go.Proofs.YtomnhnmciopiiaaGreat
open Go Go.RowKit Go.Maps
attribute [local irreducible] wpList
theorem jU.one {x:Value} (h:jU x):x.oneCell'=true:=by
 obtain ⟨_,_,_,rfl⟩:=h
 rfl
theorem wg (w0 w:World) (R:Ent) (g:Nat) (ns bs:List Value) (A1 A2:Option Addr) (c1 c2:Nat) (ud:Value) (d:Drv) (v1 v2:Value) (hv1:jU v1) (hv2:jU v2) (hn:ns.length≤100000000) (hb:bs.length≤100000000) (hm:Mem w0 w [bh g 125 (fu (.slice A2 bs.length c2) (.slice A1 ns.length c1) ud).toArray,db w0.heap.size 23 A1 c1 ns,db w0.heap.size 24 A2 c2 bs,R]) :
  Calls Tryz.prog 98 #[.pointer (some ⟨g,0,none⟩),.agg (dC d v1 v2).toArray] w fun e w'=>e=.returned (.tuple #[])∧∃ A3 c3 A4 c4,Mem w0 w' [bh g 125 (fu (.slice A4 (bs++[v2]).length c4) (.slice A3 (ns++[v1]).length c3) ud).toArray,db w0.heap.size 23 A3 c3 (ns++[v1]),db w0.heap.size 24 A4 c4 (bs++[v2]),R]:=by
 have ho1:=hv1.one
 have ho2:=hv2.one
 go_enter Tryz.func98,Tryz.ntmps98
 refine sk fun _ K1=>rl ?_
 refine bx 26 (dC d v1 v2) fun w2 hn_=>?_
 have H3:=Mem.aM hm hn_
 refine rn ?_
 refine nt (K1 _ _ (sk fun _ K4=>rl ?_))
 refine rp w.heap.size 1 ?_
 refine rv (xlc (range_cell (dg (Blk.range (Mem.blk H3 0 rfl)))) Tryz.underlying23) ?_
 refine ac (o4 w0 w2 _ g ns A1 c1 (.slice A2 bs.length c2) ud v1 hv1 (by omega) (Mem.pick H3 [1,2,0,3,4] (by decide) rfl)) ?_
 rintro e w8 ⟨rfl,A5,c6,hm7⟩
 refine ⟨_,rfl,rn ?_⟩
 have H9:=hm7
 refine nt (K4 _ _ (rl ?_))
 refine rp w.heap.size 2 ?_
 refine rv (xlc (range_cell (jZ (Blk.range (Mem.blk H9 2 rfl)))) Tryz.underlying24) ?_
 refine ac (qN w0 w8 _ g bs A2 c2 (.slice A5 (ns++[v1]).length c6) ud v2 hv2 (by omega) (Mem.pick H9 [0,3,1,2,4] (by decide) rfl)) ?_
 rintro e w14 ⟨rfl,A11,c12,hm13⟩
 refine ⟨_,rfl,rn ?_⟩
 have H15:=hm13
 refine wpList_nil ?_
 refine bodyPost_end (results_none rfl _ _ _) rfl ?_
 exact ⟨rfl,_,_,_,_,(Mem.pick H15 [0,2,1,4] (by decide) rfl)⟩
theorem tZ (w0 w:World) (L:List Ent) (g:Nat) (ns bs:List Value) (A1 A2:Option Addr) (c1 c2:Nat) (ud:Value) (d:Drv) (v1 v2:Value) (hv1:jU v1) (hv2:jU v2) (hn:ns.length≤100000000) (hb:bs.length≤100000000) (hm:Mem w0 w (bh g 125 (fu (.slice A2 bs.length c2) (.slice A1 ns.length c1) ud).toArray :: db w0.heap.size 23 A1 c1 ns :: db w0.heap.size 24 A2 c2 bs :: L)) :
  Calls Tryz.prog 98 #[.pointer (some ⟨g,0,none⟩),.agg (dC d v1 v2).toArray] w fun e w'=>e=.returned (.tuple #[])∧∃ A3 c3 A4 c4,Mem w0 w' (bh g 125 (fu (.slice A4 (bs++[v2]).length c4) (.slice A3 (ns++[v1]).length c3) ud).toArray :: db w0.heap.size 23 A3 c3 (ns++[v1]) :: db w0.heap.size 24 A4 c4 (bs++[v2]) :: L):=by
 obtain ⟨hp,hok,hfar⟩:=Mem.pack [bh g 125 (fu (.slice A2 bs.length c2) (.slice A1 ns.length c1) ud).toArray,db w0.heap.size 23 A1 c1 ns,db w0.heap.size 24 A2 c2 bs] hm
 exact (wg w0 w _ g ns bs A1 A2 c1 c2 ud d v1 v2 hv1 hv2 hn hb hp).mono fun e w' ⟨h1,A3,c3,A4,c4,h2⟩=>⟨h1,A3,c3,A4,c4,Mem.unpack [_,_,_] h2 hok hfar⟩
theorem ua (w0 w:World) (R:Ent) (g:Nat) (ns bs ds:List Value) (A1 A2 A3:Option Addr) (c1 c2 c3:Nat) (B:Nat) (os:List bI) (A:Option Addr) (c:Nat) (hR:∀ W,R.P W→W.ownsRow B 26 3 (.slice A os.length c) os.length (os.flatMap dV9)) (hsl:∀ p∈os,jU p.2.1∧jU p.2.2) (hos:os.length≤1000000) (hn:ns.length≤10000000) (hb:bs.length≤10000000) (hd:ds.length≤10000000) (hm:Mem w0 w [bh g 125 (fu (.slice A2 bs.length c2) (.slice A1 ns.length c1) (.slice A3 ds.length c3)).toArray,db w0.heap.size 23 A1 c1 ns,db w0.heap.size 24 A2 c2 bs,db w0.heap.size 53 A3 c3 ds,R]) :
  Calls Tryz.prog 70 #[.pointer (some ⟨g,0,none⟩),.slice A os.length c] w fun e w'=>e=.returned (.tuple #[])∧∃ A4 c4 A5 c5 A6 c6,Mem w0 w' [bh g 125 (fu (.slice A5 (bs++os.map (·.2.2)).length c5) (.slice A4 (ns++os.map (·.2.1)).length c4) (.slice A6 (ds++[xas A os.length c]).length c6)).toArray,db w0.heap.size 23 A4 c4 (ns++os.map (·.2.1)),db w0.heap.size 24 A5 c5 (bs++os.map (·.2.2)),db w0.heap.size 53 A6 c6 (ds++[xas A os.length c]),R]:=by
 have hR0:=hR w (Mem.get hm 4 rfl)
 go_enter Tryz.func70,Tryz.ntmps70
 refine sk fun _ K1=>rl ?_
 refine rp g 0 ?_
 refine rp g 16 ?_
 refine rv (xlc (range_cell (dr 16 _ rfl (Blk.range (Mem.blk hm 0 rfl)))) Tryz.underlying55) ?_
 refine aO rfl 55 (.tmp 10) rfl 53 1 (xas none 0 0) (.slice A os.length c) rfl Tryz.underlying55 (by kernel_rfl) (by decide) (by decide) (fun w=>by kernel_rfl) rfl ?_
 intro w2 hn
 have H3:=Mem.aM hm hn
 clear hn
 refine rn ?_
 obtain ⟨inm53,iq53,ir53,is53,it53⟩:=info_parts Fz
 refine aE rfl _ _ 55 rfl (w0.heap.size) 53 _ _ 1 24 Tryz.underlying55 iq53 ir53 is53 it53 rfl (by decide) (.slice A3 ds.length c3) ((ds).length) ((ds).flatMap vb) (Mem.own H3 4 rfl) ((some ⟨w.heap.size,0,none⟩)) (1) (1) ([.slice A os.length c]) (bU (n:=1) (m:=1) (Mem.blk H3 0 rfl) rfl (fun u hu=>by rw [xan.1 hu];rfl)) ?hmt4 ?hbt4 ?hzt4 rfl rfl ?_
 case hmt4=>simp only [maxLen];omega
 case hbt4=>omega
 case hzt4=>exact (Mem.below H3).size
 intro u7 w5 ow10 gr11 hp12
 refine rn ?_
 have ow10:w5.ownsRow (w0.heap.size) 53 1 u7 (ds++[(xas A os.length c)]).length ((ds++[(xas A os.length c)]).flatMap vb):=by first | simpa using ow10 | simpa [vb] using ow10 | (simp at ow10 ⊢;exact ow10)
 obtain ⟨A8,c9,rfl⟩:=aI ow10
 have H6:=Mem.app H3 4 rfl ow10 gr11 hp12
 clear ow10 gr11 hp12
 refine rp g 0 ?_
 refine rp g 16 ?_
 refine bD rfl 55 (.tmp 14) (.tmp 12) rfl g (16) 125 (fu (.slice A2 bs.length c2) (.slice A1 ns.length c1) (.slice A3 ds.length c3)).toArray (Mem.blk H6 1 rfl) (xaW rfl) (by kernel_rfl) (.slice A8 (ds++[(xas A os.length c)]).length c9) rfl rfl rfl ?_
 intro w13 hk hg hz
 have H14:=Mem.st (cs':=(fu (.slice A2 bs.length c2) (.slice A1 ns.length c1) (.slice A8 (ds++[(xas A os.length c)]).length c9)).toArray) H6 1 rfl hk hg
 clear hk hg hz
 refine rn ?_
 refine nt (K1 _ _ (sk fun _ K15=>rl ?_))
 refine nt (K15 _ _ (wp_block ?_))
 have H16:=Mem.pick H14 [1,2,3,4,5] (by decide) rfl
 go_loopw [4] (fun x4 wr=>∃ j:Nat,∃ ns9:List Value,∃ An:Option Addr,∃ cn:Nat,∃ bs9:List Value,∃ Ab:Option Addr,∃ cb:Nat,x4=.int .i64 (j:Int)∧(j≤os.length)∧(ns9=ns++(os.take j).map (·.2.1))∧(bs9=bs++(os.take j).map (·.2.2))∧Mem w0 wr [bh g 125 (fu (.slice Ab bs9.length cb) (.slice An ns9.length cn) (.slice A8 (ds++[(xas A os.length c)]).length c9)).toArray,db w0.heap.size 23 An cn ns9,db w0.heap.size 24 Ab cb bs9,db w0.heap.size 53 A8 c9 (ds++[xas A os.length c]),R]) (fun x4 _=>os.length-(intOf x4).toNat)
 case atStart=>exact ⟨0,ns,A1,c1,bs,A2,c2,rfl,by omega,(by simp),(by simp),H16⟩
 case round =>
  obtain ⟨wo17,rfl⟩:∃ wo17,wo17=wr:=⟨_,rfl⟩
  obtain ⟨j,ns9,An,cn,bs9,Ab,cb,rfl,hj,hns,hbs,H18⟩:=hrel
  have hn9:ns9.length≤ns.length+j:=by rw [hns,xak,xap,xaN];omega
  have hb9:bs9.length≤bs.length+j:=by rw [hbs,xak,xap,xaN];omega
  refine sk fun _ K20=>sk fun _ K21=>rl ?_
  by_cases p22:(j:Int)<((os.length:Nat):Int)
  ·refine rv (aK (decide_eq_true p22)) ?_
   refine nt (K21 _ _ (ct (ks (K20 _ _ (sk fun _ K23=>wp_block (rl ?_))))))
   obtain ⟨b24,rfl⟩:=(fun h0=>(aR hR0 h0).imp fun _ h9=>h9.1) (by omega)
   obtain ⟨p28,hx29⟩:∃ x,os[j]?=some x:=⟨_,xai (by omega)⟩
   have sp30:=hsl _ (xaj hx29)
   refine rv (bT (s:=3) (j) Tryz.underlying53 (by kernel_rfl)) ?_
   refine rv (xld (dQ (f:=dV9) (by decide) (hR _ (Mem.get H18 4 rfl)) (fun p hp=>rfl) hx29) Tryz.underlying26 (aS p28.1.2 p28.2.1 p28.2.2)) ?_
   refine ac (tZ w0 wo17 _ g ns9 bs9 An Ab cn cb _ p28.1.2 p28.2.1 p28.2.2 sp30.1 sp30.2 (by omega) (by omega) (Mem.pick H18 [0,1,2,3,4] (by decide) rfl)) ?_
   rintro e w36 ⟨rfl,A31,c32,A33,c34,hm35⟩
   refine ⟨_,rfl,rn ?_⟩
   have H37:=hm35
   refine wpList_nil ?_
   refine ar (ah (K23 _ _ (rl ?_)))
   refine rv (bp (((j+1:Nat):Int))) ?_
   refine wpList_nil ?_
   refine ah ?_
   show _∧_
   go_roundw
   case rel=>exact ⟨(j+1),(ns9++[p28.2.1]),A31,c32,(bs9++[p28.2.2]),A33,c34,rfl,by omega,(by rw [hns,xaR,← lM hx29,List.map_append];rfl),(by rw [hbs,xaR,← lM hx29,List.map_append];rfl),H37⟩
   case measure=>simp [intOf];omega
  ·have he39:=bE (l:=os) (j:=j) (by omega)
   refine rv (aK (decide_eq_false p22)) ?_
   refine nt (K21 _ _ (cf (wp_exit (an (an (aB ?_))))))
   refine bodyPost_end (results_none rfl _ _ _) rfl ?_
   have hje:j=os.length:=by omega
   rw [hje,xaG] at hns hbs
   subst hns hbs
   exact ⟨rfl,_,_,_,_,_,_,H18⟩
end Go.Proofs.YtomnhnmciopiiaaGreat
end
section
namespace Go.Proofs.YtomnhnmciopiiaaGreat
open Go Go.RowKit
theorem wT:(Tryz.prog.info? 198).map (fun i=>(i.zero,i.size,i.bytes))=some (some (.slice none 0 0),1,24):=by kernel_rfl
theorem qU (w:World):Calls Tryz.prog 99 #[.slice none 0 0] w fun e w'=>e=.returned (.bool true)∧Below w.heap.size w w':=by
 obtain ⟨i,hi,hz0,hz1,hz2⟩:=info_parts wT
 go_enter Tryz.func99,Tryz.ntmps99
 go_wp2_with fail
 refine wp_loop_once ?_
 go_wp2_with (at_make;refine wpList_make_row _ rfl _ _ 106 rfl 198 i (.slice none 0 0) Tryz.underlying106 hi hz0 hz1 rfl _ _ 0 rfl rfl ?e0 ?e1 ?_)
 case e0=>rw [hz2];omega
 case e1=>omega
 go_wp2_with fail
 refine wp_loop_once ?_
 go_wp2_with fail
 refine wp_loop_once ?_
 go_wp2_with fail
 refine wp_loop_once ?_
 go_wp2_with fail
 refine wp_loop_once ?_
 go_wp2_with fail
 go_ret
 exact ⟨rfl,(xao _ _).alloc (xag _) _⟩
theorem xa:(Tryz.prog.info? 199).map (fun i=>(i.zero,i.size,i.bytes))=some (some (.slice none 0 0),1,24):=by kernel_rfl
theorem q8 (w:World):Calls Tryz.prog 100 #[.slice none 0 0] w fun e w'=>e=.returned (.bool true)∧Below w.heap.size w w':=by
 obtain ⟨i,hi,hz0,hz1,hz2⟩:=info_parts xa
 go_enter Tryz.func100,Tryz.ntmps100
 go_wp2_with fail
 refine wp_loop_once ?_
 go_wp2_with (at_make;refine wpList_make_row _ rfl _ _ 107 rfl 199 i (.slice none 0 0) Tryz.underlying107 hi hz0 hz1 rfl _ _ 0 rfl rfl ?e0 ?e1 ?_)
 case e0=>rw [hz2];omega
 case e1=>omega
 go_wp2_with fail
 refine wp_loop_once ?_
 go_wp2_with fail
 refine wp_loop_once ?_
 go_wp2_with fail
 refine wp_loop_once ?_
 go_wp2_with fail
 refine wp_loop_once ?_
 go_wp2_with fail
 go_ret
 exact ⟨rfl,(xao _ _).alloc (xag _) _⟩
theorem zv:(Tryz.prog.info? 79).map (fun i=>(i.zero,i.size,i.bytes))=some (some (.slice none 0 0),1,24):=by kernel_rfl
theorem sO (w:World):Calls Tryz.prog 101 #[.slice none 0 0] w fun e w'=>e=.returned (.bool true)∧Below w.heap.size w w':=by
 obtain ⟨i,hi,hz0,hz1,hz2⟩:=info_parts zv
 go_enter Tryz.func101,Tryz.ntmps101
 go_wp2_with fail
 refine wp_loop_once ?_
 go_wp2_with (at_make;refine wpList_make_row _ rfl _ _ 108 rfl 79 i (.slice none 0 0) Tryz.underlying108 hi hz0 hz1 rfl _ _ 0 rfl rfl ?e0 ?e1 ?_)
 case e0=>rw [hz2];omega
 case e1=>omega
 go_wp2_with fail
 refine wp_loop_once ?_
 go_wp2_with fail
 refine wp_loop_once ?_
 go_wp2_with fail
 refine wp_loop_once ?_
 go_wp2_with fail
 refine wp_loop_once ?_
 go_wp2_with fail
 go_ret
 exact ⟨rfl,(xao _ _).alloc (xag _) _⟩
theorem wV:(Tryz.prog.info? 200).map (fun i=>(i.zero,i.size,i.bytes))=some (some (.slice none 0 0),1,24):=by kernel_rfl
theorem qW (w:World):Calls Tryz.prog 102 #[.slice none 0 0] w fun e w'=>e=.returned (.bool true)∧Below w.heap.size w w':=by
 obtain ⟨i,hi,hz0,hz1,hz2⟩:=info_parts wV
 go_enter Tryz.func102,Tryz.ntmps102
 go_wp2_with fail
 refine wp_loop_once ?_
 go_wp2_with (at_make;refine wpList_make_row _ rfl _ _ 109 rfl 200 i (.slice none 0 0) Tryz.underlying109 hi hz0 hz1 rfl _ _ 0 rfl rfl ?e0 ?e1 ?_)
 case e0=>rw [hz2];omega
 case e1=>omega
 go_wp2_with fail
 refine wp_loop_once ?_
 go_wp2_with fail
 refine wp_loop_once ?_
 go_wp2_with fail
 refine wp_loop_once ?_
 go_wp2_with fail
 refine wp_loop_once ?_
 go_wp2_with fail
 go_ret
 exact ⟨rfl,(xao _ _).alloc (xag _) _⟩
theorem wZ:(Tryz.prog.info? 60).map (fun i=>(i.zero,i.size,i.bytes))=some (some (.slice none 0 0),1,24):=by kernel_rfl
theorem q7 (w:World):Calls Tryz.prog 103 #[.slice none 0 0] w fun e w'=>e=.returned (.bool true)∧Below w.heap.size w w':=by
 obtain ⟨i,hi,hz0,hz1,hz2⟩:=info_parts wZ
 go_enter Tryz.func103,Tryz.ntmps103
 go_wp2_with fail
 refine wp_loop_once ?_
 go_wp2_with (at_make;refine wpList_make_row _ rfl _ _ 110 rfl 60 i (.slice none 0 0) Tryz.underlying110 hi hz0 hz1 rfl _ _ 0 rfl rfl ?e0 ?e1 ?_)
 case e0=>rw [hz2];omega
 case e1=>omega
 go_wp2_with fail
 refine wp_loop_once ?_
 go_wp2_with fail
 refine wp_loop_once ?_
 go_wp2_with fail
 refine wp_loop_once ?_
 go_wp2_with fail
 refine wp_loop_once ?_
 go_wp2_with fail
 go_ret
 exact ⟨rfl,(xao _ _).alloc (xag _) _⟩
theorem uM:(Tryz.prog.info? 133).map (fun i=>(i.zero,i.size,i.bytes))=some (some (.slice none 0 0),1,24):=by kernel_rfl
theorem pG (w:World):Calls Tryz.prog 105 #[.slice none 0 0] w fun e w'=>e=.returned (.bool true)∧Below w.heap.size w w':=by
 obtain ⟨i,hi,hz0,hz1,hz2⟩:=info_parts uM
 go_enter Tryz.func105,Tryz.ntmps105
 go_wp2_with fail
 refine wp_loop_once ?_
 go_wp2_with (at_make;refine wpList_make_row _ rfl _ _ 111 rfl 133 i (.slice none 0 0) Tryz.underlying111 hi hz0 hz1 rfl _ _ 0 rfl rfl ?e0 ?e1 ?_)
 case e0=>rw [hz2];omega
 case e1=>omega
 go_wp2_with fail
 refine wp_loop_once ?_
 go_wp2_with fail
 refine wp_loop_once ?_
 go_wp2_with fail
 refine wp_loop_once ?_
 go_wp2_with fail
 refine wp_loop_once ?_
 go_wp2_with fail
 go_ret
 exact ⟨rfl,(xao _ _).alloc (xag _) _⟩
theorem wY:(Tryz.prog.info? 72).map (fun i=>(i.zero,i.size,i.bytes))=some (some (.slice none 0 0),1,24):=by kernel_rfl
theorem qZ (w:World):Calls Tryz.prog 106 #[.slice none 0 0] w fun e w'=>e=.returned (.bool true)∧Below w.heap.size w w':=by
 obtain ⟨i,hi,hz0,hz1,hz2⟩:=info_parts wY
 go_enter Tryz.func106,Tryz.ntmps106
 go_wp2_with fail
 refine wp_loop_once ?_
 go_wp2_with (at_make;refine wpList_make_row _ rfl _ _ 77 rfl 72 i (.slice none 0 0) Tryz.underlying77 hi hz0 hz1 rfl _ _ 0 rfl rfl ?e0 ?e1 ?_)
 case e0=>rw [hz2];omega
 case e1=>omega
 go_wp2_with fail
 refine wp_loop_once ?_
 go_wp2_with fail
 refine wp_loop_once ?_
 go_wp2_with fail
 refine wp_loop_once ?_
 go_wp2_with fail
 refine wp_loop_once ?_
 go_wp2_with fail
 go_ret
 exact ⟨rfl,(xao _ _).alloc (xag _) _⟩
theorem zw:(Tryz.prog.info? 202).map (fun i=>(i.zero,i.size,i.bytes))=some (some (.slice none 0 0),1,24):=by kernel_rfl
theorem sP (w:World):Calls Tryz.prog 107 #[.slice none 0 0] w fun e w'=>e=.returned (.bool true)∧Below w.heap.size w w':=by
 obtain ⟨i,hi,hz0,hz1,hz2⟩:=info_parts zw
 go_enter Tryz.func107,Tryz.ntmps107
 go_wp2_with fail
 refine wp_loop_once ?_
 go_wp2_with (at_make;refine wpList_make_row _ rfl _ _ 112 rfl 202 i (.slice none 0 0) Tryz.underlying112 hi hz0 hz1 rfl _ _ 0 rfl rfl ?e0 ?e1 ?_)
 case e0=>rw [hz2];omega
 case e1=>omega
 go_wp2_with fail
 refine wp_loop_once ?_
 go_wp2_with fail
 refine wp_loop_once ?_
 go_wp2_with fail
 refine wp_loop_once ?_
 go_wp2_with fail
 refine wp_loop_once ?_
 go_wp2_with fail
 go_ret
 exact ⟨rfl,(xao _ _).alloc (xag _) _⟩
theorem wX:(Tryz.prog.info? 210).map (fun i=>(i.zero,i.size,i.bytes))=some (some (.slice none 0 0),1,24):=by kernel_rfl
theorem qY (w:World):Calls Tryz.prog 108 #[.slice none 0 0] w fun e w'=>e=.returned (.bool true)∧Below w.heap.size w w':=by
 obtain ⟨i,hi,hz0,hz1,hz2⟩:=info_parts wX
 go_enter Tryz.func108,Tryz.ntmps108
 go_wp2_with fail
 refine wp_loop_once ?_
 go_wp2_with (at_make;refine wpList_make_row _ rfl _ _ 113 rfl 210 i (.slice none 0 0) Tryz.underlying113 hi hz0 hz1 rfl _ _ 0 rfl rfl ?e0 ?e1 ?_)
 case e0=>rw [hz2];omega
 case e1=>omega
 go_wp2_with fail
 refine wp_loop_once ?_
 go_wp2_with fail
 refine wp_loop_once ?_
 go_wp2_with fail
 refine wp_loop_once ?_
 go_wp2_with fail
 refine wp_loop_once ?_
 go_wp2_with fail
 go_ret
 exact ⟨rfl,(xao _ _).alloc (xag _) _⟩
theorem wU:(Tryz.prog.info? 213).map (fun i=>(i.zero,i.size,i.bytes))=some (some (.slice none 0 0),1,24):=by kernel_rfl
theorem qV (w:World):Calls Tryz.prog 109 #[.slice none 0 0] w fun e w'=>e=.returned (.bool true)∧Below w.heap.size w w':=by
 obtain ⟨i,hi,hz0,hz1,hz2⟩:=info_parts wU
 go_enter Tryz.func109,Tryz.ntmps109
 go_wp2_with fail
 refine wp_loop_once ?_
 go_wp2_with (at_make;refine wpList_make_row _ rfl _ _ 114 rfl 213 i (.slice none 0 0) Tryz.underlying114 hi hz0 hz1 rfl _ _ 0 rfl rfl ?e0 ?e1 ?_)
 case e0=>rw [hz2];omega
 case e1=>omega
 go_wp2_with fail
 refine wp_loop_once ?_
 go_wp2_with fail
 refine wp_loop_once ?_
 go_wp2_with fail
 refine wp_loop_once ?_
 go_wp2_with fail
 refine wp_loop_once ?_
 go_wp2_with fail
 go_ret
 exact ⟨rfl,(xao _ _).alloc (xag _) _⟩
theorem sW:(Tryz.prog.info? 218).map (fun i=>(i.zero,i.size,i.bytes))=some (some (.slice none 0 0),1,24):=by kernel_rfl
theorem oa (w:World):Calls Tryz.prog 110 #[.slice none 0 0] w fun e w'=>e=.returned (.bool true)∧Below w.heap.size w w':=by
 obtain ⟨i,hi,hz0,hz1,hz2⟩:=info_parts sW
 go_enter Tryz.func110,Tryz.ntmps110
 go_wp2_with fail
 refine wp_loop_once ?_
 go_wp2_with (at_make;refine wpList_make_row _ rfl _ _ 115 rfl 218 i (.slice none 0 0) Tryz.underlying115 hi hz0 hz1 rfl _ _ 0 rfl rfl ?e0 ?e1 ?_)
 case e0=>rw [hz2];omega
 case e1=>omega
 go_wp2_with fail
 refine wp_loop_once ?_
 go_wp2_with fail
 refine wp_loop_once ?_
 go_wp2_with fail
 refine wp_loop_once ?_
 go_wp2_with fail
 refine wp_loop_once ?_
 go_wp2_with fail
 go_ret
 exact ⟨rfl,(xao _ _).alloc (xag _) _⟩
theorem zx:(Tryz.prog.info? 223).map (fun i=>(i.zero,i.size,i.bytes))=some (some (.slice none 0 0),1,24):=by kernel_rfl
theorem sQ (w:World):Calls Tryz.prog 111 #[.slice none 0 0] w fun e w'=>e=.returned (.bool true)∧Below w.heap.size w w':=by
 obtain ⟨i,hi,hz0,hz1,hz2⟩:=info_parts zx
 go_enter Tryz.func111,Tryz.ntmps111
 go_wp2_with fail
 refine wp_loop_once ?_
 go_wp2_with (at_make;refine wpList_make_row _ rfl _ _ 116 rfl 223 i (.slice none 0 0) Tryz.underlying116 hi hz0 hz1 rfl _ _ 0 rfl rfl ?e0 ?e1 ?_)
 case e0=>rw [hz2];omega
 case e1=>omega
 go_wp2_with fail
 refine wp_loop_once ?_
 go_wp2_with fail
 refine wp_loop_once ?_
 go_wp2_with fail
 refine wp_loop_once ?_
 go_wp2_with fail
 refine wp_loop_once ?_
 go_wp2_with fail
 go_ret
 exact ⟨rfl,(xao _ _).alloc (xag _) _⟩
theorem sX:(Tryz.prog.info? 227).map (fun i=>(i.zero,i.size,i.bytes))=some (some (.slice none 0 0),1,24):=by kernel_rfl
theorem ob (w:World):Calls Tryz.prog 112 #[.slice none 0 0] w fun e w'=>e=.returned (.bool true)∧Below w.heap.size w w':=by
 obtain ⟨i,hi,hz0,hz1,hz2⟩:=info_parts sX
 go_enter Tryz.func112,Tryz.ntmps112
 go_wp2_with fail
 refine wp_loop_once ?_
 go_wp2_with (at_make;refine wpList_make_row _ rfl _ _ 117 rfl 227 i (.slice none 0 0) Tryz.underlying117 hi hz0 hz1 rfl _ _ 0 rfl rfl ?e0 ?e1 ?_)
 case e0=>rw [hz2];omega
 case e1=>omega
 go_wp2_with fail
 refine wp_loop_once ?_
 go_wp2_with fail
 refine wp_loop_once ?_
 go_wp2_with fail
 refine wp_loop_once ?_
 go_wp2_with fail
 refine wp_loop_once ?_
 go_wp2_with fail
 go_ret
 exact ⟨rfl,(xao _ _).alloc (xag _) _⟩
theorem uL:(Tryz.prog.info? 232).map (fun i=>(i.zero,i.size,i.bytes))=some (some (.slice none 0 0),1,24):=by kernel_rfl
theorem pF (w:World):Calls Tryz.prog 113 #[.slice none 0 0] w fun e w'=>e=.returned (.bool true)∧Below w.heap.size w w':=by
 obtain ⟨i,hi,hz0,hz1,hz2⟩:=info_parts uL
 go_enter Tryz.func113,Tryz.ntmps113
 go_wp2_with fail
 refine wp_loop_once ?_
 go_wp2_with (at_make;refine wpList_make_row _ rfl _ _ 118 rfl 232 i (.slice none 0 0) Tryz.underlying118 hi hz0 hz1 rfl _ _ 0 rfl rfl ?e0 ?e1 ?_)
 case e0=>rw [hz2];omega
 case e1=>omega
 go_wp2_with fail
 refine wp_loop_once ?_
 go_wp2_with fail
 refine wp_loop_once ?_
 go_wp2_with fail
 refine wp_loop_once ?_
 go_wp2_with fail
 refine wp_loop_once ?_
 go_wp2_with fail
 go_ret
 exact ⟨rfl,(xao _ _).alloc (xag _) _⟩
theorem wW:(Tryz.prog.info? 237).map (fun i=>(i.zero,i.size,i.bytes))=some (some (.slice none 0 0),1,24):=by kernel_rfl
theorem qX (w:World):Calls Tryz.prog 116 #[.slice none 0 0] w fun e w'=>e=.returned (.bool true)∧Below w.heap.size w w':=by
 obtain ⟨i,hi,hz0,hz1,hz2⟩:=info_parts wW
 go_enter Tryz.func116,Tryz.ntmps116
 go_wp2_with fail
 refine wp_loop_once ?_
 go_wp2_with (at_make;refine wpList_make_row _ rfl _ _ 120 rfl 237 i (.slice none 0 0) Tryz.underlying120 hi hz0 hz1 rfl _ _ 0 rfl rfl ?e0 ?e1 ?_)
 case e0=>rw [hz2];omega
 case e1=>omega
 go_wp2_with fail
 refine wp_loop_once ?_
 go_wp2_with fail
 refine wp_loop_once ?_
 go_wp2_with fail
 refine wp_loop_once ?_
 go_wp2_with fail
 refine wp_loop_once ?_
 go_wp2_with fail
 go_ret
 exact ⟨rfl,(xao _ _).alloc (xag _) _⟩
theorem uK:(Tryz.prog.info? 241).map (fun i=>(i.zero,i.size,i.bytes))=some (some (.slice none 0 0),1,24):=by kernel_rfl
theorem pB (w:World):Calls Tryz.prog 117 #[.slice none 0 0] w fun e w'=>e=.returned (.bool true)∧Below w.heap.size w w':=by
 obtain ⟨i,hi,hz0,hz1,hz2⟩:=info_parts uK
 go_enter Tryz.func117,Tryz.ntmps117
 go_wp2_with fail
 refine wp_loop_once ?_
 go_wp2_with (at_make;refine wpList_make_row _ rfl _ _ 121 rfl 241 i (.slice none 0 0) Tryz.underlying121 hi hz0 hz1 rfl _ _ 0 rfl rfl ?e0 ?e1 ?_)
 case e0=>rw [hz2];omega
 case e1=>omega
 go_wp2_with fail
 refine wp_loop_once ?_
 go_wp2_with fail
 refine wp_loop_once ?_
 go_wp2_with fail
 refine wp_loop_once ?_
 go_wp2_with fail
 refine wp_loop_once ?_
 go_wp2_with fail
 go_ret
 exact ⟨rfl,(xao _ _).alloc (xag _) _⟩
theorem q9:(Tryz.prog.info? 246).map (fun i=>(i.zero,i.size,i.bytes))=some (some (.slice none 0 0),1,24):=by kernel_rfl
theorem mV (w:World):Calls Tryz.prog 118 #[.slice none 0 0] w fun e w'=>e=.returned (.bool true)∧Below w.heap.size w w':=by
 obtain ⟨i,hi,hz0,hz1,hz2⟩:=info_parts q9
 go_enter Tryz.func118,Tryz.ntmps118
 go_wp2_with fail
 refine wp_loop_once ?_
 go_wp2_with (at_make;refine wpList_make_row _ rfl _ _ 122 rfl 246 i (.slice none 0 0) Tryz.underlying122 hi hz0 hz1 rfl _ _ 0 rfl rfl ?e0 ?e1 ?_)
 case e0=>rw [hz2];omega
 case e1=>omega
 go_wp2_with fail
 refine wp_loop_once ?_
 go_wp2_with fail
 refine wp_loop_once ?_
 go_wp2_with fail
 refine wp_loop_once ?_
 go_wp2_with fail
 refine wp_loop_once ?_
 go_wp2_with fail
 go_ret
 exact ⟨rfl,(xao _ _).alloc (xag _) _⟩
theorem sY:(Tryz.prog.info? 252).map (fun i=>(i.zero,i.size,i.bytes))=some (some (.slice none 0 0),1,24):=by kernel_rfl
theorem oc (w:World):Calls Tryz.prog 119 #[.slice none 0 0] w fun e w'=>e=.returned (.bool true)∧Below w.heap.size w w':=by
 obtain ⟨i,hi,hz0,hz1,hz2⟩:=info_parts sY
 go_enter Tryz.func119,Tryz.ntmps119
 go_wp2_with fail
 refine wp_loop_once ?_
 go_wp2_with (at_make;refine wpList_make_row _ rfl _ _ 123 rfl 252 i (.slice none 0 0) Tryz.underlying123 hi hz0 hz1 rfl _ _ 0 rfl rfl ?e0 ?e1 ?_)
 case e0=>rw [hz2];omega
 case e1=>omega
 go_wp2_with fail
 refine wp_loop_once ?_
 go_wp2_with fail
 refine wp_loop_once ?_
 go_wp2_with fail
 refine wp_loop_once ?_
 go_wp2_with fail
 refine wp_loop_once ?_
 go_wp2_with fail
 go_ret
 exact ⟨rfl,(xao _ _).alloc (xag _) _⟩
end Go.Proofs.YtomnhnmciopiiaaGreat
end
section
namespace Go.Proofs.YtomnhnmciopiiaaGreat
open Go Go.RowKit Go.Maps
attribute [local irreducible] wpList
theorem wO (w0 w:World) (L:List Ent) (mb:Nat) (ub:Nat→Value) (nb:Nat→Nat) (xb:Nat→List Value) (Ab:Option Addr) (cb:Nat) (hmb:mb≤1000000) (hnb:∀ i,i<mb→nb i≤1000000) (hm:Mem w0 w (Ent.all (xaf mb) (fun i=>aw w0.heap.size 5 1 (PS.self (ub i) (nb i) (xb i))) :: ax w0.heap.size 24 1 (.slice Ab mb cb) mb (((xaf mb).map ub).flatMap vb) :: L)) :
  Calls Tryz.prog 104 #[.slice Ab mb cb] w fun e w'=>e=.returned (.bool true)∧Mem w0 w' (ax w0.heap.size 24 1 (.slice Ab mb cb) mb (((xaf mb).map ub).flatMap vb) :: L):=by
 obtain ⟨hp,hok,hfar⟩:=Mem.pack [Ent.all (xaf mb) (fun i=>aw w0.heap.size 5 1 (PS.self (ub i) (nb i) (xb i))),ax w0.heap.size 24 1 (.slice Ab mb cb) mb (((xaf mb).map ub).flatMap vb)] hm
 exact (qT w0 w _ mb ub nb xb _ Ab cb hmb hnb hp).mono fun e w' ⟨h1,h2⟩=>⟨h1,Mem.unpack [ax w0.heap.size 24 1 (.slice Ab mb cb) mb (((xaf mb).map ub).flatMap vb)] h2 hok hfar⟩
theorem uy (w0 w:World) (L:List Ent) (mn:Nat) (un:Nat→Value) (nn:Nat→Nat) (xn:Nat→List Value) (An:Option Addr) (cn:Nat) (hmn:mn≤1000000) (hnn:∀ i,i<mn→nn i≤1000000) (hm:Mem w0 w (Ent.all (xaf mn) (fun i=>aw w0.heap.size 87 43 (PS.self (un i) (nn i) (xn i))) :: ax w0.heap.size 23 1 (.slice An mn cn) mn (((xaf mn).map un).flatMap vb) :: L)) :
  Calls Tryz.prog 114 #[.slice An mn cn] w fun e w'=>e=.returned (.bool true)∧Mem w0 w' (ax w0.heap.size 23 1 (.slice An mn cn) mn (((xaf mn).map un).flatMap vb) :: L):=by
 obtain ⟨hp,hok,hfar⟩:=Mem.pack [Ent.all (xaf mn) (fun i=>aw w0.heap.size 87 43 (PS.self (un i) (nn i) (xn i))),ax w0.heap.size 23 1 (.slice An mn cn) mn (((xaf mn).map un).flatMap vb)] hm
 exact (pE w0 w _ mn un nn xn _ An cn hmn hnn hp).mono fun e w' ⟨h1,h2⟩=>⟨h1,Mem.unpack [ax w0.heap.size 23 1 (.slice An mn cn) mn (((xaf mn).map un).flatMap vb)] h2 hok hfar⟩
theorem zk (w0 w:World) (L:List Ent) (md:Nat) (ud:Nat→Value) (nd:Nat→Nat) (xd:Nat→List Value) (Ad:Option Addr) (cd:Nat) (hmd:md≤1000000) (hnd:∀ i,i<md→nd i≤1000000) (hm:Mem w0 w (Ent.all (xaf md) (fun i=>aw w0.heap.size 26 3 (PS.self (ud i) (nd i) (xd i))) :: ax w0.heap.size 53 1 (.slice Ad md cd) md (((xaf md).map ud).flatMap vb) :: L)) :
  Calls Tryz.prog 115 #[.slice Ad md cd] w fun e w'=>e=.returned (.bool true)∧Mem w0 w' (ax w0.heap.size 53 1 (.slice Ad md cd) md (((xaf md).map ud).flatMap vb) :: L):=by
 obtain ⟨hp,hok,hfar⟩:=Mem.pack [Ent.all (xaf md) (fun i=>aw w0.heap.size 26 3 (PS.self (ud i) (nd i) (xd i))),ax w0.heap.size 53 1 (.slice Ad md cd) md (((xaf md).map ud).flatMap vb)] hm
 exact (sN w0 w _ md ud nd xd _ Ad cd hmd hnd hp).mono fun e w' ⟨h1,h2⟩=>⟨h1,Mem.unpack [ax w0.heap.size 53 1 (.slice Ad md cd) md (((xaf md).map ud).flatMap vb)] h2 hok hfar⟩
theorem yZ (w0 w:World) (R:Ent) (g:Nat) (mb:Nat) (ub:Nat→Value) (nb:Nat→Nat) (xb:Nat→List Value) (Ab:Option Addr) (cb:Nat) (hmb:mb≤1000000) (hnb:∀ i,i<mb→nb i≤1000000) (mn:Nat) (un:Nat→Value) (nn:Nat→Nat) (xn:Nat→List Value) (An:Option Addr) (cn:Nat) (hmn:mn≤1000000) (hnn:∀ i,i<mn→nn i≤1000000) (md:Nat) (ud:Nat→Value) (nd:Nat→Nat) (xd:Nat→List Value) (Ad:Option Addr) (cd:Nat) (hmd:md≤1000000) (hnd:∀ i,i<md→nd i≤1000000)
  (hm:Mem w0 w [Ent.all (xaf mb) (fun i=>aw w0.heap.size 5 1 (PS.self (ub i) (nb i) (xb i))),ax w0.heap.size 24 1 (.slice Ab mb cb) mb (((xaf mb).map ub).flatMap vb),Ent.all (xaf mn) (fun i=>aw w0.heap.size 87 43 (PS.self (un i) (nn i) (xn i))),ax w0.heap.size 23 1 (.slice An mn cn) mn (((xaf mn).map un).flatMap vb),Ent.all (xaf md) (fun i=>aw w0.heap.size 26 3 (PS.self (ud i) (nd i) (xd i))),ax w0.heap.size 53 1 (.slice Ad md cd) md (((xaf md).map ud).flatMap vb),bh g 125 (fu (.slice Ab mb cb) (.slice An mn cn) (.slice Ad md cd)).toArray,R]) :
  Calls Tryz.prog 71 #[.pointer (some ⟨g,0,none⟩)] w fun e w'=>e=.returned (.bool true)∧Mem w0 w' [R]:=by
 go_enter Tryz.func71,Tryz.ntmps71
 refine sk fun _ K1=>rl ?_
 refine nt (K1 _ _ (sk fun _ K2=>rl ?_))
 refine rp g 0 ?_
 refine rp g 0 ?_
 refine rv (xlc (range_cell (dr 0 _ rfl (Blk.range (Mem.blk hm 6 rfl)))) Tryz.underlying106) ?_
 refine ac (qU w) ?_
 rintro e w3 ⟨rfl,hb5⟩
 refine ⟨_,rfl,rn ?_⟩
 have H4:=Mem.call hm hb5
 refine rn ?_
 refine rp g 0 ?_
 refine rp g 1 ?_
 refine rv (xlc (range_cell (dr 1 _ rfl (Blk.range (Mem.blk H4 6 rfl)))) Tryz.underlying107) ?_
 refine ac (q8 w3) ?_
 rintro e w6 ⟨rfl,hb8⟩
 refine ⟨_,rfl,rn ?_⟩
 have H7:=Mem.call H4 hb8
 refine rn ?_
 refine rp g 0 ?_
 refine rp g 2 ?_
 refine rv (xlc (range_cell (dr 2 _ rfl (Blk.range (Mem.blk H7 6 rfl)))) Tryz.underlying108) ?_
 refine ac (sO w6) ?_
 rintro e w9 ⟨rfl,hb11⟩
 refine ⟨_,rfl,rn ?_⟩
 have H10:=Mem.call H7 hb11
 refine rn ?_
 refine rp g 0 ?_
 refine rp g 3 ?_
 refine rv (xlc (range_cell (dr 3 _ rfl (Blk.range (Mem.blk H10 6 rfl)))) Tryz.underlying109) ?_
 refine ac (qW w9) ?_
 rintro e w12 ⟨rfl,hb14⟩
 refine ⟨_,rfl,rn ?_⟩
 have H13:=Mem.call H10 hb14
 refine rn ?_
 refine rp g 0 ?_
 refine rp g 4 ?_
 refine rv (xlc (range_cell (dr 4 _ rfl (Blk.range (Mem.blk H13 6 rfl)))) Tryz.underlying110) ?_
 refine ac (q7 w12) ?_
 rintro e w15 ⟨rfl,hb17⟩
 refine ⟨_,rfl,rn ?_⟩
 have H16:=Mem.call H13 hb17
 refine rn ?_
 refine rp g 0 ?_
 refine rp g 5 ?_
 refine rv (xlc (range_cell (dr 5 _ rfl (Blk.range (Mem.blk H16 6 rfl)))) Tryz.underlying95) ?_
 refine ac (wO w0 w15 _ mb ub nb xb Ab cb hmb hnb (Mem.pick H16 [0,1,2,3,4,5,6,7] (by decide) rfl)) ?_
 rintro e w19 ⟨rfl,hm18⟩
 refine ⟨_,rfl,rn ?_⟩
 have H20:=hm18
 refine rn ?_
 refine rp g 0 ?_
 refine rp g 6 ?_
 refine rv (xlc (range_cell (dr 6 _ rfl (Blk.range (Mem.blk H20 5 rfl)))) Tryz.underlying111) ?_
 refine ac (pG w19) ?_
 rintro e w22 ⟨rfl,hb24⟩
 refine ⟨_,rfl,rn ?_⟩
 have H23:=Mem.call H20 hb24
 refine rn ?_
 refine rp g 0 ?_
 refine rp g 7 ?_
 refine rv (xlc (range_cell (dr 7 _ rfl (Blk.range (Mem.blk H23 5 rfl)))) Tryz.underlying77) ?_
 refine ac (qZ w22) ?_
 rintro e w25 ⟨rfl,hb27⟩
 refine ⟨_,rfl,rn ?_⟩
 have H26:=Mem.call H23 hb27
 refine rn ?_
 refine rp g 0 ?_
 refine rp g 8 ?_
 refine rv (xlc (range_cell (dr 8 _ rfl (Blk.range (Mem.blk H26 5 rfl)))) Tryz.underlying112) ?_
 refine ac (sP w25) ?_
 rintro e w28 ⟨rfl,hb30⟩
 refine ⟨_,rfl,rn ?_⟩
 have H29:=Mem.call H26 hb30
 refine rn ?_
 refine rp g 0 ?_
 refine rp g 9 ?_
 refine rv (xlc (range_cell (dr 9 _ rfl (Blk.range (Mem.blk H29 5 rfl)))) Tryz.underlying113) ?_
 refine ac (qY w28) ?_
 rintro e w31 ⟨rfl,hb33⟩
 refine ⟨_,rfl,rn ?_⟩
 have H32:=Mem.call H29 hb33
 refine rn ?_
 refine rp g 0 ?_
 refine rp g 10 ?_
 refine rv (xlc (range_cell (dr 10 _ rfl (Blk.range (Mem.blk H32 5 rfl)))) Tryz.underlying114) ?_
 refine ac (qV w31) ?_
 rintro e w34 ⟨rfl,hb36⟩
 refine ⟨_,rfl,rn ?_⟩
 have H35:=Mem.call H32 hb36
 refine rn ?_
 refine rp g 0 ?_
 refine rp g 11 ?_
 refine rv (xlc (range_cell (dr 11 _ rfl (Blk.range (Mem.blk H35 5 rfl)))) Tryz.underlying115) ?_
 refine ac (oa w34) ?_
 rintro e w37 ⟨rfl,hb39⟩
 refine ⟨_,rfl,rn ?_⟩
 have H38:=Mem.call H35 hb39
 refine rn ?_
 refine rp g 0 ?_
 refine rp g 12 ?_
 refine rv (xlc (range_cell (dr 12 _ rfl (Blk.range (Mem.blk H38 5 rfl)))) Tryz.underlying116) ?_
 refine ac (sQ w37) ?_
 rintro e w40 ⟨rfl,hb42⟩
 refine ⟨_,rfl,rn ?_⟩
 have H41:=Mem.call H38 hb42
 refine rn ?_
 refine rp g 0 ?_
 refine rp g 13 ?_
 refine rv (xlc (range_cell (dr 13 _ rfl (Blk.range (Mem.blk H41 5 rfl)))) Tryz.underlying117) ?_
 refine ac (ob w40) ?_
 rintro e w43 ⟨rfl,hb45⟩
 refine ⟨_,rfl,rn ?_⟩
 have H44:=Mem.call H41 hb45
 refine rn ?_
 refine rp g 0 ?_
 refine rp g 14 ?_
 refine rv (xlc (range_cell (dr 14 _ rfl (Blk.range (Mem.blk H44 5 rfl)))) Tryz.underlying118) ?_
 refine ac (pF w43) ?_
 rintro e w46 ⟨rfl,hb48⟩
 refine ⟨_,rfl,rn ?_⟩
 have H47:=Mem.call H44 hb48
 refine rn ?_
 refine rp g 0 ?_
 refine rp g 15 ?_
 refine rv (xlc (range_cell (dr 15 _ rfl (Blk.range (Mem.blk H47 5 rfl)))) Tryz.underlying119) ?_
 refine ac (uy w0 w46 _ mn un nn xn An cn hmn hnn (Mem.pick H47 [1,2,0,3,4,5,6] (by decide) rfl)) ?_
 rintro e w50 ⟨rfl,hm49⟩
 refine ⟨_,rfl,rn ?_⟩
 have H51:=hm49
 refine rn ?_
 refine rp g 0 ?_
 refine rp g 16 ?_
 refine rv (xlc (range_cell (dr 16 _ rfl (Blk.range (Mem.blk H51 4 rfl)))) Tryz.underlying55) ?_
 refine ac (zk w0 w50 _ md ud nd xd Ad cd hmd hnd (Mem.pick H51 [2,3,0,1,4,5] (by decide) rfl)) ?_
 rintro e w54 ⟨rfl,hm53⟩
 refine ⟨_,rfl,rn ?_⟩
 have H55:=hm53
 refine rn ?_
 refine rp g 0 ?_
 refine rp g 17 ?_
 refine rv (xlc (range_cell (dr 17 _ rfl (Blk.range (Mem.blk H55 3 rfl)))) Tryz.underlying120) ?_
 refine ac (qX w54) ?_
 rintro e w57 ⟨rfl,hb59⟩
 refine ⟨_,rfl,rn ?_⟩
 have H58:=Mem.call H55 hb59
 refine rn ?_
 refine rp g 0 ?_
 refine rp g 18 ?_
 refine rv (xlc (range_cell (dr 18 _ rfl (Blk.range (Mem.blk H58 3 rfl)))) Tryz.underlying121) ?_
 refine ac (pB w57) ?_
 rintro e w60 ⟨rfl,hb62⟩
 refine ⟨_,rfl,rn ?_⟩
 have H61:=Mem.call H58 hb62
 refine rn ?_
 refine rp g 0 ?_
 refine rp g 19 ?_
 refine rv (xlc (range_cell (dr 19 _ rfl (Blk.range (Mem.blk H61 3 rfl)))) Tryz.underlying122) ?_
 refine ac (mV w60) ?_
 rintro e w63 ⟨rfl,hb65⟩
 refine ⟨_,rfl,rn ?_⟩
 have H64:=Mem.call H61 hb65
 refine rn ?_
 refine rp g 0 ?_
 refine rp g 20 ?_
 refine rv (xlc (range_cell (dr 20 _ rfl (Blk.range (Mem.blk H64 3 rfl)))) Tryz.underlying123) ?_
 refine ac (oc w63) ?_
 rintro e w66 ⟨rfl,hb68⟩
 refine ⟨_,rfl,rn ?_⟩
 have H67:=Mem.call H64 hb68
 refine rn ?_
 refine nt (K2 _ _ (rt ?_))
 exact ⟨rfl,(Mem.pick H67 [4] (by decide) rfl)⟩
end Go.Proofs.YtomnhnmciopiiaaGreat
end
section
namespace Go.Proofs.YtomnhnmciopiiaaGreat
open Go Go.RowKit Go.Maps
theorem Mem.Gr {α:Type} {w0 w:World} {L:List Ent} {l:List α} {f a b:α→Ent} (h:Mem w0 w (Ent.all l f :: L)) (ha:∀ x∈l,(a x).Ok) (hb:∀ x∈l,(b x).Ok) (hPa:∀ x∈l,(f x).P w→(a x).P w) (hPb:∀ x∈l,(f x).P w→(b x).P w)
  (hFa:∀ x∈l,∀ k,(a x).F k→(f x).F k) (hFb:∀ x∈l,∀ k,(b x).F k→(f x).F k) (hd:∀ x∈l,Far (a x).F (b x).F):Mem w0 w (Ent.all l a :: Ent.all l b :: L):=by
 have hp:=h.holds (Ent.all l f) (by simp)
 have hlo:=h.lo (Ent.all l f) (by simp)
 have hf:=xbQ.1 h.far
 have hpa:∀ {c:α→Ent},(∀ x∈l,∀ k,(c x).F k→(f x).F k)→l.Pairwise fun x y=>Far (c x).F (c y).F:=fun {c} hc=>by
  refine xcs ?_ hp.2
  intro x y hx hy hxy k h1 h2
  exact hxy k (hc x hx k h1) (hc y hy k h2)
 have hfar:∀ x∈l,∀ y∈l,Far (a x).F (b y).F:=fun x hx y hy k h1 h2=>by
  obtain ⟨i,hi,rfl⟩:=List.getElem_of_mem hx
  obtain ⟨j,hj,rfl⟩:=List.getElem_of_mem hy
  by_cases hij:i=j
  ·subst hij
   exact hd _ hx k h1 h2
  ·have hpw:=xa6.1 hp.2
   rcases Nat.lt_or_ge i j with hlt | hge
   ·exact hpw i j hi hj hlt k (hFa _ hx k h1) (hFb _ hy k h2)
   ·exact hpw j i hj hi (by omega) k (hFb _ hy k h2) (hFa _ hx k h1)
 have h1:Mem w0 w (Ent.all l b :: L):=(h.drop 1).cons (Ent.oY hb) ⟨fun x hx=>hPb x hx (hp.1 x hx),hpa hFb⟩ fun k ⟨x,hx,hk⟩=>⟨(hlo k ⟨x,hx,hFb x hx k hk⟩).1,(hlo k ⟨x,hx,hFb x hx k hk⟩).2,fun y hy hyk=>hf.1 y hy k ⟨x,hx,hFb x hx k hk⟩ hyk⟩
 refine h1.cons (Ent.oY ha) ⟨fun x hx=>hPa x hx (hp.1 x hx),hpa hFa⟩ fun k ⟨x,hx,hk⟩=>⟨(hlo k ⟨x,hx,hFa x hx k hk⟩).1,(hlo k ⟨x,hx,hFa x hx k hk⟩).2,fun y hy hyk=>?_⟩
 rcases xaD.1 hy with rfl | hy
 ·obtain ⟨z,hz,hzk⟩:=hyk
  exact hfar x hx z hz k hk hzk
 ·exact hf.1 y hy k ⟨x,hx,hFa x hx k hk⟩ hyk
theorem Mem.tW {α:Type} {w0 w:World} {L:List Ent} {l:List α} {f a:α→Ent} (h:Mem w0 w (Ent.all l f :: L)) (ha:∀ x∈l,(a x).Ok) (hPa:∀ x∈l,(f x).P w→(∀ k,(f x).F k→w0.heap.size≤k)→(a x).P w) (hFa:∀ x∈l,∀ k,(a x).F k→(f x).F k):Mem w0 w (Ent.all l a :: L):=by
 have hp:=h.holds (Ent.all l f) (by simp)
 refine h.mD (e':=Ent.all l a) 0 rfl (Ent.oY ha) ⟨fun x hx=>hPa x hx (hp.1 x hx) fun k hk=>(h.lo (Ent.all l f) (by simp) k ⟨x,hx,hk⟩).1,?_⟩ fun k ⟨x,hx,hk⟩=>⟨x,hx,hFa x hx k hk⟩
 refine xcs ?_ hp.2
 intro x y hx hy hxy k h1 h2
 exact hxy k (hFa x hx k h1) (hFa y hy k h2)
theorem Ent.all_map {α β:Type} (l:List β) (h:β→α) (f:α→Ent):Ent.all (l.map h) f=Ent.all l fun y=>f (h y):=by
 unfold Ent.all
 congr 1
 ·funext b
  exact propext ⟨fun ⟨x,hx,hb⟩=>by obtain ⟨y,hy,rfl⟩:=xaA.1 hx;exact ⟨y,hy,hb⟩,fun ⟨y,hy,hb⟩=>⟨h y,xbj hy,hb⟩⟩
 ·funext w
  refine propext (and_congr ⟨fun hx y hy=>hx (h y) (xbj hy),fun hx x hm=>by obtain ⟨y,hy,rfl⟩:=xaA.1 hm;exact hx y hy⟩ ?_)
  rw [List.pairwise_map]
theorem qt {α:Type} (d:α) (l:List α):(xaf l.length).map (fun i=>l.getD i d)=l:=by
 apply List.ext_getElem?
 intro i
 rw [xaL]
 by_cases h:i<l.length
 ·rw [List.getElem?_range h,xai h,Option.map_some,xaX,xai h,Option.getD_some]
 ·rw [xbH (by simp;omega),xbH (by omega)]
  rfl
theorem Ent.rA {α:Type} (d:α) (l:List α) (f:α→Ent):Ent.all l f=Ent.all (xaf l.length) fun i=>f (l.getD i d):=by
 rw [← Ent.all_map (xaf l.length) (fun i=>l.getD i d) f,qt]
def fE:bI:=((aW,(⟨#[]⟩,[],[])),.slice none 0 0,.slice none 0 0)
theorem Mem.FE {w0 w:World} {L:List Ent} {B:Nat} {l:List bI} (h:Mem w0 w (Ent.all l (fv B) :: L)) :
  Mem w0 w (Ent.all (xaf l.length) (fun i=>aw w0.heap.size 5 1 (PS.self (l.getD i fE).2.2 (l.getD i fE).1.2.2.2.length ((l.getD i fE).1.2.2.2.flatMap ib))) ::
   Ent.all (xaf l.length) (fun i=>aw w0.heap.size 87 43 (PS.self (l.getD i fE).2.1 (l.getD i fE).1.2.2.1.length ((l.getD i fE).1.2.2.1.flatMap nC))) :: L):=by
 rw [← Ent.rA fE l fun p=>aw w0.heap.size 5 1 (PS.self p.2.2 p.1.2.2.2.length (p.1.2.2.2.flatMap ib)),← Ent.rA fE l fun p=>aw w0.heap.size 87 43 (PS.self p.2.1 p.1.2.2.1.length (p.1.2.2.1.flatMap nC))]
 have hp:=h.holds (Ent.all l (fv B)) (by simp)
 have hlo:=h.lo (Ent.all l (fv B)) (by simp)
 refine h.Gr (fun x _=>jt _ _ _ _) (fun x _=>jt _ _ _ _) (fun x hx hP=>ju (bH (show aG w B x.1.2 x.2.1 x.2.2 from hP).eM fun g hg=>(hlo g ⟨x,hx,.inr hg⟩).1)) (fun x hx hP=>ju (bH (show aG w B x.1.2 x.2.1 x.2.2 from hP).gj fun g hg=>(hlo g ⟨x,hx,.inl hg⟩).1))
  (fun x _ k hk=>.inr (by rcases hk with hk | hk<;>exact hk)) (fun x _ k hk=>.inl (by rcases hk with hk | hk<;>exact hk)) fun x hx k h1 h2=>?_
 have hP:aG w B x.1.2 x.2.1 x.2.2:=hp.1 x hx
 have h1:x.2.2.ownBlock=some k:=by rcases h1 with h1 | h1<;>exact h1
 have h2:x.2.1.ownBlock=some k:=by rcases h2 with h2 | h2<;>exact h2
 rcases a7 hP.eM with ⟨e,_⟩ | ⟨g,cap,cur,e,_,_,_,hb,_⟩
 ·rw [e] at h1
  cases h1
 ·rw [e] at h1
  injection h1 with h1
  subst h1
  exact ef hP.gj hb (by decide) h2
theorem Mem.Gn {w0 w:World} {L:List Ent} {m:Nat} {B:Nat→Nat} {t:TypeId} {s:Nat} {u:Nat→Value} {n:Nat→Nat} {x:Nat→List Value} (h:Mem w0 w (Ent.all (xaf m) (fun k=>ax (B k) t s (u k) (n k) (x k)) :: L)) :
  Mem w0 w (Ent.all (xaf m) (fun k=>aw w0.heap.size t s (PS.self (u k) (n k) (x k))) :: L) :=
 h.tW (fun _ _=>jt _ _ _ _) (fun k _ hP hlo=>ju (bH (show w.ownsRow (B k) t s (u k) (n k) (x k) from hP) fun g hg=>hlo g hg)) fun k _ g hg=>by rcases hg with hg | hg<;>exact hg
end Go.Proofs.YtomnhnmciopiiaaGreat
end
section
namespace Go.Proofs.YtomnhnmciopiiaaGreat
open Go Go.RowKit Go.Maps
attribute [local irreducible] wpList
theorem pD (os:Nat→List bI) {k m:Nat} (h:k≤m):((xaf k).flatMap os).length≤((xaf m).flatMap os).length:=by
 obtain ⟨d,rfl⟩:∃ d,m=k+d:=⟨m-k,by omega⟩
 induction d with
 | zero=>exact xag _
 | succ d ih =>
  have h2:=ih (by omega)
  rw [← Nat.add_assoc,List.range_succ,List.flatMap_append,xak]
  omega
theorem kD (os:Nat→List bI) (k:Nat):(xaf (k+1)).flatMap os=(xaf k).flatMap os++os k:=by
 rw [List.range_succ,List.flatMap_append,List.flatMap_singleton]
theorem r4 (f:bI→Value) (l:List bI):l.map f=(xaf l.length).map fun i=>f (l.getD i fE):=by
 conv =>
  lhs
  rw [← qt fE l]
 rw [List.map_map]
 rfl
theorem vu (u:Nat→Value) (k:Nat):(xaf (k+1)).map u=(xaf k).map u++[u k]:=by
 rw [List.range_succ,List.map_append]
 rfl
theorem uC {l:List bI} {i:Nat} (h:i<l.length):l.getD i fE∈l:=by
 rw [xaX,xai h,Option.getD_some]
 exact List.getElem_mem h
theorem qL (w0 w:World) (R R2:Ent) (m:Nat) (u:Nat→Value) (os:Nat→List bI) (A:Option Addr) (c:Nat) (B4:Nat) (B:Nat→Nat) (hm9:m≤1000) (htot:((xaf m).flatMap os).length≤1000000)
  (hRl:∀ W,R.P W→W.ownsRow B4 53 1 (.slice A m c) m (((xaf m).map u).flatMap vb)) (hRo:∀ W,R.P W→∀ k,k<m→W.ownsRow (B k) 26 3 (u k) (os k).length ((os k).flatMap dV9))
  (hsl:∀ k,k<m→∀ p∈os k,jU p.2.1∧jU p.2.2) (hall:∀ p∈(xaf m).flatMap os,p.1.2.2.1.length≤1000000∧p.1.2.2.2.length≤1000000)
  (hconv:∀ (W:World) (K:List Ent),Mem w0 W (K++[R])→Mem w0 W (K++[Ent.all (xaf ((xaf m).flatMap os).length) (fun i=>aw w0.heap.size 5 1 (PS.self (((xaf m).flatMap os).getD i fE).2.2 (((xaf m).flatMap os).getD i fE).1.2.2.2.length ((((xaf m).flatMap os).getD i fE).1.2.2.2.flatMap ib))),Ent.all (xaf ((xaf m).flatMap os).length) (fun i=>aw w0.heap.size 87 43 (PS.self (((xaf m).flatMap os).getD i fE).2.1 (((xaf m).flatMap os).getD i fE).1.2.2.1.length ((((xaf m).flatMap os).getD i fE).1.2.2.1.flatMap nC))),Ent.all (xaf m) (fun k=>aw w0.heap.size 26 3 (PS.self (u k) (os k).length ((os k).flatMap dV9))),R2])) (hm:Mem w0 w [R]) :
  Calls Tryz.prog 24 #[.slice A m c] w fun e w'=>e=.returned (.bool true)∧Mem w0 w' [R2]:=by
 have hR8:=hm.holds R (by simp)
 have hR7:=hR8
 have hRl0:=hRl w hR8
 go_enter Tryz.func24,Tryz.ntmps24
 refine sk fun _ K1=>rl ?_
 refine nt (K1 _ _ (sk fun _ K2=>rl ?_))
 refine rv (v:=.agg (fu (.slice none 0 0) (.slice none 0 0) (.slice none 0 0)).toArray) (by kernel_rfl) ?_
 refine bx 125 (fu (.slice none 0 0) (.slice none 0 0) (.slice none 0 0)) fun w3 hn_=>?_
 have H4:=Mem.aM hm hn_
 refine rn ?_
 refine nt (K2 _ _ (sk fun _ K5=>sk fun _ K6=>rl ?_))
 refine nt (K6 _ _ (wp_block ?_))
 have H7:=Mem.dE H4 w0.heap.size 24 1
 have H8:=Mem.dE H7 w0.heap.size 23 1
 have H9:=Mem.dE H8 w0.heap.size 53 1
 obtain ⟨g,hg⟩:∃ g,g=w.heap.size:=⟨_,rfl⟩
 rw [← hg] at H9 ⊢
 have H10:=Mem.pick H9 [3,1,2,0,4] (by decide) rfl
 go_loopw [4] (fun x4 wr=>∃ k:Nat,∃ ns9:List Value,∃ An:Option Addr,∃ cn:Nat,∃ bs9:List Value,∃ Ab:Option Addr,∃ cb:Nat,∃ ds9:List Value,∃ Ad:Option Addr,∃ cd:Nat,x4=.int .i64 (k:Int)∧(k≤m)∧(ns9=((xaf k).flatMap os).map (·.2.1))∧(bs9=((xaf k).flatMap os).map (·.2.2))∧(ds9=(xaf k).map u)∧Mem w0 wr [bh g 125 (fu (.slice Ab bs9.length cb) (.slice An ns9.length cn) (.slice Ad ds9.length cd)).toArray,db w0.heap.size 23 An cn ns9,db w0.heap.size 24 Ab cb bs9,db w0.heap.size 53 Ad cd ds9,R]) (fun x4 _=>m-(intOf x4).toNat)
 case atStart=>exact ⟨0,([]:List Value),none,0,([]:List Value),none,0,([]:List Value),none,0,rfl,by omega,rfl,rfl,rfl,H10⟩
 case round =>
  obtain ⟨wo11,rfl⟩:∃ wo11,wo11=wr:=⟨_,rfl⟩
  obtain ⟨k,ns9,An,cn,bs9,Ab,cb,ds9,Ad,cd,rfl,hk,hns,hbs,hds,H12⟩:=hrel
  have hfl9:=pD os hk
  have hn9:ns9.length≤1000000:=by rw [hns,xap];omega
  have hb9:bs9.length≤1000000:=by rw [hbs,xap];omega
  have hd9:ds9.length≤1000000:=by rw [hds,xap,List.length_range];omega
  have hR8:=hR7
  refine sk fun _ K14=>sk fun _ K15=>rl ?_
  by_cases p16:(k:Int)<(m:Int)
  ·refine rv (aK (decide_eq_true p16)) ?_
   refine nt (K15 _ _ (ct (ks (K14 _ _ (sk fun _ K17=>wp_block (rl ?_))))))
   obtain ⟨b18,rfl⟩:=(fun h0=>(aR hRl0 h0).imp fun _ h9=>h9.1) (by omega)
   obtain ⟨A22,c23,hu24⟩:=aI (hRo w hR8 k (by omega))
   refine rv (bT (s:=1) (k) Tryz.underlying55 (by kernel_rfl)) ?_
   refine rv (v:=.slice A22 (os k).length c23) (by rw [← hu24];exact exec_load_cell 53 (.tmp 16) rfl ⟨b18,k*1,none⟩ rfl _ _ wo11 Tryz.underlying53 rfl (range_cell (cO (hRl _ (Mem.get H12 4 rfl)) (by omega)))) ?_
   refine ac (ua w0 wo11 R g ns9 bs9 ds9 An Ab Ad cn cb cd (B k) (os k) A22 c23 (fun W hW=>hu24▸hRo W hW k (by omega)) (hsl k (by omega)) (by have:=pD os (show k+1≤m by omega);rw [kD,xak] at this;omega) (by omega) (by omega) (by omega) (Mem.pick H12 [0,1,2,3,4] (by decide) rfl)) ?_
   rintro e w32 ⟨rfl,A25,c26,A27,c28,A29,c30,hm31⟩
   refine ⟨_,rfl,rn ?_⟩
   have H33:=hm31
   refine wpList_nil ?_
   refine ar (ah (K17 _ _ (rl ?_)))
   refine rv (bp (((k+1:Nat):Int))) ?_
   refine wpList_nil ?_
   refine ah ?_
   show _∧_
   go_roundw
   case rel=>exact ⟨(k+1),(ns9++(os k).map (·.2.1)),A25,c26,(bs9++(os k).map (·.2.2)),A27,c28,(ds9++[xas A22 (os k).length c23]),A29,c30,rfl,by omega,(by rw [hns,kD,List.map_append]),(by rw [hbs,kD,List.map_append]),(by rw [hds,vu,hu24]),H33⟩
   case measure=>simp [intOf];omega
  ·refine rv (aK (decide_eq_false p16)) ?_
   refine nt (K15 _ _ (cf (wp_exit (an (an (aB (ah (K5 _ _ (sk fun _ K35=>rl ?_)))))))))
   have hke:k=m:=by omega
   rw [hke] at hns hbs hds
   have hq9:=hconv _ [_,_,_,_] (Mem.pick H12 [0,1,2,3,4] (by decide) rfl)
   obtain ⟨all,hal⟩:∃ l,l=(xaf m).flatMap os:=⟨_,rfl⟩
   rw [← hal] at hns hbs hq9 hall htot
   unfold db at hq9
   have hnl9:ns9.length=all.length:=by rw [hns,xap]
   have hbl9:bs9.length=all.length:=by rw [hbs,xap]
   have hdl9:ds9.length=m:=by rw [hds,xap,List.length_range]
   have hns2:=hns.trans (r4 (·.2.1) all)
   have hbs2:=hbs.trans (r4 (·.2.2) all)
   rw [hnl9,hbl9,hdl9] at hq9
   rw [hns2,hbs2,hds] at hq9
   refine ac (yZ w0 wo11 R2 g all.length (fun i=>(all.getD i fE).2.2) (fun i=>(all.getD i fE).1.2.2.2.length) (fun i=>(all.getD i fE).1.2.2.2.flatMap ib) Ab cb (by omega) (fun i hi=>(hall _ (uC hi)).2) all.length (fun i=>(all.getD i fE).2.1) (fun i=>(all.getD i fE).1.2.2.1.length) (fun i=>(all.getD i fE).1.2.2.1.flatMap nC) An cn (by omega) (fun i hi=>(hall _ (uC hi)).1) m u (fun k=>(os k).length) (fun k=>(os k).flatMap dV9) Ad cd (by omega) (fun k hk=>by have:=pD os (show k+1≤m by omega);rw [kD,xak,← hal] at this;omega) (Mem.pick hq9 [4,2,5,1,6,3,0,7] (by decide) rfl)) ?_
   rintro e w37 ⟨rfl,hm36⟩
   refine ⟨_,rfl,rn ?_⟩
   have H38:=hm36
   refine rn ?_
   refine nt (K35 _ _ (rt ?_))
   exact ⟨rfl,H38⟩
end Go.Proofs.YtomnhnmciopiiaaGreat
end
section
namespace Go.Proofs.YtomnhnmciopiiaaGreat
open Go Go.RowKit Go.Maps
theorem Mem.Bj {α:Type} {w0 w:World} {L:List Ent} {f:α→Ent}:∀ {l l':List α},Mem w0 w (Ent.all l f :: Ent.all l' f :: L)→Mem w0 w (Ent.all (l++l') f :: L):=fun {l l'} h=>by
 have h2:=h.join
 have hp:=h.holds (Ent.all l f) (by simp)
 have hp':=h.holds (Ent.all l' f) (by simp)
 have hf:Far (Ent.all l f).F (Ent.all l' f).F:=(xbQ.1 h.far).1 _ (by simp)
 refine h2.mD (e':=Ent.all (l++l') f) 0 rfl ?_ ⟨fun x hx=>?_,xbw.2 ⟨hp.2,hp'.2,fun x hx y hy b h1 h3=>hf b ⟨x,hx,h1⟩ ⟨y,hy,h3⟩⟩⟩ fun b ⟨x,hx,hb⟩=>?_
 ·intro W W' hP hk
  have k1:=(h.ok (Ent.all l f) (by simp)) W W' ⟨fun x hx=>hP.1 x (xaY _ hx),(xbw.1 hP.2).1⟩ fun b ⟨x,hx,hb⟩=>hk b ⟨x,xaY _ hx,hb⟩
  have k2:=(h.ok (Ent.all l' f) (by simp)) W W' ⟨fun x hx=>hP.1 x (xbi _ hx),(xbw.1 hP.2).2.1⟩ fun b ⟨x,hx,hb⟩=>hk b ⟨x,xbi _ hx,hb⟩
  refine ⟨fun x hx=>?_,hP.2⟩
  rcases xax.1 hx with hx | hx
  ·exact k1.1 x hx
  ·exact k2.1 x hx
 ·rcases xax.1 hx with hx | hx
  ·exact hp.1 x hx
  ·exact hp'.1 x hx
 ·rcases xax.1 hx with hx | hx
  ·exact .inl ⟨x,hx,hb⟩
  ·exact .inr ⟨x,hx,hb⟩
theorem Mem.perm {w0 w:World} {L L':List Ent} (h:Mem w0 w L) (p:L.Perm L'):Mem w0 w L' :=
 ⟨h.below,fun e he=>h.ok e (p.mem_iff.2 he),fun e he=>h.holds e (p.mem_iff.2 he),fun e he b hf=>h.lo e (p.mem_iff.2 he) b hf,(p.pairwise_iff fun {_ _} hab=>Far.symm hab).1 h.far⟩
theorem Mem.swap {w0 w:World} {L:List Ent} {a b:Ent} (h:Mem w0 w (a :: b :: L)):Mem w0 w (b :: a :: L):=h.perm (List.Perm.swap _ _ _)
theorem Mem.G7 {α:Type} {w0 w:World} {L:List Ent} {f:α→Ent} {a b c:α} (h:Mem w0 w (f a :: f b :: f c :: L)):Mem w0 w (Ent.all [a,b,c] f :: L):=by
 have ha:=h.ok (f a) (by simp)
 have hb:=h.ok (f b) (by simp)
 have hc:=h.ok (f c) (by simp)
 have h1:=Mem.push (f:=f) (l:=[]) (x:=a) (Mem.sz h f).swap ha
 have h2:=Mem.push (f:=f) (l:=[a]) (x:=b) h1.swap hb
 exact Mem.push (f:=f) (l:=[a,b]) (x:=c) h2.swap hc
def three {α:Type} (a b c:α):Nat→α
 | 0=>a
 | 1=>b
 | _=>c
theorem Mem.wC {w0 w:World} {L:List Ent} {B:Nat} {l:List bI} (h:Mem w0 w (Ent.all l (fv B) :: L)):Mem w0 w (Ent.all l (fv w0.heap.size) :: L) :=
 h.tW (fun _ _=>oz _ _) (fun x _ hP hlo=>aG.base (show aG w B x.1.2 x.2.1 x.2.2 from hP) fun b hb=>hlo b hb) fun _ _ _ hk=>hk
theorem aG.sls {w:World} {B:Nat} {d:Drv} {u1 u2:Value} (h:aG w B d u1 u2):jU u1∧jU u2:=by
 obtain ⟨A1,n1,c1,A2,n2,c2,rfl,rfl⟩:=h.form
 exact ⟨⟨_,_,_,rfl⟩,_,_,_,rfl⟩
theorem AQ (l1 l2 l3:List bI):(xaf 3).flatMap (three l1 l2 l3)=l1++l2++l3:=by
 show l1++(l2++(l3++[]))=_
 rw [xbo,xaR]
theorem yb {w0 W:World} {T:List Ent} {l1 l2 l3:List bI} {u1 u2 u3:Value} {C1 C2 C3 B1 B2 B3:Nat}
  (h:Mem w0 W (ax C1 26 3 u1 l1.length (l1.flatMap dV9) :: ax C2 26 3 u2 l2.length (l2.flatMap dV9) :: ax C3 26 3 u3 l3.length (l3.flatMap dV9) :: Ent.all l1 (fv B1) :: Ent.all l2 (fv B2) :: Ent.all l3 (fv B3) :: T)) :
  Mem w0 W (Ent.all (xaf (l1++l2++l3).length) (fun i=>aw w0.heap.size 5 1 (PS.self ((l1++l2++l3).getD i fE).2.2 ((l1++l2++l3).getD i fE).1.2.2.2.length (((l1++l2++l3).getD i fE).1.2.2.2.flatMap ib))) ::
   Ent.all (xaf (l1++l2++l3).length) (fun i=>aw w0.heap.size 87 43 (PS.self ((l1++l2++l3).getD i fE).2.1 ((l1++l2++l3).getD i fE).1.2.2.1.length (((l1++l2++l3).getD i fE).1.2.2.1.flatMap nC))) ::
   Ent.all (xaf 3) (fun k=>aw w0.heap.size 26 3 (PS.self (three u1 u2 u3 k) (three l1 l2 l3 k).length ((three l1 l2 l3 k).flatMap dV9))) :: T):=by
 have h1:=Mem.G7 (f:=fun k=>ax (three C1 C2 C3 k) 26 3 (three u1 u2 u3 k) (three l1 l2 l3 k).length ((three l1 l2 l3 k).flatMap dV9)) (a:=0) (b:=1) (c:=2) h
 have h2:Mem w0 W (Ent.all (xaf 3) (fun k=>ax (three C1 C2 C3 k) 26 3 (three u1 u2 u3 k) (three l1 l2 l3 k).length ((three l1 l2 l3 k).flatMap dV9)) :: _):=h1
 have h3:=h2.Gn
 have h4:=h3.perm (xcq [_] [Ent.all l1 (fv B1),Ent.all l2 (fv B2),Ent.all l3 (fv B3)] T)
 have h5:=(Mem.swap (Mem.wC (Mem.swap (Mem.wC h4)))).Bj
 have h6:=(Mem.swap (Mem.wC (Mem.swap h5))).Bj
 exact h6.FE
theorem o0 (w0 w:World) (L:List Ent) (l1 l2 l3:List bI) (u1 u2 u3:Value) (C1 C2 C3 B1 B2 B3:Nat) (g:Nat)
  (hm:Mem w0 w (ax w0.heap.size 53 1 (.slice (some ⟨g,0,none⟩) 3 3) 3 ([u1,u2,u3].flatMap vb) :: ax C1 26 3 u1 l1.length (l1.flatMap dV9) :: ax C2 26 3 u2 l2.length (l2.flatMap dV9) :: ax C3 26 3 u3 l3.length (l3.flatMap dV9) :: Ent.all l1 (fv B1) :: Ent.all l2 (fv B2) :: Ent.all l3 (fv B3) :: L))
  (htot:(l1++l2++l3).length≤1000000) (hall:∀ p∈l1++l2++l3,p.1.2.2.1.length≤1000000∧p.1.2.2.2.length≤1000000) :
  Calls Tryz.prog 24 #[.slice (some ⟨g,0,none⟩) 3 3] w fun e w'=>e=.returned (.bool true)∧Mem w0 w' L:=by
 have hL:=hm.drop 7
 obtain ⟨hp,hok,hfar⟩:=Mem.pack [] hm
 have hsl:∀ p∈l1++l2++l3,jU p.2.1∧jU p.2.2:=fun p hp9=>by
  have d1:=(hm.get (e:=Ent.all l1 (fv B1)) 4 rfl).1
  have d2:=(hm.get (e:=Ent.all l2 (fv B2)) 5 rfl).1
  have d3:=(hm.get (e:=Ent.all l3 (fv B3)) 6 rfl).1
  rcases xax.1 hp9 with hp9 | hp9
  ·rcases xax.1 hp9 with hp9 | hp9
   ·exact aG.sls (d1 p hp9)
   ·exact aG.sls (d2 p hp9)
  ·exact aG.sls (d3 p hp9)
 have e9:=AQ l1 l2 l3
 refine (qL w0 w _ (nO L) 3 (three u1 u2 u3) (three l1 l2 l3) (some ⟨g,0,none⟩) 3 w0.heap.size (three C1 C2 C3) (by omega) (by rw [e9];exact htot) (fun W hW=>?_) (fun W hW k hk=>?_) (fun k hk p hp9=>?_) (by rw [e9];exact hall) (fun W K hK=>?_) hp).mono fun e w' ⟨h1,h2⟩=>⟨h1,Mem.unpack [] h2 (fun e he=>hL.ok e he) hL.far⟩
 ·exact hW _ (.head _)
 ·match k,hk with
  | 0,_=>exact hW _ (.tail _ (.head _))
  | 1,_=>exact hW _ (.tail _ (.tail _ (.head _)))
  | 2,_=>exact hW _ (.tail _ (.tail _ (.tail _ (.head _))))
 ·refine hsl p ?_
  match k,hk with
  | 0,_=>exact xaY _ (xaY _ hp9)
  | 1,_=>exact xaY _ (xbi _ hp9)
  | 2,_=>exact xbi _ hp9
 ·rw [e9]
  have k1:=(Mem.unpack K hK hok hfar).perm xcm
  have k2:=yb (k1.drop 1)
  have k3:=k2.perm (xcq [_,_,_] L K)
  have k4:=k3.perm (xcm (l₁:=L))
  have k5:=(Mem.pack _ k4).1
  have k6:=k5.perm ((xcm (l₁:=[_,_,_]) (l₂:=K)).append_right [nO L])
  rw [xaR] at k6
  exact k6
end Go.Proofs.YtomnhnmciopiiaaGreat
end
section
namespace Go.Proofs.YtomnhnmciopiiaaGreat
open Go Go.RowKit Go.Maps
section
variable {K V:Type} {ek:K→Value} {ok:K→Prop} {ev:V→Value} {P:Program} {w0 w w':World} {L:List Ent}
def xp (ek:K→Value) (ok:K→Prop) (ev:V→Value) (g:Nat) (m:List (K×V)):Ent:=⟨fun b=>b=g,fun w=>b5 ek ok ev w g m⟩
theorem yE (g:Nat) (m:List (K×V)):(xp ek ok ev g m).Ok:=fun _ _ h hk=>h.of_eq (hk g rfl h.lt)
theorem Mem.map {g:Nat} {m:List (K×V)} (h:Mem w0 w L) (i:Nat) (hi:L[i]?=some (xp ek ok ev g m)):b5 ek ok ev w g m:=h.get i hi
structure AV (ek:K→Value) (ok:K→Prop) (ev:V→Value) (w w':World):Prop where
 map:b5 ek ok ev w' w.heap.size []
 below:Below w.heap.size w w'
 size:w'.heap.size=w.heap.size+1
theorem Mem.F6 (h:Mem w0 w L) (hn:AV ek ok ev w w'):Mem w0 w' (xp ek ok ev w.heap.size [] :: L) :=
 h.new hn.below (yE _ _) hn.map fun b hf=>by have:=hn.size;have e:b=w.heap.size:=hf;omega
theorem Mem.Gj {g:Nat} {m m':List (K×V)} (h:Mem w0 w L) (i:Nat) (hi:L[i]?=some (xp ek ok ev g m)) (hm:b5 ek ok ev w' g m') (ht:oS w w' g):Mem w0 w' (L.set i (xp ek ok ev g m')) :=
 h.upd i hi ht.grown (fun _ hb=>(xam hb).symm) (yE _ _) hm fun _ hf=>.inl hf
variable {ops:Array Oper} {rest:List Oper} {o:Oper} {a:Act} {Q:Exit→Act→World→Prop}
theorem vY (n:Nat) {t:TypeId} {ty} {p} {af} {g} (h:wpList P ops Q (⟨some n,.makeMap t none,ty,p,af,g⟩ :: rest) a w):wpList P ops Q (⟨some n,.makeMap t none,ty,p,af,g⟩ :: rest) a w:=h
theorem sB (x y:Nat) {t:TypeId} {z:Operand} {ty} {p} {af} {g} (h:wpList P ops Q (⟨none,.mapUpdate t (.tmp x) (.tmp y) z,ty,p,af,g⟩ :: rest) a w):wpList P ops Q (⟨none,.mapUpdate t (.tmp x) (.tmp y) z,ty,p,af,g⟩ :: rest) a w:=h
theorem ot (ek:K→Value) (ok:K→Prop) (ev:V→Value) (hg:o.guard=none) (t:TypeId) (ho:o.op=.makeMap t none) (h:∀ w',AV ek ok ev w w'→wpList P ops Q rest (a.put o.dst (.map (some w.heap.size))) w'):wpList P ops Q (o :: rest) a w:=by
 refine aa hg (.map (some w.heap.size)) (w.alloc (.map #[] 0)) ?_ (h _ ⟨m4 w,(xao _ w).alloc (xag _) _,by rw [size_alloc]⟩)
 unfold execOp
 simp only [ho]
 rfl
theorem rm [DecidableEq K] (hg:o.guard=none) (t:TypeId) (x y z:Operand) (ho:o.op=.mapUpdate t x y z) {k e:TypeId} (E:lf P k ek ok) {b:Nat} {m:List (K×V)} (hm:b5 ek ok ev w b m) {key:K} (hk:ok key) (ht:P.underlying t=some (.map k e)) (v:V) (hx:a.eval x=.map (some b)) (hy:a.eval y=ek key) (hz:a.eval z=ev v)
  (h:∀ w',b5 ek ok ev w' b (kT m key v)→oS w w' b→wpList P ops Q rest (a.put o.dst undef) w'):wpList P ops Q (o :: rest) a w:=by
 obtain ⟨w',h1,h2,h3⟩:=hm.update E hk ht v
 refine wpList_plain hg fun K hK=>?_
 unfold Oper.wp execOp
 simp only [ho,hx,hy,hz,xaI,h1,xat,xaQ]
 exact hK _ _ (h w' h2 h3)
end
end Go.Proofs.YtomnhnmciopiiaaGreat
end
