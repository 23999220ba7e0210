/- Part 9 of the texts of one proof. -/
import Derived.Test.YtomnhnmciopiiaaGreatMMW8
section
namespace Go.Proofs.YtomnhnmciopiiaaGreat
open Go Go.RowKit Go.Maps
set_option maxRecDepth 100000
attribute [local irreducible] wpList
theorem l6:(Tryz.prog.info? 87).map (fun i=>(i.zero,i.size,i.bytes))=some (some (Value.agg zcN),43,80):=by kernel_rfl
theorem qN:(Tryz.prog.info? 23).map (fun i=>(i.zero,i.size,i.bytes))=some (some (.slice none 0 0),1,24):=by kernel_rfl
set_option maxHeartbeats 40000000 in
theorem nE (w0 w:World) (R:Ent) (m:Nat) (u:Nat→Value) (n:Nat→Nat) (xs:Nat→List Value) (B2:Nat) (A:Option Addr) (c:Nat) (hm9:m≤1000000) (hn:∀ i,i<m→n i≤1000000)
  (hm:Mem w0 w [Ent.all (List.range m) (fun i=>ar w0.heap.size 87 43 (PS.self (u i) (n i) (xs i))),aw B2 23 1 (.slice A m c) m (((List.range m).map u).flatMap vb),R]) :
  Calls Tryz.prog 114 #[.slice A m c] w fun e w'=>e=.returned (.bool true)∧Mem w0 w' [aw B2 23 1 (.slice A m c) m (((List.range m).map u).flatMap vb),R]:=by
 have hown:∀ i,i<m→w.ownsRow w0.heap.size 87 43 (u i) (n i) (xs i):=fun i hi=>(Mem.kE (g:=ar w0.heap.size 87 43) (st:=fun i=>PS.self (u i) (n i) (xs i)) hm 0 rfl hi).1
 have hxl:∀ i,i<m→(xs i).length=n i*43:=fun i hi=>(hown i hi).1
 have hu0:∀ i,i<m→∃ A c,u i=.slice A (n i) c∧(0<n i→∃ g,A=some ⟨g,0,none⟩):=fun i hi=>by
  obtain ⟨A,c,e⟩:=aP (hown i hi)
  refine ⟨A,c,e,fun h0=>?_⟩
  obtain ⟨g,hg,_⟩:=aG (e▸hown i hi) h0
  exact ⟨g,hg⟩
 have hm:=Mem.bq (g:=ar w0.heap.size 87 43) (st:=fun i=>PS.self (u i) (n i) (xs i)) (st':=st1 aK nC u n xs 0) hm (fun i _=>(jF aK nC u n xs i).symm)
 clear hown
 go_enter Tryz.func114,Tryz.ntmps114
 refine wp_seq_k (fun K1 hK1=>?_)
 refine rl ?_
 refine nt (hK1 _ _ ?_)
 refine wp_seq_k (fun K2 hK2=>?_)
 refine wp_seq_k (fun K3 hK3=>?_)
 refine rl ?_
 refine nt (hK3 _ _ ?_)
 refine wp_block ?_
 go_loopw [3] (fun x3 wr=>∃ k:Nat,x3=.int .i64 (k:Int)∧(k≤m)∧Mem w0 wr [Ent.all (List.range m) (fun i=>ar w0.heap.size 87 43 (st1 aK nC u n xs k i)),aw B2 23 1 (.slice A m c) m (((List.range m).map u).flatMap vb),R]) (fun x3 _=>m-(intOf x3).toNat)
 case atStart=>exact ⟨0,rfl,by omega,hm⟩
 case round =>
  obtain ⟨wo4,rfl⟩:∃ wo4,wo4=wr:=⟨_,rfl⟩
  obtain ⟨k,rfl,hk,H5⟩:=hrel
  refine wp_seq_k (fun K7 hK7=>?_)
  refine wp_seq_k (fun K8 hK8=>?_)
  refine rl ?_
  by_cases p9:(k:Int)<(m:Int)
  ·refine rv (aB (decide_eq_true p9)) ?_
   refine nt (hK8 _ _ ?_)
   refine ct ?_
   refine ks (hK7 _ _ ?_)
   refine wp_seq_k (fun K10 hK10=>?_)
   refine wp_block ?_
   refine wp_seq_k (fun K11 hK11=>?_)
   refine rl ?_
   refine nt (hK11 _ _ ?_)
   refine wp_block ?_
   have H12:=Mem.bq (g:=ar w0.heap.size 87 43) (st:=st1 aK nC u n xs k) (st':=fa aK nC 43 u n xs k 0) H5 (fun i _=>iB aK nC 43 u n xs k i)
   have hxl9:=hxl k (by omega)
   have hnk:=hn k (by omega)
   go_loopw [4] (fun x4 wr=>∃ q:Nat,x4=.int .i64 (q:Int)∧(q≤n k)∧Mem w0 wr [Ent.all (List.range m) (fun i=>ar w0.heap.size 87 43 (fa aK nC 43 u n xs k q i)),aw B2 23 1 (.slice A m c) m (((List.range m).map u).flatMap vb),R]) (fun x4 _=>n k-(intOf x4).toNat)
   case atStart=>exact ⟨0,rfl,by omega,H12⟩
   case round =>
    obtain ⟨wo13,rfl⟩:∃ wo13,wo13=wr:=⟨_,rfl⟩
    obtain ⟨q,rfl,hq,H14⟩:=hrel
    refine wp_seq_k (fun K16 hK16=>?_)
    refine wp_seq_k (fun K17 hK17=>?_)
    refine rl ?_
    obtain ⟨b18,rfl,hlt21⟩:=aG (Mem.own H14 1 rfl) (by omega)
    obtain ⟨x22,hx23⟩:∃ x,(((List.range m).map u))[k]?=some x:=⟨_,List.getElem?_eq_getElem (by first | omega | (rw [List.length_map,List.length_range];omega))⟩
    have hd24:=av hx23
    obtain rfl:=aM hx23
    obtain ⟨A25,c26,hu27,hg28⟩:=hu0 k (by omega)
    refine rv (aT (s:=1) (k) Tryz.underlying119 (by kernel_rfl)) ?_
    refine rv (v:=.slice A25 (n k) c26) (by rw [← hu27];exact exec_load_cell (o:=⟨some 26,_,_,_,_,_⟩) 23 (.tmp 25) rfl ⟨b18,k*1,none⟩ rfl _ _ wo13 Tryz.underlying23 rfl (range_cell (bw (Mem.own H14 1 rfl) (by omega)))) ?_
    by_cases p29:(q:Int)<(((n k):Nat):Int)
    ·refine rv (aB (decide_eq_true p29)) ?_
     refine nt (hK17 _ _ ?_)
     refine ct ?_
     refine ks (hK16 _ _ ?_)
     refine wp_seq_k (fun K30 hK30=>?_)
     refine wp_block ?_
     obtain ⟨b31,rfl⟩:=hg28 (by omega)
     refine Fre.cq (X:=Bel) 9 [] (by kernel_rfl) (by kernel_rfl) (by simp) (by simp) (by simp) ?_
     simp only [List.take_succ_cons,List.take_zero,List.drop_succ_cons,List.drop_zero]
     refine Fre.rmd ?_
     refine Fre.mvv (fun _ _=>aT (s:=1) (k) Tryz.underlying119 (by kernel_rfl)) ?_
     refine Fre.mvv (v:=.slice (some ⟨b31,0,none⟩) (n k) c26) (fun W9 hW9=>by rw [← hu27];exact exec_load_cell (o:=⟨some 34,_,_,_,_,_⟩) 23 (.tmp 33) rfl ⟨b18,k*1,none⟩ rfl _ _ W9 Tryz.underlying23 rfl (range_cell (bw (Mem.own (Mem.call H14 hW9) 1 rfl) (by omega)))) ?_
     refine Fre.aA (.agg (nC (aK k q)).toArray) _ _ (by kernel_rfl) (by kernel_rfl) (by kernel_rfl) (fun W9=>by kernel_rfl) (fun W9 hW9=>eV k q W9) ?_
     refine Fre.rmd ?_
     refine Fre.mvv (fun _ _=>aT (q) Tryz.underlying23 aY) ?_
     intro w35 hx37
     dsimp only [Fre.ended,List.drop]
     have H36:=Mem.call H14 hx37
     have ow9:=qE (mk:=aK) (f:=nC) H36 (i0:=0) rfl (show k<m by omega)
     rw [hu27] at ow9
     refine cT rfl 87 (.tmp 39) (.tmp 38) rfl ow9 (k:=q) (nC (aK k q)) (by omega) (da (bh k q)) (iF (bh k q)) (ui (aK k q)) rfl rfl ?_
     intro w38 ho9 hg9 hz9
     refine rn ?_
     rw [← hu27] at ho9
     have H39:=kX (mk:=aK) (f:=nC) H36 (show k<m by omega) (fun k i=>da (bh k i)) hu27 ho9 hg9
     clear ho9 hg9 ow9
     refine wpList_nil ?_
     refine aq ?_
     refine ab (hK30 _ _ ?_)
     refine rl ?_
     refine rv (aR (((q+1:Nat):Int))) ?_
     refine wpList_nil ?_
     refine ab ?_
     show _∧_
     go_roundw
     case rel=>exact ⟨(q+1),rfl,by omega,H39⟩
     case measure=>simp [intOf];omega
    ·refine rv (aB (decide_eq_false p29)) ?_
     refine nt (hK17 _ _ ?_)
     refine cf ?_
     refine wp_exit ?_
     refine aj ?_
     refine aj ?_
     refine ax ?_
     refine aq ?_
     refine ab (hK10 _ _ ?_)
     refine rl ?_
     refine rv (aR (((k+1:Nat):Int))) ?_
     refine wpList_nil ?_
     have H40:=Mem.bq (g:=ar w0.heap.size 87 43) (st:=fa aK nC 43 u n xs k q) (st':=st1 aK nC u n xs (k+1)) H14 (fun i _=>by rw [show q=n k by omega];exact kr aK nC 43 u n xs k hxl9 i)
     refine ab ?_
     show _∧_
     go_roundw
     case rel=>exact ⟨(k+1),rfl,by omega,H40⟩
     case measure=>simp [intOf];omega
  ·refine rv (aB (decide_eq_false p9)) ?_
   refine nt (hK8 _ _ ?_)
   refine cf ?_
   refine wp_exit ?_
   refine aj ?_
   refine aj ?_
   refine ax ?_
   refine ab (hK2 _ _ ?_)
   refine wp_seq_k (fun K41 hK41=>?_)
   refine rl ?_
   obtain ⟨inm23,iq23,ir23,is23,it23⟩:=info_parts qN
   refine wpList_make_full _ rfl _ _ 119 rfl w0.heap.size 23 _ _ 1 Tryz.underlying119 iq23 ir23 is23 _ _ _ _ m rfl rfl rfl rfl (by rw [it23];omega) (by simp only [maxLen];omega) (Mem.below H5).size ?_
   intro w42 ow gr
   refine rn ?_
   obtain ⟨gv0,hgv0⟩:∃ gv:List Value,gv=(madeCells (Value.slice none 0 0).cells (m*1)).toList:=⟨_,rfl⟩
   rw [← hgv0] at ow
   have hgl0:=kO ow rfl
   rw [← fG gv0] at ow
   have H43:=Mem.make H5 ow gr
   obtain ⟨gg,hgg⟩:∃ g,g=wo4.heap.size:=⟨_,rfl⟩
   rw [← hgg] at H43 ⊢
   clear ow gr hgg hgv0
   refine rn ?_
   refine nt (hK41 _ _ ?_)
   refine wp_seq_k (fun K44 hK44=>?_)
   refine wp_seq_k (fun K45 hK45=>?_)
   refine rl ?_
   refine nt (hK45 _ _ ?_)
   refine wp_block ?_
   have H46:=Mem.bq (g:=ar w0.heap.size 87 43) (st:=st1 aK nC u n xs k) (st':=st2 aK nC u n gv0 0) (Mem.pick H43 [1,0,2,3] (by decide) rfl) (fun i hi=>by rw [show k=m by omega];exact (mF aK nC u n xs m i hi).trans (if_neg (Nat.not_lt_zero _)).symm)
   go_loopw [6] (fun x6 wr=>∃ k:Nat,∃ gv:List Value,x6=.int .i64 (k:Int)∧(k≤m)∧(gv.length=m)∧Mem w0 wr [Ent.all (List.range m) (fun i=>ar w0.heap.size 87 43 (st2 aK nC u n gv k i)),aw w0.heap.size 23 1 (.slice (some ⟨gg,0,none⟩) m m) m ((gv).flatMap vb),aw B2 23 1 (.slice A m c) m (((List.range m).map u).flatMap vb),R]) (fun x6 _=>m-(intOf x6).toNat)
   case atStart=>exact ⟨0,gv0,rfl,by omega,hgl0,H46⟩
   case round =>
    obtain ⟨wo47,rfl⟩:∃ wo47,wo47=wr:=⟨_,rfl⟩
    obtain ⟨k,gv,rfl,hk,hgl,H48⟩:=hrel
    refine wp_seq_k (fun K50 hK50=>?_)
    refine wp_seq_k (fun K51 hK51=>?_)
    refine rl ?_
    by_cases p52:(k:Int)<(m:Int)
    ·refine rv (aB (decide_eq_true p52)) ?_
     refine nt (hK51 _ _ ?_)
     refine ct ?_
     refine ks (hK50 _ _ ?_)
     refine wp_seq_k (fun K53 hK53=>?_)
     refine wp_block ?_
     refine wp_seq_k (fun K54 hK54=>?_)
     refine rl ?_
     obtain ⟨b55,rfl,hlt58⟩:=aG (Mem.own H48 2 rfl) (by omega)
     obtain ⟨x59,hx60⟩:∃ x,(((List.range m).map u))[k]?=some x:=⟨_,List.getElem?_eq_getElem (by first | omega | (rw [List.length_map,List.length_range];omega))⟩
     have hd61:=av hx60
     obtain rfl:=aM hx60
     obtain ⟨A62,c63,hu64,hg65⟩:=hu0 k (by omega)
     refine rv (aT (s:=1) (k) Tryz.underlying119 (by kernel_rfl)) ?_
     refine rv (v:=.slice A62 (n k) c63) (by rw [← hu64];exact exec_load_cell (o:=⟨some 52,_,_,_,_,_⟩) 23 (.tmp 51) rfl ⟨b55,k*1,none⟩ rfl _ _ wo47 Tryz.underlying23 rfl (range_cell (bw (Mem.own H48 2 rfl) (by omega)))) ?_
     refine nt (hK54 _ _ ?_)
     refine wp_seq_k (fun K66 hK66=>?_)
     refine wp_seq_k (fun K67 hK67=>?_)
     refine rl ?_
     refine nt (hK67 _ _ ?_)
     refine wp_block ?_
     have H68:=Mem.bq (g:=ar w0.heap.size 87 43) (st:=st2 aK nC u n gv k) (st':=fm aK nC u n gv (u k) k 0) H48 (fun i _=>hX aK nC u n gv k i)
     have hnk:=hn k (by omega)
     rw [← hu64]
     go_loopw [7,8] (fun x7 x8 wr=>∃ q:Nat,∃ v:Value,v=x7∧x8=.int .i64 (q:Int)∧(q≤64)∧Mem w0 wr [Ent.all (List.range m) (fun i=>ar w0.heap.size 87 43 (fm aK nC u n gv v k q i)),aw w0.heap.size 23 1 (.slice (some ⟨gg,0,none⟩) m m) m ((gv).flatMap vb),aw B2 23 1 (.slice (some ⟨b55,0,none⟩) m c) m (((List.range m).map u).flatMap vb),R]) (fun x7 x8 _=>64-(intOf x8).toNat)
     case atStart=>exact ⟨0,((u k)),rfl,rfl,by omega,H68⟩
     case round =>
      obtain ⟨wo69,rfl⟩:∃ wo69,wo69=wr:=⟨_,rfl⟩
      obtain ⟨q,v,rfl,rfl,hq,H70⟩:=hrel
      refine wp_seq_k (fun K72 hK72=>?_)
      refine wp_seq_k (fun K73 hK73=>?_)
      refine rl ?_
      by_cases p74:(q:Int)<64
      ·refine rv (aB (decide_eq_true p74)) ?_
       refine nt (hK73 _ _ ?_)
       refine ct ?_
       refine ks (hK72 _ _ ?_)
       refine wp_seq_k (fun K75 hK75=>?_)
       refine wp_block ?_
       refine rl ?_
       obtain ⟨x76,hx77⟩:∃ x,(((List.range m).map u))[k]?=some x:=⟨_,List.getElem?_eq_getElem (by first | omega | (rw [List.length_map,List.length_range];omega))⟩
       have hd78:=av hx77
       obtain rfl:=aM hx77
       obtain ⟨A79,c80,hu81,hg82⟩:=hu0 k (by omega)
       refine rv (aT (s:=1) (k) Tryz.underlying119 (by kernel_rfl)) ?_
       refine rv (v:=.slice A79 (n k) c80) (by rw [← hu81];exact exec_load_cell (o:=⟨some 62,_,_,_,_,_⟩) 23 (.tmp 61) rfl ⟨b55,k*1,none⟩ rfl _ _ wo69 Tryz.underlying23 rfl (range_cell (bw (Mem.own H70 2 rfl) (by omega)))) ?_
       refine rv (aR ((((n k)+q:Nat):Int))) ?_
       refine an (by kernel_rfl) _ _ (by kernel_rfl) (eV k ((n k)+q) wo69) ?_
       rintro e w83 ⟨rfl,hb85⟩
       refine ⟨_,rfl,rn ?_⟩
       have H84:=Mem.call H70 hb85
       refine aL (o:=⟨some 67,_,_,_,_,_⟩) rfl 23 (.tmp 66) rfl 87 43 (Value.agg zcN) (.agg (nC (aK k ((n k)+q))).toArray) rfl Tryz.underlying23 aY (by decide) (by decide) (fun w=>by kernel_rfl) (by rw [Value.cells,List.size_toArray];exact da (bh k ((n k)+q))) ?_
       intro w86 hn
       have H87:=Mem.bA H84 hn
       clear hn
       refine rn ?_
       obtain ⟨inm87,iq87,ir87,is87,it87⟩:=info_parts l6
       have hP9:=iu (mk:=aK) (f:=nC) H87 (i0:=1) rfl (show k<m by omega)
       refine cY rfl _ _ 23 rfl w0.heap.size 87 _ _ 43 80 Tryz.underlying23 iq87 ir87 is87 it87 rfl (by decide) v (n k+q) (mkC aK nC k (n k+q)) hP9.2.1 (some ⟨w83.heap.size,0,none⟩) 1 1 (nC (aK k ((n k)+q))) (bH (n:=43) (m:=1) (Mem.blk H87 0 rfl) (da (bh k ((n k)+q))) (fQ (aK k ((n k)+q)))) (by decide) (by simp only [maxLen];omega) (by omega) (Mem.below H87).size rfl rfl ?_
       intro v9 w88 ho9 hg9 hr9
       refine rn ?_
       have H89:=kH (mk:=aK) (f:=nC) (Mem.pick H87 [1,0,2,3,4] (by decide) rfl) (show k<m by omega) ho9 hg9 hr9
       clear ho9 hg9 hr9 hP9
       refine rn ?_
       refine wpList_nil ?_
       refine aq ?_
       refine ab (hK75 _ _ ?_)
       refine rl ?_
       refine rv (aR (((q+1:Nat):Int))) ?_
       refine wpList_nil ?_
       have H90:=Mem.pick H89 [0,2,3,4] (by decide) rfl
       refine ab ?_
       show _∧_
       go_roundw
       case rel=>exact ⟨(q+1),v9,rfl,rfl,by omega,H90⟩
       case measure=>simp [intOf];omega
      ·refine rv (aB (decide_eq_false p74)) ?_
       refine nt (hK73 _ _ ?_)
       refine cf ?_
       refine wp_exit ?_
       refine aj ?_
       refine aj ?_
       refine ax ?_
       refine ab (hK66 _ _ ?_)
       refine rl ?_
       refine rv (aT (s:=1) (k) Tryz.underlying119 (by kernel_rfl)) ?_
       refine bK rfl 23 (.tmp 72) (.tmp 71) rfl (Mem.own H70 1 rfl) (k:=k) (by omega) (by kernel_rfl) v (by obtain ⟨_,_,e9⟩:=aP (iu (mk:=aK) (f:=nC) H70 (i0:=0) rfl (show k<m by omega)).2.1;rw [show v=_ from e9];rfl) (by show Value.pointer (some ⟨gg,k*1,none⟩)=_;rw [Nat.mul_one]) rfl ?_
       intro w91 ho9 hg9
       refine rn ?_
       rw [gp] at ho9
       have H92:=Mem.fA H70 1 rfl ho9 hg9
       clear ho9 hg9
       refine wpList_nil ?_
       refine aq ?_
       refine ab (hK53 _ _ ?_)
       refine rl ?_
       refine rv (aR (((k+1:Nat):Int))) ?_
       refine wpList_nil ?_
       have H93:=Mem.bq (g:=ar w0.heap.size 87 43) (st:=fm aK nC u n gv v k q) (st':=st2 aK nC u n (gv.set k v) (k+1)) H92 (fun i _=>by rw [show q=64 by omega];exact lf aK nC u n gv v k (by omega) i)
       refine ab ?_
       show _∧_
       go_roundw
       case rel=>exact ⟨(k+1),(gv.set k v),rfl,by omega,(by rw [List.length_set];exact hgl),H93⟩
       case measure=>simp [intOf];omega
    ·refine rv (aB (decide_eq_false p52)) ?_
     refine nt (hK51 _ _ ?_)
     refine cf ?_
     refine wp_exit ?_
     refine aj ?_
     refine aj ?_
     refine ax ?_
     refine ab (hK44 _ _ ?_)
     refine wp_seq_k (fun K94 hK94=>?_)
     refine wp_seq_k (fun K95 hK95=>?_)
     refine rl ?_
     refine nt (hK95 _ _ ?_)
     refine wp_block ?_
     have H96:=Mem.bq (g:=ar w0.heap.size 87 43) (st:=st2 aK nC u n gv k) (st':=st4 aK nC u n gv m 0) H48 (fun i hi=>by rw [show k=m by omega];exact jC aK nC u n gv m i hi)
     go_loopw [9] (fun x9 wr=>∃ k3:Nat,x9=.int .i64 (k3:Int)∧(k3≤m)∧Mem w0 wr [Ent.all (List.range m) (fun i=>ar w0.heap.size 87 43 (st4 aK nC u n gv m 0 i)),aw w0.heap.size 23 1 (.slice (some ⟨gg,0,none⟩) m m) m ((gv).flatMap vb),aw B2 23 1 (.slice A m c) m (((List.range m).map u).flatMap vb),R]) (fun x9 _=>m-(intOf x9).toNat)
     case atStart=>exact ⟨0,rfl,by omega,H96⟩
     case round =>
      obtain ⟨wo97,rfl⟩:∃ wo97,wo97=wr:=⟨_,rfl⟩
      obtain ⟨k3,rfl,hk3,H98⟩:=hrel
      refine wp_seq_k (fun K100 hK100=>?_)
      refine wp_seq_k (fun K101 hK101=>?_)
      refine rl ?_
      by_cases p102:(k3:Int)<(m:Int)
      ·refine rv (aB (decide_eq_true p102)) ?_
       refine nt (hK101 _ _ ?_)
       refine ct ?_
       refine ks (hK100 _ _ ?_)
       refine wp_seq_k (fun K103 hK103=>?_)
       refine wp_block ?_
       refine wp_seq_k (fun K104 hK104=>?_)
       refine rl ?_
       refine nt (hK104 _ _ ?_)
       refine wp_block ?_
       have hnk:=hn k3 (by omega)
       go_loopw [10] (fun x10 wr=>∃ i:Nat,x10=.int .i64 (i:Int)∧(i≤n k3+64)∧Mem w0 wr [Ent.all (List.range m) (fun i=>ar w0.heap.size 87 43 (st4 aK nC u n gv m 0 i)),aw w0.heap.size 23 1 (.slice (some ⟨gg,0,none⟩) m m) m ((gv).flatMap vb),aw B2 23 1 (.slice A m c) m (((List.range m).map u).flatMap vb),R]) (fun x10 _=>n k3+64-(intOf x10).toNat)
       case atStart=>exact ⟨0,rfl,by omega,H98⟩
       case round =>
        obtain ⟨wo105,rfl⟩:∃ wo105,wo105=wr:=⟨_,rfl⟩
        obtain ⟨i,rfl,hi,H106⟩:=hrel
        refine wp_seq_k (fun K108 hK108=>?_)
        refine wp_seq_k (fun K109 hK109=>?_)
        refine rl ?_
        obtain ⟨x110,hx111⟩:∃ x,(gv)[k3]?=some x:=⟨_,List.getElem?_eq_getElem (by first | omega | (rw [List.length_map,List.length_range];omega))⟩
        have hd112:=av hx111
        have hv113:=gi (mk:=aK) (f:=nC) H106 (i0:=0) rfl (show k3<m by omega) (Nat.zero_le _) hx111
        obtain ⟨A114,c115,rfl⟩:=aP hv113
        refine rv (aT (s:=1) (k3) Tryz.underlying119 (by kernel_rfl)) ?_
        refine rv (xlc (range_cell (ei (Mem.own H106 1 rfl) hx111)) Tryz.underlying23) ?_
        by_cases p116:(i:Int)<(((n k3+64):Nat):Int)
        ·refine rv (aB (decide_eq_true p116)) ?_
         refine nt (hK109 _ _ ?_)
         refine ct ?_
         refine ks (hK108 _ _ ?_)
         refine wp_seq_k (fun K117 hK117=>?_)
         refine wp_block ?_
         refine wp_seq_k (fun K118 hK118=>?_)
         obtain ⟨b119,rfl,hlt122⟩:=aG hv113 (by omega)
         obtain ⟨b123,rfl,hlt126⟩:=aG (Mem.own H106 2 rfl) (by omega)
         obtain ⟨x127,hx128⟩:∃ x,(((List.range m).map u))[k3]?=some x:=⟨_,List.getElem?_eq_getElem (by first | omega | (rw [List.length_map,List.length_range];omega))⟩
         have hd129:=av hx128
         obtain rfl:=aM hx128
         obtain ⟨A130,c131,hu132,hg133⟩:=hu0 k3 (by omega)
         refine Fre.aW (X:=Bel) [] (by kernel_rfl) (by kernel_rfl) (by simp) (by simp) (by simp) ?_
         refine Fre.rmd ?_
         refine Fre.mvv (fun _ _=>aT (s:=1) (k3) Tryz.underlying119 (by kernel_rfl)) ?_
         refine Fre.mvv (fun W9 hW9=>xlc (range_cell (ei (Mem.own (Mem.call H106 hW9) 1 rfl) hx111)) Tryz.underlying23) ?_
         refine Fre.mvv (fun _ _=>aT (i) Tryz.underlying23 aY) ?_
         refine Fre.mvv (fun W9 hW9=>xld (fB (mk:=aK) (f:=nC) (k:=k3) (i:=i) (fun k i=>da (bh k i)) (gi (mk:=aK) (f:=nC) (Mem.call H106 hW9) (i0:=0) rfl (show k3<m by omega) (Nat.zero_le _) hx111) (by omega)) Tryz.underlying87 (dE (bh k3 i))) ?_
         refine Fre.aA (.agg (nC (aK k3 i)).toArray) _ _ (by kernel_rfl) (by kernel_rfl) (by kernel_rfl) (fun W9=>by kernel_rfl) (fun W9 hW9=>eV k3 i W9) ?_
         refine Fre.rmd ?_
         refine Fre.mvv (fun W9 _=>b3 (o:=⟨some 98,_,_,_,_,_⟩) 87 87 (.tmp 94) (.tmp 97) rfl (nC (aK k3 i)).toArray (nC (aK k3 i)).toArray rfl rfl (by kernel_rfl) _ W9 (by have h9:=iV ((aK k3 i)) ((aK k3 i)) (bh k3 i) (bh k3 i) W9;rwa [show decide _=true from (decide_eq_true rfl)] at h9)) ?_
         refine Fre.mvv (fun _ _=>aT (s:=1) (k3) Tryz.underlying119 (by kernel_rfl)) ?_
         refine Fre.mvv (v:=.slice A130 (n k3) c131) (fun W9 hW9=>by rw [← hu132];exact exec_load_cell (o:=⟨some 105,_,_,_,_,_⟩) 23 (.tmp 104) rfl ⟨b123,k3*1,none⟩ rfl _ _ W9 Tryz.underlying23 rfl (range_cell (bw (Mem.own (Mem.call H106 hW9) 2 rfl) (by omega)))) ?_
         by_cases p134:(i:Int)<(((n k3):Nat):Int)
         ·refine Fre.mvv (fun _ _=>aB (decide_eq_true p134)) ?_
          refine Fre.mvv (fun _ _=>aT (s:=1) (k3) Tryz.underlying119 (by kernel_rfl)) ?_
          refine Fre.mvv (v:=.slice A130 (n k3) c131) (fun W9 hW9=>by rw [← hu132];exact exec_load_cell (o:=⟨some 112,_,_,_,_,_⟩) 23 (.tmp 111) rfl ⟨b123,k3*1,none⟩ rfl _ _ W9 Tryz.underlying23 rfl (range_cell (bw (Mem.own (Mem.call H106 hW9) 2 rfl) (by omega)))) ?_
          obtain ⟨b135,rfl⟩:=hg133 (by omega)
          refine Fre.mvv (fun _ _=>aT (i) Tryz.underlying23 aY) ?_
          refine Fre.mvv (fun W9 hW9=>xld (fB (mk:=aK) (f:=nC) (k:=k3) (i:=i) (fun k i=>da (bh k i)) (hu132▸eW (mk:=aK) (f:=nC) (Mem.call H106 hW9) (i0:=0) rfl (by omega)) (by omega)) Tryz.underlying87 (dE (bh k3 i))) ?_
          refine Fre.aA (.agg (nC (aK k3 i)).toArray) _ _ (by kernel_rfl) (by kernel_rfl) (by kernel_rfl) (fun W9=>by kernel_rfl) (fun W9 hW9=>eV k3 i W9) ?_
          refine Fre.rmd ?_
          refine Fre.mvv (fun W9 _=>b3 (o:=⟨some 119,_,_,_,_,_⟩) 87 87 (.tmp 115) (.tmp 118) rfl (nC (aK k3 i)).toArray (nC (aK k3 i)).toArray rfl rfl (by kernel_rfl) _ W9 (by have h9:=iV ((aK k3 i)) ((aK k3 i)) (bh k3 i) (bh k3 i) W9;rwa [show decide _=true from (decide_eq_true rfl)] at h9)) ?_
          intro w139 hx141
          dsimp only [Fre.ended,List.drop]
          have H140:=Mem.call H106 hx141
          refine ab (hK118 _ _ ?_)
          refine cf ?_
          refine wp_skip ?_
          refine aq ?_
          refine ab (hK117 _ _ ?_)
          refine rl ?_
          refine rv (aR (((i+1:Nat):Int))) ?_
          refine wpList_nil ?_
          refine ab ?_
          show _∧_
          go_roundw
          case rel=>exact ⟨(i+1),rfl,by omega,H140⟩
          case measure=>simp [intOf];omega
         ·refine Fre.mvv (fun _ _=>aB (decide_eq_false p134)) ?_
          intro w142 hx144
          dsimp only [Fre.ended,List.drop]
          have H143:=Mem.call H106 hx144
          refine ab (hK118 _ _ ?_)
          refine cf ?_
          refine wp_skip ?_
          refine aq ?_
          refine ab (hK117 _ _ ?_)
          refine rl ?_
          refine rv (aR (((i+1:Nat):Int))) ?_
          refine wpList_nil ?_
          refine ab ?_
          show _∧_
          go_roundw
          case rel=>exact ⟨(i+1),rfl,by omega,H143⟩
          case measure=>simp [intOf];omega
        ·refine rv (aB (decide_eq_false p116)) ?_
         refine nt (hK109 _ _ ?_)
         refine cf ?_
         refine wp_exit ?_
         refine aj ?_
         refine aj ?_
         refine ax ?_
         refine aq ?_
         refine ab (hK103 _ _ ?_)
         refine rl ?_
         refine rv (aR (((k3+1:Nat):Int))) ?_
         refine wpList_nil ?_
         refine ab ?_
         show _∧_
         go_roundw
         case rel=>exact ⟨(k3+1),rfl,by omega,H106⟩
         case measure=>simp [intOf];omega
      ·refine rv (aB (decide_eq_false p102)) ?_
       refine nt (hK101 _ _ ?_)
       refine cf ?_
       refine wp_exit ?_
       refine aj ?_
       refine aj ?_
       refine ax ?_
       refine ab (hK94 _ _ ?_)
       refine wp_seq_k (fun K145 hK145=>?_)
       refine wp_seq_k (fun K146 hK146=>?_)
       refine rl ?_
       refine nt (hK146 _ _ ?_)
       refine wp_block ?_
       obtain ⟨gw,hgw⟩:∃ g,g=gv:=⟨_,rfl⟩
       rw [← hgw] at H98
       rw [← hgw] at hgl
       have hgl6:=hgl
       clear hgl
       go_loopw [11] (fun x11 wr=>∃ k:Nat,∃ gv:List Value,x11=.int .i64 (k:Int)∧(k≤m)∧(gv.length=m)∧Mem w0 wr [Ent.all (List.range m) (fun i=>ar w0.heap.size 87 43 (st4 aK nC u n gv m k i)),aw w0.heap.size 23 1 (.slice (some ⟨gg,0,none⟩) m m) m ((gv).flatMap vb),aw B2 23 1 (.slice A m c) m (((List.range m).map u).flatMap vb),R]) (fun x11 _=>m-(intOf x11).toNat)
       case atStart=>exact ⟨0,gw,rfl,by omega,hgl6,H98⟩
       case round =>
        obtain ⟨wo147,rfl⟩:∃ wo147,wo147=wr:=⟨_,rfl⟩
        obtain ⟨k,gv,rfl,hk,hgl,H148⟩:=hrel
        refine wp_seq_k (fun K150 hK150=>?_)
        refine wp_seq_k (fun K151 hK151=>?_)
        refine rl ?_
        by_cases p152:(k:Int)<(m:Int)
        ·refine rv (aB (decide_eq_true p152)) ?_
         refine nt (hK151 _ _ ?_)
         refine ct ?_
         refine ks (hK150 _ _ ?_)
         refine wp_seq_k (fun K153 hK153=>?_)
         refine wp_block ?_
         refine wp_seq_k (fun K154 hK154=>?_)
         refine rl ?_
         obtain ⟨inm87,iq87,ir87,is87,it87⟩:=info_parts l6
         refine wpList_make_full _ rfl _ _ 23 rfl w0.heap.size 87 _ _ 43 Tryz.underlying23 iq87 ir87 is87 _ _ _ _ 64 rfl rfl rfl rfl (by rw [it87];omega) (by simp only [maxLen];omega) (Mem.below H148).size ?_
         intro w155 ow gr
         refine rn ?_
         obtain ⟨zs,hzs⟩:∃ zs:List Value,zs=(madeCells (Value.agg zcN).cells (64*43)).toList:=⟨_,rfl⟩
         rw [← hzs] at ow
         have hzl:=ow.1
         have H156:=Mem.make H148 ow gr
         obtain ⟨gm,hgm⟩:∃ g,g=wo147.heap.size:=⟨_,rfl⟩
         rw [← hgm] at H156 ⊢
         clear ow gr hgm hzs
         refine rn ?_
         refine nt (hK154 _ _ ?_)
         refine wp_seq_k (fun K157 hK157=>?_)
         refine wp_seq_k (fun K158 hK158=>?_)
         refine rl ?_
         refine nt (hK158 _ _ ?_)
         refine wp_block ?_
         have hnk:=hn k (by omega)
         go_loopw [13] (fun x13 wr=>∃ i:Nat,x13=.int .i64 (i:Int)∧(i≤64)∧Mem w0 wr [aw w0.heap.size 87 43 (.slice (some ⟨gm,0,none⟩) 64 64) 64 (mkC aK nC (k+m) i++zs.drop (i*43)),Ent.all (List.range m) (fun i=>ar w0.heap.size 87 43 (st4 aK nC u n gv m k i)),aw w0.heap.size 23 1 (.slice (some ⟨gg,0,none⟩) m m) m ((gv).flatMap vb),aw B2 23 1 (.slice A m c) m (((List.range m).map u).flatMap vb),R]) (fun x13 _=>64-(intOf x13).toNat)
         case atStart=>exact ⟨0,rfl,by omega,H156⟩
         case round =>
          obtain ⟨wo159,rfl⟩:∃ wo159,wo159=wr:=⟨_,rfl⟩
          obtain ⟨i,rfl,hi,H160⟩:=hrel
          refine wp_seq_k (fun K162 hK162=>?_)
          refine wp_seq_k (fun K163 hK163=>?_)
          refine rl ?_
          by_cases p164:(i:Int)<64
          ·refine rv (aB (decide_eq_true p164)) ?_
           refine nt (hK163 _ _ ?_)
           refine ct ?_
           refine ks (hK162 _ _ ?_)
           refine wp_seq_k (fun K165 hK165=>?_)
           refine wp_block ?_
           refine rl ?_
           refine rv (aR (((k+m:Nat):Int))) ?_
           refine an (by kernel_rfl) _ _ (by kernel_rfl) (eV (k+m) i wo159) ?_
           rintro e w166 ⟨rfl,hb168⟩
           refine ⟨_,rfl,rn ?_⟩
           have H167:=Mem.call H160 hb168
           refine rv (aT (i) Tryz.underlying23 aY) ?_
           refine cT rfl 87 (.tmp 142) (.tmp 141) rfl (Mem.own H167 0 rfl) (k:=i) (nC (aK (k+m) i)) (by omega) (da (bh (k+m) i)) (iF (bh (k+m) i)) (ui (aK (k+m) i)) rfl rfl ?_
           intro w169 ho9 hg9 hz9
           refine rn ?_
           rw [jd aK nC 43 (fun _=>zs) (fun k i=>da (bh k i)) (k+m) i] at ho9
           have H170:=Mem.fA H167 0 rfl ho9 hg9
           clear ho9 hg9
           refine wpList_nil ?_
           refine aq ?_
           refine ab (hK165 _ _ ?_)
           refine rl ?_
           refine rv (aR (((i+1:Nat):Int))) ?_
           refine wpList_nil ?_
           refine ab ?_
           show _∧_
           go_roundw
           case rel=>exact ⟨(i+1),rfl,by omega,H170⟩
           case measure=>simp [intOf];omega
          ·refine rv (aB (decide_eq_false p164)) ?_
           refine nt (hK163 _ _ ?_)
           refine cf ?_
           refine wp_exit ?_
           refine aj ?_
           refine aj ?_
           refine ax ?_
           refine ab (hK157 _ _ ?_)
           refine rl ?_
           obtain ⟨b171,rfl,hlt174⟩:=aG (Mem.own H160 3 rfl) (by omega)
           obtain ⟨x175,hx176⟩:∃ x,(((List.range m).map u))[k]?=some x:=⟨_,List.getElem?_eq_getElem (by first | omega | (rw [List.length_map,List.length_range];omega))⟩
           have hd177:=av hx176
           obtain rfl:=aM hx176
           obtain ⟨A178,c179,hu180,hg181⟩:=hu0 k (by omega)
           refine rv (aT (s:=1) (k) Tryz.underlying119 (by kernel_rfl)) ?_
           refine rv (v:=.slice A178 (n k) c179) (by rw [← hu180];exact exec_load_cell (o:=⟨some 148,_,_,_,_,_⟩) 23 (.tmp 147) rfl ⟨b171,k*1,none⟩ rfl _ _ wo159 Tryz.underlying23 rfl (range_cell (bw (Mem.own H160 3 rfl) (by omega)))) ?_
           have hie:i=64:=by omega
           subst hie
           have hU9:=eW (mk:=aK) (f:=nC) H160 (i0:=1) rfl (show k<m by omega)
           rw [List.append_nil] at hU9
           have hM9:=Mem.own H160 0 rfl
           rw [List.drop_of_length_le (by omega),List.append_nil] at hM9
           refine cY rfl _ _ 23 rfl w0.heap.size 87 _ _ 43 80 Tryz.underlying23 iq87 ir87 is87 it87 rfl (by decide) (u k) (n k) (mkC aK nC k (n k)) hU9 (some ⟨gm,0,none⟩) 64 64 (mkC aK nC (k+m) 64) (kz hM9 (mE aK nC (fun k i=>fQ _) _ _)) (by decide) (by simp only [maxLen];omega) (by omega) (Mem.below H160).size hu180.symm rfl ?_
           intro v9 w182 ho9 hg9 hr9
           refine rn ?_
           have H183:=kA (mk:=aK) (f:=nC) (Mem.pick H160 [1,0,2,3,4] (by decide) rfl) (show k<m by omega) hgl ho9 hg9 hr9
           obtain ⟨A9,c99,hv9⟩:=aP ho9
           clear ho9 hg9 hr9 hU9 hM9
           refine rv (aT (s:=1) (k) Tryz.underlying119 (by kernel_rfl)) ?_
           refine bK rfl 23 (.tmp 151) (.tmp 150) rfl (Mem.own H183 2 rfl) (k:=k) (by omega) (by kernel_rfl) v9 (by rw [hv9];rfl) (by show Value.pointer (some ⟨gg,k*1,none⟩)=_;rw [Nat.mul_one]) rfl ?_
           intro w184 ho9 hg9
           refine rn ?_
           rw [gp] at ho9
           have H185:=Mem.fA H183 2 rfl ho9 hg9
           clear ho9 hg9
           refine wpList_nil ?_
           refine aq ?_
           refine ab (hK153 _ _ ?_)
           refine rl ?_
           refine rv (aR (((k+1:Nat):Int))) ?_
           refine wpList_nil ?_
           have H186:=Mem.pick H185 [0,2,3,4] (by decide) rfl
           refine ab ?_
           show _∧_
           go_roundw
           case rel=>exact ⟨(k+1),(gv.set k v9),rfl,by omega,(by rw [List.length_set];exact hgl),H186⟩
           case measure=>simp [intOf];omega
        ·refine rv (aB (decide_eq_false p152)) ?_
         refine nt (hK151 _ _ ?_)
         refine cf ?_
         refine wp_exit ?_
         refine aj ?_
         refine aj ?_
         refine ax ?_
         refine ab (hK145 _ _ ?_)
         refine wp_seq_k (fun K187 hK187=>?_)
         refine wp_seq_k (fun K188 hK188=>?_)
         refine rl ?_
         refine nt (hK188 _ _ ?_)
         refine wp_block ?_
         have hke8:k=m:=by omega
         rw [hke8] at H148
         go_loopw [14] (fun x14 wr=>∃ k5:Nat,x14=.int .i64 (k5:Int)∧(k5≤m)∧Mem w0 wr [Ent.all (List.range m) (fun i=>ar w0.heap.size 87 43 (st4 aK nC u n gv m m i)),aw w0.heap.size 23 1 (.slice (some ⟨gg,0,none⟩) m m) m ((gv).flatMap vb),aw B2 23 1 (.slice A m c) m (((List.range m).map u).flatMap vb),R]) (fun x14 _=>m-(intOf x14).toNat)
         case atStart=>exact ⟨0,rfl,by omega,H148⟩
         case round =>
          obtain ⟨wo189,rfl⟩:∃ wo189,wo189=wr:=⟨_,rfl⟩
          obtain ⟨k5,rfl,hk5,H190⟩:=hrel
          refine wp_seq_k (fun K192 hK192=>?_)
          refine wp_seq_k (fun K193 hK193=>?_)
          refine rl ?_
          by_cases p194:(k5:Int)<(m:Int)
          ·refine rv (aB (decide_eq_true p194)) ?_
           refine nt (hK193 _ _ ?_)
           refine ct ?_
           refine ks (hK192 _ _ ?_)
           refine wp_seq_k (fun K195 hK195=>?_)
           refine wp_block ?_
           refine wp_seq_k (fun K196 hK196=>?_)
           refine rl ?_
           refine nt (hK196 _ _ ?_)
           refine wp_block ?_
           have hnk:=hn k5 (by omega)
           go_loopw [15] (fun x15 wr=>∃ i:Nat,x15=.int .i64 (i:Int)∧(i≤n k5)∧Mem w0 wr [Ent.all (List.range m) (fun i=>ar w0.heap.size 87 43 (st4 aK nC u n gv m m i)),aw w0.heap.size 23 1 (.slice (some ⟨gg,0,none⟩) m m) m ((gv).flatMap vb),aw B2 23 1 (.slice A m c) m (((List.range m).map u).flatMap vb),R]) (fun x15 _=>n k5-(intOf x15).toNat)
           case atStart=>exact ⟨0,rfl,by omega,H190⟩
           case round =>
            obtain ⟨wo197,rfl⟩:∃ wo197,wo197=wr:=⟨_,rfl⟩
            obtain ⟨i,rfl,hi,H198⟩:=hrel
            refine wp_seq_k (fun K200 hK200=>?_)
            refine wp_seq_k (fun K201 hK201=>?_)
            refine rl ?_
            obtain ⟨b202,rfl,hlt205⟩:=aG (Mem.own H198 2 rfl) (by omega)
            obtain ⟨x206,hx207⟩:∃ x,(((List.range m).map u))[k5]?=some x:=⟨_,List.getElem?_eq_getElem (by first | omega | (rw [List.length_map,List.length_range];omega))⟩
            have hd208:=av hx207
            obtain rfl:=aM hx207
            obtain ⟨A209,c210,hu211,hg212⟩:=hu0 k5 (by omega)
            refine rv (aT (s:=1) (k5) Tryz.underlying119 (by kernel_rfl)) ?_
            refine rv (v:=.slice A209 (n k5) c210) (by rw [← hu211];exact exec_load_cell (o:=⟨some 162,_,_,_,_,_⟩) 23 (.tmp 161) rfl ⟨b202,k5*1,none⟩ rfl _ _ wo197 Tryz.underlying23 rfl (range_cell (bw (Mem.own H198 2 rfl) (by omega)))) ?_
            by_cases p213:(i:Int)<(((n k5):Nat):Int)
            ·refine rv (aB (decide_eq_true p213)) ?_
             refine nt (hK201 _ _ ?_)
             refine ct ?_
             refine ks (hK200 _ _ ?_)
             refine wp_seq_k (fun K214 hK214=>?_)
             refine wp_block ?_
             refine wp_seq_k (fun K215 hK215=>?_)
             obtain ⟨b216,rfl⟩:=hg212 (by omega)
             obtain ⟨x220,hx221⟩:∃ x,(gv)[k5]?=some x:=⟨_,List.getElem?_eq_getElem (by first | omega | (rw [List.length_map,List.length_range];omega))⟩
             have hd222:=av hx221
             have hv223:=gB (mk:=aK) (f:=nC) H198 (i0:=0) rfl (show k5<m by omega) (by omega) hx221
             obtain ⟨A224,c225,rfl⟩:=aP hv223
             obtain ⟨b226,rfl,hlt229⟩:=aG hv223 (by omega)
             refine Fre.aW (X:=Bel) [] (by kernel_rfl) (by kernel_rfl) (by simp) (by simp) (by simp) ?_
             refine Fre.rmd ?_
             refine Fre.mvv (fun _ _=>aT (s:=1) (k5) Tryz.underlying119 (by kernel_rfl)) ?_
             refine Fre.mvv (v:=.slice (some ⟨b216,0,none⟩) (n k5) c210) (fun W9 hW9=>by rw [← hu211];exact exec_load_cell (o:=⟨some 170,_,_,_,_,_⟩) 23 (.tmp 169) rfl ⟨b202,k5*1,none⟩ rfl _ _ W9 Tryz.underlying23 rfl (range_cell (bw (Mem.own (Mem.call H198 hW9) 2 rfl) (by omega)))) ?_
             refine Fre.mvv (fun _ _=>aT (i) Tryz.underlying23 aY) ?_
             refine Fre.mvv (fun W9 hW9=>xld (fB (mk:=aK) (f:=nC) (k:=k5) (i:=i) (fun k i=>da (bh k i)) (hu211▸eW (mk:=aK) (f:=nC) (Mem.call H198 hW9) (i0:=0) rfl (by omega)) (by omega)) Tryz.underlying87 (dE (bh k5 i))) ?_
             refine Fre.aA (.agg (nC (aK k5 i)).toArray) _ _ (by kernel_rfl) (by kernel_rfl) (by kernel_rfl) (fun W9=>by kernel_rfl) (fun W9 hW9=>eV k5 i W9) ?_
             refine Fre.rmd ?_
             refine Fre.mvv (fun W9 _=>b3 (o:=⟨some 177,_,_,_,_,_⟩) 87 87 (.tmp 173) (.tmp 176) rfl (nC (aK k5 i)).toArray (nC (aK k5 i)).toArray rfl rfl (by kernel_rfl) _ W9 (by have h9:=iV ((aK k5 i)) ((aK k5 i)) (bh k5 i) (bh k5 i) W9;rwa [show decide _=true from (decide_eq_true rfl)] at h9)) ?_
             refine Fre.mvv (fun _ _=>aT (s:=1) (k5) Tryz.underlying119 (by kernel_rfl)) ?_
             refine Fre.mvv (fun W9 hW9=>xlc (range_cell (ei (Mem.own (Mem.call H198 hW9) 1 rfl) hx221)) Tryz.underlying23) ?_
             refine Fre.mvv (fun _ _=>aT (i) Tryz.underlying23 aY) ?_
             refine Fre.mvv (fun W9 hW9=>xld (fB (mk:=aK) (f:=nC) (k:=k5) (i:=i) (fun k i=>da (bh k i)) (gB (mk:=aK) (f:=nC) (Mem.call H198 hW9) (i0:=0) rfl (show k5<m by omega) (by omega) hx221) (by omega)) Tryz.underlying87 (dE (bh k5 i))) ?_
             refine Fre.aA (.agg (nC (aK k5 i)).toArray) _ _ (by kernel_rfl) (by kernel_rfl) (by kernel_rfl) (fun W9=>by kernel_rfl) (fun W9 hW9=>eV k5 i W9) ?_
             refine Fre.rmd ?_
             refine Fre.mvv (fun W9 _=>b3 (o:=⟨some 190,_,_,_,_,_⟩) 87 87 (.tmp 186) (.tmp 189) rfl (nC (aK k5 i)).toArray (nC (aK k5 i)).toArray rfl rfl (by kernel_rfl) _ W9 (by have h9:=iV ((aK k5 i)) ((aK k5 i)) (bh k5 i) (bh k5 i) W9;rwa [show decide _=true from (decide_eq_true rfl)] at h9)) ?_
             intro w230 hx232
             dsimp only [Fre.ended,List.drop]
             have H231:=Mem.call H198 hx232
             refine ab (hK215 _ _ ?_)
             refine cf ?_
             refine wp_skip ?_
             refine aq ?_
             refine ab (hK214 _ _ ?_)
             refine rl ?_
             refine rv (aR (((i+1:Nat):Int))) ?_
             refine wpList_nil ?_
             refine ab ?_
             show _∧_
             go_roundw
             case rel=>exact ⟨(i+1),rfl,by omega,H231⟩
             case measure=>simp [intOf];omega
            ·refine rv (aB (decide_eq_false p213)) ?_
             refine nt (hK201 _ _ ?_)
             refine cf ?_
             refine wp_exit ?_
             refine aj ?_
             refine aj ?_
             refine ax ?_
             refine aq ?_
             refine ab (hK195 _ _ ?_)
             refine rl ?_
             refine rv (aR (((k5+1:Nat):Int))) ?_
             refine wpList_nil ?_
             refine ab ?_
             show _∧_
             go_roundw
             case rel=>exact ⟨(k5+1),rfl,by omega,H198⟩
             case measure=>simp [intOf];omega
          ·refine rv (aB (decide_eq_false p194)) ?_
           refine nt (hK193 _ _ ?_)
           refine cf ?_
           refine wp_exit ?_
           refine aj ?_
           refine aj ?_
           refine ax ?_
           refine ab (hK187 _ _ ?_)
           refine wp_seq_k (fun K233 hK233=>?_)
           refine rl ?_
           refine nt (hK233 _ _ ?_)
           refine wp_ret ?_
           refine bodyPost_ret (results_tmp rfl _ _ _) rfl ?_
           exact ⟨rfl,(Mem.pick H190 [2,3] (by decide) rfl)⟩
end Go.Proofs.YtomnhnmciopiiaaGreat
end
section
namespace Go.Proofs.YtomnhnmciopiiaaGreat
open Go Go.RowKit Go.Maps
set_option maxRecDepth 100000
attribute [local irreducible] wpList
abbrev dN (d:Drv):List Value:=dC d (.slice none 0 0) (.slice none 0 0)
theorem yI (d:Drv):∀ v∈dN d,v.oneCell'=true:=fun v hv=>by
 simp only [dN,dC,List.mem_cons,List.not_mem_nil,or_false] at hv
 rcases hv with rfl | rfl | rfl<;>rfl
theorem kR (k i:Nat) (w:World):Calls Tryz.prog 37 #[.agg (dN (aN k i)).toArray,.agg (dN (aN k i)).toArray] w fun e w'=>e=.returned (.bool true)∧Below w.heap.size w w' :=
 Calls.mono (lE w (aN k i) (aN k i) _ _ _ _ (rS w _ k i) (rS w _ k i)) fun e w' h=>⟨h.1.trans (by rw [decide_eq_true rfl]),h.2⟩
theorem oS:(Tryz.prog.info? 26).map (fun i=>(i.zero,i.size,i.bytes))=some (some (Value.agg zcD),3,64):=by kernel_rfl
theorem tv:(Tryz.prog.info? 53).map (fun i=>(i.zero,i.size,i.bytes))=some (some (.slice none 0 0),1,24):=by kernel_rfl
set_option maxHeartbeats 40000000 in
theorem qu (w0 w:World) (R:Ent) (m:Nat) (u:Nat→Value) (n:Nat→Nat) (xs:Nat→List Value) (B2:Nat) (A:Option Addr) (c:Nat) (hm9:m≤1000000) (hn:∀ i,i<m→n i≤1000000)
  (hm:Mem w0 w [Ent.all (List.range m) (fun i=>ar w0.heap.size 26 3 (PS.self (u i) (n i) (xs i))),aw B2 53 1 (.slice A m c) m (((List.range m).map u).flatMap vb),R]) :
  Calls Tryz.prog 115 #[.slice A m c] w fun e w'=>e=.returned (.bool true)∧Mem w0 w' [aw B2 53 1 (.slice A m c) m (((List.range m).map u).flatMap vb),R]:=by
 have hown:∀ i,i<m→w.ownsRow w0.heap.size 26 3 (u i) (n i) (xs i):=fun i hi=>(Mem.kE (g:=ar w0.heap.size 26 3) (st:=fun i=>PS.self (u i) (n i) (xs i)) hm 0 rfl hi).1
 have hxl:∀ i,i<m→(xs i).length=n i*3:=fun i hi=>(hown i hi).1
 have hu0:∀ i,i<m→∃ A c,u i=.slice A (n i) c∧(0<n i→∃ g,A=some ⟨g,0,none⟩):=fun i hi=>by
  obtain ⟨A,c,e⟩:=aP (hown i hi)
  refine ⟨A,c,e,fun h0=>?_⟩
  obtain ⟨g,hg,_⟩:=aG (e▸hown i hi) h0
  exact ⟨g,hg⟩
 have hm:=Mem.bq (g:=ar w0.heap.size 26 3) (st:=fun i=>PS.self (u i) (n i) (xs i)) (st':=st1 aN dN u n xs 0) hm (fun i _=>(jF aN dN u n xs i).symm)
 clear hown
 go_enter Tryz.func115,Tryz.ntmps115
 refine wp_seq_k (fun K1 hK1=>?_)
 refine rl ?_
 refine nt (hK1 _ _ ?_)
 refine wp_seq_k (fun K2 hK2=>?_)
 refine wp_seq_k (fun K3 hK3=>?_)
 refine rl ?_
 refine nt (hK3 _ _ ?_)
 refine wp_block ?_
 go_loopw [3] (fun x3 wr=>∃ k:Nat,x3=.int .i64 (k:Int)∧(k≤m)∧Mem w0 wr [Ent.all (List.range m) (fun i=>ar w0.heap.size 26 3 (st1 aN dN u n xs k i)),aw B2 53 1 (.slice A m c) m (((List.range m).map u).flatMap vb),R]) (fun x3 _=>m-(intOf x3).toNat)
 case atStart=>exact ⟨0,rfl,by omega,hm⟩
 case round =>
  obtain ⟨wo4,rfl⟩:∃ wo4,wo4=wr:=⟨_,rfl⟩
  obtain ⟨k,rfl,hk,H5⟩:=hrel
  refine wp_seq_k (fun K7 hK7=>?_)
  refine wp_seq_k (fun K8 hK8=>?_)
  refine rl ?_
  by_cases p9:(k:Int)<(m:Int)
  ·refine rv (aB (decide_eq_true p9)) ?_
   refine nt (hK8 _ _ ?_)
   refine ct ?_
   refine ks (hK7 _ _ ?_)
   refine wp_seq_k (fun K10 hK10=>?_)
   refine wp_block ?_
   refine wp_seq_k (fun K11 hK11=>?_)
   refine rl ?_
   refine nt (hK11 _ _ ?_)
   refine wp_block ?_
   have H12:=Mem.bq (g:=ar w0.heap.size 26 3) (st:=st1 aN dN u n xs k) (st':=fa aN dN 3 u n xs k 0) H5 (fun i _=>iB aN dN 3 u n xs k i)
   have hxl9:=hxl k (by omega)
   have hnk:=hn k (by omega)
   go_loopw [4] (fun x4 wr=>∃ q:Nat,x4=.int .i64 (q:Int)∧(q≤n k)∧Mem w0 wr [Ent.all (List.range m) (fun i=>ar w0.heap.size 26 3 (fa aN dN 3 u n xs k q i)),aw B2 53 1 (.slice A m c) m (((List.range m).map u).flatMap vb),R]) (fun x4 _=>n k-(intOf x4).toNat)
   case atStart=>exact ⟨0,rfl,by omega,H12⟩
   case round =>
    obtain ⟨wo13,rfl⟩:∃ wo13,wo13=wr:=⟨_,rfl⟩
    obtain ⟨q,rfl,hq,H14⟩:=hrel
    refine wp_seq_k (fun K16 hK16=>?_)
    refine wp_seq_k (fun K17 hK17=>?_)
    refine rl ?_
    obtain ⟨b18,rfl,hlt21⟩:=aG (Mem.own H14 1 rfl) (by omega)
    obtain ⟨x22,hx23⟩:∃ x,(((List.range m).map u))[k]?=some x:=⟨_,List.getElem?_eq_getElem (by first | omega | (rw [List.length_map,List.length_range];omega))⟩
    have hd24:=av hx23
    obtain rfl:=aM hx23
    obtain ⟨A25,c26,hu27,hg28⟩:=hu0 k (by omega)
    refine rv (aT (s:=1) (k) Tryz.underlying55 (by kernel_rfl)) ?_
    refine rv (v:=.slice A25 (n k) c26) (by rw [← hu27];exact exec_load_cell (o:=⟨some 26,_,_,_,_,_⟩) 53 (.tmp 25) rfl ⟨b18,k*1,none⟩ rfl _ _ wo13 Tryz.underlying53 rfl (range_cell (bw (Mem.own H14 1 rfl) (by omega)))) ?_
    by_cases p29:(q:Int)<(((n k):Nat):Int)
    ·refine rv (aB (decide_eq_true p29)) ?_
     refine nt (hK17 _ _ ?_)
     refine ct ?_
     refine ks (hK16 _ _ ?_)
     refine wp_seq_k (fun K30 hK30=>?_)
     refine wp_block ?_
     obtain ⟨b31,rfl⟩:=hg28 (by omega)
     refine Fre.cq (X:=Bel) 9 [] (by kernel_rfl) (by kernel_rfl) (by simp) (by simp) (by simp) ?_
     simp only [List.take_succ_cons,List.take_zero,List.drop_succ_cons,List.drop_zero]
     refine Fre.rmd ?_
     refine Fre.mvv (fun _ _=>aT (s:=1) (k) Tryz.underlying55 (by kernel_rfl)) ?_
     refine Fre.mvv (v:=.slice (some ⟨b31,0,none⟩) (n k) c26) (fun W9 hW9=>by rw [← hu27];exact exec_load_cell (o:=⟨some 34,_,_,_,_,_⟩) 53 (.tmp 33) rfl ⟨b18,k*1,none⟩ rfl _ _ W9 Tryz.underlying53 rfl (range_cell (bw (Mem.own (Mem.call H14 hW9) 1 rfl) (by omega)))) ?_
     refine Fre.aA (.agg (dN (aN k q)).toArray) _ _ (by kernel_rfl) (by kernel_rfl) (by kernel_rfl) (fun W9=>by kernel_rfl) (fun W9 hW9=>fh k q W9) ?_
     refine Fre.rmd ?_
     refine Fre.mvv (fun _ _=>aT (s:=3) (q) Tryz.underlying53 (by kernel_rfl)) ?_
     intro w35 hx37
     dsimp only [Fre.ended,List.drop]
     have H36:=Mem.call H14 hx37
     have ow9:=qE (mk:=aN) (f:=dN) H36 (i0:=0) rfl (show k<m by omega)
     rw [hu27] at ow9
     refine cT rfl 26 (.tmp 39) (.tmp 38) rfl ow9 (k:=q) (dN (aN k q)) (by omega) rfl (dF (aN k q) (.slice none 0 0) (.slice none 0 0)) (ll (aN k q) rfl rfl) rfl rfl ?_
     intro w38 ho9 hg9 hz9
     refine rn ?_
     rw [← hu27] at ho9
     have H39:=kX (mk:=aN) (f:=dN) H36 (show k<m by omega) (fun k i=>rfl) hu27 ho9 hg9
     clear ho9 hg9 ow9
     refine wpList_nil ?_
     refine aq ?_
     refine ab (hK30 _ _ ?_)
     refine rl ?_
     refine rv (aR (((q+1:Nat):Int))) ?_
     refine wpList_nil ?_
     refine ab ?_
     show _∧_
     go_roundw
     case rel=>exact ⟨(q+1),rfl,by omega,H39⟩
     case measure=>simp [intOf];omega
    ·refine rv (aB (decide_eq_false p29)) ?_
     refine nt (hK17 _ _ ?_)
     refine cf ?_
     refine wp_exit ?_
     refine aj ?_
     refine aj ?_
     refine ax ?_
     refine aq ?_
     refine ab (hK10 _ _ ?_)
     refine rl ?_
     refine rv (aR (((k+1:Nat):Int))) ?_
     refine wpList_nil ?_
     have H40:=Mem.bq (g:=ar w0.heap.size 26 3) (st:=fa aN dN 3 u n xs k q) (st':=st1 aN dN u n xs (k+1)) H14 (fun i _=>by rw [show q=n k by omega];exact kr aN dN 3 u n xs k hxl9 i)
     refine ab ?_
     show _∧_
     go_roundw
     case rel=>exact ⟨(k+1),rfl,by omega,H40⟩
     case measure=>simp [intOf];omega
  ·refine rv (aB (decide_eq_false p9)) ?_
   refine nt (hK8 _ _ ?_)
   refine cf ?_
   refine wp_exit ?_
   refine aj ?_
   refine aj ?_
   refine ax ?_
   refine ab (hK2 _ _ ?_)
   refine wp_seq_k (fun K41 hK41=>?_)
   refine rl ?_
   obtain ⟨inm53,iq53,ir53,is53,it53⟩:=info_parts tv
   refine wpList_make_full _ rfl _ _ 55 rfl w0.heap.size 53 _ _ 1 Tryz.underlying55 iq53 ir53 is53 _ _ _ _ m rfl rfl rfl rfl (by rw [it53];omega) (by simp only [maxLen];omega) (Mem.below H5).size ?_
   intro w42 ow gr
   refine rn ?_
   obtain ⟨gv0,hgv0⟩:∃ gv:List Value,gv=(madeCells (Value.slice none 0 0).cells (m*1)).toList:=⟨_,rfl⟩
   rw [← hgv0] at ow
   have hgl0:=kO ow rfl
   rw [← fG gv0] at ow
   have H43:=Mem.make H5 ow gr
   obtain ⟨gg,hgg⟩:∃ g,g=wo4.heap.size:=⟨_,rfl⟩
   rw [← hgg] at H43 ⊢
   clear ow gr hgg hgv0
   refine rn ?_
   refine nt (hK41 _ _ ?_)
   refine wp_seq_k (fun K44 hK44=>?_)
   refine wp_seq_k (fun K45 hK45=>?_)
   refine rl ?_
   refine nt (hK45 _ _ ?_)
   refine wp_block ?_
   have H46:=Mem.bq (g:=ar w0.heap.size 26 3) (st:=st1 aN dN u n xs k) (st':=st2 aN dN u n gv0 0) (Mem.pick H43 [1,0,2,3] (by decide) rfl) (fun i hi=>by rw [show k=m by omega];exact (mF aN dN u n xs m i hi).trans (if_neg (Nat.not_lt_zero _)).symm)
   go_loopw [6] (fun x6 wr=>∃ k:Nat,∃ gv:List Value,x6=.int .i64 (k:Int)∧(k≤m)∧(gv.length=m)∧Mem w0 wr [Ent.all (List.range m) (fun i=>ar w0.heap.size 26 3 (st2 aN dN u n gv k i)),aw w0.heap.size 53 1 (.slice (some ⟨gg,0,none⟩) m m) m ((gv).flatMap vb),aw B2 53 1 (.slice A m c) m (((List.range m).map u).flatMap vb),R]) (fun x6 _=>m-(intOf x6).toNat)
   case atStart=>exact ⟨0,gv0,rfl,by omega,hgl0,H46⟩
   case round =>
    obtain ⟨wo47,rfl⟩:∃ wo47,wo47=wr:=⟨_,rfl⟩
    obtain ⟨k,gv,rfl,hk,hgl,H48⟩:=hrel
    refine wp_seq_k (fun K50 hK50=>?_)
    refine wp_seq_k (fun K51 hK51=>?_)
    refine rl ?_
    by_cases p52:(k:Int)<(m:Int)
    ·refine rv (aB (decide_eq_true p52)) ?_
     refine nt (hK51 _ _ ?_)
     refine ct ?_
     refine ks (hK50 _ _ ?_)
     refine wp_seq_k (fun K53 hK53=>?_)
     refine wp_block ?_
     refine wp_seq_k (fun K54 hK54=>?_)
     refine rl ?_
     obtain ⟨b55,rfl,hlt58⟩:=aG (Mem.own H48 2 rfl) (by omega)
     obtain ⟨x59,hx60⟩:∃ x,(((List.range m).map u))[k]?=some x:=⟨_,List.getElem?_eq_getElem (by first | omega | (rw [List.length_map,List.length_range];omega))⟩
     have hd61:=av hx60
     obtain rfl:=aM hx60
     obtain ⟨A62,c63,hu64,hg65⟩:=hu0 k (by omega)
     refine rv (aT (s:=1) (k) Tryz.underlying55 (by kernel_rfl)) ?_
     refine rv (v:=.slice A62 (n k) c63) (by rw [← hu64];exact exec_load_cell (o:=⟨some 52,_,_,_,_,_⟩) 53 (.tmp 51) rfl ⟨b55,k*1,none⟩ rfl _ _ wo47 Tryz.underlying53 rfl (range_cell (bw (Mem.own H48 2 rfl) (by omega)))) ?_
     refine nt (hK54 _ _ ?_)
     refine wp_seq_k (fun K66 hK66=>?_)
     refine wp_seq_k (fun K67 hK67=>?_)
     refine rl ?_
     refine nt (hK67 _ _ ?_)
     refine wp_block ?_
     have H68:=Mem.bq (g:=ar w0.heap.size 26 3) (st:=st2 aN dN u n gv k) (st':=fm aN dN u n gv (u k) k 0) H48 (fun i _=>hX aN dN u n gv k i)
     have hnk:=hn k (by omega)
     rw [← hu64]
     go_loopw [7,8] (fun x7 x8 wr=>∃ q:Nat,∃ v:Value,v=x7∧x8=.int .i64 (q:Int)∧(q≤64)∧Mem w0 wr [Ent.all (List.range m) (fun i=>ar w0.heap.size 26 3 (fm aN dN u n gv v k q i)),aw w0.heap.size 53 1 (.slice (some ⟨gg,0,none⟩) m m) m ((gv).flatMap vb),aw B2 53 1 (.slice (some ⟨b55,0,none⟩) m c) m (((List.range m).map u).flatMap vb),R]) (fun x7 x8 _=>64-(intOf x8).toNat)
     case atStart=>exact ⟨0,((u k)),rfl,rfl,by omega,H68⟩
     case round =>
      obtain ⟨wo69,rfl⟩:∃ wo69,wo69=wr:=⟨_,rfl⟩
      obtain ⟨q,v,rfl,rfl,hq,H70⟩:=hrel
      refine wp_seq_k (fun K72 hK72=>?_)
      refine wp_seq_k (fun K73 hK73=>?_)
      refine rl ?_
      by_cases p74:(q:Int)<64
      ·refine rv (aB (decide_eq_true p74)) ?_
       refine nt (hK73 _ _ ?_)
       refine ct ?_
       refine ks (hK72 _ _ ?_)
       refine wp_seq_k (fun K75 hK75=>?_)
       refine wp_block ?_
       refine rl ?_
       obtain ⟨x76,hx77⟩:∃ x,(((List.range m).map u))[k]?=some x:=⟨_,List.getElem?_eq_getElem (by first | omega | (rw [List.length_map,List.length_range];omega))⟩
       have hd78:=av hx77
       obtain rfl:=aM hx77
       obtain ⟨A79,c80,hu81,hg82⟩:=hu0 k (by omega)
       refine rv (aT (s:=1) (k) Tryz.underlying55 (by kernel_rfl)) ?_
       refine rv (v:=.slice A79 (n k) c80) (by rw [← hu81];exact exec_load_cell (o:=⟨some 62,_,_,_,_,_⟩) 53 (.tmp 61) rfl ⟨b55,k*1,none⟩ rfl _ _ wo69 Tryz.underlying53 rfl (range_cell (bw (Mem.own H70 2 rfl) (by omega)))) ?_
       refine rv (aR ((((n k)+q:Nat):Int))) ?_
       refine an (by kernel_rfl) _ _ (by kernel_rfl) (fh k ((n k)+q) wo69) ?_
       rintro e w83 ⟨rfl,hb85⟩
       refine ⟨_,rfl,rn ?_⟩
       have H84:=Mem.call H70 hb85
       refine aL (o:=⟨some 67,_,_,_,_,_⟩) rfl 53 (.tmp 66) rfl 26 3 (Value.agg zcD) (.agg (dN (aN k ((n k)+q))).toArray) rfl Tryz.underlying53 (by kernel_rfl) (by decide) (by decide) (fun w=>by kernel_rfl) rfl ?_
       intro w86 hn
       have H87:=Mem.bA H84 hn
       clear hn
       refine rn ?_
       obtain ⟨inm26,iq26,ir26,is26,it26⟩:=info_parts oS
       have hP9:=iu (mk:=aN) (f:=dN) H87 (i0:=1) rfl (show k<m by omega)
       refine cY rfl _ _ 53 rfl w0.heap.size 26 _ _ 3 64 Tryz.underlying53 iq26 ir26 is26 it26 rfl (by decide) v (n k+q) (mkC aN dN k (n k+q)) hP9.2.1 (some ⟨w83.heap.size,0,none⟩) 1 1 (dN (aN k ((n k)+q))) (bH (n:=3) (m:=1) (Mem.blk H87 0 rfl) rfl (yI _)) (by decide) (by simp only [maxLen];omega) (by omega) (Mem.below H87).size rfl rfl ?_
       intro v9 w88 ho9 hg9 hr9
       refine rn ?_
       have H89:=kH (mk:=aN) (f:=dN) (Mem.pick H87 [1,0,2,3,4] (by decide) rfl) (show k<m by omega) ho9 hg9 hr9
       clear ho9 hg9 hr9 hP9
       refine rn ?_
       refine wpList_nil ?_
       refine aq ?_
       refine ab (hK75 _ _ ?_)
       refine rl ?_
       refine rv (aR (((q+1:Nat):Int))) ?_
       refine wpList_nil ?_
       have H90:=Mem.pick H89 [0,2,3,4] (by decide) rfl
       refine ab ?_
       show _∧_
       go_roundw
       case rel=>exact ⟨(q+1),v9,rfl,rfl,by omega,H90⟩
       case measure=>simp [intOf];omega
      ·refine rv (aB (decide_eq_false p74)) ?_
       refine nt (hK73 _ _ ?_)
       refine cf ?_
       refine wp_exit ?_
       refine aj ?_
       refine aj ?_
       refine ax ?_
       refine ab (hK66 _ _ ?_)
       refine rl ?_
       refine rv (aT (s:=1) (k) Tryz.underlying55 (by kernel_rfl)) ?_
       refine bK rfl 53 (.tmp 72) (.tmp 71) rfl (Mem.own H70 1 rfl) (k:=k) (by omega) (by kernel_rfl) v (by obtain ⟨_,_,e9⟩:=aP (iu (mk:=aN) (f:=dN) H70 (i0:=0) rfl (show k<m by omega)).2.1;rw [show v=_ from e9];rfl) (by show Value.pointer (some ⟨gg,k*1,none⟩)=_;rw [Nat.mul_one]) rfl ?_
       intro w91 ho9 hg9
       refine rn ?_
       rw [gp] at ho9
       have H92:=Mem.fA H70 1 rfl ho9 hg9
       clear ho9 hg9
       refine wpList_nil ?_
       refine aq ?_
       refine ab (hK53 _ _ ?_)
       refine rl ?_
       refine rv (aR (((k+1:Nat):Int))) ?_
       refine wpList_nil ?_
       have H93:=Mem.bq (g:=ar w0.heap.size 26 3) (st:=fm aN dN u n gv v k q) (st':=st2 aN dN u n (gv.set k v) (k+1)) H92 (fun i _=>by rw [show q=64 by omega];exact lf aN dN u n gv v k (by omega) i)
       refine ab ?_
       show _∧_
       go_roundw
       case rel=>exact ⟨(k+1),(gv.set k v),rfl,by omega,(by rw [List.length_set];exact hgl),H93⟩
       case measure=>simp [intOf];omega
    ·refine rv (aB (decide_eq_false p52)) ?_
     refine nt (hK51 _ _ ?_)
     refine cf ?_
     refine wp_exit ?_
     refine aj ?_
     refine aj ?_
     refine ax ?_
     refine ab (hK44 _ _ ?_)
     refine wp_seq_k (fun K94 hK94=>?_)
     refine wp_seq_k (fun K95 hK95=>?_)
     refine rl ?_
     refine nt (hK95 _ _ ?_)
     refine wp_block ?_
     have H96:=Mem.bq (g:=ar w0.heap.size 26 3) (st:=st2 aN dN u n gv k) (st':=st4 aN dN u n gv m 0) H48 (fun i hi=>by rw [show k=m by omega];exact jC aN dN u n gv m i hi)
     go_loopw [9] (fun x9 wr=>∃ k3:Nat,x9=.int .i64 (k3:Int)∧(k3≤m)∧Mem w0 wr [Ent.all (List.range m) (fun i=>ar w0.heap.size 26 3 (st4 aN dN u n gv m 0 i)),aw w0.heap.size 53 1 (.slice (some ⟨gg,0,none⟩) m m) m ((gv).flatMap vb),aw B2 53 1 (.slice A m c) m (((List.range m).map u).flatMap vb),R]) (fun x9 _=>m-(intOf x9).toNat)
     case atStart=>exact ⟨0,rfl,by omega,H96⟩
     case round =>
      obtain ⟨wo97,rfl⟩:∃ wo97,wo97=wr:=⟨_,rfl⟩
      obtain ⟨k3,rfl,hk3,H98⟩:=hrel
      refine wp_seq_k (fun K100 hK100=>?_)
      refine wp_seq_k (fun K101 hK101=>?_)
      refine rl ?_
      by_cases p102:(k3:Int)<(m:Int)
      ·refine rv (aB (decide_eq_true p102)) ?_
       refine nt (hK101 _ _ ?_)
       refine ct ?_
       refine ks (hK100 _ _ ?_)
       refine wp_seq_k (fun K103 hK103=>?_)
       refine wp_block ?_
       refine wp_seq_k (fun K104 hK104=>?_)
       refine rl ?_
       refine nt (hK104 _ _ ?_)
       refine wp_block ?_
       have hnk:=hn k3 (by omega)
       go_loopw [10] (fun x10 wr=>∃ i:Nat,x10=.int .i64 (i:Int)∧(i≤n k3+64)∧Mem w0 wr [Ent.all (List.range m) (fun i=>ar w0.heap.size 26 3 (st4 aN dN u n gv m 0 i)),aw w0.heap.size 53 1 (.slice (some ⟨gg,0,none⟩) m m) m ((gv).flatMap vb),aw B2 53 1 (.slice A m c) m (((List.range m).map u).flatMap vb),R]) (fun x10 _=>n k3+64-(intOf x10).toNat)
       case atStart=>exact ⟨0,rfl,by omega,H98⟩
       case round =>
        obtain ⟨wo105,rfl⟩:∃ wo105,wo105=wr:=⟨_,rfl⟩
        obtain ⟨i,rfl,hi,H106⟩:=hrel
        refine wp_seq_k (fun K108 hK108=>?_)
        refine wp_seq_k (fun K109 hK109=>?_)
        refine rl ?_
        obtain ⟨x110,hx111⟩:∃ x,(gv)[k3]?=some x:=⟨_,List.getElem?_eq_getElem (by first | omega | (rw [List.length_map,List.length_range];omega))⟩
        have hd112:=av hx111
        have hv113:=gi (mk:=aN) (f:=dN) H106 (i0:=0) rfl (show k3<m by omega) (Nat.zero_le _) hx111
        obtain ⟨A114,c115,rfl⟩:=aP hv113
        refine rv (aT (s:=1) (k3) Tryz.underlying55 (by kernel_rfl)) ?_
        refine rv (xlc (range_cell (ei (Mem.own H106 1 rfl) hx111)) Tryz.underlying53) ?_
        by_cases p116:(i:Int)<(((n k3+64):Nat):Int)
        ·refine rv (aB (decide_eq_true p116)) ?_
         refine nt (hK109 _ _ ?_)
         refine ct ?_
         refine ks (hK108 _ _ ?_)
         refine wp_seq_k (fun K117 hK117=>?_)
         refine wp_block ?_
         refine wp_seq_k (fun K118 hK118=>?_)
         obtain ⟨b119,rfl,hlt122⟩:=aG hv113 (by omega)
         obtain ⟨b123,rfl,hlt126⟩:=aG (Mem.own H106 2 rfl) (by omega)
         obtain ⟨x127,hx128⟩:∃ x,(((List.range m).map u))[k3]?=some x:=⟨_,List.getElem?_eq_getElem (by first | omega | (rw [List.length_map,List.length_range];omega))⟩
         have hd129:=av hx128
         obtain rfl:=aM hx128
         obtain ⟨A130,c131,hu132,hg133⟩:=hu0 k3 (by omega)
         refine Fre.aW (X:=Bel) [] (by kernel_rfl) (by kernel_rfl) (by simp) (by simp) (by simp) ?_
         refine Fre.rmd ?_
         refine Fre.mvv (fun _ _=>aT (s:=1) (k3) Tryz.underlying55 (by kernel_rfl)) ?_
         refine Fre.mvv (fun W9 hW9=>xlc (range_cell (ei (Mem.own (Mem.call H106 hW9) 1 rfl) hx111)) Tryz.underlying53) ?_
         refine Fre.mvv (fun _ _=>aT (s:=3) (i) Tryz.underlying53 (by kernel_rfl)) ?_
         refine Fre.mvv (fun W9 hW9=>xld (fB (mk:=aN) (f:=dN) (k:=k3) (i:=i) (fun k i=>rfl) (gi (mk:=aN) (f:=dN) (Mem.call H106 hW9) (i0:=0) rfl (show k3<m by omega) (Nat.zero_le _) hx111) (by omega)) Tryz.underlying26 (bJ (aN k3 i) (.slice none 0 0) (.slice none 0 0))) ?_
         refine Fre.aA (.agg (dN (aN k3 i)).toArray) _ _ (by kernel_rfl) (by kernel_rfl) (by kernel_rfl) (fun W9=>by kernel_rfl) (fun W9 hW9=>fh k3 i W9) ?_
         refine Fre.rmd ?_
         refine Fre.aA (.bool true) _ _ (by kernel_rfl) (by kernel_rfl) (by kernel_rfl) (fun W9=>by kernel_rfl) (fun W9 hW9=>kR k3 i W9) ?_
         refine Fre.rmd ?_
         refine Fre.mvv (fun _ _=>aT (s:=1) (k3) Tryz.underlying55 (by kernel_rfl)) ?_
         refine Fre.mvv (v:=.slice A130 (n k3) c131) (fun W9 hW9=>by rw [← hu132];exact exec_load_cell (o:=⟨some 105,_,_,_,_,_⟩) 53 (.tmp 104) rfl ⟨b123,k3*1,none⟩ rfl _ _ W9 Tryz.underlying53 rfl (range_cell (bw (Mem.own (Mem.call H106 hW9) 2 rfl) (by omega)))) ?_
         by_cases p134:(i:Int)<(((n k3):Nat):Int)
         ·refine Fre.mvv (fun _ _=>aB (decide_eq_true p134)) ?_
          refine Fre.mvv (fun _ _=>aT (s:=1) (k3) Tryz.underlying55 (by kernel_rfl)) ?_
          refine Fre.mvv (v:=.slice A130 (n k3) c131) (fun W9 hW9=>by rw [← hu132];exact exec_load_cell (o:=⟨some 112,_,_,_,_,_⟩) 53 (.tmp 111) rfl ⟨b123,k3*1,none⟩ rfl _ _ W9 Tryz.underlying53 rfl (range_cell (bw (Mem.own (Mem.call H106 hW9) 2 rfl) (by omega)))) ?_
          obtain ⟨b135,rfl⟩:=hg133 (by omega)
          refine Fre.mvv (fun _ _=>aT (s:=3) (i) Tryz.underlying53 (by kernel_rfl)) ?_
          refine Fre.mvv (fun W9 hW9=>xld (fB (mk:=aN) (f:=dN) (k:=k3) (i:=i) (fun k i=>rfl) (hu132▸eW (mk:=aN) (f:=dN) (Mem.call H106 hW9) (i0:=0) rfl (by omega)) (by omega)) Tryz.underlying26 (bJ (aN k3 i) (.slice none 0 0) (.slice none 0 0))) ?_
          refine Fre.aA (.agg (dN (aN k3 i)).toArray) _ _ (by kernel_rfl) (by kernel_rfl) (by kernel_rfl) (fun W9=>by kernel_rfl) (fun W9 hW9=>fh k3 i W9) ?_
          refine Fre.rmd ?_
          refine Fre.aA (.bool true) _ _ (by kernel_rfl) (by kernel_rfl) (by kernel_rfl) (fun W9=>by kernel_rfl) (fun W9 hW9=>kR k3 i W9) ?_
          refine Fre.rmd ?_
          intro w139 hx141
          dsimp only [Fre.ended,List.drop]
          have H140:=Mem.call H106 hx141
          refine ab (hK118 _ _ ?_)
          refine cf ?_
          refine wp_skip ?_
          refine aq ?_
          refine ab (hK117 _ _ ?_)
          refine rl ?_
          refine rv (aR (((i+1:Nat):Int))) ?_
          refine wpList_nil ?_
          refine ab ?_
          show _∧_
          go_roundw
          case rel=>exact ⟨(i+1),rfl,by omega,H140⟩
          case measure=>simp [intOf];omega
         ·refine Fre.mvv (fun _ _=>aB (decide_eq_false p134)) ?_
          intro w142 hx144
          dsimp only [Fre.ended,List.drop]
          have H143:=Mem.call H106 hx144
          refine ab (hK118 _ _ ?_)
          refine cf ?_
          refine wp_skip ?_
          refine aq ?_
          refine ab (hK117 _ _ ?_)
          refine rl ?_
          refine rv (aR (((i+1:Nat):Int))) ?_
          refine wpList_nil ?_
          refine ab ?_
          show _∧_
          go_roundw
          case rel=>exact ⟨(i+1),rfl,by omega,H143⟩
          case measure=>simp [intOf];omega
        ·refine rv (aB (decide_eq_false p116)) ?_
         refine nt (hK109 _ _ ?_)
         refine cf ?_
         refine wp_exit ?_
         refine aj ?_
         refine aj ?_
         refine ax ?_
         refine aq ?_
         refine ab (hK103 _ _ ?_)
         refine rl ?_
         refine rv (aR (((k3+1:Nat):Int))) ?_
         refine wpList_nil ?_
         refine ab ?_
         show _∧_
         go_roundw
         case rel=>exact ⟨(k3+1),rfl,by omega,H106⟩
         case measure=>simp [intOf];omega
      ·refine rv (aB (decide_eq_false p102)) ?_
       refine nt (hK101 _ _ ?_)
       refine cf ?_
       refine wp_exit ?_
       refine aj ?_
       refine aj ?_
       refine ax ?_
       refine ab (hK94 _ _ ?_)
       refine wp_seq_k (fun K145 hK145=>?_)
       refine wp_seq_k (fun K146 hK146=>?_)
       refine rl ?_
       refine nt (hK146 _ _ ?_)
       refine wp_block ?_
       obtain ⟨gw,hgw⟩:∃ g,g=gv:=⟨_,rfl⟩
       rw [← hgw] at H98
       rw [← hgw] at hgl
       have hgl6:=hgl
       clear hgl
       go_loopw [11] (fun x11 wr=>∃ k:Nat,∃ gv:List Value,x11=.int .i64 (k:Int)∧(k≤m)∧(gv.length=m)∧Mem w0 wr [Ent.all (List.range m) (fun i=>ar w0.heap.size 26 3 (st4 aN dN u n gv m k i)),aw w0.heap.size 53 1 (.slice (some ⟨gg,0,none⟩) m m) m ((gv).flatMap vb),aw B2 53 1 (.slice A m c) m (((List.range m).map u).flatMap vb),R]) (fun x11 _=>m-(intOf x11).toNat)
       case atStart=>exact ⟨0,gw,rfl,by omega,hgl6,H98⟩
       case round =>
        obtain ⟨wo147,rfl⟩:∃ wo147,wo147=wr:=⟨_,rfl⟩
        obtain ⟨k,gv,rfl,hk,hgl,H148⟩:=hrel
        refine wp_seq_k (fun K150 hK150=>?_)
        refine wp_seq_k (fun K151 hK151=>?_)
        refine rl ?_
        by_cases p152:(k:Int)<(m:Int)
        ·refine rv (aB (decide_eq_true p152)) ?_
         refine nt (hK151 _ _ ?_)
         refine ct ?_
         refine ks (hK150 _ _ ?_)
         refine wp_seq_k (fun K153 hK153=>?_)
         refine wp_block ?_
         refine wp_seq_k (fun K154 hK154=>?_)
         refine rl ?_
         obtain ⟨inm26,iq26,ir26,is26,it26⟩:=info_parts oS
         refine wpList_make_full _ rfl _ _ 53 rfl w0.heap.size 26 _ _ 3 Tryz.underlying53 iq26 ir26 is26 _ _ _ _ 64 rfl rfl rfl rfl (by rw [it26];omega) (by simp only [maxLen];omega) (Mem.below H148).size ?_
         intro w155 ow gr
         refine rn ?_
         obtain ⟨zs,hzs⟩:∃ zs:List Value,zs=(madeCells (Value.agg zcD).cells (64*3)).toList:=⟨_,rfl⟩
         rw [← hzs] at ow
         have hzl:=ow.1
         have H156:=Mem.make H148 ow gr
         obtain ⟨gm,hgm⟩:∃ g,g=wo147.heap.size:=⟨_,rfl⟩
         rw [← hgm] at H156 ⊢
         clear ow gr hgm hzs
         refine rn ?_
         refine nt (hK154 _ _ ?_)
         refine wp_seq_k (fun K157 hK157=>?_)
         refine wp_seq_k (fun K158 hK158=>?_)
         refine rl ?_
         refine nt (hK158 _ _ ?_)
         refine wp_block ?_
         have hnk:=hn k (by omega)
         go_loopw [13] (fun x13 wr=>∃ i:Nat,x13=.int .i64 (i:Int)∧(i≤64)∧Mem w0 wr [aw w0.heap.size 26 3 (.slice (some ⟨gm,0,none⟩) 64 64) 64 (mkC aN dN (k+m) i++zs.drop (i*3)),Ent.all (List.range m) (fun i=>ar w0.heap.size 26 3 (st4 aN dN u n gv m k i)),aw w0.heap.size 53 1 (.slice (some ⟨gg,0,none⟩) m m) m ((gv).flatMap vb),aw B2 53 1 (.slice A m c) m (((List.range m).map u).flatMap vb),R]) (fun x13 _=>64-(intOf x13).toNat)
         case atStart=>exact ⟨0,rfl,by omega,H156⟩
         case round =>
          obtain ⟨wo159,rfl⟩:∃ wo159,wo159=wr:=⟨_,rfl⟩
          obtain ⟨i,rfl,hi,H160⟩:=hrel
          refine wp_seq_k (fun K162 hK162=>?_)
          refine wp_seq_k (fun K163 hK163=>?_)
          refine rl ?_
          by_cases p164:(i:Int)<64
          ·refine rv (aB (decide_eq_true p164)) ?_
           refine nt (hK163 _ _ ?_)
           refine ct ?_
           refine ks (hK162 _ _ ?_)
           refine wp_seq_k (fun K165 hK165=>?_)
           refine wp_block ?_
           refine rl ?_
           refine rv (aR (((k+m:Nat):Int))) ?_
           refine an (by kernel_rfl) _ _ (by kernel_rfl) (fh (k+m) i wo159) ?_
           rintro e w166 ⟨rfl,hb168⟩
           refine ⟨_,rfl,rn ?_⟩
           have H167:=Mem.call H160 hb168
           refine rv (aT (s:=3) (i) Tryz.underlying53 (by kernel_rfl)) ?_
           refine cT rfl 26 (.tmp 142) (.tmp 141) rfl (Mem.own H167 0 rfl) (k:=i) (dN (aN (k+m) i)) (by omega) rfl (dF (aN (k+m) i) (.slice none 0 0) (.slice none 0 0)) (ll (aN (k+m) i) rfl rfl) rfl rfl ?_
           intro w169 ho9 hg9 hz9
           refine rn ?_
           rw [jd aN dN 3 (fun _=>zs) (fun k i=>rfl) (k+m) i] at ho9
           have H170:=Mem.fA H167 0 rfl ho9 hg9
           clear ho9 hg9
           refine wpList_nil ?_
           refine aq ?_
           refine ab (hK165 _ _ ?_)
           refine rl ?_
           refine rv (aR (((i+1:Nat):Int))) ?_
           refine wpList_nil ?_
           refine ab ?_
           show _∧_
           go_roundw
           case rel=>exact ⟨(i+1),rfl,by omega,H170⟩
           case measure=>simp [intOf];omega
          ·refine rv (aB (decide_eq_false p164)) ?_
           refine nt (hK163 _ _ ?_)
           refine cf ?_
           refine wp_exit ?_
           refine aj ?_
           refine aj ?_
           refine ax ?_
           refine ab (hK157 _ _ ?_)
           refine rl ?_
           obtain ⟨b171,rfl,hlt174⟩:=aG (Mem.own H160 3 rfl) (by omega)
           obtain ⟨x175,hx176⟩:∃ x,(((List.range m).map u))[k]?=some x:=⟨_,List.getElem?_eq_getElem (by first | omega | (rw [List.length_map,List.length_range];omega))⟩
           have hd177:=av hx176
           obtain rfl:=aM hx176
           obtain ⟨A178,c179,hu180,hg181⟩:=hu0 k (by omega)
           refine rv (aT (s:=1) (k) Tryz.underlying55 (by kernel_rfl)) ?_
           refine rv (v:=.slice A178 (n k) c179) (by rw [← hu180];exact exec_load_cell (o:=⟨some 148,_,_,_,_,_⟩) 53 (.tmp 147) rfl ⟨b171,k*1,none⟩ rfl _ _ wo159 Tryz.underlying53 rfl (range_cell (bw (Mem.own H160 3 rfl) (by omega)))) ?_
           have hie:i=64:=by omega
           subst hie
           have hU9:=eW (mk:=aN) (f:=dN) H160 (i0:=1) rfl (show k<m by omega)
           rw [List.append_nil] at hU9
           have hM9:=Mem.own H160 0 rfl
           rw [List.drop_of_length_le (by omega),List.append_nil] at hM9
           refine cY rfl _ _ 53 rfl w0.heap.size 26 _ _ 3 64 Tryz.underlying53 iq26 ir26 is26 it26 rfl (by decide) (u k) (n k) (mkC aN dN k (n k)) hU9 (some ⟨gm,0,none⟩) 64 64 (mkC aN dN (k+m) 64) (kz hM9 (mE aN dN (fun k i=>yI _) _ _)) (by decide) (by simp only [maxLen];omega) (by omega) (Mem.below H160).size hu180.symm rfl ?_
           intro v9 w182 ho9 hg9 hr9
           refine rn ?_
           have H183:=kA (mk:=aN) (f:=dN) (Mem.pick H160 [1,0,2,3,4] (by decide) rfl) (show k<m by omega) hgl ho9 hg9 hr9
           obtain ⟨A9,c99,hv9⟩:=aP ho9
           clear ho9 hg9 hr9 hU9 hM9
           refine rv (aT (s:=1) (k) Tryz.underlying55 (by kernel_rfl)) ?_
           refine bK rfl 53 (.tmp 151) (.tmp 150) rfl (Mem.own H183 2 rfl) (k:=k) (by omega) (by kernel_rfl) v9 (by rw [hv9];rfl) (by show Value.pointer (some ⟨gg,k*1,none⟩)=_;rw [Nat.mul_one]) rfl ?_
           intro w184 ho9 hg9
           refine rn ?_
           rw [gp] at ho9
           have H185:=Mem.fA H183 2 rfl ho9 hg9
           clear ho9 hg9
           refine wpList_nil ?_
           refine aq ?_
           refine ab (hK153 _ _ ?_)
           refine rl ?_
           refine rv (aR (((k+1:Nat):Int))) ?_
           refine wpList_nil ?_
           have H186:=Mem.pick H185 [0,2,3,4] (by decide) rfl
           refine ab ?_
           show _∧_
           go_roundw
           case rel=>exact ⟨(k+1),(gv.set k v9),rfl,by omega,(by rw [List.length_set];exact hgl),H186⟩
           case measure=>simp [intOf];omega
        ·refine rv (aB (decide_eq_false p152)) ?_
         refine nt (hK151 _ _ ?_)
         refine cf ?_
         refine wp_exit ?_
         refine aj ?_
         refine aj ?_
         refine ax ?_
         refine ab (hK145 _ _ ?_)
         refine wp_seq_k (fun K187 hK187=>?_)
         refine wp_seq_k (fun K188 hK188=>?_)
         refine rl ?_
         refine nt (hK188 _ _ ?_)
         refine wp_block ?_
         have hke8:k=m:=by omega
         rw [hke8] at H148
         go_loopw [14] (fun x14 wr=>∃ k5:Nat,x14=.int .i64 (k5:Int)∧(k5≤m)∧Mem w0 wr [Ent.all (List.range m) (fun i=>ar w0.heap.size 26 3 (st4 aN dN u n gv m m i)),aw w0.heap.size 53 1 (.slice (some ⟨gg,0,none⟩) m m) m ((gv).flatMap vb),aw B2 53 1 (.slice A m c) m (((List.range m).map u).flatMap vb),R]) (fun x14 _=>m-(intOf x14).toNat)
         case atStart=>exact ⟨0,rfl,by omega,H148⟩
         case round =>
          obtain ⟨wo189,rfl⟩:∃ wo189,wo189=wr:=⟨_,rfl⟩
          obtain ⟨k5,rfl,hk5,H190⟩:=hrel
          refine wp_seq_k (fun K192 hK192=>?_)
          refine wp_seq_k (fun K193 hK193=>?_)
          refine rl ?_
          by_cases p194:(k5:Int)<(m:Int)
          ·refine rv (aB (decide_eq_true p194)) ?_
           refine nt (hK193 _ _ ?_)
           refine ct ?_
           refine ks (hK192 _ _ ?_)
           refine wp_seq_k (fun K195 hK195=>?_)
           refine wp_block ?_
           refine wp_seq_k (fun K196 hK196=>?_)
           refine rl ?_
           refine nt (hK196 _ _ ?_)
           refine wp_block ?_
           have hnk:=hn k5 (by omega)
           go_loopw [15] (fun x15 wr=>∃ i:Nat,x15=.int .i64 (i:Int)∧(i≤n k5)∧Mem w0 wr [Ent.all (List.range m) (fun i=>ar w0.heap.size 26 3 (st4 aN dN u n gv m m i)),aw w0.heap.size 53 1 (.slice (some ⟨gg,0,none⟩) m m) m ((gv).flatMap vb),aw B2 53 1 (.slice A m c) m (((List.range m).map u).flatMap vb),R]) (fun x15 _=>n k5-(intOf x15).toNat)
           case atStart=>exact ⟨0,rfl,by omega,H190⟩
           case round =>
            obtain ⟨wo197,rfl⟩:∃ wo197,wo197=wr:=⟨_,rfl⟩
            obtain ⟨i,rfl,hi,H198⟩:=hrel
            refine wp_seq_k (fun K200 hK200=>?_)
            refine wp_seq_k (fun K201 hK201=>?_)
            refine rl ?_
            obtain ⟨b202,rfl,hlt205⟩:=aG (Mem.own H198 2 rfl) (by omega)
            obtain ⟨x206,hx207⟩:∃ x,(((List.range m).map u))[k5]?=some x:=⟨_,List.getElem?_eq_getElem (by first | omega | (rw [List.length_map,List.length_range];omega))⟩
            have hd208:=av hx207
            obtain rfl:=aM hx207
            obtain ⟨A209,c210,hu211,hg212⟩:=hu0 k5 (by omega)
            refine rv (aT (s:=1) (k5) Tryz.underlying55 (by kernel_rfl)) ?_
            refine rv (v:=.slice A209 (n k5) c210) (by rw [← hu211];exact exec_load_cell (o:=⟨some 162,_,_,_,_,_⟩) 53 (.tmp 161) rfl ⟨b202,k5*1,none⟩ rfl _ _ wo197 Tryz.underlying53 rfl (range_cell (bw (Mem.own H198 2 rfl) (by omega)))) ?_
            by_cases p213:(i:Int)<(((n k5):Nat):Int)
            ·refine rv (aB (decide_eq_true p213)) ?_
             refine nt (hK201 _ _ ?_)
             refine ct ?_
             refine ks (hK200 _ _ ?_)
             refine wp_seq_k (fun K214 hK214=>?_)
             refine wp_block ?_
             refine wp_seq_k (fun K215 hK215=>?_)
             obtain ⟨b216,rfl⟩:=hg212 (by omega)
             obtain ⟨x220,hx221⟩:∃ x,(gv)[k5]?=some x:=⟨_,List.getElem?_eq_getElem (by first | omega | (rw [List.length_map,List.length_range];omega))⟩
             have hd222:=av hx221
             have hv223:=gB (mk:=aN) (f:=dN) H198 (i0:=0) rfl (show k5<m by omega) (by omega) hx221
             obtain ⟨A224,c225,rfl⟩:=aP hv223
             obtain ⟨b226,rfl,hlt229⟩:=aG hv223 (by omega)
             refine Fre.aW (X:=Bel) [] (by kernel_rfl) (by kernel_rfl) (by simp) (by simp) (by simp) ?_
             refine Fre.rmd ?_
             refine Fre.mvv (fun _ _=>aT (s:=1) (k5) Tryz.underlying55 (by kernel_rfl)) ?_
             refine Fre.mvv (v:=.slice (some ⟨b216,0,none⟩) (n k5) c210) (fun W9 hW9=>by rw [← hu211];exact exec_load_cell (o:=⟨some 170,_,_,_,_,_⟩) 53 (.tmp 169) rfl ⟨b202,k5*1,none⟩ rfl _ _ W9 Tryz.underlying53 rfl (range_cell (bw (Mem.own (Mem.call H198 hW9) 2 rfl) (by omega)))) ?_
             refine Fre.mvv (fun _ _=>aT (s:=3) (i) Tryz.underlying53 (by kernel_rfl)) ?_
             refine Fre.mvv (fun W9 hW9=>xld (fB (mk:=aN) (f:=dN) (k:=k5) (i:=i) (fun k i=>rfl) (hu211▸eW (mk:=aN) (f:=dN) (Mem.call H198 hW9) (i0:=0) rfl (by omega)) (by omega)) Tryz.underlying26 (bJ (aN k5 i) (.slice none 0 0) (.slice none 0 0))) ?_
             refine Fre.aA (.agg (dN (aN k5 i)).toArray) _ _ (by kernel_rfl) (by kernel_rfl) (by kernel_rfl) (fun W9=>by kernel_rfl) (fun W9 hW9=>fh k5 i W9) ?_
             refine Fre.rmd ?_
             refine Fre.aA (.bool true) _ _ (by kernel_rfl) (by kernel_rfl) (by kernel_rfl) (fun W9=>by kernel_rfl) (fun W9 hW9=>kR k5 i W9) ?_
             refine Fre.rmd ?_
             refine Fre.mvv (fun _ _=>aT (s:=1) (k5) Tryz.underlying55 (by kernel_rfl)) ?_
             refine Fre.mvv (fun W9 hW9=>xlc (range_cell (ei (Mem.own (Mem.call H198 hW9) 1 rfl) hx221)) Tryz.underlying53) ?_
             refine Fre.mvv (fun _ _=>aT (s:=3) (i) Tryz.underlying53 (by kernel_rfl)) ?_
             refine Fre.mvv (fun W9 hW9=>xld (fB (mk:=aN) (f:=dN) (k:=k5) (i:=i) (fun k i=>rfl) (gB (mk:=aN) (f:=dN) (Mem.call H198 hW9) (i0:=0) rfl (show k5<m by omega) (by omega) hx221) (by omega)) Tryz.underlying26 (bJ (aN k5 i) (.slice none 0 0) (.slice none 0 0))) ?_
             refine Fre.aA (.agg (dN (aN k5 i)).toArray) _ _ (by kernel_rfl) (by kernel_rfl) (by kernel_rfl) (fun W9=>by kernel_rfl) (fun W9 hW9=>fh k5 i W9) ?_
             refine Fre.rmd ?_
             refine Fre.aA (.bool true) _ _ (by kernel_rfl) (by kernel_rfl) (by kernel_rfl) (fun W9=>by kernel_rfl) (fun W9 hW9=>kR k5 i W9) ?_
             refine Fre.rmd ?_
             intro w230 hx232
             dsimp only [Fre.ended,List.drop]
             have H231:=Mem.call H198 hx232
             refine ab (hK215 _ _ ?_)
             refine cf ?_
             refine wp_skip ?_
             refine aq ?_
             refine ab (hK214 _ _ ?_)
             refine rl ?_
             refine rv (aR (((i+1:Nat):Int))) ?_
             refine wpList_nil ?_
             refine ab ?_
             show _∧_
             go_roundw
             case rel=>exact ⟨(i+1),rfl,by omega,H231⟩
             case measure=>simp [intOf];omega
            ·refine rv (aB (decide_eq_false p213)) ?_
             refine nt (hK201 _ _ ?_)
             refine cf ?_
             refine wp_exit ?_
             refine aj ?_
             refine aj ?_
             refine ax ?_
             refine aq ?_
             refine ab (hK195 _ _ ?_)
             refine rl ?_
             refine rv (aR (((k5+1:Nat):Int))) ?_
             refine wpList_nil ?_
             refine ab ?_
             show _∧_
             go_roundw
             case rel=>exact ⟨(k5+1),rfl,by omega,H198⟩
             case measure=>simp [intOf];omega
          ·refine rv (aB (decide_eq_false p194)) ?_
           refine nt (hK193 _ _ ?_)
           refine cf ?_
           refine wp_exit ?_
           refine aj ?_
           refine aj ?_
           refine ax ?_
           refine ab (hK187 _ _ ?_)
           refine wp_seq_k (fun K233 hK233=>?_)
           refine rl ?_
           refine nt (hK233 _ _ ?_)
           refine wp_ret ?_
           refine bodyPost_ret (results_tmp rfl _ _ _) rfl ?_
           exact ⟨rfl,(Mem.pick H190 [2,3] (by decide) rfl)⟩
end Go.Proofs.YtomnhnmciopiiaaGreat
end
section
namespace Go.Proofs.YtomnhnmciopiiaaGreat
open Go Go.RowKit Go.Maps
theorem rY {w:World} {B n q:Nat} {t:TypeId} {u v:Value} {l:List Value} (c:List Value) (hc:c=[v]) (h:w.ownsRow B t 1 u n (l.set q v)) (hq:q<n):w.ownsRow B t 1 u n (l.take (q*1)++(c++l.drop (q*1+1))):=by
 have hl:l.length=n*1:=by rw [← h.1,List.length_set]
 rw [List.set_eq_take_append_cons_drop,if_pos (by omega)] at h
 rw [hc,Nat.mul_one]
 exact h
theorem BR (b:UInt8):∀ v∈bC b,v.oneCell'=true:=fun v hv=>by
 rw [List.mem_singleton.1 hv]
 rfl
end Go.Proofs.YtomnhnmciopiiaaGreat
end
section
namespace Go.Proofs.YtomnhnmciopiiaaGreat
open Go Go.RowKit Go.Maps
set_option maxRecDepth 100000
attribute [local irreducible] wpList
theorem nP:(Tryz.prog.info? 5).map (fun i=>(i.zero,i.size,i.bytes))=some (some (Value.int .u8 0),1,1):=by kernel_rfl
theorem sB:(Tryz.prog.info? 24).map (fun i=>(i.zero,i.size,i.bytes))=some (some (.slice none 0 0),1,24):=by kernel_rfl
set_option maxHeartbeats 40000000 in
theorem jN (w0 w:World) (R:Ent) (m:Nat) (u:Nat→Value) (n:Nat→Nat) (xs:Nat→List Value) (B2:Nat) (A:Option Addr) (c:Nat) (hm9:m≤1000000) (hn:∀ i,i<m→n i≤1000000)
  (hm:Mem w0 w [Ent.all (List.range m) (fun i=>ar w0.heap.size 5 1 (PS.self (u i) (n i) (xs i))),aw B2 24 1 (.slice A m c) m (((List.range m).map u).flatMap vb),R]) :
  Calls Tryz.prog 104 #[.slice A m c] w fun e w'=>e=.returned (.bool true)∧Mem w0 w' [aw B2 24 1 (.slice A m c) m (((List.range m).map u).flatMap vb),R]:=by
 have hown:∀ i,i<m→w.ownsRow w0.heap.size 5 1 (u i) (n i) (xs i):=fun i hi=>(Mem.kE (g:=ar w0.heap.size 5 1) (st:=fun i=>PS.self (u i) (n i) (xs i)) hm 0 rfl hi).1
 have hxl:∀ i,i<m→(xs i).length=n i*1:=fun i hi=>(hown i hi).1
 have hu0:∀ i,i<m→∃ A c,u i=.slice A (n i) c∧(0<n i→∃ g,A=some ⟨g,0,none⟩):=fun i hi=>by
  obtain ⟨A,c,e⟩:=aP (hown i hi)
  refine ⟨A,c,e,fun h0=>?_⟩
  obtain ⟨g,hg,_⟩:=aG (e▸hown i hi) h0
  exact ⟨g,hg⟩
 have hm:=Mem.bq (g:=ar w0.heap.size 5 1) (st:=fun i=>PS.self (u i) (n i) (xs i)) (st':=st1 mgB bC u n xs 0) hm (fun i _=>(jF mgB bC u n xs i).symm)
 clear hown
 go_enter Tryz.func104,Tryz.ntmps104
 refine wp_seq_k (fun K1 hK1=>?_)
 refine rl ?_
 refine nt (hK1 _ _ ?_)
 refine wp_seq_k (fun K2 hK2=>?_)
 refine wp_seq_k (fun K3 hK3=>?_)
 refine rl ?_
 refine nt (hK3 _ _ ?_)
 refine wp_block ?_
 go_loopw [3] (fun x3 wr=>∃ k:Nat,x3=.int .i64 (k:Int)∧(k≤m)∧Mem w0 wr [Ent.all (List.range m) (fun i=>ar w0.heap.size 5 1 (st1 mgB bC u n xs k i)),aw B2 24 1 (.slice A m c) m (((List.range m).map u).flatMap vb),R]) (fun x3 _=>m-(intOf x3).toNat)
 case atStart=>exact ⟨0,rfl,by omega,hm⟩
 case round =>
  obtain ⟨wo4,rfl⟩:∃ wo4,wo4=wr:=⟨_,rfl⟩
  obtain ⟨k,rfl,hk,H5⟩:=hrel
  refine wp_seq_k (fun K7 hK7=>?_)
  refine wp_seq_k (fun K8 hK8=>?_)
  refine rl ?_
  by_cases p9:(k:Int)<(m:Int)
  ·refine rv (aB (decide_eq_true p9)) ?_
   refine nt (hK8 _ _ ?_)
   refine ct ?_
   refine ks (hK7 _ _ ?_)
   refine wp_seq_k (fun K10 hK10=>?_)
   refine wp_block ?_
   refine wp_seq_k (fun K11 hK11=>?_)
   refine rl ?_
   refine nt (hK11 _ _ ?_)
   refine wp_block ?_
   have H12:=Mem.bq (g:=ar w0.heap.size 5 1) (st:=st1 mgB bC u n xs k) (st':=fa mgB bC 1 u n xs k 0) H5 (fun i _=>iB mgB bC 1 u n xs k i)
   have hxl9:=hxl k (by omega)
   have hnk:=hn k (by omega)
   go_loopw [4] (fun x4 wr=>∃ q:Nat,x4=.int .i64 (q:Int)∧(q≤n k)∧Mem w0 wr [Ent.all (List.range m) (fun i=>ar w0.heap.size 5 1 (fa mgB bC 1 u n xs k q i)),aw B2 24 1 (.slice A m c) m (((List.range m).map u).flatMap vb),R]) (fun x4 _=>n k-(intOf x4).toNat)
   case atStart=>exact ⟨0,rfl,by omega,H12⟩
   case round =>
    obtain ⟨wo13,rfl⟩:∃ wo13,wo13=wr:=⟨_,rfl⟩
    obtain ⟨q,rfl,hq,H14⟩:=hrel
    refine wp_seq_k (fun K16 hK16=>?_)
    refine wp_seq_k (fun K17 hK17=>?_)
    refine rl ?_
    obtain ⟨b18,rfl,hlt21⟩:=aG (Mem.own H14 1 rfl) (by omega)
    obtain ⟨x22,hx23⟩:∃ x,(((List.range m).map u))[k]?=some x:=⟨_,List.getElem?_eq_getElem (by first | omega | (rw [List.length_map,List.length_range];omega))⟩
    have hd24:=av hx23
    obtain rfl:=aM hx23
    obtain ⟨A25,c26,hu27,hg28⟩:=hu0 k (by omega)
    refine rv (aT (s:=1) (k) Tryz.underlying95 (by kernel_rfl)) ?_
    refine rv (v:=.slice A25 (n k) c26) (by rw [← hu27];exact exec_load_cell (o:=⟨some 26,_,_,_,_,_⟩) 24 (.tmp 25) rfl ⟨b18,k*1,none⟩ rfl _ _ wo13 Tryz.underlying24 rfl (range_cell (bw (Mem.own H14 1 rfl) (by omega)))) ?_
    by_cases p29:(q:Int)<(((n k):Nat):Int)
    ·refine rv (aB (decide_eq_true p29)) ?_
     refine nt (hK17 _ _ ?_)
     refine ct ?_
     refine ks (hK16 _ _ ?_)
     refine wp_seq_k (fun K30 hK30=>?_)
     refine wp_block ?_
     obtain ⟨b31,rfl⟩:=hg28 (by omega)
     refine Fre.cq (X:=Bel) 9 [] (by kernel_rfl) (by kernel_rfl) (by simp) (by simp) (by simp) ?_
     simp only [List.take_succ_cons,List.take_zero,List.drop_succ_cons,List.drop_zero]
     refine Fre.rmd ?_
     refine Fre.mvv (fun _ _=>aT (s:=1) (k) Tryz.underlying95 (by kernel_rfl)) ?_
     refine Fre.mvv (v:=.slice (some ⟨b31,0,none⟩) (n k) c26) (fun W9 hW9=>by rw [← hu27];exact exec_load_cell (o:=⟨some 34,_,_,_,_,_⟩) 24 (.tmp 33) rfl ⟨b18,k*1,none⟩ rfl _ _ W9 Tryz.underlying24 rfl (range_cell (bw (Mem.own (Mem.call H14 hW9) 1 rfl) (by omega)))) ?_
     refine Fre.aA (.int .u8 (((mgB k q).toNat:Int))) _ _ (by kernel_rfl) (by kernel_rfl) (by kernel_rfl) (fun W9=>by kernel_rfl) (fun W9 hW9=>gq k q (by omega) (by omega) W9) ?_
     refine Fre.rmd ?_
     refine Fre.mvv (fun _ _=>aT (s:=1) (q) Tryz.underlying24 (by kernel_rfl)) ?_
     intro w35 hx37
     dsimp only [Fre.ended,List.drop]
     have H36:=Mem.call H14 hx37
     have ow9:=qE (mk:=mgB) (f:=bC) H36 (i0:=0) rfl (show k<m by omega)
     rw [hu27] at ow9
     refine bK rfl 5 (.tmp 39) (.tmp 38) rfl ow9 (k:=q) (by omega) (by kernel_rfl) (.int .u8 (((mgB k q).toNat:Int))) rfl (by show Value.pointer (some ⟨_,q*1,none⟩)=_;rw [Nat.mul_one]) rfl ?_
     intro w38 ho9 hg9
     refine rn ?_
     have ho9:=rY (bC (mgB k q)) rfl ho9 (by omega)
     rw [← hu27] at ho9
     have H39:=kX (mk:=mgB) (f:=bC) H36 (show k<m by omega) (fun k i=>rfl) hu27 ho9 hg9
     clear ho9 hg9 ow9
     refine wpList_nil ?_
     refine aq ?_
     refine ab (hK30 _ _ ?_)
     refine rl ?_
     refine rv (aR (((q+1:Nat):Int))) ?_
     refine wpList_nil ?_
     refine ab ?_
     show _∧_
     go_roundw
     case rel=>exact ⟨(q+1),rfl,by omega,H39⟩
     case measure=>simp [intOf];omega
    ·refine rv (aB (decide_eq_false p29)) ?_
     refine nt (hK17 _ _ ?_)
     refine cf ?_
     refine wp_exit ?_
     refine aj ?_
     refine aj ?_
     refine ax ?_
     refine aq ?_
     refine ab (hK10 _ _ ?_)
     refine rl ?_
     refine rv (aR (((k+1:Nat):Int))) ?_
     refine wpList_nil ?_
     have H40:=Mem.bq (g:=ar w0.heap.size 5 1) (st:=fa mgB bC 1 u n xs k q) (st':=st1 mgB bC u n xs (k+1)) H14 (fun i _=>by rw [show q=n k by omega];exact kr mgB bC 1 u n xs k hxl9 i)
     refine ab ?_
     show _∧_
     go_roundw
     case rel=>exact ⟨(k+1),rfl,by omega,H40⟩
     case measure=>simp [intOf];omega
  ·refine rv (aB (decide_eq_false p9)) ?_
   refine nt (hK8 _ _ ?_)
   refine cf ?_
   refine wp_exit ?_
   refine aj ?_
   refine aj ?_
   refine ax ?_
   refine ab (hK2 _ _ ?_)
   refine wp_seq_k (fun K41 hK41=>?_)
   refine rl ?_
   obtain ⟨inm24,iq24,ir24,is24,it24⟩:=info_parts sB
   refine wpList_make_full _ rfl _ _ 95 rfl w0.heap.size 24 _ _ 1 Tryz.underlying95 iq24 ir24 is24 _ _ _ _ m rfl rfl rfl rfl (by rw [it24];omega) (by simp only [maxLen];omega) (Mem.below H5).size ?_
   intro w42 ow gr
   refine rn ?_
   obtain ⟨gv0,hgv0⟩:∃ gv:List Value,gv=(madeCells (Value.slice none 0 0).cells (m*1)).toList:=⟨_,rfl⟩
   rw [← hgv0] at ow
   have hgl0:=kO ow rfl
   rw [← fG gv0] at ow
   have H43:=Mem.make H5 ow gr
   obtain ⟨gg,hgg⟩:∃ g,g=wo4.heap.size:=⟨_,rfl⟩
   rw [← hgg] at H43 ⊢
   clear ow gr hgg hgv0
   refine rn ?_
   refine nt (hK41 _ _ ?_)
   refine wp_seq_k (fun K44 hK44=>?_)
   refine wp_seq_k (fun K45 hK45=>?_)
   refine rl ?_
   refine nt (hK45 _ _ ?_)
   refine wp_block ?_
   have H46:=Mem.bq (g:=ar w0.heap.size 5 1) (st:=st1 mgB bC u n xs k) (st':=st2 mgB bC u n gv0 0) (Mem.pick H43 [1,0,2,3] (by decide) rfl) (fun i hi=>by rw [show k=m by omega];exact (mF mgB bC u n xs m i hi).trans (if_neg (Nat.not_lt_zero _)).symm)
   go_loopw [6] (fun x6 wr=>∃ k:Nat,∃ gv:List Value,x6=.int .i64 (k:Int)∧(k≤m)∧(gv.length=m)∧Mem w0 wr [Ent.all (List.range m) (fun i=>ar w0.heap.size 5 1 (st2 mgB bC u n gv k i)),aw w0.heap.size 24 1 (.slice (some ⟨gg,0,none⟩) m m) m ((gv).flatMap vb),aw B2 24 1 (.slice A m c) m (((List.range m).map u).flatMap vb),R]) (fun x6 _=>m-(intOf x6).toNat)
   case atStart=>exact ⟨0,gv0,rfl,by omega,hgl0,H46⟩
   case round =>
    obtain ⟨wo47,rfl⟩:∃ wo47,wo47=wr:=⟨_,rfl⟩
    obtain ⟨k,gv,rfl,hk,hgl,H48⟩:=hrel
    refine wp_seq_k (fun K50 hK50=>?_)
    refine wp_seq_k (fun K51 hK51=>?_)
    refine rl ?_
    by_cases p52:(k:Int)<(m:Int)
    ·refine rv (aB (decide_eq_true p52)) ?_
     refine nt (hK51 _ _ ?_)
     refine ct ?_
     refine ks (hK50 _ _ ?_)
     refine wp_seq_k (fun K53 hK53=>?_)
     refine wp_block ?_
     refine wp_seq_k (fun K54 hK54=>?_)
     refine rl ?_
     obtain ⟨b55,rfl,hlt58⟩:=aG (Mem.own H48 2 rfl) (by omega)
     obtain ⟨x59,hx60⟩:∃ x,(((List.range m).map u))[k]?=some x:=⟨_,List.getElem?_eq_getElem (by first | omega | (rw [List.length_map,List.length_range];omega))⟩
     have hd61:=av hx60
     obtain rfl:=aM hx60
     obtain ⟨A62,c63,hu64,hg65⟩:=hu0 k (by omega)
     refine rv (aT (s:=1) (k) Tryz.underlying95 (by kernel_rfl)) ?_
     refine rv (v:=.slice A62 (n k) c63) (by rw [← hu64];exact exec_load_cell (o:=⟨some 52,_,_,_,_,_⟩) 24 (.tmp 51) rfl ⟨b55,k*1,none⟩ rfl _ _ wo47 Tryz.underlying24 rfl (range_cell (bw (Mem.own H48 2 rfl) (by omega)))) ?_
     refine nt (hK54 _ _ ?_)
     refine wp_seq_k (fun K66 hK66=>?_)
     refine wp_seq_k (fun K67 hK67=>?_)
     refine rl ?_
     refine nt (hK67 _ _ ?_)
     refine wp_block ?_
     have H68:=Mem.bq (g:=ar w0.heap.size 5 1) (st:=st2 mgB bC u n gv k) (st':=fm mgB bC u n gv (u k) k 0) H48 (fun i _=>hX mgB bC u n gv k i)
     have hnk:=hn k (by omega)
     rw [← hu64]
     go_loopw [7,8] (fun x7 x8 wr=>∃ q:Nat,∃ v:Value,v=x7∧x8=.int .i64 (q:Int)∧(q≤64)∧Mem w0 wr [Ent.all (List.range m) (fun i=>ar w0.heap.size 5 1 (fm mgB bC u n gv v k q i)),aw w0.heap.size 24 1 (.slice (some ⟨gg,0,none⟩) m m) m ((gv).flatMap vb),aw B2 24 1 (.slice (some ⟨b55,0,none⟩) m c) m (((List.range m).map u).flatMap vb),R]) (fun x7 x8 _=>64-(intOf x8).toNat)
     case atStart=>exact ⟨0,((u k)),rfl,rfl,by omega,H68⟩
     case round =>
      obtain ⟨wo69,rfl⟩:∃ wo69,wo69=wr:=⟨_,rfl⟩
      obtain ⟨q,v,rfl,rfl,hq,H70⟩:=hrel
      refine wp_seq_k (fun K72 hK72=>?_)
      refine wp_seq_k (fun K73 hK73=>?_)
      refine rl ?_
      by_cases p74:(q:Int)<64
      ·refine rv (aB (decide_eq_true p74)) ?_
       refine nt (hK73 _ _ ?_)
       refine ct ?_
       refine ks (hK72 _ _ ?_)
       refine wp_seq_k (fun K75 hK75=>?_)
       refine wp_block ?_
       refine rl ?_
       obtain ⟨x76,hx77⟩:∃ x,(((List.range m).map u))[k]?=some x:=⟨_,List.getElem?_eq_getElem (by first | omega | (rw [List.length_map,List.length_range];omega))⟩
       have hd78:=av hx77
       obtain rfl:=aM hx77
       obtain ⟨A79,c80,hu81,hg82⟩:=hu0 k (by omega)
       refine rv (aT (s:=1) (k) Tryz.underlying95 (by kernel_rfl)) ?_
       refine rv (v:=.slice A79 (n k) c80) (by rw [← hu81];exact exec_load_cell (o:=⟨some 62,_,_,_,_,_⟩) 24 (.tmp 61) rfl ⟨b55,k*1,none⟩ rfl _ _ wo69 Tryz.underlying24 rfl (range_cell (bw (Mem.own H70 2 rfl) (by omega)))) ?_
       refine rv (aR ((((n k)+q:Nat):Int))) ?_
       refine an (by kernel_rfl) _ _ (by kernel_rfl) (gq k ((n k)+q) (by omega) (by omega) wo69) ?_
       rintro e w83 ⟨rfl,hb85⟩
       refine ⟨_,rfl,rn ?_⟩
       have H84:=Mem.call H70 hb85
       refine aL (o:=⟨some 67,_,_,_,_,_⟩) rfl 24 (.tmp 66) rfl 5 1 (Value.int .u8 0) (.int .u8 (((mgB k ((n k)+q)).toNat:Int))) rfl Tryz.underlying24 (by kernel_rfl) (by decide) (by decide) (fun w=>by kernel_rfl) rfl ?_
       intro w86 hn
       have H87:=Mem.bA H84 hn
       clear hn
       refine rn ?_
       obtain ⟨inm5,iq5,ir5,is5,it5⟩:=info_parts nP
       have hP9:=iu (mk:=mgB) (f:=bC) H87 (i0:=1) rfl (show k<m by omega)
       refine cY rfl _ _ 24 rfl w0.heap.size 5 _ _ 1 1 Tryz.underlying24 iq5 ir5 is5 it5 rfl (by decide) v (n k+q) (mkC mgB bC k (n k+q)) hP9.2.1 (some ⟨w83.heap.size,0,none⟩) 1 1 ([.int .u8 (((mgB k ((n k)+q)).toNat:Int))]) (bH (n:=1) (m:=1) (Mem.blk H87 0 rfl) rfl (fun u hu=>by rw [List.mem_singleton.1 hu];rfl)) (by decide) (by simp only [maxLen];omega) (by omega) (Mem.below H87).size rfl rfl ?_
       intro v9 w88 ho9 hg9 hr9
       refine rn ?_
       have H89:=kH (mk:=mgB) (f:=bC) (Mem.pick H87 [1,0,2,3,4] (by decide) rfl) (show k<m by omega) ho9 hg9 hr9
       clear ho9 hg9 hr9 hP9
       refine rn ?_
       refine wpList_nil ?_
       refine aq ?_
       refine ab (hK75 _ _ ?_)
       refine rl ?_
       refine rv (aR (((q+1:Nat):Int))) ?_
       refine wpList_nil ?_
       have H90:=Mem.pick H89 [0,2,3,4] (by decide) rfl
       refine ab ?_
       show _∧_
       go_roundw
       case rel=>exact ⟨(q+1),v9,rfl,rfl,by omega,H90⟩
       case measure=>simp [intOf];omega
      ·refine rv (aB (decide_eq_false p74)) ?_
       refine nt (hK73 _ _ ?_)
       refine cf ?_
       refine wp_exit ?_
       refine aj ?_
       refine aj ?_
       refine ax ?_
       refine ab (hK66 _ _ ?_)
       refine rl ?_
       refine rv (aT (s:=1) (k) Tryz.underlying95 (by kernel_rfl)) ?_
       refine bK rfl 24 (.tmp 72) (.tmp 71) rfl (Mem.own H70 1 rfl) (k:=k) (by omega) (by kernel_rfl) v (by obtain ⟨_,_,e9⟩:=aP (iu (mk:=mgB) (f:=bC) H70 (i0:=0) rfl (show k<m by omega)).2.1;rw [show v=_ from e9];rfl) (by show Value.pointer (some ⟨gg,k*1,none⟩)=_;rw [Nat.mul_one]) rfl ?_
       intro w91 ho9 hg9
       refine rn ?_
       rw [gp] at ho9
       have H92:=Mem.fA H70 1 rfl ho9 hg9
       clear ho9 hg9
       refine wpList_nil ?_
       refine aq ?_
       refine ab (hK53 _ _ ?_)
       refine rl ?_
       refine rv (aR (((k+1:Nat):Int))) ?_
       refine wpList_nil ?_
       have H93:=Mem.bq (g:=ar w0.heap.size 5 1) (st:=fm mgB bC u n gv v k q) (st':=st2 mgB bC u n (gv.set k v) (k+1)) H92 (fun i _=>by rw [show q=64 by omega];exact lf mgB bC u n gv v k (by omega) i)
       refine ab ?_
       show _∧_
       go_roundw
       case rel=>exact ⟨(k+1),(gv.set k v),rfl,by omega,(by rw [List.length_set];exact hgl),H93⟩
       case measure=>simp [intOf];omega
    ·refine rv (aB (decide_eq_false p52)) ?_
     refine nt (hK51 _ _ ?_)
     refine cf ?_
     refine wp_exit ?_
     refine aj ?_
     refine aj ?_
     refine ax ?_
     refine ab (hK44 _ _ ?_)
     refine wp_seq_k (fun K94 hK94=>?_)
     refine wp_seq_k (fun K95 hK95=>?_)
     refine rl ?_
     refine nt (hK95 _ _ ?_)
     refine wp_block ?_
     have H96:=Mem.bq (g:=ar w0.heap.size 5 1) (st:=st2 mgB bC u n gv k) (st':=st4 mgB bC u n gv m 0) H48 (fun i hi=>by rw [show k=m by omega];exact jC mgB bC u n gv m i hi)
     go_loopw [9] (fun x9 wr=>∃ k3:Nat,x9=.int .i64 (k3:Int)∧(k3≤m)∧Mem w0 wr [Ent.all (List.range m) (fun i=>ar w0.heap.size 5 1 (st4 mgB bC u n gv m 0 i)),aw w0.heap.size 24 1 (.slice (some ⟨gg,0,none⟩) m m) m ((gv).flatMap vb),aw B2 24 1 (.slice A m c) m (((List.range m).map u).flatMap vb),R]) (fun x9 _=>m-(intOf x9).toNat)
     case atStart=>exact ⟨0,rfl,by omega,H96⟩
     case round =>
      obtain ⟨wo97,rfl⟩:∃ wo97,wo97=wr:=⟨_,rfl⟩
      obtain ⟨k3,rfl,hk3,H98⟩:=hrel
      refine wp_seq_k (fun K100 hK100=>?_)
      refine wp_seq_k (fun K101 hK101=>?_)
      refine rl ?_
      by_cases p102:(k3:Int)<(m:Int)
      ·refine rv (aB (decide_eq_true p102)) ?_
       refine nt (hK101 _ _ ?_)
       refine ct ?_
       refine ks (hK100 _ _ ?_)
       refine wp_seq_k (fun K103 hK103=>?_)
       refine wp_block ?_
       refine wp_seq_k (fun K104 hK104=>?_)
       refine rl ?_
       refine nt (hK104 _ _ ?_)
       refine wp_block ?_
       have hnk:=hn k3 (by omega)
       go_loopw [10] (fun x10 wr=>∃ i:Nat,x10=.int .i64 (i:Int)∧(i≤n k3+64)∧Mem w0 wr [Ent.all (List.range m) (fun i=>ar w0.heap.size 5 1 (st4 mgB bC u n gv m 0 i)),aw w0.heap.size 24 1 (.slice (some ⟨gg,0,none⟩) m m) m ((gv).flatMap vb),aw B2 24 1 (.slice A m c) m (((List.range m).map u).flatMap vb),R]) (fun x10 _=>n k3+64-(intOf x10).toNat)
       case atStart=>exact ⟨0,rfl,by omega,H98⟩
       case round =>
        obtain ⟨wo105,rfl⟩:∃ wo105,wo105=wr:=⟨_,rfl⟩
        obtain ⟨i,rfl,hi,H106⟩:=hrel
        refine wp_seq_k (fun K108 hK108=>?_)
        refine wp_seq_k (fun K109 hK109=>?_)
        refine rl ?_
        obtain ⟨x110,hx111⟩:∃ x,(gv)[k3]?=some x:=⟨_,List.getElem?_eq_getElem (by first | omega | (rw [List.length_map,List.length_range];omega))⟩
        have hd112:=av hx111
        have hv113:=gi (mk:=mgB) (f:=bC) H106 (i0:=0) rfl (show k3<m by omega) (Nat.zero_le _) hx111
        obtain ⟨A114,c115,rfl⟩:=aP hv113
        refine rv (aT (s:=1) (k3) Tryz.underlying95 (by kernel_rfl)) ?_
        refine rv (xlc (range_cell (ei (Mem.own H106 1 rfl) hx111)) Tryz.underlying24) ?_
        by_cases p116:(i:Int)<(((n k3+64):Nat):Int)
        ·refine rv (aB (decide_eq_true p116)) ?_
         refine nt (hK109 _ _ ?_)
         refine ct ?_
         refine ks (hK108 _ _ ?_)
         refine wp_seq_k (fun K117 hK117=>?_)
         refine wp_block ?_
         refine wp_seq_k (fun K118 hK118=>?_)
         obtain ⟨b119,rfl,hlt122⟩:=aG hv113 (by omega)
         obtain ⟨b123,rfl,hlt126⟩:=aG (Mem.own H106 2 rfl) (by omega)
         obtain ⟨x127,hx128⟩:∃ x,(((List.range m).map u))[k3]?=some x:=⟨_,List.getElem?_eq_getElem (by first | omega | (rw [List.length_map,List.length_range];omega))⟩
         have hd129:=av hx128
         obtain rfl:=aM hx128
         obtain ⟨A130,c131,hu132,hg133⟩:=hu0 k3 (by omega)
         refine Fre.aW (X:=Bel) [] (by kernel_rfl) (by kernel_rfl) (by simp) (by simp) (by simp) ?_
         refine Fre.rmd ?_
         refine Fre.mvv (fun _ _=>aT (s:=1) (k3) Tryz.underlying95 (by kernel_rfl)) ?_
         refine Fre.mvv (fun W9 hW9=>xlc (range_cell (ei (Mem.own (Mem.call H106 hW9) 1 rfl) hx111)) Tryz.underlying24) ?_
         refine Fre.mvv (fun _ _=>aT (s:=1) (i) Tryz.underlying24 (by kernel_rfl)) ?_
         refine Fre.mvv (fun W9 hW9=>xlc (range_cell (fB (mk:=mgB) (f:=bC) (k:=k3) (i:=i) (fun k i=>rfl) (gi (mk:=mgB) (f:=bC) (Mem.call H106 hW9) (i0:=0) rfl (show k3<m by omega) (Nat.zero_le _) hx111) (by omega))) Tryz.underlying5) ?_
         refine Fre.aA (.int .u8 (((mgB k3 i).toNat:Int))) _ _ (by kernel_rfl) (by kernel_rfl) (by kernel_rfl) (fun W9=>by kernel_rfl) (fun W9 hW9=>gq k3 i (by omega) (by omega) W9) ?_
         refine Fre.rmd ?_
         refine Fre.mvv (fun _ _=>qw (decide_eq_true rfl)) ?_
         refine Fre.mvv (fun _ _=>aT (s:=1) (k3) Tryz.underlying95 (by kernel_rfl)) ?_
         refine Fre.mvv (v:=.slice A130 (n k3) c131) (fun W9 hW9=>by rw [← hu132];exact exec_load_cell (o:=⟨some 105,_,_,_,_,_⟩) 24 (.tmp 104) rfl ⟨b123,k3*1,none⟩ rfl _ _ W9 Tryz.underlying24 rfl (range_cell (bw (Mem.own (Mem.call H106 hW9) 2 rfl) (by omega)))) ?_
         by_cases p134:(i:Int)<(((n k3):Nat):Int)
         ·refine Fre.mvv (fun _ _=>aB (decide_eq_true p134)) ?_
          refine Fre.mvv (fun _ _=>aT (s:=1) (k3) Tryz.underlying95 (by kernel_rfl)) ?_
          refine Fre.mvv (v:=.slice A130 (n k3) c131) (fun W9 hW9=>by rw [← hu132];exact exec_load_cell (o:=⟨some 112,_,_,_,_,_⟩) 24 (.tmp 111) rfl ⟨b123,k3*1,none⟩ rfl _ _ W9 Tryz.underlying24 rfl (range_cell (bw (Mem.own (Mem.call H106 hW9) 2 rfl) (by omega)))) ?_
          obtain ⟨b135,rfl⟩:=hg133 (by omega)
          refine Fre.mvv (fun _ _=>aT (s:=1) (i) Tryz.underlying24 (by kernel_rfl)) ?_
          refine Fre.mvv (fun W9 hW9=>xlc (range_cell (fB (mk:=mgB) (f:=bC) (k:=k3) (i:=i) (fun k i=>rfl) (hu132▸eW (mk:=mgB) (f:=bC) (Mem.call H106 hW9) (i0:=0) rfl (by omega)) (by omega))) Tryz.underlying5) ?_
          refine Fre.aA (.int .u8 (((mgB k3 i).toNat:Int))) _ _ (by kernel_rfl) (by kernel_rfl) (by kernel_rfl) (fun W9=>by kernel_rfl) (fun W9 hW9=>gq k3 i (by omega) (by omega) W9) ?_
          refine Fre.rmd ?_
          refine Fre.mvv (fun _ _=>qw (decide_eq_true rfl)) ?_
          intro w139 hx141
          dsimp only [Fre.ended,List.drop]
          have H140:=Mem.call H106 hx141
          refine ab (hK118 _ _ ?_)
          refine cf ?_
          refine wp_skip ?_
          refine aq ?_
          refine ab (hK117 _ _ ?_)
          refine rl ?_
          refine rv (aR (((i+1:Nat):Int))) ?_
          refine wpList_nil ?_
          refine ab ?_
          show _∧_
          go_roundw
          case rel=>exact ⟨(i+1),rfl,by omega,H140⟩
          case measure=>simp [intOf];omega
         ·refine Fre.mvv (fun _ _=>aB (decide_eq_false p134)) ?_
          intro w142 hx144
          dsimp only [Fre.ended,List.drop]
          have H143:=Mem.call H106 hx144
          refine ab (hK118 _ _ ?_)
          refine cf ?_
          refine wp_skip ?_
          refine aq ?_
          refine ab (hK117 _ _ ?_)
          refine rl ?_
          refine rv (aR (((i+1:Nat):Int))) ?_
          refine wpList_nil ?_
          refine ab ?_
          show _∧_
          go_roundw
          case rel=>exact ⟨(i+1),rfl,by omega,H143⟩
          case measure=>simp [intOf];omega
        ·refine rv (aB (decide_eq_false p116)) ?_
         refine nt (hK109 _ _ ?_)
         refine cf ?_
         refine wp_exit ?_
         refine aj ?_
         refine aj ?_
         refine ax ?_
         refine aq ?_
         refine ab (hK103 _ _ ?_)
         refine rl ?_
         refine rv (aR (((k3+1:Nat):Int))) ?_
         refine wpList_nil ?_
         refine ab ?_
         show _∧_
         go_roundw
         case rel=>exact ⟨(k3+1),rfl,by omega,H106⟩
         case measure=>simp [intOf];omega
      ·refine rv (aB (decide_eq_false p102)) ?_
       refine nt (hK101 _ _ ?_)
       refine cf ?_
       refine wp_exit ?_
       refine aj ?_
       refine aj ?_
       refine ax ?_
       refine ab (hK94 _ _ ?_)
       refine wp_seq_k (fun K145 hK145=>?_)
       refine wp_seq_k (fun K146 hK146=>?_)
       refine rl ?_
       refine nt (hK146 _ _ ?_)
       refine wp_block ?_
       obtain ⟨gw,hgw⟩:∃ g,g=gv:=⟨_,rfl⟩
       rw [← hgw] at H98
       rw [← hgw] at hgl
       have hgl6:=hgl
       clear hgl
       go_loopw [11] (fun x11 wr=>∃ k:Nat,∃ gv:List Value,x11=.int .i64 (k:Int)∧(k≤m)∧(gv.length=m)∧Mem w0 wr [Ent.all (List.range m) (fun i=>ar w0.heap.size 5 1 (st4 mgB bC u n gv m k i)),aw w0.heap.size 24 1 (.slice (some ⟨gg,0,none⟩) m m) m ((gv).flatMap vb),aw B2 24 1 (.slice A m c) m (((List.range m).map u).flatMap vb),R]) (fun x11 _=>m-(intOf x11).toNat)
       case atStart=>exact ⟨0,gw,rfl,by omega,hgl6,H98⟩
       case round =>
        obtain ⟨wo147,rfl⟩:∃ wo147,wo147=wr:=⟨_,rfl⟩
        obtain ⟨k,gv,rfl,hk,hgl,H148⟩:=hrel
        refine wp_seq_k (fun K150 hK150=>?_)
        refine wp_seq_k (fun K151 hK151=>?_)
        refine rl ?_
        by_cases p152:(k:Int)<(m:Int)
        ·refine rv (aB (decide_eq_true p152)) ?_
         refine nt (hK151 _ _ ?_)
         refine ct ?_
         refine ks (hK150 _ _ ?_)
         refine wp_seq_k (fun K153 hK153=>?_)
         refine wp_block ?_
         refine wp_seq_k (fun K154 hK154=>?_)
         refine rl ?_
         obtain ⟨inm5,iq5,ir5,is5,it5⟩:=info_parts nP
         refine wpList_make_full _ rfl _ _ 24 rfl w0.heap.size 5 _ _ 1 Tryz.underlying24 iq5 ir5 is5 _ _ _ _ 64 rfl rfl rfl rfl (by rw [it5];omega) (by simp only [maxLen];omega) (Mem.below H148).size ?_
         intro w155 ow gr
         refine rn ?_
         obtain ⟨zs,hzs⟩:∃ zs:List Value,zs=(madeCells (Value.int .u8 0).cells (64*1)).toList:=⟨_,rfl⟩
         rw [← hzs] at ow
         have hzl:=ow.1
         have H156:=Mem.make H148 ow gr
         obtain ⟨gm,hgm⟩:∃ g,g=wo147.heap.size:=⟨_,rfl⟩
         rw [← hgm] at H156 ⊢
         clear ow gr hgm hzs
         refine rn ?_
         refine nt (hK154 _ _ ?_)
         refine wp_seq_k (fun K157 hK157=>?_)
         refine wp_seq_k (fun K158 hK158=>?_)
         refine rl ?_
         refine nt (hK158 _ _ ?_)
         refine wp_block ?_
         have hnk:=hn k (by omega)
         go_loopw [13] (fun x13 wr=>∃ i:Nat,x13=.int .i64 (i:Int)∧(i≤64)∧Mem w0 wr [aw w0.heap.size 5 1 (.slice (some ⟨gm,0,none⟩) 64 64) 64 (mkC mgB bC (k+m) i++zs.drop (i*1)),Ent.all (List.range m) (fun i=>ar w0.heap.size 5 1 (st4 mgB bC u n gv m k i)),aw w0.heap.size 24 1 (.slice (some ⟨gg,0,none⟩) m m) m ((gv).flatMap vb),aw B2 24 1 (.slice A m c) m (((List.range m).map u).flatMap vb),R]) (fun x13 _=>64-(intOf x13).toNat)
         case atStart=>exact ⟨0,rfl,by omega,H156⟩
         case round =>
          obtain ⟨wo159,rfl⟩:∃ wo159,wo159=wr:=⟨_,rfl⟩
          obtain ⟨i,rfl,hi,H160⟩:=hrel
          refine wp_seq_k (fun K162 hK162=>?_)
          refine wp_seq_k (fun K163 hK163=>?_)
          refine rl ?_
          by_cases p164:(i:Int)<64
          ·refine rv (aB (decide_eq_true p164)) ?_
           refine nt (hK163 _ _ ?_)
           refine ct ?_
           refine ks (hK162 _ _ ?_)
           refine wp_seq_k (fun K165 hK165=>?_)
           refine wp_block ?_
           refine rl ?_
           refine rv (aR (((k+m:Nat):Int))) ?_
           refine an (by kernel_rfl) _ _ (by kernel_rfl) (gq (k+m) i (by omega) (by omega) wo159) ?_
           rintro e w166 ⟨rfl,hb168⟩
           refine ⟨_,rfl,rn ?_⟩
           have H167:=Mem.call H160 hb168
           refine rv (aT (s:=1) (i) Tryz.underlying24 (by kernel_rfl)) ?_
           refine bK rfl 5 (.tmp 142) (.tmp 141) rfl (Mem.own H167 0 rfl) (k:=i) (by omega) (by kernel_rfl) (.int .u8 (((mgB (k+m) i).toNat:Int))) rfl (by show Value.pointer (some ⟨_,i*1,none⟩)=_;rw [Nat.mul_one]) rfl ?_
           intro w169 ho9 hg9
           refine rn ?_
           have ho9:=rY (bC (mgB (k+m) i)) rfl ho9 (by omega)
           rw [jd mgB bC 1 (fun _=>zs) (fun k i=>rfl) (k+m) i] at ho9
           have H170:=Mem.fA H167 0 rfl ho9 hg9
           clear ho9 hg9
           refine wpList_nil ?_
           refine aq ?_
           refine ab (hK165 _ _ ?_)
           refine rl ?_
           refine rv (aR (((i+1:Nat):Int))) ?_
           refine wpList_nil ?_
           refine ab ?_
           show _∧_
           go_roundw
           case rel=>exact ⟨(i+1),rfl,by omega,H170⟩
           case measure=>simp [intOf];omega
          ·refine rv (aB (decide_eq_false p164)) ?_
           refine nt (hK163 _ _ ?_)
           refine cf ?_
           refine wp_exit ?_
           refine aj ?_
           refine aj ?_
           refine ax ?_
           refine ab (hK157 _ _ ?_)
           refine rl ?_
           obtain ⟨b171,rfl,hlt174⟩:=aG (Mem.own H160 3 rfl) (by omega)
           obtain ⟨x175,hx176⟩:∃ x,(((List.range m).map u))[k]?=some x:=⟨_,List.getElem?_eq_getElem (by first | omega | (rw [List.length_map,List.length_range];omega))⟩
           have hd177:=av hx176
           obtain rfl:=aM hx176
           obtain ⟨A178,c179,hu180,hg181⟩:=hu0 k (by omega)
           refine rv (aT (s:=1) (k) Tryz.underlying95 (by kernel_rfl)) ?_
           refine rv (v:=.slice A178 (n k) c179) (by rw [← hu180];exact exec_load_cell (o:=⟨some 148,_,_,_,_,_⟩) 24 (.tmp 147) rfl ⟨b171,k*1,none⟩ rfl _ _ wo159 Tryz.underlying24 rfl (range_cell (bw (Mem.own H160 3 rfl) (by omega)))) ?_
           have hie:i=64:=by omega
           subst hie
           have hU9:=eW (mk:=mgB) (f:=bC) H160 (i0:=1) rfl (show k<m by omega)
           rw [List.append_nil] at hU9
           have hM9:=Mem.own H160 0 rfl
           rw [List.drop_of_length_le (by omega),List.append_nil] at hM9
           refine cY rfl _ _ 24 rfl w0.heap.size 5 _ _ 1 1 Tryz.underlying24 iq5 ir5 is5 it5 rfl (by decide) (u k) (n k) (mkC mgB bC k (n k)) hU9 (some ⟨gm,0,none⟩) 64 64 (mkC mgB bC (k+m) 64) (kz hM9 (mE mgB bC (fun k i=>BR _) _ _)) (by decide) (by simp only [maxLen];omega) (by omega) (Mem.below H160).size hu180.symm rfl ?_
           intro v9 w182 ho9 hg9 hr9
           refine rn ?_
           have H183:=kA (mk:=mgB) (f:=bC) (Mem.pick H160 [1,0,2,3,4] (by decide) rfl) (show k<m by omega) hgl ho9 hg9 hr9
           obtain ⟨A9,c99,hv9⟩:=aP ho9
           clear ho9 hg9 hr9 hU9 hM9
           refine rv (aT (s:=1) (k) Tryz.underlying95 (by kernel_rfl)) ?_
           refine bK rfl 24 (.tmp 151) (.tmp 150) rfl (Mem.own H183 2 rfl) (k:=k) (by omega) (by kernel_rfl) v9 (by rw [hv9];rfl) (by show Value.pointer (some ⟨gg,k*1,none⟩)=_;rw [Nat.mul_one]) rfl ?_
           intro w184 ho9 hg9
           refine rn ?_
           rw [gp] at ho9
           have H185:=Mem.fA H183 2 rfl ho9 hg9
           clear ho9 hg9
           refine wpList_nil ?_
           refine aq ?_
           refine ab (hK153 _ _ ?_)
           refine rl ?_
           refine rv (aR (((k+1:Nat):Int))) ?_
           refine wpList_nil ?_
           have H186:=Mem.pick H185 [0,2,3,4] (by decide) rfl
           refine ab ?_
           show _∧_
           go_roundw
           case rel=>exact ⟨(k+1),(gv.set k v9),rfl,by omega,(by rw [List.length_set];exact hgl),H186⟩
           case measure=>simp [intOf];omega
        ·refine rv (aB (decide_eq_false p152)) ?_
         refine nt (hK151 _ _ ?_)
         refine cf ?_
         refine wp_exit ?_
         refine aj ?_
         refine aj ?_
         refine ax ?_
         refine ab (hK145 _ _ ?_)
         refine wp_seq_k (fun K187 hK187=>?_)
         refine wp_seq_k (fun K188 hK188=>?_)
         refine rl ?_
         refine nt (hK188 _ _ ?_)
         refine wp_block ?_
         have hke8:k=m:=by omega
         rw [hke8] at H148
         go_loopw [14] (fun x14 wr=>∃ k5:Nat,x14=.int .i64 (k5:Int)∧(k5≤m)∧Mem w0 wr [Ent.all (List.range m) (fun i=>ar w0.heap.size 5 1 (st4 mgB bC u n gv m m i)),aw w0.heap.size 24 1 (.slice (some ⟨gg,0,none⟩) m m) m ((gv).flatMap vb),aw B2 24 1 (.slice A m c) m (((List.range m).map u).flatMap vb),R]) (fun x14 _=>m-(intOf x14).toNat)
         case atStart=>exact ⟨0,rfl,by omega,H148⟩
         case round =>
          obtain ⟨wo189,rfl⟩:∃ wo189,wo189=wr:=⟨_,rfl⟩
          obtain ⟨k5,rfl,hk5,H190⟩:=hrel
          refine wp_seq_k (fun K192 hK192=>?_)
          refine wp_seq_k (fun K193 hK193=>?_)
          refine rl ?_
          by_cases p194:(k5:Int)<(m:Int)
          ·refine rv (aB (decide_eq_true p194)) ?_
           refine nt (hK193 _ _ ?_)
           refine ct ?_
           refine ks (hK192 _ _ ?_)
           refine wp_seq_k (fun K195 hK195=>?_)
           refine wp_block ?_
           refine wp_seq_k (fun K196 hK196=>?_)
           refine rl ?_
           refine nt (hK196 _ _ ?_)
           refine wp_block ?_
           have hnk:=hn k5 (by omega)
           go_loopw [15] (fun x15 wr=>∃ i:Nat,x15=.int .i64 (i:Int)∧(i≤n k5)∧Mem w0 wr [Ent.all (List.range m) (fun i=>ar w0.heap.size 5 1 (st4 mgB bC u n gv m m i)),aw w0.heap.size 24 1 (.slice (some ⟨gg,0,none⟩) m m) m ((gv).flatMap vb),aw B2 24 1 (.slice A m c) m (((List.range m).map u).flatMap vb),R]) (fun x15 _=>n k5-(intOf x15).toNat)
           case atStart=>exact ⟨0,rfl,by omega,H190⟩
           case round =>
            obtain ⟨wo197,rfl⟩:∃ wo197,wo197=wr:=⟨_,rfl⟩
            obtain ⟨i,rfl,hi,H198⟩:=hrel
            refine wp_seq_k (fun K200 hK200=>?_)
            refine wp_seq_k (fun K201 hK201=>?_)
            refine rl ?_
            obtain ⟨b202,rfl,hlt205⟩:=aG (Mem.own H198 2 rfl) (by omega)
            obtain ⟨x206,hx207⟩:∃ x,(((List.range m).map u))[k5]?=some x:=⟨_,List.getElem?_eq_getElem (by first | omega | (rw [List.length_map,List.length_range];omega))⟩
            have hd208:=av hx207
            obtain rfl:=aM hx207
            obtain ⟨A209,c210,hu211,hg212⟩:=hu0 k5 (by omega)
            refine rv (aT (s:=1) (k5) Tryz.underlying95 (by kernel_rfl)) ?_
            refine rv (v:=.slice A209 (n k5) c210) (by rw [← hu211];exact exec_load_cell (o:=⟨some 162,_,_,_,_,_⟩) 24 (.tmp 161) rfl ⟨b202,k5*1,none⟩ rfl _ _ wo197 Tryz.underlying24 rfl (range_cell (bw (Mem.own H198 2 rfl) (by omega)))) ?_
            by_cases p213:(i:Int)<(((n k5):Nat):Int)
            ·refine rv (aB (decide_eq_true p213)) ?_
             refine nt (hK201 _ _ ?_)
             refine ct ?_
             refine ks (hK200 _ _ ?_)
             refine wp_seq_k (fun K214 hK214=>?_)
             refine wp_block ?_
             refine wp_seq_k (fun K215 hK215=>?_)
             obtain ⟨b216,rfl⟩:=hg212 (by omega)
             obtain ⟨x220,hx221⟩:∃ x,(gv)[k5]?=some x:=⟨_,List.getElem?_eq_getElem (by first | omega | (rw [List.length_map,List.length_range];omega))⟩
             have hd222:=av hx221
             have hv223:=gB (mk:=mgB) (f:=bC) H198 (i0:=0) rfl (show k5<m by omega) (by omega) hx221
             obtain ⟨A224,c225,rfl⟩:=aP hv223
             obtain ⟨b226,rfl,hlt229⟩:=aG hv223 (by omega)
             refine Fre.aW (X:=Bel) [] (by kernel_rfl) (by kernel_rfl) (by simp) (by simp) (by simp) ?_
             refine Fre.rmd ?_
             refine Fre.mvv (fun _ _=>aT (s:=1) (k5) Tryz.underlying95 (by kernel_rfl)) ?_
             refine Fre.mvv (v:=.slice (some ⟨b216,0,none⟩) (n k5) c210) (fun W9 hW9=>by rw [← hu211];exact exec_load_cell (o:=⟨some 170,_,_,_,_,_⟩) 24 (.tmp 169) rfl ⟨b202,k5*1,none⟩ rfl _ _ W9 Tryz.underlying24 rfl (range_cell (bw (Mem.own (Mem.call H198 hW9) 2 rfl) (by omega)))) ?_
             refine Fre.mvv (fun _ _=>aT (s:=1) (i) Tryz.underlying24 (by kernel_rfl)) ?_
             refine Fre.mvv (fun W9 hW9=>xlc (range_cell (fB (mk:=mgB) (f:=bC) (k:=k5) (i:=i) (fun k i=>rfl) (hu211▸eW (mk:=mgB) (f:=bC) (Mem.call H198 hW9) (i0:=0) rfl (by omega)) (by omega))) Tryz.underlying5) ?_
             refine Fre.aA (.int .u8 (((mgB k5 i).toNat:Int))) _ _ (by kernel_rfl) (by kernel_rfl) (by kernel_rfl) (fun W9=>by kernel_rfl) (fun W9 hW9=>gq k5 i (by omega) (by omega) W9) ?_
             refine Fre.rmd ?_
             refine Fre.mvv (fun _ _=>qw (decide_eq_true rfl)) ?_
             refine Fre.mvv (fun _ _=>aT (s:=1) (k5) Tryz.underlying95 (by kernel_rfl)) ?_
             refine Fre.mvv (fun W9 hW9=>xlc (range_cell (ei (Mem.own (Mem.call H198 hW9) 1 rfl) hx221)) Tryz.underlying24) ?_
             refine Fre.mvv (fun _ _=>aT (s:=1) (i) Tryz.underlying24 (by kernel_rfl)) ?_
             refine Fre.mvv (fun W9 hW9=>xlc (range_cell (fB (mk:=mgB) (f:=bC) (k:=k5) (i:=i) (fun k i=>rfl) (gB (mk:=mgB) (f:=bC) (Mem.call H198 hW9) (i0:=0) rfl (show k5<m by omega) (by omega) hx221) (by omega))) Tryz.underlying5) ?_
             refine Fre.aA (.int .u8 (((mgB k5 i).toNat:Int))) _ _ (by kernel_rfl) (by kernel_rfl) (by kernel_rfl) (fun W9=>by kernel_rfl) (fun W9 hW9=>gq k5 i (by omega) (by omega) W9) ?_
             refine Fre.rmd ?_
             refine Fre.mvv (fun _ _=>qw (decide_eq_true rfl)) ?_
             intro w230 hx232
             dsimp only [Fre.ended,List.drop]
             have H231:=Mem.call H198 hx232
             refine ab (hK215 _ _ ?_)
             refine cf ?_
             refine wp_skip ?_
             refine aq ?_
             refine ab (hK214 _ _ ?_)
             refine rl ?_
             refine rv (aR (((i+1:Nat):Int))) ?_
             refine wpList_nil ?_
             refine ab ?_
             show _∧_
             go_roundw
             case rel=>exact ⟨(i+1),rfl,by omega,H231⟩
             case measure=>simp [intOf];omega
            ·refine rv (aB (decide_eq_false p213)) ?_
             refine nt (hK201 _ _ ?_)
             refine cf ?_
             refine wp_exit ?_
             refine aj ?_
             refine aj ?_
             refine ax ?_
             refine aq ?_
             refine ab (hK195 _ _ ?_)
             refine rl ?_
             refine rv (aR (((k5+1:Nat):Int))) ?_
             refine wpList_nil ?_
             refine ab ?_
             show _∧_
             go_roundw
             case rel=>exact ⟨(k5+1),rfl,by omega,H198⟩
             case measure=>simp [intOf];omega
          ·refine rv (aB (decide_eq_false p194)) ?_
           refine nt (hK193 _ _ ?_)
           refine cf ?_
           refine wp_exit ?_
           refine aj ?_
           refine aj ?_
           refine ax ?_
           refine ab (hK187 _ _ ?_)
           refine wp_seq_k (fun K233 hK233=>?_)
           refine rl ?_
           refine nt (hK233 _ _ ?_)
           refine wp_ret ?_
           refine bodyPost_ret (results_tmp rfl _ _ _) rfl ?_
           exact ⟨rfl,(Mem.pick H190 [2,3] (by decide) rfl)⟩
end Go.Proofs.YtomnhnmciopiiaaGreat
end
