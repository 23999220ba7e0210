/- Part 5 of the texts of one proof. -/
import Derived.Test.YtomnhnmciopiiaaGreatMMW4
import Derived.Test.YtomnhnmciopiiaaGreatRows
section
namespace Go.Proofs.YtomnhnmciopiiaaGreat
open Go Go.RowKit Go.Maps Go.WideShapes Go.ChangeShapes
set_option maxRecDepth 100000
def bX (n:Nat):Hsh:=UInt8.ofNat (n % 256) :: UInt8.ofNat (n / 256 % 256) :: List.replicate 18 0
theorem yJ (n:Nat):okH (bX n):=rfl
theorem u8_cell (n:Nat):((UInt8.ofNat (n % 256)).toNat:Int)=((n % 256:Nat):Int):=by
 rw [UInt8.toNat_ofNat']
 omega
theorem gR (w:World) (n:Nat) (hn:n≤1000000000) :
  Calls Tryz.prog 51 #[.int .i64 (n:Int)] w fun e w'=>e=.returned (.agg (bv (bX n)).toArray)∧Below w.heap.size w w':=by
 have e1:((n:Int) % 256)=((UInt8.ofNat (n % 256)).toNat:Int):=by rw [u8_cell];omega
 have e2:((n:Int) / 256 % 256)=((UInt8.ofNat (n / 256 % 256)).toNat:Int):=by rw [u8_cell];omega
 have E:=ah (And.intro e1 e2)
 have h0:(0:Int)≤(n:Int):=by omega
 have h1:(n:Int)≤1000000000:=by omega
 clear e1 e2
 go_enter Tryz.func51,Tryz.ntmps51
 go_wp2_with (first | ((with_reducible refine ag 2 ?_);(refine aC (o:=⟨some 2,_,_,_,_,_⟩) rfl 34 #[.int .u8 0,.int .u8 0,.int .u8 0,.int .u8 0,.int .u8 0,.int .u8 0,.int .u8 0,.int .u8 0,.int .u8 0,.int .u8 0,.int .u8 0,.int .u8 0,.int .u8 0,.int .u8 0,.int .u8 0,.int .u8 0,.int .u8 0,.int .u8 0,.int .u8 0,.int .u8 0] (by kernel_rfl) ?_);intro w1 hn;have H1:=ah hn;clear hn;simp only [Act.put,List.setIfInBounds_toArray,List.set_cons_zero,List.set_cons_succ]) | ((with_reducible refine ag 8 ?_);(refine aa (o:=⟨some 8,_,_,_,_,_⟩) rfl (.agg (bv (bX n)).toArray) w1 (by rw [show bv (bX n)=.int .u8 ((n:Int) % 256) :: .int .u8 ((n:Int) / 256 % 256) :: List.replicate 18 (.int .u8 0) by rw [E.out.1,E.out.2];rfl];kernel_rfl) ?_)) | ((with_reducible refine bI 2 8 ?_);(with_reducible refine al (o:=⟨none,_,_,_,_,_⟩) rfl 34 (.tmp 2) (.tmp 8) rfl w.heap.size #[.int .u8 0,.int .u8 0,.int .u8 0,.int .u8 0,.int .u8 0,.int .u8 0,.int .u8 0,.int .u8 0,.int .u8 0,.int .u8 0,.int .u8 0,.int .u8 0,.int .u8 0,.int .u8 0,.int .u8 0,.int .u8 0,.int .u8 0,.int .u8 0,.int .u8 0,.int .u8 0] (bv (bX n)).toArray 34 H1.out.blk ?_ ?_ ?_ ?_ ?_ ?_);kernel_rfl;rfl;kernel_rfl;rfl;rfl;intro w2 hk2 hg2;have h2:=H1.out.below.grown hg2 (by have:=H1.out.size;omega) (fun b hb=>(by have:=Option.some.inj hb;omega));have H2:=ah (And.intro hk2 h2);clear hk2 hg2 h2;simp only [Act.put,List.setIfInBounds_toArray,List.set_cons_zero,List.set_cons_succ]))
 refine bodyPost_ret (results_cell_row rfl _ _ w.heap.size 34 (bv (bX n)).toArray (0,0) _ rfl H2.out.1 Tryz.underlying34 rfl (by kernel_rfl)) rfl ⟨rfl,H2.out.2⟩
def eD (most:Nat):Nat→List Nam→Nat
 | n,[]=>n
 | n,x :: l=>if n≤most then eD most (n+1+x.1.size+x.2.1.2.size) l else n
def fM (most:Nat) (d:Drv):Nat:=eD most (1+d.1.size+d.2.2.length) d.2.1
structure jY (d:Drv):Prop where
 name:d.1.size≤140737488355328
 ins:d.2.1.length≤140737488355328
 rcp:d.2.2.length≤140737488355328
 each:∀ x∈d.2.1,x.1.size≤140737488355328∧x.2.1.2.size≤140737488355328
theorem oV (most:Nat):∀ (l:List Nam) (n:Nat),n≤eD most n l
 | [],n=>Nat.le_refl _
 | x :: l,n=>by
  unfold eD
  split
  ·exact Nat.le_trans (by omega) (oV most l _)
  ·exact Nat.le_refl _
theorem mL (most:Nat):∀ (l:List Nam) (n:Nat),eD most n l≤most→n+l.length≤most
 | [],n,h=>h
 | x :: l,n,h=>by
  unfold eD at h
  split at h
  ·have:=mL most l _ h
   rw [List.length_cons]
   omega
  ·omega
theorem rH {most:Nat} {l:List Nam} {k:Nat} {x:Nam} {n:Nat} (h:l[k]?=some x) (hn:n≤most):eD most n (l.drop k)=eD most (n+1+x.1.size+x.2.1.2.size) (l.drop (k+1)):=by
 have hj:=(List.getElem?_eq_some_iff.1 h)
 rw [List.drop_eq_getElem_cons hj.1,hj.2,eD,if_pos hn]
theorem rR {most:Nat} {l:List Nam} {n:Nat} (hn:¬ n≤most):eD most n l=n:=by
 cases l with
 | nil=>rfl
 | cons x l=>rw [eD,if_neg hn]
theorem Bm {x:Nam} (h:okN x):(nC x)[21]?=some (.string x.2.1.2):=by
 have e:nC x=(.string x.1 :: bv x.2.1.1)++(.string x.2.1.2 :: (bv x.2.2.1++[.bool x.2.2.2])):=by simp [nC,iC,pC]
 have hl:(Value.string x.1 :: bv x.2.1.1).length=21:=by rw [List.length_cons,bvL,show x.2.1.1.length=20 from h.2.1.1]
 rw [e,List.getElem?_append_right (by omega),hl]
 rfl
theorem aV {P:Program} {ρ:Operand→Value} {o:Oper} (ty e:TypeId) (x i:Operand) (ho:o.op=.indexAddr ty x i) (b off n cap k:Nat) (hx:ρ x=.slice (some ⟨b,off,none⟩) n cap) (hi:ρ i=.int .i64 (k:Int)) (hk:k<n) (s:Nat) (hu:P.underlying ty=some (.slice e)) (hs:(P.info? e).map (·.size)=some s) (w:World) :
  (execOp ρ o).run P w=.ok (.value (.pointer (some ⟨b,off+k*s,none⟩))) w:=by
 have h:=aJ (P:=P) (ρ:=ρ) (o:=o) ty e x i ho b off n cap (k:Int) .i64 hx hi ⟨by omega,by omega⟩ s hu hs w
 rwa [Int.toNat_natCast] at h
theorem cg {x:Itm} {v1 v2:Value} {w:World} {b o:Nat} (h:okH x.1) (hr:w.rangeAt b o (tC x v1 v2)):w.rangeAt b (o+20) (dC x.2 v1 v2):=by
 have h2:=dZ (c1:=bv x.1) (c2:=dC x.2 v1 v2) (by simpa [tC] using hr)
 rwa [bvL,show x.1.length=20 from h] at h2
set_option maxHeartbeats 4000000 in
theorem vj (w:World) (d:Drv) (v1 v2:Value) (h:aO w w.heap.size d v1 v2) (hl:jY d) :
  Calls Tryz.prog 8 #[.agg (dC d v1 v2).toArray,.int .i64 3000] w fun e w'=>e=.returned (.int .i64 (fM 3000 d:Int))∧Below w.heap.size w w':=by
 obtain ⟨A,cap,rfl,hcl,hcm,_,hA⟩:=ak h.ins
 obtain ⟨A2,cap2,rfl,hcl2,hcm2,_,_⟩:=ak h.rcp
 have hl1:=hl.name
 have hl2:=hl.ins
 have hl3:=hl.rcp
 have i9:(d.2.1.length:Int)≤140737488355328:=by omega
 have i8:(d.2.2.length:Int)≤140737488355328:=by omega
 have i7:(d.1.size:Int)≤140737488355328:=by omega
 have HA:=ah hA
 have HL:=ah hl.each
 clear hA h hcl hcm hcl2 hcm2 hl
 go_enter Tryz.func8,Tryz.ntmps8
 go_wp2_with (first | ((with_reducible refine ag 2 ?_);(refine ay (o:=⟨some 2,_,_,_,_,_⟩) rfl 26 (.tmp 0) rfl (dC d (.slice A d.2.1.length cap) (.slice A2 d.2.2.length cap2)).toArray rfl ?_);intro w1 hn;have H1:=ah hn;clear hn;simp only [Act.put,List.setIfInBounds_toArray,List.set_cons_zero,List.set_cons_succ]) | ((with_reducible refine ag 8 ?_);(refine aa (o:=⟨some 8,_,_,_,_,_⟩) rfl (.string d.1) w1 (exec_load_cell (o:=⟨some 8,_,_,_,_,_⟩) 9 (.tmp 7) rfl ⟨w.heap.size,0,none⟩ rfl _ _ w1 Tryz.underlying9 rfl (show w1.cell? ⟨w.heap.size,0,none⟩=some (.string d.1) from H1.out.blk.cell 0)) ?_)) | ((with_reducible refine ag 12 ?_);(refine aa (o:=⟨some 12,_,_,_,_,_⟩) rfl (.slice A2 d.2.2.length cap2) w1 (exec_load_cell (o:=⟨some 12,_,_,_,_,_⟩) 24 (.tmp 11) rfl ⟨w.heap.size,2,none⟩ rfl _ _ w1 Tryz.underlying24 rfl (show w1.cell? ⟨w.heap.size,2,none⟩=some (.slice A2 d.2.2.length cap2) from H1.out.blk.cell 2)) ?_)))
 have c1:w1.cell? ⟨w.heap.size,1,none⟩=some (.slice A d.2.1.length cap):=H1.out.blk.cell 1
 go_loopw [5,6] (fun x5 x6 wr=>∃ (n k:Nat),k≤d.2.1.length∧n≤3000+300000000000000∧x5=.int .i64 (n:Int)∧x6=.int .i64 (k:Int)∧fM 3000 d=eD 3000 n (d.2.1.drop k)∧Below w1.heap.size w1 wr) (fun _ x6 _=>d.2.1.length-(intOf x6).toNat)
 case atStart=>exact ⟨1+d.1.size+d.2.2.length,0,by omega,by omega,by go_num,rfl,rfl,Below.refl _ _⟩
 case round =>
  obtain ⟨wo,rfl⟩:∃ wo,wo=wr:=⟨_,rfl⟩
  obtain ⟨n,j,hj,hn,rfl,rfl,hof,hb⟩:=hrel
  have HB:=ah (And.intro hof hb)
  clear hof hb
  have c1':wo.cell? ⟨w.heap.size,1,none⟩=some (.slice A d.2.1.length cap):=(World.cell?_of_block (HB.out.2.block _ H1.out.blk.lt)).trans c1
  have HC1:=ah c1'
  have j0:(0:Int)≤(j:Int):=by omega
  have n0:(0:Int)≤(n:Int):=by omega
  have n9:(n:Int)≤300000000003000:=by omega
  by_cases hj2:j<d.2.1.length
  ·have j1:(j:Int)<(d.2.1.length:Int):=by omega
   by_cases hn3:n≤3000
   ·have n3:(n:Int)≤3000:=by omega
    obtain ⟨x,hx⟩:∃ x,d.2.1[j]?=some x:=⟨_,List.getElem?_eq_getElem hj2⟩
    obtain ⟨b,off,rfl,hlb,hE⟩:=HA.out (by omega)
    obtain ⟨cs,hr,hatx⟩:=hE j x hx
    obtain ⟨rfl,hxo⟩:=bl.1 hatx
    have hr0:=a8 hr (((HB.out.2.block b (by have:=H1.out.size;omega)).trans (H1.out.below.block b hlb)))
    have d0:wo.cell? ⟨b,off+j*43,none⟩=some (.string x.1):=hr0 0 _ rfl
    have d21:wo.cell? ⟨b,off+j*43+21,none⟩=some (.string x.2.1.2):=hr0 21 _ (Bm hxo)
    have hxl:=HL.out x (List.mem_of_getElem? hx)
    have x1:(x.1.size:Int)≤140737488355328:=by omega
    have x2:(x.2.1.2.size:Int)≤140737488355328:=by omega
    have hst:=rH hx hn3
    have HST:=ah hst
    have HD0:=ah (And.intro d0 d21)
    clear hx hE hr hatx hxo hr0 d0 d21 hst hxl
    go_wp2_with fail
    refine Fre.cq (X:=Bel) 19 [] (by kernel_rfl) (by kernel_rfl) (by simp) (by simp) (by simp) ?_
    simp only [List.take_succ_cons,List.take_zero,List.drop_succ_cons,List.drop_zero]
    refine Fre.ae (.int .i64 (n:Int)) (by kernel_rfl) (by kernel_rfl) (by kernel_rfl) (fun _ _=>by kernel_rfl) ?_
    simp only [Act.put,List.setIfInBounds_toArray,List.set_cons_zero,List.set_cons_succ]
    refine Fre.ae (.int .i64 ((n:Int)+1)) (by kernel_rfl) (by kernel_rfl) (by kernel_rfl) (fun W9 hW9=>?hs1) ?_
    case hs1 =>
     go_simp
     all_goals exact Go.IntWalk.i64_in _ (by omega)
    simp only [Act.put,List.setIfInBounds_toArray,List.set_cons_zero,List.set_cons_succ]
    refine Fre.ae (.pointer (some ⟨w.heap.size,1,none⟩)) (by kernel_rfl) (by kernel_rfl) (by kernel_rfl) (fun _ _=>by kernel_rfl) ?_
    simp only [Act.put,List.setIfInBounds_toArray,List.set_cons_zero,List.set_cons_succ]
    refine Fre.ae (.slice (some ⟨b,off,none⟩) d.2.1.length cap) (by kernel_rfl) (by kernel_rfl) (by kernel_rfl) (fun W9 hW9=>exec_load_cell (o:=⟨some 30,_,_,_,_,_⟩) 23 (.tmp 29) rfl ⟨w.heap.size,1,none⟩ rfl _ _ W9 Tryz.underlying23 rfl (((World.cell?_of_block (Below.block hW9 _ (World.block_lt_of_cell? wo _ HC1.out))).trans HC1.out))) ?_
    simp only [Act.put,List.setIfInBounds_toArray,List.set_cons_zero,List.set_cons_succ]
    refine Fre.ae (.int .i64 (j:Int)) (by kernel_rfl) (by kernel_rfl) (by kernel_rfl) (fun _ _=>by kernel_rfl) ?_
    simp only [Act.put,List.setIfInBounds_toArray,List.set_cons_zero,List.set_cons_succ]
    refine Fre.ae (.pointer (some ⟨b,off+j*43,none⟩)) (by kernel_rfl) (by kernel_rfl) (by kernel_rfl) (fun W9 hW9=>aV (o:=⟨some 32,_,_,_,_,_⟩) 23 87 (.tmp 30) (.tmp 31) rfl b off d.2.1.length cap j rfl rfl hj2 43 Tryz.underlying23 aY W9) ?_
    simp only [Act.put,List.setIfInBounds_toArray,List.set_cons_zero,List.set_cons_succ]
    refine Fre.ae (.pointer (some ⟨b,off+j*43,none⟩)) (by kernel_rfl) (by kernel_rfl) (by kernel_rfl) (fun _ _=>by kernel_rfl) ?_
    simp only [Act.put,List.setIfInBounds_toArray,List.set_cons_zero,List.set_cons_succ]
    refine Fre.ae (.string x.1) (by kernel_rfl) (by kernel_rfl) (by kernel_rfl) (fun W9 hW9=>exec_load_cell (o:=⟨some 34,_,_,_,_,_⟩) 9 (.tmp 33) rfl ⟨b,off+j*43,none⟩ rfl _ _ W9 Tryz.underlying9 rfl (((World.cell?_of_block (Below.block hW9 _ (World.block_lt_of_cell? wo _ HD0.out.1))).trans HD0.out.1))) ?_
    simp only [Act.put,List.setIfInBounds_toArray,List.set_cons_zero,List.set_cons_succ]
    refine Fre.ae (.int .i64 (x.1.size:Int)) (by kernel_rfl) (by kernel_rfl) (by kernel_rfl) (fun W9 hW9=>?hs2) ?_
    case hs2 =>
     go_simp
    simp only [Act.put,List.setIfInBounds_toArray,List.set_cons_zero,List.set_cons_succ]
    refine Fre.ae (.int .i64 ((n:Int)+1+(x.1.size:Int))) (by kernel_rfl) (by kernel_rfl) (by kernel_rfl) (fun W9 hW9=>?hs3) ?_
    case hs3 =>
     go_simp
     all_goals exact Go.IntWalk.i64_in _ (by omega)
    simp only [Act.put,List.setIfInBounds_toArray,List.set_cons_zero,List.set_cons_succ]
    refine Fre.ae (.pointer (some ⟨w.heap.size,1,none⟩)) (by kernel_rfl) (by kernel_rfl) (by kernel_rfl) (fun _ _=>by kernel_rfl) ?_
    simp only [Act.put,List.setIfInBounds_toArray,List.set_cons_zero,List.set_cons_succ]
    refine Fre.ae (.slice (some ⟨b,off,none⟩) d.2.1.length cap) (by kernel_rfl) (by kernel_rfl) (by kernel_rfl) (fun W9 hW9=>exec_load_cell (o:=⟨some 38,_,_,_,_,_⟩) 23 (.tmp 37) rfl ⟨w.heap.size,1,none⟩ rfl _ _ W9 Tryz.underlying23 rfl (((World.cell?_of_block (Below.block hW9 _ (World.block_lt_of_cell? wo _ HC1.out))).trans HC1.out))) ?_
    simp only [Act.put,List.setIfInBounds_toArray,List.set_cons_zero,List.set_cons_succ]
    refine Fre.ae (.int .i64 (j:Int)) (by kernel_rfl) (by kernel_rfl) (by kernel_rfl) (fun _ _=>by kernel_rfl) ?_
    simp only [Act.put,List.setIfInBounds_toArray,List.set_cons_zero,List.set_cons_succ]
    refine Fre.ae (.pointer (some ⟨b,off+j*43,none⟩)) (by kernel_rfl) (by kernel_rfl) (by kernel_rfl) (fun W9 hW9=>aV (o:=⟨some 40,_,_,_,_,_⟩) 23 87 (.tmp 38) (.tmp 39) rfl b off d.2.1.length cap j rfl rfl hj2 43 Tryz.underlying23 aY W9) ?_
    simp only [Act.put,List.setIfInBounds_toArray,List.set_cons_zero,List.set_cons_succ]
    refine Fre.ae (.pointer (some ⟨b,off+j*43+1,none⟩)) (by kernel_rfl) (by kernel_rfl) (by kernel_rfl) (fun _ _=>by kernel_rfl) ?_
    simp only [Act.put,List.setIfInBounds_toArray,List.set_cons_zero,List.set_cons_succ]
    refine Fre.ae (.pointer (some ⟨b,off+j*43+1,none⟩)) (by kernel_rfl) (by kernel_rfl) (by kernel_rfl) (fun _ _=>by kernel_rfl) ?_
    simp only [Act.put,List.setIfInBounds_toArray,List.set_cons_zero,List.set_cons_succ]
    refine Fre.ae (.pointer (some ⟨b,off+j*43+21,none⟩)) (by kernel_rfl) (by kernel_rfl) (by kernel_rfl) (fun _ _=>by kernel_rfl) ?_
    simp only [Act.put,List.setIfInBounds_toArray,List.set_cons_zero,List.set_cons_succ]
    refine Fre.ae (.string x.2.1.2) (by kernel_rfl) (by kernel_rfl) (by kernel_rfl) (fun W9 hW9=>exec_load_cell (o:=⟨some 44,_,_,_,_,_⟩) 9 (.tmp 43) rfl ⟨b,off+j*43+21,none⟩ rfl _ _ W9 Tryz.underlying9 rfl (((World.cell?_of_block (Below.block hW9 _ (World.block_lt_of_cell? wo _ HD0.out.2))).trans HD0.out.2))) ?_
    simp only [Act.put,List.setIfInBounds_toArray,List.set_cons_zero,List.set_cons_succ]
    refine Fre.ae (.int .i64 (x.2.1.2.size:Int)) (by kernel_rfl) (by kernel_rfl) (by kernel_rfl) (fun W9 hW9=>?hs4) ?_
    case hs4 =>
     go_simp
    simp only [Act.put,List.setIfInBounds_toArray,List.set_cons_zero,List.set_cons_succ]
    intro w5 hx5
    have H5:=ah (HB.out.2.trans (Below.mono hx5 HB.out.2.size))
    clear hx5
    dsimp only [Fre.ended,List.drop]
    go_wp2_with fail
    go_roundw
    case rel=>exact ⟨n+1+x.1.size+x.2.1.2.size,j+1,by omega,by omega,by go_num,by go_num,by rw [HB.out.1];exact HST.out,H5.out⟩
    case measure=>simp [intOf];omega
   ·have n3:¬ (n:Int)≤3000:=by omega
    have hfin:fM 3000 d=n:=by rw [HB.out.1];exact rR hn3
    have HF:=ah hfin
    clear hfin
    go_wp2_with fail
    go_ret
    exact ⟨by rw [HF.out];rfl,H1.out.below.trans (Below.mono HB.out.2 H1.out.below.size)⟩
  ·obtain rfl:j=d.2.1.length:=by omega
   have hfin:fM 3000 d=n:=by rw [HB.out.1,List.drop_length];rfl
   have HF:=ah hfin
   clear hfin
   go_wp2_with fail
   go_ret
   exact ⟨by rw [HF.out];rfl,H1.out.below.trans (Below.mono HB.out.2 H1.out.below.size)⟩
def gK:Nat→List Itm→Nat
 | n,[]=>n
 | n,x :: l=>if n≤3000 then gK (n+fM 3000 x.2) l else n
def gH (l:List Itm):Bool:=decide (3000<gK 0 l)
theorem pH:∀ (l:List Itm) (n:Nat),gK n l≤3000→n+l.length≤3000∧∀ x∈l,fM 3000 x.2≤3000
 | [],n,h=>⟨h,fun x hx=>by cases hx⟩
 | x :: l,n,h=>by
  unfold gK at h
  split at h
  ·have h1:=pH l _ h
   have h2:1≤fM 3000 x.2:=Nat.le_trans (by omega) (oV 3000 x.2.2.1 (1+x.2.1.size+x.2.2.2.length))
   rw [List.length_cons]
   refine ⟨by omega,fun y hy=>?_⟩
   rcases List.mem_cons.1 hy with rfl | hy
   ·omega
   ·exact h1.2 y hy
  ·omega
theorem sg {l:List Itm} (h:gH l=false):l.length≤3000∧∀ x∈l,x.2.2.1.length≤3000∧x.2.2.2.length≤3000:=by
 have h1:gK 0 l≤3000:=by
  have:=of_decide_eq_false h
  omega
 obtain ⟨h2,h3⟩:=pH l 0 h1
 refine ⟨by omega,fun x hx=>?_⟩
 have h4:=mL 3000 _ _ (h3 x hx)
 omega
theorem sS {l:List Itm} {k:Nat} {x:Itm} {n:Nat} (h:l[k]?=some x) (hn:n≤3000):gK n (l.drop k)=gK (n+fM 3000 x.2) (l.drop (k+1)):=by
 have hj:=(List.getElem?_eq_some_iff.1 h)
 rw [List.drop_eq_getElem_cons hj.1,hj.2,gK,if_pos hn]
theorem s0 {l:List Itm} {n:Nat} (hn:¬ n≤3000):gK n l=n:=by
 cases l with
 | nil=>rfl
 | cons x l=>rw [gK,if_neg hn]
theorem oW (most:Nat):∀ (l:List Nam) (n:Nat),(∀ x∈l,x.1.size≤140737488355328∧x.2.1.2.size≤140737488355328)→eD most n l≤max n (most+300000000000000)
 | [],n,_=>Nat.le_max_left _ _
 | x :: l,n,h=>by
  unfold eD
  split
  ·have h1:=h x (List.mem_cons_self ..)
   have h2:=oW most l (n+1+x.1.size+x.2.1.2.size) fun y hy=>h y (List.mem_cons_of_mem _ hy)
   omega
  ·exact Nat.le_max_left _ _
theorem xD {d:Drv} (h:jY d):fM 3000 d≤400000000000000:=by
 have h1:=oW 3000 d.2.1 (1+d.1.size+d.2.2.length) h.each
 have h2:=h.name
 have h3:=h.rcp
 unfold fM
 omega
set_option maxHeartbeats 4000000 in
theorem vV (w:World) (l:List Itm) (A:Option Addr) (cap:Nat) (h:bz.At w w.heap.size [.slice A l.length cap] l) (hl:∀ x∈l,jY x.2) :
  Calls Tryz.prog 27 #[.slice A l.length cap] w fun e w'=>e=.returned (.bool (gH l))∧Below w.heap.size w w':=by
 obtain ⟨A',cap',e,hcl,hcm9,_,hA⟩:=ak h
 injection e with e1 e2 e3
 subst e1 e3
 have k9:(l.length:Int)≤9223372036854775807:=by simp only [maxLen] at hcm9;omega
 have HA:=ah hA
 clear hA hcl hcm9 e2 h
 go_enter Tryz.func27,Tryz.ntmps27
 go_wp2_with fail
 go_loopw [3,4] (fun x3 x4 wr=>∃ (n j:Nat),j≤l.length∧n≤3000+400000000000000∧x3=.int .i64 (n:Int)∧x4=.int .i64 (j:Int)∧gK 0 l=gK n (l.drop j)∧Below w.heap.size w wr) (fun _ x4 _=>l.length-(intOf x4).toNat)
 case atStart=>exact ⟨0,0,by omega,by omega,rfl,rfl,rfl,Below.refl _ _⟩
 case round =>
  obtain ⟨wo,rfl⟩:∃ wo,wo=wr:=⟨_,rfl⟩
  obtain ⟨n,j,hj,hn,rfl,rfl,hof,hb⟩:=hrel
  have HB:=ah (And.intro hof hb)
  clear hof hb
  have j0:(0:Int)≤(j:Int):=by omega
  have n0:(0:Int)≤(n:Int):=by omega
  have n9:(n:Int)≤400000000003000:=by omega
  by_cases hj2:j<l.length
  ·by_cases hn3:n≤3000
   ·have n3:(n:Int)≤3000:=by omega
    have j1:(j:Int)<(l.length:Int):=by omega
    obtain ⟨x,hx⟩:∃ x,l[j]?=some x:=⟨_,List.getElem?_eq_getElem hj2⟩
    obtain ⟨b,off,rfl,hlb,hE⟩:=HA.out (by omega)
    obtain ⟨cs,hr,hatx⟩:=hE j x hx
    obtain ⟨q1,q2,rfl,hxo,hxd⟩:=bT.1 hatx
    obtain ⟨B1,k1,rfl,_⟩:=ak hxd.ins
    obtain ⟨B2,k2,rfl,_⟩:=ak hxd.rcp
    obtain ⟨q1,hq1⟩:∃ q1,q1=Value.slice B1 x.2.2.1.length k1:=⟨_,rfl⟩
    obtain ⟨q2,hq2⟩:∃ q2,q2=Value.slice B2 x.2.2.2.length k2:=⟨_,rfl⟩
    have hone1:q1.oneCell'=true∧q2.oneCell'=true:=by rw [hq1,hq2];exact ⟨rfl,rfl⟩
    rw [← hq1,← hq2] at hr hatx
    rw [← hq1,← hq2] at hxd
    have HX:=ah (And.intro (a8 hr (HB.out.2.block b (by omega))) (And.intro hxo hxd))
    have HXX:=ah hx
    have hszt2:(Tryz.prog.info? 59).map (·.size)=some (tC x q1 q2).toArray.size:=by rw [show (tC x q1 q2).toArray.size=23 by rw [List.size_toArray];exact dA hxo];kernel_rfl
    have hszt:(Tryz.prog.info? 59).map (·.size)=some (tC x q1 q2).length:=by simpa using hszt2
    have hszzt:zcT.size=(tC x q1 q2).toArray.size:=by rw [show (tC x q1 q2).toArray.size=23 by rw [List.size_toArray];exact dA hxo];kernel_rfl
    have honet:(tC x q1 q2).toArray.all (·.oneCell')=true:=all_oneCell_toArray (jh x hone1.1 hone1.2)
    have hszx:(Tryz.prog.info? 34).map (·.size)=some (bv x.1).length:=by have:=eR hxo;simpa using this
    have hszx2:=eR hxo
    clear hx hE hr hatx hxd hq1 hq2
    have hlx:=hl x (List.mem_of_getElem? HXX.out)
    have hle:=xD hlx
    have hst:=sS HXX.out hn3
    have HST:=ah hst
    clear hst
    go_wp2_with (first | ((with_reducible refine ag 18 ?_);(refine aa (o:=⟨some 18,_,_,_,_,_⟩) rfl (.pointer (some ⟨b,off+(j:Int).toNat*23,none⟩)) wo (aJ (o:=⟨some 18,_,_,_,_,_⟩) 22 59 (.tmp 16) (.tmp 17) rfl b off l.length cap (j:Int) .i64 rfl rfl ⟨j0,j1⟩ 23 Tryz.underlying22 cP wo) ?_;rw [show off+(j:Int).toNat*23=off+j*23 by omega])) | ((with_reducible refine ag 20 ?_);(refine aa (o:=⟨some 20,_,_,_,_,_⟩) rfl (.agg (dC x.2 q1 q2).toArray) wo (ai (o:=⟨some 20,_,_,_,_,_⟩) 26 (.tmp 19) rfl b (off+j*23+20) rfl (dC x.2 q1 q2) _ wo (cg HX.out.2.1 HX.out.1) Tryz.underlying26 rfl (by kernel_rfl)) ?_)))
    have hat8:aO wo wo.heap.size x.2 q1 q2:=HX.out.2.2.gF HB.out.2
    refine (vj wo x.2 q1 q2 hat8 hlx).mono ?_
    rintro e w9 ⟨rfl,hb⟩
    dsimp only
    have H9:=ah (HB.out.2.trans (Below.mono hb HB.out.2.size))
    obtain ⟨dn,hdn⟩:∃ dn,dn=fM 3000 x.2:=⟨_,rfl⟩
    rw [← hdn] at hle HST ⊢
    have d0:(0:Int)≤(dn:Int):=by omega
    have d9:(dn:Int)≤400000000000000:=by omega
    clear hb hat8 hdn
    go_wp2_with fail
    go_roundw
    case rel=>exact ⟨n+dn,j+1,by omega,by omega,by go_num,by go_num,by rw [HB.out.1];exact HST.out,H9.out⟩
    case measure=>simp [intOf];omega
   ·have n3:¬ (n:Int)≤3000:=by omega
    have j1:(j:Int)<(l.length:Int):=by omega
    have hfin:gH l=true:=by unfold gH;rw [HB.out.1,s0 hn3];exact decide_eq_true (by omega)
    have HF:=ah hfin
    clear hfin
    go_wp2_with fail
    go_ret
    exact ⟨by rw [HF.out];first | rfl | (simp;omega),HB.out.2⟩
  ·obtain rfl:j=l.length:=by omega
   have hg0:gK 0 l=n:=by rw [HB.out.1,List.drop_length];rfl
   by_cases hn3:n≤3000
   ·have n3:(n:Int)≤3000:=by omega
    have hfin:gH l=false:=by unfold gH;rw [hg0];exact decide_eq_false (by omega)
    have HF:=ah hfin
    clear hfin hg0
    go_wp2_with fail
    go_ret
    exact ⟨by rw [HF.out];first | rfl | (simp;omega),HB.out.2⟩
   ·have n3:¬ (n:Int)≤3000:=by omega
    have hfin:gH l=true:=by unfold gH;rw [hg0];exact decide_eq_true (by omega)
    have HF:=ah hfin
    clear hfin hg0
    go_wp2_with fail
    go_ret
    exact ⟨by rw [HF.out];first | rfl | (simp;omega),HB.out.2⟩
def nk {H:Type} [DecidableEq H] (l:List H) (c:H):Int:=if c∈l then (l.idxOf c:Int) else -1
end Go.Proofs.YtomnhnmciopiiaaGreat
end
section
namespace Go.Proofs.YtomnhnmciopiiaaGreat
open Go Go.ChangeShapes Go.WideShapes Go.ChangeAt Go.RowKit
theorem Tryz.B8:ownKnob Tryz.prog.godebug=none:=by kernel_rfl
set_option maxRecDepth 100000
theorem tQ {P:Program} {M:Nat} {t:TypeId} (ht:P.underlying t=some .string) (hc:P.cellsOf t=1):(Lay.str t).fy P M fun s=>s.size≤M where
 cells:=hc
 op:=fun h=>by
  obtain ⟨z,rfl,e,hw⟩:=DataW.trod_string ht h
  refine ⟨z,⟨rfl,hw⟩,fun hk=>hk _ ?_⟩
  rw [e]
  simp [DataW.weights]
theorem oF:iY.fy Tryz.prog reachBytes fun x=>jY x.2 where
 cells:=qG.cells
 op:=fun {H enc w sp hd fuel cs y} h=>by
  have hs:=tQ (P:=Tryz.prog) (M:=reachBytes) Tryz.underlying9 ff
  have hp:=ee (t:=83) (f:=fun p:Pth=>(p.1,p.2,())) (fun b=>(b.1,b.2.1)) (fun _=>rfl) (ch (dz.w reachBytes) (ch hs fV)) Tryz.underlying83 (by kernel_rfl) (by kernel_rfl)
  have hi:=ee (t:=85) (f:=fun x:Inp=>(x.1,x.2.1,x.2.2,())) (fun b=>(b.1,b.2.1,b.2.2.1)) (fun _=>rfl) (ch hp (ch (dz.w reachBytes) (ch ((nL (P:=Tryz.prog) Tryz.underlying4 (by kernel_rfl)).w reachBytes) fV))) Tryz.underlying85 (by kernel_rfl) (by kernel_rfl)
  have hn:=ee (t:=87) (f:=fun x:Nam=>(x.1,x.2,())) (fun b=>(b.1,b.2.1)) (fun _=>rfl) (ch hs (ch hi fV)) Tryz.underlying87 (by kernel_rfl) (by kernel_rfl)
  have hns:=im (t:=23) hn (by decide) Tryz.underlying23 (by kernel_rfl)
  have hb:=im (t:=24) ((pw (P:=Tryz.prog) Tryz.underlying5 fT).w reachBytes) (by decide) Tryz.underlying24 (by kernel_rfl)
  have hdr:=ee (t:=26) (f:=fun d:Drv=>(d.1,d.2.1,d.2.2,())) (fun b=>(b.1,b.2.1,b.2.2.1)) (fun _=>rfl) (ch hs (ch hns (ch hb fV))) Tryz.underlying26 (by kernel_rfl) (by kernel_rfl)
  have ht:=ee (t:=59) (f:=fun x:Itm=>(x.1,x.2,())) (fun b=>(b.1,b.2.1)) (fun _=>rfl) (ch (dz.w reachBytes) (ch hdr fV)) Tryz.underlying59 (by kernel_rfl) (by kernel_rfl)
  obtain ⟨x,hx,hk⟩:=ht.op h
  refine ⟨x,hx,fun hw=>?_⟩
  obtain ⟨_,⟨h1,⟨h2,h3⟩,⟨h4,_⟩,_⟩,_⟩:=hk hw
  have e1:Tryz.prog.bytesOf ia.t=80:=by kernel_rfl
  have e2:Tryz.prog.bytesOf (Lay.int 5 .u8).t=1:=by kernel_rfl
  have hR:reachBytes≤140737488355328:=by decide
  have h1:x.2.1.size≤reachBytes:=h1
  have h2:x.2.2.1.length*Tryz.prog.bytesOf ia.t≤reachBytes:=h2
  have h4:x.2.2.2.length*Tryz.prog.bytesOf (Lay.int 5 .u8).t≤reachBytes:=h4
  rw [e1] at h2
  rw [e2] at h4
  refine ⟨by omega,by omega,by omega,fun n hn=>?_⟩
  obtain ⟨h5,⟨⟨_,h6,_⟩,_⟩,_⟩:=h3 n hn
  have h5:n.1.size≤reachBytes:=h5
  have h6:n.2.1.2.size≤reachBytes:=h6
  exact ⟨by omega,by omega⟩
theorem sT {H:Type} {enc:TypeId×Value→H} {w:World} {r:Reach} {b0:Nat} {hd:Bool} {u:Value} {d:DataW H} {ps:List MemPlace}
  (hval:Value.okWide Tryz.prog w r b0 22 u) (h:DataW.Trod enc Tryz.prog w 0 (fun _=>true) hd 22 u d ps) (hsz:∀ n∈d.weights Tryz.prog 22,n≤reachBytes) :
  ∃ (l:List Itm) (A:Option Addr) (cap:Nat),u=.slice A l.length cap∧bz.At w w.heap.size [.slice A l.length cap] l∧∀ x∈l,jY x.2:=by
 obtain ⟨a0,len,cap,rfl⟩:=okWide_slice Tryz.underlying22 hval
 obtain ⟨fuel,hf⟩:=h
 have ho:=im (t:=22) oF (by decide) Tryz.underlying22 (by kernel_rfl)
 obtain ⟨l,hk,hs⟩:=ho.op hf
 obtain ⟨A,cp,e,_⟩:=ak hk
 injection e with e1 e2 e3
 subst e1 e2 e3
 exact ⟨l,_,_,rfl,hk,(hs hsz).2⟩
theorem wM {H:Type} {enc:TypeId×Value→H} {w:World} {r:Reach} {b0:Nat} {hd:Bool} {u:Value} {d:DataW H} {ps:List MemPlace}
  (hval:Value.okWide Tryz.prog w r b0 34 u) (h:DataW.Trod enc Tryz.prog w 0 (fun _=>true) hd 34 u d ps):∃ c:Hsh,u=.agg (bv c).toArray∧okH c:=by
 obtain ⟨l,rfl,hl,_⟩:=ua Tryz.underlying34 Tryz.underlying5 fT ep hval h
 exact ⟨l,rfl,hl⟩
end Go.Proofs.YtomnhnmciopiiaaGreat
end
section
namespace Go.Proofs.YtomnhnmciopiiaaGreat
open Go Go.RowKit
structure Ent where
 F:Nat→Prop
 P:World→Prop
def Ent.Ok (e:Ent):Prop:=∀ w w',e.P w→(∀ b,e.F b→b<w.heap.size→w'.heap[b]?=w.heap[b]?)→e.P w'
def Far (F G:Nat→Prop):Prop:=∀ b,F b→G b→False
theorem Far.symm {F G:Nat→Prop} (h:Far F G):Far G F:=fun b x y=>h b y x
structure Mem (w0 w:World) (L:List Ent):Prop where
 below:Below w0.heap.size w0 w
 ok:∀ e∈L,e.Ok
 holds:∀ e∈L,e.P w
 lo:∀ e∈L,∀ b,e.F b→w0.heap.size≤b∧b<w.heap.size
 far:L.Pairwise fun x y=>Far x.F y.F
section
variable {w0 w w':World} {L:List Ent} {e e':Ent}
theorem Mem.start (w:World):Mem w w []:=⟨Below.refl _ _,(fun _ h=>by cases h),(fun _ h=>by cases h),(fun _ h=>by cases h),.nil⟩
theorem Mem.get (h:Mem w0 w L) (i:Nat) (hi:L[i]?=some e):e.P w:=h.holds e (List.mem_of_getElem? hi)
theorem Mem.from_ (h:Mem w0 w L) (i:Nat) (hi:L[i]?=some e) {b:Nat} (hb:e.F b):w0.heap.size≤b∧b<w.heap.size:=h.lo e (List.mem_of_getElem? hi) b hb
theorem Mem.call (h:Mem w0 w L) (hb:Below w.heap.size w w'):Mem w0 w' L :=
 ⟨h.below.trans (hb.mono h.below.size),h.ok,(fun e he=>h.ok e he w w' (h.holds e he) fun b _ hl=>hb.block b hl),(fun e he b hf=>⟨(h.lo e he b hf).1,Nat.lt_of_lt_of_le (h.lo e he b hf).2 hb.size⟩),h.far⟩
theorem Mem.cons (h:Mem w0 w L) (ho:e.Ok) (hp:e.P w) (hF:∀ b,e.F b→w0.heap.size≤b∧b<w.heap.size∧∀ x∈L,¬ x.F b):Mem w0 w (e :: L) :=
 ⟨h.below,(fun x hx=>by rcases List.mem_cons.1 hx with rfl | hx;exact ho;exact h.ok x hx),(fun x hx=>by rcases List.mem_cons.1 hx with rfl | hx;exact hp;exact h.holds x hx),(fun x hx b hf=>by rcases List.mem_cons.1 hx with rfl | hx;exact ⟨(hF b hf).1,(hF b hf).2.1⟩;exact h.lo x hx b hf),List.pairwise_cons.2 ⟨fun x hx b h1 h2=>(hF b h1).2.2 x hx h2,h.far⟩⟩
theorem Mem.new (h:Mem w0 w L) (hb:Below w.heap.size w w') (ho:e.Ok) (hp:e.P w') (hF:∀ b,e.F b→w.heap.size≤b∧b<w'.heap.size):Mem w0 w' (e :: L) :=
 (h.call hb).cons ho hp fun b hf=>⟨Nat.le_trans h.below.size (hF b hf).1,(hF b hf).2,fun x hx hx2=>by have:=(h.lo x hx b hx2).2;have:=(hF b hf).1;omega⟩
theorem Mem.upd (h:Mem w0 w L) (i:Nat) (hi:L[i]?=some e) {row:Option Nat} (hg:w.grownBy w' row) (hrow:∀ b,row=some b→e.F b) (ho:e'.Ok) (hp:e'.P w') (hF:∀ b,e'.F b→e.F b∨(w.heap.size≤b∧b<w'.heap.size)):Mem w0 w' (L.set i e'):=by
 have hlt:i<L.length:=(List.getElem?_eq_some_iff.1 hi).1
 have hmem:∀ x,x∈L.set i e'→x=e'∨∃ k,k ≠ i∧L[k]?=some x:=fun x hx=>by
  obtain ⟨k,hk⟩:=List.getElem?_of_mem hx
  rw [List.getElem?_set] at hk
  by_cases e1:i=k
  ·rw [if_pos e1,if_pos (by omega)] at hk
   exact .inl (Option.some.inj hk).symm
  ·rw [if_neg e1] at hk
   exact .inr ⟨k,fun e2=>e1 e2.symm,hk⟩
 have hfar:∀ k x,k ≠ i→L[k]?=some x→Far e.F x.F:=fun k x hk hx=>by
  have hp2:=List.pairwise_iff_getElem.1 h.far
  have hkl:=(List.getElem?_eq_some_iff.1 hx).1
  have e1:=(List.getElem?_eq_some_iff.1 hx).2
  have e2:=(List.getElem?_eq_some_iff.1 hi).2
  rcases Nat.lt_or_ge k i with hlt2 | hge
  ·have:=hp2 k i hkl hlt hlt2
   rw [e1,e2] at this
   exact this.symm
  ·have:=hp2 i k hlt hkl (by omega)
   rw [e1,e2] at this
   exact this
 refine ⟨h.below.grown hg h.below.size fun b hb=>(h.from_ i hi (hrow b hb)).1,fun x hx=>?_,fun x hx=>?_,fun x hx b hf=>?_,?_⟩
 ·rcases hmem x hx with rfl | ⟨k,_,hk⟩
  ·exact ho
  ·exact h.ok x (List.mem_of_getElem? hk)
 ·rcases hmem x hx with rfl | ⟨k,hne,hk⟩
  ·exact hp
  ·refine h.ok x (List.mem_of_getElem? hk) w w' (h.holds x (List.mem_of_getElem? hk)) fun b hf hl=>hg.block b hl fun e1=>?_
   exact hfar k x hne hk b (hrow b e1.symm) hf
 ·rcases hmem x hx with rfl | ⟨k,_,hk⟩
  ·rcases hF b hf with h1 | h1
   ·exact ⟨(h.from_ i hi h1).1,Nat.lt_of_lt_of_le (h.from_ i hi h1).2 hg.size⟩
   ·exact ⟨Nat.le_trans h.below.size h1.1,h1.2⟩
  ·have:=h.lo x (List.mem_of_getElem? hk) b hf
   exact ⟨this.1,Nat.lt_of_lt_of_le this.2 hg.size⟩
 ·refine List.pairwise_iff_getElem.2 fun a c ha hc hac=>?_
  rw [List.length_set] at ha hc
  rw [List.getElem_set,List.getElem_set]
  have hold:∀ k (hk:k<L.length),k ≠ i→Far e'.F (L[k]).F:=fun k hk hne b h1 h2=>by
   rcases hF b h1 with h3 | h3
   ·exact hfar k _ hne (List.getElem?_eq_getElem hk) b h3 h2
   ·have:=(h.lo _ (List.getElem_mem hk) b h2).2
    omega
  by_cases e1:i=a
  ·subst e1
   rw [if_pos rfl,if_neg (by omega)]
   exact hold c hc (by omega)
  ·rw [if_neg e1]
   by_cases e2:i=c
   ·subst e2
    rw [if_pos rfl]
    exact (hold a ha (by omega)).symm
   ·rw [if_neg e2]
    exact List.pairwise_iff_getElem.1 h.far a c ha hc hac
theorem Mem.sq (h:Mem w0 w L) (i:Nat) (hi:L[i]?=some e) (ho:e'.Ok) (hp:e'.P w) (hF:∀ b,e'.F b→e.F b):Mem w0 w (L.set i e') :=
 h.upd i hi (World.grownBy.refl w none) (fun _ hb=>by cases hb) ho hp fun b hf=>.inl (hF b hf)
theorem Mem.pick (h:Mem w0 w L) (l:List Nat) (hn:l.Nodup) {L':List Ent} (hs:l.mapM (fun i=>L[i]?)=some L'):Mem w0 w L':=by
 have hat:∀ (l:List Nat) (L':List Ent),l.mapM (fun i=>L[i]?)=some L'→L'.length=l.length∧∀ (k:Nat) (x:Ent),L'[k]?=some x→∃ i,l[k]?=some i∧L[i]?=some x:=by
  intro l
  induction l with
  | nil=>intro L' hs;simp at hs;subst hs;exact ⟨rfl,fun k x hx=>by simp at hx⟩
  | cons i l ih =>
   intro L' hs
   rw [List.mapM_cons] at hs
   cases h1:L[i]? with
   | none=>simp [h1] at hs
   | some x =>
    cases h2:l.mapM (fun i=>L[i]?) with
    | none=>simp [h1,h2] at hs
    | some M =>
     simp only [h1,h2,Option.bind_eq_bind,Option.bind_some,Option.pure_def,Option.some.injEq] at hs
     subst hs
     obtain ⟨k1,k2⟩:=ih M h2
     refine ⟨by simp [k1],fun k y hy=>?_⟩
     cases k with
     | zero=>simp at hy;subst hy;exact ⟨i,rfl,h1⟩
     | succ k=>exact k2 k y (by simpa using hy)
 obtain ⟨hl,hg⟩:=hat l L' hs
 have hm:∀ x∈L',x∈L:=fun x hx=>by
  obtain ⟨k,hk⟩:=List.getElem?_of_mem hx
  obtain ⟨i,_,hi⟩:=hg k x hk
  exact List.mem_of_getElem? hi
 refine ⟨h.below,fun x hx=>h.ok x (hm x hx),fun x hx=>h.holds x (hm x hx),fun x hx=>h.lo x (hm x hx),List.pairwise_iff_getElem.2 fun a c ha hc hac=>?_⟩
 obtain ⟨i,hi1,hi2⟩:=hg a _ (List.getElem?_eq_getElem ha)
 obtain ⟨k,hk1,hk2⟩:=hg c _ (List.getElem?_eq_getElem hc)
 obtain ⟨hil,e1⟩:=List.getElem?_eq_some_iff.1 hi2
 obtain ⟨hkl,e2⟩:=List.getElem?_eq_some_iff.1 hk2
 have hne:i ≠ k:=by
  rintro rfl
  have h1:=List.getElem?_eq_some_iff.1 hi1
  have h2:=List.getElem?_eq_some_iff.1 hk1
  have:=(List.getElem_inj hn).1 (h1.2.trans h2.2.symm)
  omega
 have hp2:=List.pairwise_iff_getElem.1 h.far
 rw [← e1,← e2]
 rcases Nat.lt_or_ge i k with h1 | h1
 ·exact hp2 i k hil hkl h1
 ·exact (hp2 k i hkl hil (by omega)).symm
theorem Mem.drop (h:Mem w0 w L) (n:Nat):Mem w0 w (L.drop n) :=
 ⟨h.below,fun x hx=>h.ok x (List.mem_of_mem_drop hx),fun x hx=>h.holds x (List.mem_of_mem_drop hx),fun x hx=>h.lo x (List.mem_of_mem_drop hx),h.far.drop⟩
def Ent.both (a b:Ent):Ent:=⟨fun k=>a.F k∨b.F k,fun w=>a.P w∧b.P w⟩
theorem Ent.Av {a b:Ent} (ha:a.Ok) (hb:b.Ok):(a.both b).Ok:=fun w w' h hk=>⟨ha w w' h.1 fun k hf=>hk k (.inl hf),hb w w' h.2 fun k hf=>hk k (.inr hf)⟩
def Ent.all {α:Type} (l:List α) (f:α→Ent):Ent:=⟨fun b=>∃ x∈l,(f x).F b,fun w=>(∀ x∈l,(f x).P w)∧l.Pairwise fun x y=>Far (f x).F (f y).F⟩
theorem Ent.nN {α:Type} {l:List α} {f:α→Ent} (h:∀ x∈l,(f x).Ok):(Ent.all l f).Ok:=fun w w' hp hk=>⟨fun x hx=>h x hx w w' (hp.1 x hx) fun b hf=>hk b ⟨x,hx,hf⟩,hp.2⟩
theorem Mem.join {a b:Ent} (h:Mem w0 w (a :: b :: L)):Mem w0 w (a.both b :: L):=by
 have h2:=h.drop 2
 have hf:=List.pairwise_cons.1 h.far
 have hf2:=List.pairwise_cons.1 hf.2
 refine h2.cons (Ent.Av (h.ok a (by simp)) (h.ok b (by simp))) ⟨h.holds a (by simp),h.holds b (by simp)⟩ fun k hk=>?_
 rcases hk with hk | hk
 ·exact ⟨(h.lo a (by simp) k hk).1,(h.lo a (by simp) k hk).2,fun x hx hx2=>hf.1 x (List.mem_cons_of_mem _ hx) k hk hx2⟩
 ·exact ⟨(h.lo b (by simp) k hk).1,(h.lo b (by simp) k hk).2,fun x hx hx2=>hf2.1 x hx k hk hx2⟩
theorem Mem.push {α:Type} {l:List α} {x:α} {f:α→Ent} (h:Mem w0 w (f x :: Ent.all l f :: L)) (hx:(f x).Ok):Mem w0 w (Ent.all (l++[x]) f :: L):=by
 have h2:=h.join
 have hf0:Far (f x).F (Ent.all l f).F:=(List.pairwise_cons.1 h.far).1 _ (by simp)
 have hp0:=h.holds (Ent.all l f) (by simp)
 refine (h2.drop 1).cons ?_ ?_ ?_
 ·intro w w' hp hk
  refine ⟨fun y hy=>?_,hp.2⟩
  rcases List.mem_append.1 hy with hy | hy
  ·exact ((h.ok (Ent.all l f) (by simp)) w w' ⟨fun y hy=>hp.1 y (List.mem_append_left _ hy),hp0.2⟩ (fun b ⟨z,hz,hf⟩=>hk b ⟨z,List.mem_append_left _ hz,hf⟩)).1 y hy
  ·rw [List.mem_singleton.1 hy]
   exact hx w w' (hp.1 x (by simp)) fun b hf=>hk b ⟨x,by simp,hf⟩
 ·refine ⟨fun y hy=>?_,List.pairwise_append.2 ⟨hp0.2,by simp,fun y hy z hz b h1 h3=>?_⟩⟩
  ·rcases List.mem_append.1 hy with hy | hy
   ·exact hp0.1 y hy
   ·rw [List.mem_singleton.1 hy]
    exact h.holds (f x) (by simp)
  ·rw [List.mem_singleton.1 hz] at h3
   exact hf0 b h3 ⟨y,hy,h1⟩
 ·rintro b ⟨y,hy,hf⟩
  have hb:((f x).both (Ent.all l f)).F b:=by
   rcases List.mem_append.1 hy with hy | hy
   ·exact .inr ⟨y,hy,hf⟩
   ·rw [List.mem_singleton.1 hy] at hf
    exact .inl hf
  exact ⟨(h2.lo _ (by simp) b hb).1,(h2.lo _ (by simp) b hb).2,fun z hz hz2=>(List.pairwise_cons.1 h2.far).1 z hz b hb hz2⟩
def cC (g:Nat) (t:TypeId) (cs:Array Value):Ent:=⟨fun b=>b=g,fun w=>Blk w g t cs⟩
theorem uA (g:Nat) (t:TypeId) (cs:Array Value):(cC g t cs).Ok:=fun _ _ h hk=>(hk g rfl (Blk.lt h)).trans h
def aw (B:Nat) (t:TypeId) (s:Nat) (u:Value) (n:Nat) (xs:List Value):Ent:=⟨fun b=>u.ownBlock=some b,fun w=>w.ownsRow B t s u n xs⟩
theorem eh (B:Nat) (t:TypeId) (s:Nat) (u:Value) (n:Nat) (xs:List Value):(aw B t s u n xs).Ok:=fun _ _ h hk=>ao h fun g hg hl=>hk g hg hl
theorem Mem.blk {g:Nat} {t:TypeId} {cs:Array Value} (h:Mem w0 w L) (i:Nat) (hi:L[i]?=some (cC g t cs)):Blk w g t cs:=h.get i hi
theorem Mem.own {B n s:Nat} {t:TypeId} {u:Value} {xs:List Value} (h:Mem w0 w L) (i:Nat) (hi:L[i]?=some (aw B t s u n xs)):w.ownsRow B t s u n xs:=h.get i hi
theorem Mem.bA {t:TypeId} {cs:Array Value} (h:Mem w0 w L) (hn:iS w w' t cs):Mem w0 w' (cC w.heap.size t cs :: L) :=
 h.new hn.below (uA _ _ _) hn.blk fun b hf=>by have:=hn.size;have e:b=w.heap.size:=hf;omega
theorem Mem.st {g:Nat} {t t':TypeId} {cs cs':Array Value} (h:Mem w0 w L) (i:Nat) (hi:L[i]?=some (cC g t cs)) (hk:Blk w' g t' cs') (hg:w.grownBy w' (some g)):Mem w0 w' (L.set i (cC g t' cs')) :=
 h.upd i hi hg (fun _ hb=>(Option.some.inj hb).symm) (uA _ _ _) hk fun _ hf=>.inl hf
theorem Mem.app {B n n' s:Nat} {t:TypeId} {u u':Value} {xs xs':List Value} (h:Mem w0 w L) (i:Nat) (hi:L[i]?=some (aw B t s u n xs)) (ho:w'.ownsRow B t s u' n' xs') (hg:w.grownBy w' u.ownBlock) (hp:u'.ownBlock=u.ownBlock∨u'.ownBlock=some w.heap.size):Mem w0 w' (L.set i (aw B t s u' n' xs')) :=
 h.upd i hi hg (fun _ hb=>hb) (eh _ _ _ _ _ _) ho fun b hf=>by
  have hf:u'.ownBlock=some b:=hf
  rcases hp with e1 | e1
  ·exact .inl (show u.ownBlock=some b by rw [← e1];exact hf)
  ·rw [e1] at hf
   injection hf with hf
   subst hf
   exact .inr ⟨Nat.le_refl _,(aD ho e1).2⟩
theorem Mem.dI (h:Mem w0 w L) (B:Nat) (t:TypeId) (s:Nat):Mem w0 w (aw B t s (.slice none 0 0) 0 [] :: L) :=
 h.cons (eh _ _ _ _ _ _) (World.ownsRow_nil _ _ _ _) fun b hf=>by cases (show (none:Option Nat)=some b from hf)
theorem Mem.pure (h:Mem w0 w L) (ho:e.Ok) (hp:e.P w) (hF:∀ b,¬ e.F b):Mem w0 w (e :: L):=h.cons ho hp fun b hf=>absurd hf (hF b)
theorem Mem.tk {α:Type} (h:Mem w0 w L) (f:α→Ent):Mem w0 w (Ent.all [] f :: L) :=
 h.pure (fun _ _ _ _=>⟨(fun x hx=>by cases hx),List.Pairwise.nil⟩) ⟨(fun x hx=>by cases hx),List.Pairwise.nil⟩ (fun b ⟨x,hx,_⟩=>by cases hx)
theorem Mem.old (h:Mem w0 w L) {b:Nat} (hb:b<w0.heap.size):w.heap[b]?=w0.heap[b]?:=h.below.block b hb
end
end Go.Proofs.YtomnhnmciopiiaaGreat
end
section
namespace Go.Proofs.YtomnhnmciopiiaaGreat
open Go Go.RowKit
section
variable {P:Program} {w:World}
def pE (P:Program) (tmps:Array Value) (w:World):List ResultVar→List Value→Prop
 | [],[]=>True
 | .tmp t :: l,v :: vs=>tmps.getD t undef=v∧pE P tmps w l vs
 | .cell a ty :: l,v :: vs=>(∃ p,tmps.getD a undef=.pointer (some p)∧(loadVar ty p).run P w=.ok v w)∧pE P tmps w l vs
 | _,_=>False
def jW (tmps:Array Value):ResultVar→Sem Value
 | .tmp t=>Pure.pure (tmps.getD t undef)
 | .cell a t=>do loadVar t (← asAddr (tmps.getD a undef))
theorem jZ (tmps:Array Value):∀ (l:List ResultVar) (vs:List Value),pE P tmps w l vs→(l.mapM (jW tmps)).run P w=.ok vs w
 | [],[],_=>by simp [List.mapM_nil,Sem.run_pure]
 | .tmp t :: l,v :: vs,h=>by
  obtain ⟨h1,h2⟩:=h
  rw [List.mapM_cons,Sem.run_bind]
  unfold jW
  dsimp only
  rw [Sem.run_pure,Result.andThen_ok,Sem.run_bind]
  have e:=jZ tmps l vs h2
  unfold jW at e
  rw [e,Result.andThen_ok,Sem.run_pure,h1]
 | .cell a ty :: l,v :: vs,h=>by
  obtain ⟨⟨p,h1,h3⟩,h2⟩:=h
  rw [List.mapM_cons,Sem.run_bind]
  have e:=jZ tmps l vs h2
  have e1:(jW tmps (.cell a ty)).run P w=.ok v w:=by
   unfold jW
   dsimp only
   rw [h1,Sem.run_bind]
   simp only [asAddr,Sem.run_pure,Result.andThen_ok,h3]
  rw [e1,Result.andThen_ok,Sem.run_bind,e,Result.andThen_ok,Sem.run_pure]
 | .tmp _ :: _,[],h=>h.elim
 | .cell _ _ :: _,[],h=>h.elim
 | [],_ :: _,h=>h.elim
theorem nc {fn:Func} {tmps:Array Value} {l:List ResultVar} (h:fn.results=l.toArray) {vs:List Value} (hl:pE P tmps w l vs):(results fn tmps).run P w=.ok (if h:vs.toArray.size=1 then vs.toArray[0] else .tuple vs.toArray) w:=by
 have e:=jZ (P:=P) (w:=w) tmps l vs hl
 have e1:(fn.results.mapM (jW tmps)).run P w=.ok vs.toArray w:=by
  rw [h,List.mapM_toArray,Sem.run_map,e,Result.andThen_ok]
 have e2:results fn tmps=(fn.results.mapM (jW tmps)) >>= fun vs=>Pure.pure (if h:vs.size=1 then vs[0] else .tuple vs):=by
  unfold results
  congr 1
 rw [e2,Sem.run_bind,e1,Result.andThen_ok,Sem.run_pure]
theorem cB {fn:Func} {tmps:Array Value} {r1 r2:ResultVar} (h:fn.results=#[r1,r2]) {v1 v2:Value} (hl:pE P tmps w [r1,r2] [v1,v2]):(results fn tmps).run P w=.ok (.tuple #[v1,v2]) w:=nc (l:=[r1,r2]) h hl
theorem fv {fn:Func} {tmps:Array Value} {r1:ResultVar} (h:fn.results=#[r1]) {v1:Value} (hl:pE P tmps w [r1] [v1]):(results fn tmps).run P w=.ok v1 w:=nc (l:=[r1]) h hl
theorem iz {ty:TypeId} {b off:Nat} {cs:List Value} {d:TypeDesc} (hc:w.rangeAt b off cs) (hu:P.underlying ty=some d) (hd:d.isRow=true) (hi:(P.info? ty).map (·.size)=some cs.length):(loadVar ty ⟨b,off,none⟩).run P w=.ok (.agg cs.toArray) w:=run_loadVar_mid w b off ty cs d hc hu hd hi
theorem range_cell {b o:Nat} {v:Value} (h:w.rangeAt b o [v]):w.cell? ⟨b,o,none⟩=some v:=h 0 v rfl
theorem Blk.range {g:Nat} {t:TypeId} {cs:List Value} (h:Blk w g t cs.toArray):w.rangeAt g 0 cs:=by simpa using dK h
theorem fL {b o k:Nat} {cs pre mid post:List Value} (h:w.rangeAt b o cs) (e:cs=pre++(mid++post)) (hk:pre.length=k):w.rangeAt b (o+k) mid:=by
 subst e hk
 exact cz (dZ h)
theorem sL {w w':World} {b o:Nat} {cs:List Value} (h:w.rangeAt b o cs) (he:w'.heap[b]?=w.heap[b]?):w'.rangeAt b o cs:=by
 intro j v hv
 have:=h j v hv
 unfold World.cell? at this ⊢
 dsimp only at this ⊢
 rw [he]
 exact this
theorem Mem.range {w0 w:World} {L:List Ent} (h:Mem w0 w L) {b o:Nat} {cs:List Value} (hr:w0.rangeAt b o cs) (hb:b<w0.heap.size):w.rangeAt b o cs:=sL hr (h.old hb)
theorem dk {t:TypeId} {a b:Array Value} (h1:(P.info? t).map (·.size)=some a.size) (h2:(P.info? t).map (·.size)=some b.size):a.size=b.size:=Option.some.inj (h1.symm.trans h2)
theorem BE {a b:ByteArray} {c:Bool} (hc:decide (a=b)=c):(a.toList == b.toList)=c:=by
 rw [← hc,ByteArray.toList_eq,ByteArray.toList_eq,Bool.eq_iff_iff,beq_iff_eq,decide_eq_true_iff]
 constructor
 ·intro h
  cases a;cases b
  congr 1
  exact Array.toList_inj.1 h
 ·intro h
  rw [h]
theorem lh {ρ:Operand→Value} {o:Oper} (t r:TypeId) (x y:Operand) (ho:o.op=.binOp .eql t x y r) (a b:ByteArray) (hx:ρ x=.string a) (hy:ρ y=.string b) (c:Bool) (hc:decide (a=b)=c) (W:World):(execOp ρ o).run P W=.ok (.value (.bool c)) W:=by
 have e:=BE hc
 unfold execOp
 simp [go_sem,ho,hx,hy]
 exact e
theorem b3 {ρ:Operand→Value} {o:Oper} (t r:TypeId) (x y:Operand) (ho:o.op=.binOp .eql t x y r) (xs ys:Array Value) (hx:ρ x=.agg xs) (hy:ρ y=.agg ys) (hm:P.eqGuardType P.depth t=false) (c:Bool) (W:World) (hv:(Op.equal t (.agg xs) (.agg ys)).run P W=.ok c W):(execOp ρ o).run P W=.ok (.value (.bool c)) W:=by
 unfold execOp
 simp only [ho,hx,hy,Sem.run_bind,run_eqGuard_agg W .eql t x y xs ys hm,binOp,hv,Result.andThen_ok,Sem.run_pure]
theorem dL {ρ:Operand→Value} {o:Oper} (t r:TypeId) (x y:Operand) (ho:o.op=.binOp .neq t x y r) (xs ys:Array Value) (hx:ρ x=.agg xs) (hy:ρ y=.agg ys) (hm:P.eqGuardType P.depth t=false) (c:Bool) (W:World) (hv:(Op.equal t (.agg xs) (.agg ys)).run P W=.ok c W):(execOp ρ o).run P W=.ok (.value (.bool (!c))) W:=by
 unfold execOp
 simp only [ho,hx,hy,Sem.run_bind,run_eqGuard_agg W .neq t x y xs ys hm,binOp,hv,Result.andThen_ok,Sem.run_pure]
def zm (w:World) (E:Value→Ent) (u:Value) (W:World):Prop:=(E u).P W∧∀ b,(E u).F b→w.heap.size≤b∧b<W.heap.size
theorem yg (w:World) {E:Value→Ent} (h:∀ u,(E u).Ok):Fre.eN Bel (zm w E):=⟨fun u W W' hV hx=>⟨h u W W' hV.1 fun b _ hl=>Below.block hx b hl,fun b hf=>⟨(hV.2 b hf).1,Nat.lt_of_lt_of_le (hV.2 b hf).2 (Below.size hx)⟩⟩⟩
theorem dW {α:Type} {f:α→List Value} {w:World} {B s g n cap k:Nat} {t:TypeId} {l:List α} {x:α} (h0:0<s) (h:w.ownsRow B t s (.slice (some ⟨g,0,none⟩) n cap) l.length (l.flatMap f)) (hl:∀ x∈l,(f x).length=s) (hx:l[k]?=some x):w.rangeAt g (k*s) (f x):=by
 rcases aU h with ⟨h1,_⟩ | ⟨g',cap',cur,h1,_,_,_,hb,_,ht,_⟩
 ·cases h1
 ·injection h1 with e1 e2 e3
  injection e1 with e1
  injection e1 with e1
  subst e1
  intro j v hv
  have h2:=jg h0 l hl k x hx j v hv
  rw [← ht] at h2
  rw [hb.cell,← Array.getElem?_toList]
  rw [List.getElem?_take] at h2
  split at h2
  ·exact h2
  ·cases h2
theorem BU {w:World} {B s k:Nat} {t:TypeId} {u:Value} {xs:List Value} (h:w.ownsRow B t s u k xs) (hk:0<k):∃ g cap,u=.slice (some ⟨g,0,none⟩) k cap∧g<w.heap.size:=by
 obtain ⟨g,cap,e⟩:=du h hk
 exact ⟨g,cap,e,(aD h (by rw [e];rfl)).2⟩
theorem aP {w:World} {B s k:Nat} {t:TypeId} {u:Value} {xs:List Value} (h:w.ownsRow B t s u k xs):∃ A cap,u=.slice A k cap:=by
 rcases aU h with ⟨h1,h2,_⟩ | ⟨g,cap,cur,h1,_⟩
 ·exact ⟨none,0,by rw [h1,h2]⟩
 ·exact ⟨_,_,h1⟩
theorem Mem.seq {w0 w w':World} {L L':List Ent} (h:Mem w0 w L) (k:Mem w w' L'):Mem w0 w' (L'++L):=by
 have h2:=h.call k.below
 refine ⟨h2.below,fun e he=>?_,fun e he=>?_,fun e he b hf=>?_,List.pairwise_append.2 ⟨k.far,h2.far,fun x hx y hy b h1 h3=>?_⟩⟩
 ·rcases List.mem_append.1 he with he | he
  ·exact k.ok e he
  ·exact h2.ok e he
 ·rcases List.mem_append.1 he with he | he
  ·exact k.holds e he
  ·exact h2.holds e he
 ·rcases List.mem_append.1 he with he | he
  ·exact ⟨Nat.le_trans h.below.size (k.lo e he b hf).1,(k.lo e he b hf).2⟩
  ·exact h2.lo e he b hf
 ·have:=(k.lo x hx b h1).1
  have:=(h.lo y hy b h3).2
  omega
end
end Go.Proofs.YtomnhnmciopiiaaGreat
end
section
namespace Go.Proofs.YtomnhnmciopiiaaGreat
open Go Go.RowKit Go.Maps
set_option maxRecDepth 100000
def findD (l:List Itm) (c:Hsh):Drv:=((l.find? fun x=>decide (x.1=c)).map (·.2)).getD (⟨#[]⟩,[],[])
theorem zZ (l:List Nam):(az l).length≤l.length:=by have:=ef l l.length;rwa [List.take_length] at this
theorem tn {H:Type} [DecidableEq H] {l:List H} {c:H} (h:c∈l):∃ p:Nat,nk l c=(p:Int)∧p=l.idxOf c∧p<l.length:=by
 refine ⟨l.idxOf c,?_,rfl,List.idxOf_lt_length_iff.2 h⟩
 unfold nk
 rw [if_pos h]
end Go.Proofs.YtomnhnmciopiiaaGreat
end
section
namespace Go.Proofs.YtomnhnmciopiiaaGreat
open Go Go.RowKit
theorem tO {P:Program} {t n1 n2:Nat} {fields:Array Field} {z v1 v2:Value} (ht:P.underlying t=some (.struct fields)) (hz:∀ w,(zeroValue t).run P w=.ok z w) (hzs:z.cells.size=n1+n2)
  (hpl:∀ w,(fields.mapM fun f=>do pure (f.offset,← sizeOf f.type):Sem (Array (Nat×Nat))).run P w=.ok #[(0,n1),(n1,n2)] w) (h1:v1.cells.size=n1) (h2:v2.cells.size=n2) (w:World) :
  (Instr.build t #[(0,v1),(1,v2)]).run P w=.ok (.agg (v1.cells++v2.cells)) w:=by
 have hfill:Instr.fill (fun i=>(#[(0,n1),(n1,n2)]:Array (Nat×Nat))[i]?) z.cells [(0,v1),(1,v2)]=some (v1.cells++v2.cells):=by
  rw [lz _ _ 0 v1 _ 0 (by simp [h1]) (by omega)]
  rw [lz _ _ 1 v2 [] n1 (by simp [h2]) (by simp;omega)]
  unfold Instr.fill
  congr 1
  apply Array.ext'
  have e1:v1.cells.toList.length=n1:=by rw [Array.length_toList,h1]
  have e2:z.cells.toList.length=n1+n2:=by rw [Array.length_toList,hzs]
  simp only [List.take_zero,List.nil_append,Array.toList_append,Nat.zero_add,h1,h2]
  rw [List.take_left' e1,List.drop_of_length_le (by rw [List.length_append,List.length_drop];omega),List.append_nil]
 unfold Instr.build
 simp only [Sem.run_bind,hz,Result.andThen_ok,run_underlying ht]
 rw [hpl]
 simp only [Result.andThen_ok]
 rw [hfill]
 rfl
theorem gy {P:Program} {ρ:Operand→Value} {o:Oper} (t:TypeId) (x y:Operand) (ho:o.op=.build t #[(0,x),(1,y)]) {n1 n2:Nat} {fields:Array Field} {z v1 v2:Value} (hx:ρ x=v1) (hy:ρ y=v2) (ht:P.underlying t=some (.struct fields)) (hz:∀ w,(zeroValue t).run P w=.ok z w) (hzs:z.cells.size=n1+n2)
  (hpl:∀ w,(fields.mapM fun f=>do pure (f.offset,← sizeOf f.type):Sem (Array (Nat×Nat))).run P w=.ok #[(0,n1),(n1,n2)] w) (h1:v1.cells.size=n1) (h2:v2.cells.size=n2) (w:World) :
  (execOp ρ o).run P w=.ok (.value (.agg (v1.cells++v2.cells))) w:=by
 have h:=tO (P:=P) ht hz hzs hpl h1 h2 w
 unfold execOp
 simp only [ho,List.map_toArray,List.map_cons,List.map_nil,hx,hy,Sem.run_bind,h,Result.andThen_ok,Sem.run_pure]
end Go.Proofs.YtomnhnmciopiiaaGreat
end
section
namespace Go.Proofs.YtomnhnmciopiiaaGreat
open Go Go.RowKit Go.Maps
set_option maxRecDepth 100000
theorem cN {h:Hsh} (hh:okH h):(Tryz.prog.info? 34).map (·.size)=some (bv h).length:=by have:=eR hh;simpa using this
theorem fP:(Tryz.prog.info? 26).map (·.size)=some zcD.size:=by kernel_rfl
theorem dF (d:Drv) (v1 v2:Value):(Tryz.prog.info? 26).map (·.size)=some (dC d v1 v2).toArray.size:=by kernel_rfl
theorem bJ (d:Drv) (v1 v2:Value):(Tryz.prog.info? 26).map (·.size)=some (dC d v1 v2).length:=by kernel_rfl
theorem ll (d:Drv) {v1 v2:Value} (h1:v1.oneCell'=true) (h2:v2.oneCell'=true):(dC d v1 v2).toArray.all (·.oneCell')=true:=all_oneCell_toArray fun v hv=>by
 simp only [dC,List.mem_cons,List.not_mem_nil,or_false] at hv
 rcases hv with rfl | rfl | rfl
 ·rfl
 ·exact h1
 ·exact h2
theorem cG {w:World} {b o:Nat} {d:Drv} {v1 v2:Value} (h:w.rangeAt b o (dC d v1 v2)):w.rangeAt b (o+1) [v1]:=fL (pre:=[.string d.1]) (post:=[v2]) h rfl rfl
theorem js {w:World} {b o:Nat} {d:Drv} {v1 v2:Value} (h:w.rangeAt b o (dC d v1 v2)):w.rangeAt b (o+2) [v2]:=fL (pre:=[.string d.1,v1]) (post:=[]) h rfl rfl
theorem gh {w:World} {b o:Nat} {d:Drv} {v1 v2:Value} (h:w.rangeAt b o (dC d v1 v2)):w.rangeAt b o [.string d.1]:=cz (c2:=[v1,v2]) h
theorem aO.iM {w:World} {B:Nat} {d:Drv} {v1 v2:Value} (h:aO w B d v1 v2):v1.oneCell'=true∧v2.oneCell'=true:=by
 obtain ⟨A,cap,rfl,_⟩:=ak h.ins
 obtain ⟨A2,cap2,rfl,_⟩:=ak h.rcp
 exact ⟨rfl,rfl⟩
def Au (B:Nat) (d:Drv) (u1 u2:Value):Ent:=⟨fun b=>u1.ownBlock=some b∨u2.ownBlock=some b,fun w=>bx w B d u1 u2⟩
theorem AG (B:Nat) (d:Drv) (u1 u2:Value):(Au B d u1 u2).Ok:=fun _ _ h hk=>⟨h.name,h.okn,h.okb,ao h.oc fun g hg hl=>hk g (.inl hg) hl,ao h.kL fun g hg hl=>hk g (.inr hg) hl⟩
theorem AU {w:World} {B:Nat} {d:Drv} {u1 u2:Value} (h:bx w B d u1 u2) {b:Nat} (hf:(Au B d u1 u2).F b):B≤b∧b<w.heap.size:=by
 rcases hf with hf | hf
 ·exact aD h.oc hf
 ·exact aD h.kL hf
theorem nq {α β:Type} {f:β→List Value} {pr:β→α} {t e:TypeId} {L:Lay α} (h0:0<L.n) {w:World} {R:Nat} {v:Value} {l:List β} (hown:w.ownsRow R e L.n v l.length (l.flatMap f)) (B:Nat) (hB:w.heap.size≤B) (hat:∀ x∈l,L.At w B (f x) (pr x)):(Lay.slice t L).At w B [v] (l.map pr):=by
 have hlen:∀ x∈l,(f x).length=L.n:=fun x hx=>L.len (hat x hx)
 rcases aU hown with ⟨rfl,hl,_⟩ | ⟨g,cap,cur,rfl,hbg,hnc,hcm,hg,hcs,htake,_⟩
 ·obtain rfl:=List.eq_nil_of_length_eq_zero hl
  exact ⟨none,0,rfl,Nat.le_refl _,Nat.zero_le _,(fun _=>rfl),fun h=>absurd h (by simp)⟩
 ·refine ⟨_,cap,by rw [List.length_map],by rw [List.length_map];exact hnc,hcm,(fun h=>by cases h),fun _=>⟨g,0,rfl,by have:=hg.lt;omega,fun j x hj=>?_⟩⟩
  rw [List.getElem?_map] at hj
  cases hy:l[j]? with
  | none=>rw [hy] at hj;cases hj
  | some y =>
   rw [hy] at hj
   have hxy:pr y=x:=Option.some.inj hj
   subst hxy
   refine ⟨f y,fun i u hu=>?_,hat y (List.mem_of_getElem? hy)⟩
   have h2:=jg h0 l hlen j y hy i u hu
   rw [hg.cell,← Array.getElem?_toList,Nat.zero_add]
   rw [← htake] at h2
   have hlt:j*L.n+i<l.length*L.n:=by
    have:=(List.getElem?_eq_some_iff.1 h2).1
    rw [List.length_take] at this
    omega
   rwa [List.getElem?_take_of_lt hlt] at h2
abbrev dD:=Itm×Value×Value
def tV (p:dD):List Value:=tC p.1 p.2.1 p.2.2
def ix (B:Nat) (p:dD):Ent:=Au B p.1.2 p.2.1 p.2.2
theorem uR (B:Nat) (p:dD):(ix B p).Ok:=AG _ _ _ _
theorem bx.base {w:World} {B B':Nat} {d:Drv} {u1 u2:Value} (h:bx w B d u1 u2) (hB:∀ b,(Au B d u1 u2).F b→B'≤b):bx w B' d u1 u2 :=
 ⟨h.name,h.okn,h.okb,bS h.oc fun g hg=>hB g (.inl hg),bS h.kL fun g hg=>hB g (.inr hg)⟩
theorem vn:(Tryz.prog.info? 59).map (fun i=>(i.zero,i.size,i.bytes))=some (some (.agg zcT),23,88):=by kernel_rfl
end Go.Proofs.YtomnhnmciopiiaaGreat
end
section
namespace Go.Proofs.YtomnhnmciopiiaaGreat
open Go Go.RowKit
set_option maxRecDepth 100000
theorem il:∀ (x y:List UInt8),(!Op.bytesLess x y&&!(x == y))=Op.bytesLess y x
 | [],[]=>rfl
 | a :: x,[]=>rfl
 | [],b :: y=>rfl
 | a :: x,b :: y=>by
  have ih:=il x y
  simp only [Op.bytesLess,List.cons_beq_cons]
  by_cases h:a=b
  ·subst h
   have h1:¬ a<a:=by simp
   simp only [h1,decide_false,beq_self_eq_true,Bool.true_and,Bool.false_or]
   exact ih
  ·have e1:(a == b)=false:=beq_eq_false_iff_ne.2 h
   have e2:(b == a)=false:=beq_eq_false_iff_ne.2 fun e=>h e.symm
   rw [e1,e2]
   simp only [Bool.false_and,Bool.or_false,Bool.not_false,Bool.and_true]
   have hn:a.toNat ≠ b.toNat:=fun e=>h (UInt8.toNat_inj.1 e)
   by_cases h2:a<b
   ·have h3:¬ b<a:=fun h3=>by
     have:=UInt8.lt_iff_toNat_lt.1 h2
     have:=UInt8.lt_iff_toNat_lt.1 h3
     omega
    rw [decide_eq_true h2,decide_eq_false h3]
    rfl
   ·have h3:b<a:=UInt8.lt_iff_toNat_lt.2 (by
     have:¬ a.toNat<b.toNat:=fun h4=>h2 (UInt8.lt_iff_toNat_lt.2 h4)
     omega)
    rw [decide_eq_false h2,decide_eq_true h3]
    rfl
end Go.Proofs.YtomnhnmciopiiaaGreat
end
section
namespace Go.Proofs.YtomnhnmciopiiaaGreat
open Go Go.RowKit
section
variable {P:Program} {ops:Array Oper} {rest:List Oper} {o:Oper} {a:Act} {w:World} {Q:Exit→Act→World→Prop} {K:Act→World→Prop}
theorem ab (h:K a w):Exit.then K Q .normal a w:=h
theorem aj {id:Nat} (h:Q (.exit id) a w):Exit.then K Q (.exit id) a w:=h
theorem aq {id:Nat} (h:Q .normal a w):Exit.inBlock id Q .normal a w:=h
theorem ax {id:Nat} (h:Q .normal a w):Exit.inBlock id Q (.exit id) a w:=by
 simp only [Exit.inBlock,if_true]
 exact h
theorem an (hw:Region.wanted o (yielded ops a.tmps)=true) (f:FuncId) (args:Array Value) (hrun:(execOp a.eval o).run P w=.ok (.enter f args) w) {R:Ending→World→Prop} (hc:Calls P f args w R)
  (h:∀ e w',R e w'→∃ v,e=.returned v∧wpList P ops Q rest (a.put o.dst v) w'):wpList P ops Q (o :: rest) a w :=
 jM hw fun K hK=>by
  unfold Oper.wp
  rw [hrun,Oper.upon_enter]
  refine hc.mono fun e w' hr=>?_
  obtain ⟨v,rfl,h2⟩:=h e w' hr
  exact hK _ _ h2
theorem tw {f:FuncId} {args:Array Value} {v:Value} (h:Calls P f args w fun e w'=>e=.returned v∧w'=w):Calls P f args w fun e w'=>e=.returned v∧Bel w w' :=
 h.mono fun _ _ ⟨h1,h2⟩=>⟨h1,h2▸Below.refl _ _⟩
end
theorem aG {w:World} {B s n cap k:Nat} {A:Option Addr} {t:TypeId} {xs:List Value} (h:w.ownsRow B t s (.slice A n cap) k xs) (hk:0<k):∃ g,A=some ⟨g,0,none⟩∧g<w.heap.size:=by
 obtain ⟨g,c,e,hl⟩:=BU h hk
 injection e with e1 _ _
 exact ⟨g,e1,hl⟩
theorem av {α:Type} {l:List α} {j:Nat} {x:α} (h:l[j]?=some x):l.drop j=x :: l.drop (j+1):=by
 obtain ⟨h1,rfl⟩:=List.getElem?_eq_some_iff.1 h
 exact List.drop_eq_getElem_cons h1
theorem bF {α:Type} {l:List α} {j:Nat} (h:l.length≤j):l.drop j=[]:=List.drop_eq_nil_of_le h
section
variable {P:Program} {ρ:Operand→Value} {o:Oper}
theorem Bo (t r:TypeId) (x y:Operand) (ho:o.op=.binOp .add t x y r) (k:IntKind) (a b c:Int) (hx:ρ x=.int k a) (hy:ρ y=.int k b) (hc:IntKind.wrap k (a+b)=c) (W:World):(execOp ρ o).run P W=.ok (.value (.int k c)) W:=by
 subst hc
 unfold execOp
 simp [ho,hx,hy,go_sem,eqGuard,binOp]
theorem BG (t r:TypeId) (x y:Operand) (ho:o.op=.binOp .sub t x y r) (k:IntKind) (a b c:Int) (hx:ρ x=.int k a) (hy:ρ y=.int k b) (hc:IntKind.wrap k (a-b)=c) (W:World):(execOp ρ o).run P W=.ok (.value (.int k c)) W:=by
 subst hc
 unfold execOp
 simp [ho,hx,hy,go_sem,eqGuard,binOp]
theorem BA (t r:TypeId) (x y:Operand) (ho:o.op=.binOp .mul t x y r) (k:IntKind) (a b c:Int) (hx:ρ x=.int k a) (hy:ρ y=.int k b) (hc:IntKind.wrap k (a*b)=c) (W:World):(execOp ρ o).run P W=.ok (.value (.int k c)) W:=by
 subst hc
 unfold execOp
 simp [ho,hx,hy,go_sem,eqGuard,binOp]
theorem Bl (t r:TypeId) (x y:Operand) (ho:o.op=.binOp .lss t x y r) (k:IntKind) (a b:Int) (hx:ρ x=.int k a) (hy:ρ y=.int k b) (c:Bool) (hc:decide (a<b)=c) (W:World):(execOp ρ o).run P W=.ok (.value (.bool c)) W:=by
 subst hc
 unfold execOp
 simp [ho,hx,hy,go_sem,eqGuard,binOp]
theorem BM (t r:TypeId) (x y:Operand) (ho:o.op=.binOp .gtr t x y r) (k:IntKind) (a b:Int) (hx:ρ x=.int k a) (hy:ρ y=.int k b) (c:Bool) (hc:decide (b<a)=c) (W:World):(execOp ρ o).run P W=.ok (.value (.bool c)) W:=by
 subst hc
 unfold execOp
 simp [ho,hx,hy,go_sem,eqGuard,binOp]
theorem BS (t r:TypeId) (x y:Operand) (ho:o.op=.binOp .leq t x y r) (k:IntKind) (a b:Int) (hx:ρ x=.int k a) (hy:ρ y=.int k b) (c:Bool) (hc:decide (a≤b)=c) (W:World):(execOp ρ o).run P W=.ok (.value (.bool c)) W:=by
 subst hc
 unfold execOp
 simp [ho,hx,hy,go_sem,eqGuard,binOp]
theorem BD (t r:TypeId) (x y:Operand) (ho:o.op=.binOp .geq t x y r) (k:IntKind) (a b:Int) (hx:ρ x=.int k a) (hy:ρ y=.int k b) (c:Bool) (hc:decide (b≤a)=c) (W:World):(execOp ρ o).run P W=.ok (.value (.bool c)) W:=by
 subst hc
 unfold execOp
 simp [ho,hx,hy,go_sem,eqGuard,binOp]
theorem Bw (t r:TypeId) (x y:Operand) (ho:o.op=.binOp .eql t x y r) (k:IntKind) (a b:Int) (hx:ρ x=.int k a) (hy:ρ y=.int k b) (c:Bool) (hc:decide (a=b)=c) (W:World):(execOp ρ o).run P W=.ok (.value (.bool c)) W:=by
 subst hc
 unfold execOp
 simp [ho,hx,hy,go_sem,eqGuard,binOp]
 try rfl
theorem uw (t r:TypeId) (x y:Operand) (ho:o.op=.binOp .neq t x y r) (k:IntKind) (a b:Int) (hx:ρ x=.int k a) (hy:ρ y=.int k b) (c:Bool) (hc:decide (a=b)=c) (W:World):(execOp ρ o).run P W=.ok (.value (.bool (!c))) W:=by
 subst hc
 unfold execOp
 simp [ho,hx,hy,go_sem,eqGuard,binOp]
 try rfl
theorem tx (t:TypeId) (x:Operand) (ho:o.op=.unOp .not t x) (a:Bool) (hx:ρ x=.bool a) (W:World):(execOp ρ o).run P W=.ok (.value (.bool (!a))) W:=by
 unfold execOp
 simp [ho,hx,go_sem,Op.unary]
theorem fj (c x y:Operand) (ho:o.op=.pick c x y) (b:Bool) (hc:ρ c=.bool b) (v:Value) (hv:(if b then ρ x else ρ y)=v) (W:World):(execOp ρ o).run P W=.ok (.value v) W:=by
 unfold execOp
 subst hv
 simp [ho,hc,go_sem]
theorem aZ (x:Operand) (ho:o.op=.move x) (v:Value) (hv:ρ x=v) (W:World):(execOp ρ o).run P W=.ok (.value v) W:=by
 unfold execOp
 simp [ho,hv,go_sem]
theorem lJ (x:Operand) (ho:o.op=.assign x) (v:Value) (hv:ρ x=v) (W:World):(execOp ρ o).run P W=.ok (.value v) W:=by
 unfold execOp
 simp [ho,hv,go_sem]
theorem zO (t r:TypeId) (x y:Operand) (ho:o.op=.binOp .lss t x y r) (a b:ByteArray) (hx:ρ x=.string a) (hy:ρ y=.string b) (c:Bool) (hc:Op.bytesLess a.toList b.toList=c) (W:World):(execOp ρ o).run P W=.ok (.value (.bool c)) W:=by
 subst hc
 unfold execOp
 simp [ho,hx,hy,go_sem,eqGuard,binOp,Op.stringOp]
theorem z6 (t r:TypeId) (x y:Operand) (ho:o.op=.binOp .geq t x y r) (a b:ByteArray) (hx:ρ x=.string a) (hy:ρ y=.string b) (c:Bool) (hc:Op.bytesLess a.toList b.toList=c) (W:World):(execOp ρ o).run P W=.ok (.value (.bool (!c))) W:=by
 subst hc
 unfold execOp
 simp [ho,hx,hy,go_sem,eqGuard,binOp,Op.stringOp]
end
end Go.Proofs.YtomnhnmciopiiaaGreat
end
section
namespace Go.Proofs.YtomnhnmciopiiaaGreat
open Go Go.RowKit
section
variable {P:Program} {ops:Array Oper} {rest l l':List Oper} {o:Oper} {a a' a1:Act} {w:World} {Q:Exit→Act→World→Prop} {K:Act→World→Prop} {v:Value} {tl:List Value} {i:Nat}
def Ru (P:Program) (ops:Array Oper) (Q:Exit→Act→World→Prop) (l l':List Oper) (a a':Act):Prop:=∀ w,wpList P ops Q l' a' w→wpList P ops Q l a w
theorem Ru.nil:Ru P ops Q l l a a:=fun _ h=>h
theorem Ru.nm (e:a=a1) (h:Ru P ops Q l l' a1 a'):Ru P ops Q l l' a a':=e▸h
theorem Ru.val (hw:Region.wanted o (yielded ops a.tmps)=true) (hr:∀ w,(execOp a.eval o).run P w=.ok (.value v) w) (e:a.put o.dst v=a1) (h:Ru P ops Q rest l' a1 a'):Ru P ops Q (o :: rest) l' a a' :=
 fun w hh=>aF hw v w (hr w) (e▸h w hh)
theorem gl (h:a.tmps.toList.drop i=v :: tl):a.eval (.tmp i)=v:=by
 have h1:a.tmps.toList[i]?=some v:=by
  have h2:=congrArg (fun l=>l[0]?) h
  simpa using h2
 show a.tmps.getD i undef=v
 rw [Array.getD_eq_getD_getElem?]
 rw [Array.getElem?_toList] at h1
 rw [h1]
 rfl
theorem W.n (h:o.guard=none) {y:Nat→Option Bool}:Region.wanted o y=true:=by simp only [Region.wanted,h]
theorem yl {g:Nat} {og:Oper} {t:Tmp} {vb:Value} {c:Bool} {tl1:List Oper} {tl2:List Value} (ho:ops.toList.drop g=og :: tl1) (hd:og.dst=some t) (hx:a.tmps.toList.drop t=vb :: tl2) (hb:vb=.bool c):yielded ops a.tmps g=some c:=by
 have h1:ops[g]?=some og:=by
  have h2:=congrArg (fun l=>l[0]?) ho
  simpa using h2
 have h3:a.tmps[t]?=some vb:=by
  have h2:=congrArg (fun l=>l[0]?) hx
  simpa using h2
 unfold yielded
 simp [h1,hd,h3,hb]
theorem W.g {g:Nat} {b c d:Bool} (hg:o.guard=some (g,b)) (hy:yielded ops a.tmps g=some c) (hc:(c == b)=d):Region.wanted o (yielded ops a.tmps)=d:=by
 simp only [Region.wanted,hg,hy]
 cases c<;>cases b<;>simp_all
theorem W.u {g:Nat} {b:Bool} (hg:o.guard=some (g,b)) (hy:yielded ops a.tmps g=none):Region.wanted o (yielded ops a.tmps)=false:=by
 simp only [Region.wanted,hg,hy]
 simp
theorem Ru.sk (hw:Region.wanted o (yielded ops a.tmps)=false) (e:a.put o.dst undef=a1) (h:Ru P ops Q rest l' a1 a'):Ru P ops Q (o :: rest) l' a a' :=
 fun w hh=>wpList_skip hw (e▸h w hh)
theorem Bk {ρ:Operand→Value} (x:Operand) (k:Nat) (ho:o.op=.extract x k) {vs:Array Value} (hx:ρ x=.tuple vs) (hv:vs[k]?=some v) (W:World):(execOp ρ o).run P W=.ok (.value v) W:=by
 unfold execOp
 simp [ho,hx,Instr.extract,hv,go_sem]
theorem y6 {ρ:Operand→Value} (x:Operand) (t:TypeId) (ho:o.op=.call { callee:=.builtin .len,args:=#[x],argTypes:=#[t] }) {A:Option Addr} {n c:Nat} (hx:ρ x=.slice A n c) (hu:((P.underlying t).any fun u=>match u with | .slice _=>true | _=>false)=true) (W:World):(execOp ρ o).run P W=.ok (.value (.int .i64 (n:Int))) W:=by
 cases h:P.underlying t with
 | none=>rw [h] at hu;cases hu
 | some u =>
  rw [h] at hu
  cases u<;>simp at hu
  unfold execOp
  simp [ho,hx,resolve,invoke,builtin,Builtin.len_,go_sem,goInt,run_underlying (P:=P) h]
theorem Ru.ln {A:Option Addr} {n c:Nat} {t:TypeId} (ho:o.op=.call { callee:=.builtin .len,args:=#[.tmp i],argTypes:=#[t] }) (hx:a.tmps.toList.drop i=.slice A n c :: tl) (hu:((P.underlying t).any fun u=>match u with | .slice _=>true | _=>false)=true) (hw:Region.wanted o (yielded ops a.tmps)=true) (e:a.put o.dst (.int .i64 (n:Int))=a1) (h:Ru P ops Q rest l' a1 a'):Ru P ops Q (o :: rest) l' a a' :=
 .val hw (y6 _ _ ho (gl hx) hu) e h
def yS (ops:Array Oper) (t:List Value) (g:Nat):Option Bool:=match ops.toList.drop g with
 | og :: _=>match og.dst with
  | some d=>match t.drop d with
   | .bool b :: _=>some b
   | _=>none
  | none=>none
 | []=>none
def opL (t:List Value):Operand→List Value
 | .tmp i=>t.drop i
 | .const v=>[v]
 | _=>[]
def vB (o:Oper) (t:List Value):List Value:=match o.op with
 | .move x=>opL t x
 | .assign x=>opL t x
 | .pick (.tmp c) x y=>match t.drop c with
  | .bool true :: _=>opL t x
  | .bool false :: _=>opL t y
  | _=>[]
 | .unOp .not _ (.tmp i)=>match t.drop i with
  | .bool true :: _=>[.bool false]
  | .bool false :: _=>[.bool true]
  | _=>[]
 | .extract (.tmp i) k=>match t.drop i with
  | .tuple vs :: _=>vs.toList.drop k
  | _=>[]
 | _=>[]
def vL (ops:Array Oper) (o:Oper) (t:List Value):List Value:=match o.guard with
 | none=>vB o t
 | some (g,b)=>match yS ops t g with
  | some true=>match b with
   | true=>vB o t
   | false=>[undef]
  | some false=>match b with
   | true=>[undef]
   | false=>vB o t
  | none=>[undef]
theorem lp {α:Type} {l:List α} {i:Nat} {x:α} {tl:List α} (h:l.drop i=x :: tl):l[i]?=some x:=by
 have h2:=congrArg (fun l=>l[0]?) h
 simpa using h2
theorem pK {α:Type} {l:List α} {i:Nat} (h:l.drop i=[]):l[i]?=none:=by
 have h2:=congrArg (fun l=>l[0]?) h
 simpa using h2
theorem B6 (ops:Array Oper) (t:Array Value) (g:Nat):yS ops t.toList g=yielded ops t g:=by
 unfold yS yielded
 cases h:ops.toList.drop g with
 | nil =>
  have h1:=pK h
  rw [Array.getElem?_toList] at h1
  simp [h1]
 | cons og tl =>
  have h1:=lp h
  rw [Array.getElem?_toList] at h1
  simp only [h1,Option.bind_some]
  cases hd:og.dst with
  | none=>rfl
  | some d =>
   simp only [Option.bind_some]
   cases h2:t.toList.drop d with
   | nil =>
    have h3:=pK h2
    rw [Array.getElem?_toList] at h3
    simp [h3]
   | cons v tl2 =>
    have h3:=lp h2
    rw [Array.getElem?_toList] at h3
    simp only [h3]
    cases v<;>rfl
theorem qS {x:Operand} (h:opL a.tmps.toList x=v :: tl):a.eval x=v:=by
 cases x with
 | tmp i=>exact gl h
 | const u =>
  simp only [opL,List.cons.injEq] at h
  exact h.1
 | _=>simp [opL] at h
theorem yO (h:vB o a.tmps.toList=v :: tl) (w:World):(execOp a.eval o).run P w=.ok (.value v) w:=by
 unfold vB at h
 split at h
 ·rename_i x ho
  exact aZ x ho v (qS h) w
 ·rename_i x ho
  exact lJ x ho v (qS h) w
 ·rename_i c x y ho
  split at h
  ·rename_i hc
   exact fj _ _ _ ho true (gl hc) v (qS h) w
  ·rename_i hc
   exact fj _ _ _ ho false (gl hc) v (qS h) w
  ·cases h
 ·rename_i t i ho
  split at h
  ·rename_i hc
   injection h with h _
   subst h
   exact tx t _ ho true (gl hc) w
  ·rename_i hc
   injection h with h _
   subst h
   exact tx t _ ho false (gl hc) w
  ·cases h
 ·rename_i i k ho
  split at h
  ·rename_i vs _ hc
   have h1:=lp h
   rw [Array.getElem?_toList] at h1
   exact Bk _ k ho (gl hc) h1 w
  ·cases h
 ·cases h
theorem Bb (h:vL ops o a.tmps.toList=v :: tl):(Region.wanted o (yielded ops a.tmps)=true∧∀ w,(execOp a.eval o).run P w=.ok (.value v) w)∨(Region.wanted o (yielded ops a.tmps)=false∧v=undef):=by
 unfold vL at h
 cases hg:o.guard with
 | none =>
  rw [hg] at h
  exact .inl ⟨W.n hg,fun w=>yO h w⟩
 | some p =>
  obtain ⟨g,b⟩:=p
  rw [hg] at h
  simp only [B6] at h
  cases hy:yielded ops a.tmps g with
  | none =>
   rw [hy] at h
   injection h with h _
   exact .inr ⟨W.u hg hy,h.symm⟩
  | some c =>
   rw [hy] at h
   cases c<;>cases b
   ·exact .inl ⟨W.g hg hy rfl,fun w=>yO h w⟩
   ·injection h with h _
    exact .inr ⟨W.g hg hy rfl,h.symm⟩
   ·injection h with h _
    exact .inr ⟨W.g hg hy rfl,h.symm⟩
   ·exact .inl ⟨W.g hg hy rfl,fun w=>yO h w⟩
theorem Ru.st (hv:vL ops o a.tmps.toList=v :: tl) (e:a.put o.dst v=a1) (h:Ru P ops Q rest l' a1 a'):Ru P ops Q (o :: rest) l' a a':=by
 rcases Bb (P:=P) hv with ⟨h1,h2⟩ | ⟨h1,rfl⟩
 ·exact .val h1 h2 e h
 ·exact .sk h1 e h
theorem rn (h:wpList P ops Q l' a' w) (e:Ru P ops Q l l' a a':=by
  (first | (refine' Ru.nm (by simp only [Act.put,List.setIfInBounds_toArray,List.set_cons_zero,List.set_cons_succ];rfl) ?_;rotate_left 2) | skip)
  repeat (first
   | (refine' Ru.st rfl (by simp only [Act.put,List.setIfInBounds_toArray,List.set_cons_zero,List.set_cons_succ];rfl) ?_;rotate_left 2)
   | (refine' Ru.ln rfl rfl (by kernel_rfl) (by first | exact W.n rfl | exact W.g rfl (yl rfl rfl rfl (by with_reducible rfl)) rfl) (by simp only [Act.put,List.setIfInBounds_toArray,List.set_cons_zero,List.set_cons_succ];rfl) ?_;rotate_left 2))
  exact Ru.nil):wpList P ops Q l a w:=e w h
theorem rl {id:Nat} (h:wpList P l.toArray Q l' a' w) (e:Ru P l.toArray Q l l' a a':=by
  (first | (refine' Ru.nm (by simp only [Act.put,List.setIfInBounds_toArray,List.set_cons_zero,List.set_cons_succ];rfl) ?_;rotate_left 2) | skip)
  repeat (first
   | (refine' Ru.st rfl (by simp only [Act.put,List.setIfInBounds_toArray,List.set_cons_zero,List.set_cons_succ];rfl) ?_;rotate_left 2)
   | (refine' Ru.ln rfl rfl (by kernel_rfl) (by first | exact W.n rfl | exact W.g rfl (yl rfl rfl rfl (by with_reducible rfl)) rfl) (by simp only [Act.put,List.setIfInBounds_toArray,List.set_cons_zero,List.set_cons_succ];rfl) ?_;rotate_left 2))
  exact Ru.nil):(Code.region id l.toArray false).wp P Q a w:=wp_region_lit (e w h)
theorem rv (hr:(execOp a.eval o).run P w=.ok (.value v) w) (h:wpList P ops Q l' a' w) (hw:Region.wanted o (yielded ops a.tmps)=true:=by kernel_rfl) (e:Ru P ops Q rest l' (a.put o.dst v) a':=by
  (first | (refine' Ru.nm (by simp only [Act.put,List.setIfInBounds_toArray,List.set_cons_zero,List.set_cons_succ];rfl) ?_;rotate_left 2) | skip)
  repeat (first
   | (refine' Ru.st rfl (by simp only [Act.put,List.setIfInBounds_toArray,List.set_cons_zero,List.set_cons_succ];rfl) ?_;rotate_left 2)
   | (refine' Ru.ln rfl rfl (by kernel_rfl) (by first | exact W.n rfl | exact W.g rfl (yl rfl rfl rfl (by with_reducible rfl)) rfl) (by simp only [Act.put,List.setIfInBounds_toArray,List.set_cons_zero,List.set_cons_succ];rfl) ?_;rotate_left 2))
  exact Ru.nil):wpList P ops Q (o :: rest) a w:=aF hw v w hr (e w h)
theorem rvw {w':World} (hr:(execOp a.eval o).run P w=.ok (.value v) w') (h:wpList P ops Q rest (a.put o.dst v) w') (hw:Region.wanted o (yielded ops a.tmps)=true:=by kernel_rfl):wpList P ops Q (o :: rest) a w:=aF hw v w' hr h
theorem nt (h:K a w):wpList P ops (Exit.then K Q) [] a w:=h
theorem ks (h:K a w):Code.skip.wp P (Exit.then K Q) a w:=wp_skip h
theorem ct {c:Operand} {x y:Code} (h:x.wp P Q a w) (hc:a.eval c=.bool true:=by rfl):(Code.cond c x y).wp P Q a w:=wp_cond hc h
theorem cf {c:Operand} {x y:Code} (h:y.wp P Q a w) (hc:a.eval c=.bool false:=by rfl):(Code.cond c x y).wp P Q a w:=wp_cond hc h
end
section
variable {P:Program} {ρ:Operand→Value} {o:Oper} {W:World} {t r:TypeId} {x y:Operand} {k:IntKind} {p q:Int} {c:Bool}
theorem aB (hc:decide (p<q)=c) (ho:o.op=.binOp .lss t x y r:=by rfl) (hx:ρ x=.int k p:=by rfl) (hy:ρ y=.int k q:=by rfl):(execOp ρ o).run P W=.ok (.value (.bool c)) W:=Bl t r x y ho k p q hx hy c hc W
theorem rr (hc:decide (q<p)=c) (ho:o.op=.binOp .gtr t x y r:=by rfl) (hx:ρ x=.int k p:=by rfl) (hy:ρ y=.int k q:=by rfl):(execOp ρ o).run P W=.ok (.value (.bool c)) W:=BM t r x y ho k p q hx hy c hc W
theorem Cp (hc:decide (p≤q)=c) (ho:o.op=.binOp .leq t x y r:=by rfl) (hx:ρ x=.int k p:=by rfl) (hy:ρ y=.int k q:=by rfl):(execOp ρ o).run P W=.ok (.value (.bool c)) W:=BS t r x y ho k p q hx hy c hc W
theorem rI (hc:decide (q≤p)=c) (ho:o.op=.binOp .geq t x y r:=by rfl) (hx:ρ x=.int k p:=by rfl) (hy:ρ y=.int k q:=by rfl):(execOp ρ o).run P W=.ok (.value (.bool c)) W:=BD t r x y ho k p q hx hy c hc W
theorem qw (hc:decide (p=q)=c) (ho:o.op=.binOp .eql t x y r:=by rfl) (hx:ρ x=.int k p:=by rfl) (hy:ρ y=.int k q:=by rfl):(execOp ρ o).run P W=.ok (.value (.bool c)) W:=Bw t r x y ho k p q hx hy c hc W
theorem sD (hc:decide (p=q)=c) (ho:o.op=.binOp .neq t x y r:=by rfl) (hx:ρ x=.int k p:=by rfl) (hy:ρ y=.int k q:=by rfl):(execOp ρ o).run P W=.ok (.value (.bool (!c))) W:=uw t r x y ho k p q hx hy c hc W
theorem aR (z:Int) (ho:o.op=.binOp .add t x y r:=by rfl) (hx:ρ x=.int .i64 p:=by rfl) (hy:ρ y=.int .i64 q:=by rfl) (hc:IntKind.wrap .i64 (p+q)=z:=by first | (rw [Go.IntWalk.i64_in _ (by omega)];done) | (rw [Go.IntWalk.i64_in _ (by omega)];omega) | (rw [Go.IntWalk.i64_in _ (by omega)];push_cast;omega)):(execOp ρ o).run P W=.ok (.value (.int .i64 z)) W:=Bo t r x y ho .i64 p q z hx hy hc W
theorem xt (z:Int) (ho:o.op=.binOp .sub t x y r:=by rfl) (hx:ρ x=.int .i64 p:=by rfl) (hy:ρ y=.int .i64 q:=by rfl) (hc:IntKind.wrap .i64 (p-q)=z:=by first | (rw [Go.IntWalk.i64_in _ (by omega)];done) | (rw [Go.IntWalk.i64_in _ (by omega)];omega) | (rw [Go.IntWalk.i64_in _ (by omega)];push_cast;omega)):(execOp ρ o).run P W=.ok (.value (.int .i64 z)) W:=BG t r x y ho .i64 p q z hx hy hc W
theorem dw (j:Nat) {e:TypeId} {s b off n cap:Nat} (hu:P.underlying t=some (.slice e)) (hs:(P.info? e).map (·.size)=some s) (ho:o.op=.indexAddr t x y:=by rfl) (hx:ρ x=.slice (some ⟨b,off,none⟩) n cap:=by rfl) (hy:ρ y=.int .i64 (j:Int):=by rfl) (hj:j<n:=by omega):(execOp ρ o).run P W=.ok (.value (.pointer (some ⟨b,off+j*s,none⟩))) W:=by
 have h:=aJ (P:=P) (ρ:=ρ) (o:=o) t e x y ho b off n cap (j:Int) .i64 hx hy ⟨by omega,by omega⟩ s hu hs W
 rwa [Int.toNat_natCast] at h
theorem aT (j:Nat) {e:TypeId} {s b n cap:Nat} (hu:P.underlying t=some (.slice e)) (hs:(P.info? e).map (·.size)=some s) (ho:o.op=.indexAddr t x y:=by rfl) (hx:ρ x=.slice (some ⟨b,0,none⟩) n cap:=by rfl) (hy:ρ y=.int .i64 (j:Int):=by rfl) (hj:j<n:=by omega):(execOp ρ o).run P W=.ok (.value (.pointer (some ⟨b,j*s,none⟩))) W:=by
 have h:=aJ (P:=P) (ρ:=ρ) (o:=o) t e x y ho b 0 n cap (j:Int) .i64 hx hy ⟨by omega,by omega⟩ s hu hs W
 rwa [Int.toNat_natCast,Nat.zero_add] at h
theorem xld {b off:Nat} {cs:List Value} {d:TypeDesc} (hc:W.rangeAt b off cs) (hu:P.underlying t=some d) (hi:(P.info? t).map (·.size)=some cs.length) (ho:o.op=.load t x:=by rfl) (hx:ρ x=.pointer (some ⟨b,off,none⟩):=by rfl) (hd:d.isRow=true:=by rfl):(execOp ρ o).run P W=.ok (.value (.agg cs.toArray)) W:=ai t x ho b off hx cs d W hc hu hd hi
theorem xlc {a:Addr} {u:Value} {d:TypeDesc} (hc:W.cell? a=some u) (hu:P.underlying t=some d) (ho:o.op=.load t x:=by rfl) (hx:ρ x=.pointer (some a):=by rfl) (hd:d.isRow=false:=by rfl):(execOp ρ o).run P W=.ok (.value u) W:=exec_load_cell t x ho a hx u d W hu hd hc
theorem Cf {xs ys:Array Value} {d:Bool} (hv:(Op.equal t (.agg xs) (.agg ys)).run P W=.ok d W) (hc:d=c) (ho:o.op=.binOp .eql t x y r:=by rfl) (hx:ρ x=.agg xs:=by rfl) (hy:ρ y=.agg ys:=by rfl) (hm:P.eqGuardType P.depth t=false:=by kernel_rfl):(execOp ρ o).run P W=.ok (.value (.bool c)) W:=b3 t r x y ho xs ys hx hy hm c W (hc▸hv)
theorem j4 (a b:ByteArray) (hs:a.size+b.size≤9223372036854775807) (ho:o.op=.binOp .add t x y r:=by rfl) (hx:ρ x=.string a:=by rfl) (hy:ρ y=.string b:=by rfl):(execOp ρ o).run P W=.ok (.value (.string (a++b))) W:=a6 t x y r ho a b hx hy hs W
theorem sQ {b:Bool} (ho:o.op=.unOp .not t x:=by rfl) (hx:ρ x=.bool b:=by rfl):(execOp ρ o).run P W=.ok (.value (.bool (!b))) W:=tx t x ho b hx W
end
end Go.Proofs.YtomnhnmciopiiaaGreat
namespace Go.Proofs.YtomnhnmciopiiaaGreat.Fre
open Go Go.RowKit
section
variable {P:Program} {ops:Array Oper} {L:fY} {w0:World} {rest l l':List Oper} {o:Oper} {a a' a1:Act} {Q:Act→Prop} {X:World→World→Prop} {v:Value} {tl:List Value} {i:Nat}
def Rm (X:World→World→Prop) (P:Program) (ops:Array Oper) (L:fY) (w0:World) (Q:Act→Prop) (l l':List Oper) (a a':Act):Prop:=bN X P ops (aI L) w0 Q l' a'→bN X P ops (aI L) w0 Q l a
theorem Rm.nil:Rm X P ops L w0 Q l l a a:=fun h=>h
theorem Rm.nm (e:a=a1) (h:Rm X P ops L w0 Q l l' a1 a'):Rm X P ops L w0 Q l l' a a':=e▸h
theorem Rm.val (hB:cZ (L.map (·.1)) ops o=true) (hw:Region.wanted o (yielded ops a.tmps)=true) (hd:o.dst.bind (aI L)=none) (hr:∀ w,(execOp a.eval o).run P w=.ok (.value v) w) (e:a.put o.dst v=a1) (h:Rm X P ops L w0 Q rest l' a1 a'):Rm X P ops L w0 Q (o :: rest) l' a a' :=
 fun hh=>ae v hB hw hd (fun w _=>hr w) (e▸h hh)
def Bc:Op→Bool
 | .select _ _=>false
 | _=>true
theorem LB.b {keys:List Tmp} (h:Bc o.op=true) (hk:((o.looksAt ops).all fun s=>!keys.contains s)=true):cZ keys ops o=true:=by
 unfold cZ
 rw [hk,Bool.and_true]
 cases hop:o.op<;>first | rfl | (rw [hop] at h;cases h)
theorem LB.z (h:Bc o.op=true):cZ [] ops o=true:=LB.b h (by simp)
theorem Rm.ln {A:Option Addr} {n c:Nat} {t:TypeId} (ho:o.op=.call { callee:=.builtin .len,args:=#[.tmp i],argTypes:=#[t] }) (hx:a.tmps.toList.drop i=.slice A n c :: tl) (hu:((P.underlying t).any fun u=>match u with | .slice _=>true | _=>false)=true) (hB:cZ (L.map (·.1)) ops o=true) (hw:Region.wanted o (yielded ops a.tmps)=true) (hd:o.dst.bind (aI L)=none) (e:a.put o.dst (.int .i64 (n:Int))=a1) (h:Rm X P ops L w0 Q rest l' a1 a'):Rm X P ops L w0 Q (o :: rest) l' a a' :=
 .val hB hw hd (y6 _ _ ho (gl hx) hu) e h
theorem Rm.sk (hB:cZ (L.map (·.1)) ops o=true) (hw:Region.wanted o (yielded ops a.tmps)=false) (hd:o.dst.bind (aI L)=none) (e:a.put o.dst undef=a1) (h:Rm X P ops L w0 Q rest l' a1 a'):Rm X P ops L w0 Q (o :: rest) l' a a' :=
 fun hh=>bB hB hw hd (e▸h hh)
theorem Rm.st (hB:cZ (L.map (·.1)) ops o=true) (hd:o.dst.bind (aI L)=none) (hv:vL ops o a.tmps.toList=v :: tl) (e:a.put o.dst v=a1) (h:Rm X P ops L w0 Q rest l' a1 a'):Rm X P ops L w0 Q (o :: rest) l' a a':=by
 rcases Bb (P:=P) hv with ⟨h1,h2⟩ | ⟨h1,rfl⟩
 ·exact .val hB h1 hd h2 e h
 ·exact .sk hB h1 hd e h
theorem rmd (h:bN X P ops (aI L) w0 Q l' a') (e:Rm X P ops L w0 Q l l' a a':=by
  (first | (refine' Fre.Rm.nm (by simp only [Act.put,List.setIfInBounds_toArray,List.set_cons_zero,List.set_cons_succ];rfl) ?_;rotate_left 2) | skip)
  repeat (first
   | (refine' Fre.Rm.st (by first | exact Fre.LB.z rfl | exact Fre.LB.b rfl rfl) rfl rfl (by simp only [Act.put,List.setIfInBounds_toArray,List.set_cons_zero,List.set_cons_succ];rfl) ?_;rotate_left 2)
   | (refine' Fre.Rm.ln rfl rfl (by kernel_rfl) (by first | exact Fre.LB.z rfl | exact Fre.LB.b rfl rfl) (by first | exact W.n rfl | exact W.g rfl (yl rfl rfl rfl (by with_reducible rfl)) rfl) rfl (by simp only [Act.put,List.setIfInBounds_toArray,List.set_cons_zero,List.set_cons_succ];rfl) ?_;rotate_left 2))
  exact Fre.Rm.nil):bN X P ops (aI L) w0 Q l a:=e h
theorem mvv (hr:∀ w,Ext X w0 w→(execOp a.eval o).run P w=.ok (.value v) w) (h:bN X P ops (aI L) w0 Q l' a') (hB:cZ (L.map (·.1)) ops o=true:=by kernel_rfl) (hw:Region.wanted o (yielded ops a.tmps)=true:=by kernel_rfl) (hd:o.dst.bind (aI L)=none:=by kernel_rfl) (e:Rm X P ops L w0 Q rest l' (a.put o.dst v) a':=by
  (first | (refine' Fre.Rm.nm (by simp only [Act.put,List.setIfInBounds_toArray,List.set_cons_zero,List.set_cons_succ];rfl) ?_;rotate_left 2) | skip)
  repeat (first
   | (refine' Fre.Rm.st (by first | exact Fre.LB.z rfl | exact Fre.LB.b rfl rfl) rfl rfl (by simp only [Act.put,List.setIfInBounds_toArray,List.set_cons_zero,List.set_cons_succ];rfl) ?_;rotate_left 2)
   | (refine' Fre.Rm.ln rfl rfl (by kernel_rfl) (by first | exact Fre.LB.z rfl | exact Fre.LB.b rfl rfl) (by first | exact W.n rfl | exact W.g rfl (yl rfl rfl rfl (by with_reducible rfl)) rfl) rfl (by simp only [Act.put,List.setIfInBounds_toArray,List.set_cons_zero,List.set_cons_succ];rfl) ?_;rotate_left 2))
  exact Fre.Rm.nil):bN X P ops (aI L) w0 Q (o :: rest) a:=ae v hB hw hd hr (e h)
end
end Go.Proofs.YtomnhnmciopiiaaGreat.Fre
end
section
namespace Go.Proofs.YtomnhnmciopiiaaGreat
open Go Go.RowKit
theorem re {P:Program} {ρ:Operand→Value} {o:Oper} (t:TypeId) (xs:Array (Nat×Operand)) (ho:o.op=.build t xs) {fields:Array Field} {places:Array (Nat×Nat)} {z:Value} {cells:Array Value} (ht:P.underlying t=some (.struct fields)) (hz:∀ w,(zeroValue t).run P w=.ok z w)
  (hpl:∀ w,(fields.mapM fun f=>do pure (f.offset,← sizeOf f.type):Sem (Array (Nat×Nat))).run P w=.ok places w) (parts:List (Nat×Value)) (hx:(xs.map fun (i,x)=>(i,ρ x))=parts.toArray) (hf:Instr.fill (fun i=>places[i]?) z.cells parts=some cells) (w:World) :
  (execOp ρ o).run P w=.ok (.value (.agg cells)) w:=by
 have h:(Instr.build t parts.toArray).run P w=.ok (.agg cells) w:=by
  unfold Instr.build
  simp only [Sem.run_bind,hz,Result.andThen_ok,run_underlying ht]
  rw [hpl]
  simp only [Result.andThen_ok]
  rw [hf]
  rfl
 unfold execOp
 simp only [ho,hx,Sem.run_bind,h,Result.andThen_ok,Sem.run_pure]
end Go.Proofs.YtomnhnmciopiiaaGreat
end
section
namespace Go.Proofs.YtomnhnmciopiiaaGreat
open Go Go.RowKit Go.Maps
set_option maxRecDepth 100000
def rC (j m:Nat):Nam:=(⟨#[UInt8.ofNat (97+j)]⟩,((List.replicate 20 0,⟨#[]⟩),bX m,true))
def nds (ns:List Nat):List Nam:=ns.zipIdx.map fun p=>rC p.2 p.1
def gu (n:Nat) (ns:List Nat):Itm:=(bX n,(⟨#[100]⟩,nds ns,[]))
theorem Am (ns:List Nat):(nds ns).length=ns.length:=by simp [nds]
theorem za {ns:List Nat} {j m:Nat} (h:ns[j]?=some m):nds (ns.take (j+1))=nds (ns.take j)++[rC j m]:=by
 have hj:=(List.getElem?_eq_some_iff.1 h).1
 unfold nds
 rw [List.take_add_one,h,List.zipIdx_append,List.map_append,List.length_take,Nat.min_eq_left (by omega)]
 simp
theorem qx (j m:Nat):okN (rC j m):=⟨(by show 1≤maxLen;decide),⟨rfl,Nat.zero_le _⟩,yJ m⟩
theorem Bg (ns:List Nat):∀ x∈nds ns,okN x:=fun x hx=>by
 obtain ⟨p,_,rfl⟩:=List.mem_map.1 hx
 exact qx _ _
def itC (n:Nat) (u:Value):List Value:=bv (bX n)++[.string ⟨#[100]⟩,u,.slice none 0 0]
theorem mG (n:Nat) (u:Value):(itC n u).length=23:=rfl
theorem ve (n:Nat) {u:Value} (h:u.oneCell'=true):(itC n u).toArray.all (·.oneCell')=true:=all_oneCell_toArray fun v hv=>by
 rcases List.mem_append.1 hv with hv | hv
 ·exact bv1 _ v hv
 ·simp only [List.mem_cons,List.not_mem_nil,or_false] at hv
  rcases hv with rfl | rfl | rfl
  ·rfl
  ·exact h
  ·rfl
theorem yj {ρ:Operand→Value} {o:Oper} (x y:Operand) (ho:o.op=.build 59 #[(0,x),(1,y)]) (n:Nat) (h1:ρ x=.agg (bv (bX n)).toArray) (h2:ρ y=.agg #[.string ⟨#[100]⟩,.slice none 0 0,.slice none 0 0]) (w:World) :
  (execOp ρ o).run Tryz.prog w=.ok (.value (.agg (itC n (.slice none 0 0)).toArray)) w:=by
 refine Eq.trans (gy 59 x y ho (n1:=20) (n2:=3) (z:=.agg zcT) h1 h2 Tryz.underlying59 (fun w=>by kernel_rfl) (by kernel_rfl) (fun w=>by kernel_rfl) (by kernel_rfl) (by kernel_rfl) w) ?_
 rfl
def zcI:Array Value:=((bv (List.replicate 20 0)++[Value.string ByteArray.empty])++(bv (List.replicate 20 0)++[Value.bool false])).toArray
theorem y1 {ρ:Operand→Value} {o:Oper} (x y:Operand) (ho:o.op=.build 85 #[(1,x),(2,y)]) (m:Nat) (h1:ρ x=.agg (bv (bX m)).toArray) (h2:ρ y=.bool true) (w:World) :
  (execOp ρ o).run Tryz.prog w=.ok (.value (.agg (iC ((List.replicate 20 0,⟨#[]⟩),bX m,true)).toArray)) w :=
 re 85 _ ho (z:=.agg zcI) (places:=#[(0,21),(21,20),(41,1)]) Tryz.underlying85 (fun w=>by kernel_rfl) (fun w=>by kernel_rfl) [(1,.agg (bv (bX m)).toArray),(2,.bool true)] (by simp [h1,h2]) (by kernel_rfl) w
theorem yC {ρ:Operand→Value} {o:Oper} (x y:Operand) (ho:o.op=.build 87 #[(0,x),(1,y)]) (j m:Nat) (h1:ρ x=.string ⟨#[UInt8.ofNat (97+j)]⟩) (h2:ρ y=.agg (iC ((List.replicate 20 0,⟨#[]⟩),bX m,true)).toArray) (w:World) :
  (execOp ρ o).run Tryz.prog w=.ok (.value (.agg (nC (rC j m)).toArray)) w:=by
 refine Eq.trans (gy 87 x y ho (n1:=1) (n2:=42) (z:=.agg zcN) h1 h2 Tryz.underlying87 (fun w=>by kernel_rfl) (by kernel_rfl) (fun w=>by kernel_rfl) (by kernel_rfl) (by kernel_rfl) w) ?_
 kernel_rfl
def AN (b:Nat) (u:Value) (w:World):Prop:=∃ r,u=.slice (some ⟨r,0,none⟩) 1 1∧Blk w r 5 #[.int .u8 (b:Int)]
def Bp (x:Nam) (u:Value) (w:World):Prop:=∃ r,u=.slice (some ⟨r,0,none⟩) 1 1∧Blk w r 87 (nC x).toArray
theorem zU (b:Nat):Fre.eN Bel (AN b):=⟨fun _ _ _ ⟨r,h1,h2⟩ hx=>⟨r,h1,h2.below hx h2.lt⟩⟩
theorem Al (x:Nam):Fre.eN Bel (Bp x):=⟨fun _ _ _ ⟨r,h1,h2⟩ hx=>⟨r,h1,h2.below hx h2.lt⟩⟩
theorem y3 {ρ:Operand→Value} {o:Oper} (x:Operand) (ho:o.op=.buildSlice 24 1 #[(0,x)]) (b:Nat) (hx:ρ x=.int .u8 (b:Int)) (W:World) :
  ∃ u w',(execOp ρ o).run Tryz.prog W=.ok (.value u) w'∧Fre.Ext Bel W w'∧AN b u w' :=
 ⟨_,_,bM (v:=.int .u8 (b:Int)) 24 x ho hx Tryz.underlying24 (e:=5) (n:=1) (by kernel_rfl) (by omega) (by omega) (z:=.int .u8 0) (fun w=>by kernel_rfl) rfl W,(Below.refl _ W).alloc (Nat.le_refl _) _,_,rfl,Blk.new _ _ _⟩
theorem xR {ρ:Operand→Value} {o:Oper} (x:Operand) (ho:o.op=.buildSlice 23 1 #[(0,x)]) (y:Nam) (hy:okN y) (hx:ρ x=.agg (nC y).toArray) (W:World) :
  ∃ u w',(execOp ρ o).run Tryz.prog W=.ok (.value u) w'∧Fre.Ext Bel W w'∧Bp y u w' :=
 ⟨_,_,bM (v:=.agg (nC y).toArray) 23 x ho hx Tryz.underlying23 (e:=87) (n:=43) aY (by omega) (by omega) (z:=.agg zcN) (fun w=>by kernel_rfl) (by rw [Value.cells,List.size_toArray];exact da hy) W,(Below.refl _ W).alloc (Nat.le_refl _) _,_,rfl,Blk.new _ _ _⟩
theorem wF {u:Value} {W:World} {j:Nat} (hj:97+j<256) (h:AN (97+j) u W):(convert 24 9 u).run Tryz.prog W=.ok (.string ⟨#[UInt8.ofNat (97+j)]⟩) W:=by
 obtain ⟨r,rfl,hb⟩:=h
 have e:((UInt8.ofNat (97+j)).toNat:Int)=((97+j:Nat):Int):=by
  rw [UInt8.toNat_ofNat',Nat.mod_eq_of_lt (by omega)]
 refine run_convert_bytes_back (P:=Tryz.prog) W 24 9 5 ⟨r,0,none⟩ 1 [UInt8.ofNat (97+j)] Tryz.underlying24 Tryz.underlying5 Tryz.underlying9 fun k hk=>?_
 have hk0:k=0:=by simp at hk;omega
 subst hk0
 rw [Addr.add_mid,Nat.zero_add]
 show W.cell? ⟨r,0,none⟩=some (.int .u8 ((UInt8.ofNat (97+j)).toNat:Int))
 rw [e]
 exact hb.cell 0
set_option maxHeartbeats 4000000 in
theorem ku (w:World) (n:Nat) (hn9:n≤1000000000) (ns:List Nat) (hns:∀ m∈ns,m≤1000000000) (hl:ns.length≤100) (A:Option Addr) (cap:Nat)
  (hA:0<ns.length→∃ b,A=some ⟨b,0,none⟩∧b<w.heap.size∧∀ (j m:Nat),ns[j]?=some m→w.cell? ⟨b,j,none⟩=some (.int .i64 (m:Int))) :
  Calls Tryz.prog 50 #[.int .i64 (n:Int),.slice A ns.length cap] w fun e w'=>∃ u,e=.returned (.agg (tC (gu n ns) u (.slice none 0 0)).toArray)∧bx w' w.heap.size (gu n ns).2 u (.slice none 0 0)∧Below w.heap.size w w':=by
 obtain ⟨inm,hih,hq0,hq1,hq2⟩:=info_parts lu
 have HJ:=ah (And.intro hih (And.intro hq0 (And.intro hq1 hq2)))
 clear hih hq0 hq1 hq2
 have hsz5:(Tryz.prog.info? 59).map (·.size)=some (itC n (.slice none 0 0)).toArray.size:=by kernel_rfl
 have HA:=ah hA
 clear hA
 go_enter Tryz.func50,Tryz.ntmps50
 go_wp2_with (first | ((with_reducible refine ag 4 ?_);(refine aC (o:=⟨some 4,_,_,_,_,_⟩) rfl 59 zcT (by kernel_rfl) ?_);intro w1 hn;have H1:=ah hn;clear hn;simp only [Act.put,List.setIfInBounds_toArray,List.set_cons_zero,List.set_cons_succ]))
 refine (gR w1 n hn9).mono ?_
 rintro e w2 ⟨rfl,hb⟩
 dsimp only
 have H2:=ah (And.intro (H1.out.blk.below hb H1.out.blk.lt) (H1.out.below.trans (Below.mono hb H1.out.below.size)))
 clear hb
 go_wp2_with (first | ((with_reducible refine ag 9 ?_);(refine aa (o:=⟨some 9,_,_,_,_,_⟩) rfl (.agg #[.string ⟨#[100]⟩,.slice none 0 0,.slice none 0 0]) w2 (by kernel_rfl) ?_)) | ((with_reducible refine ag 10 ?_);(refine aa (o:=⟨some 10,_,_,_,_,_⟩) rfl (.agg (itC n (.slice none 0 0)).toArray) w2 (yj (o:=⟨some 10,_,_,_,_,_⟩) (.tmp 8) (.tmp 9) rfl n rfl rfl w2) ?_)) | ((with_reducible refine ag 5 ?_);(refine aC (o:=⟨some 5,_,_,_,_,_⟩) rfl 59 zcT (by kernel_rfl) ?_);intro w3 hn;have H3:=ah hn;clear hn;simp only [Act.put,List.setIfInBounds_toArray,List.set_cons_zero,List.set_cons_succ]) | ((with_reducible refine bI 5 10 ?_);(with_reducible refine al (o:=⟨none,_,_,_,_,_⟩) rfl 59 (.tmp 5) (.tmp 10) rfl w2.heap.size zcT (itC n (.slice none 0 0)).toArray 59 H3.out.blk ?_ ?_ ?_ ?_ ?_ ?_);(exact hsz5);kernel_rfl;(exact ve n rfl);rfl;rfl;intro w4 hk4 hg4;have h4:=H3.out.below.grown hg4 (by have:=H3.out.size;omega) (fun b hb=>(by have:=Option.some.inj hb;omega));have H4:=ah (And.intro hk4 (And.intro (H2.out.1.below h4 H2.out.1.lt) (And.intro (H2.out.2.trans (Below.mono h4 H2.out.2.size)) (And.intro (show w2.heap.size<w3.heap.size by have:=H3.out.size;omega) (show w3.heap.size≤w4.heap.size from hg4.size)))));clear hk4 hg4 h4;simp only [Act.put]))
 go_loopw [6] (fun x6 wr=>∃ (j:Nat) (u:Value),j≤ns.length∧x6=.int .i64 (j:Int)∧Blk wr w2.heap.size 59 (itC n u).toArray∧wr.ownsRow w3.heap.size 87 43 u (nds (ns.take j)).length ((nds (ns.take j)).flatMap nC)∧Blk wr w.heap.size 59 zcT∧Below w.heap.size w wr∧w3.heap.size≤wr.heap.size) (fun x6 _=>ns.length-(intOf x6).toNat)
 case atStart=>exact ⟨0,_,by omega,rfl,H4.out.1,World.ownsRow_nil _ _ _ _,H4.out.2.1,H4.out.2.2.1,H4.out.2.2.2.2⟩
 case round =>
  obtain ⟨wo,rfl⟩:∃ wo,wo=wr:=⟨_,rfl⟩
  obtain ⟨j,u,hj,rfl,hk5,hown,hk4,hb,hsz⟩:=hrel
  have HB:=ah (And.intro hk5 (And.intro hown (And.intro hk4 (And.intro hb hsz))))
  clear hk5 hown hk4 hb hsz
  have j0:(0:Int)≤(j:Int):=by omega
  by_cases hj2:j<ns.length
  ·have j1:(j:Int)<(ns.length:Int):=by omega
   obtain ⟨m,hm⟩:∃ m,ns[j]?=some m:=⟨_,List.getElem?_eq_getElem hj2⟩
   have hm9:=hns m (List.mem_of_getElem? hm)
   obtain ⟨b,rfl,hlb,hE⟩:=HA.out (by omega)
   have cm:wo.cell? ⟨b,j,none⟩=some (.int .i64 (m:Int)):=(World.cell?_of_block (HB.out.2.2.2.1.block b hlb)).trans (hE j m hm)
   have HCM:=ah cm
   have hst:=za hm
   have HST:=ah hst
   have c21:wo.cell? ⟨w2.heap.size,21,none⟩=some u:=HB.out.1.cell 21
   have HC21:=ah c21
   have hnl:=Am (ns.take j)
   have htk:(ns.take j).length=j:=by rw [List.length_take];omega
   rw [htk] at hnl
   clear hm hE cm hst c21 htk
   go_wp2_with fail
   refine Fre.cq (X:=Bel) 16 [(23,AN (97+j)),(32,Bp (rC j m))] (by kernel_rfl) (by kernel_rfl) (by intro p hp;simp only [List.mem_cons,List.not_mem_nil,or_false] at hp;rcases hp with rfl | rfl;exact zU _;exact Al _) (by simp) (by simp) ?_
   simp only [List.take_succ_cons,List.take_zero,List.drop_succ_cons,List.drop_zero]
   refine Fre.ae (.pointer (some ⟨w2.heap.size,20,none⟩)) (by kernel_rfl) (by kernel_rfl) (by kernel_rfl) (fun _ _=>by kernel_rfl) ?_
   simp only [Act.put,List.setIfInBounds_toArray,List.set_cons_zero,List.set_cons_succ]
   refine Fre.ae (.pointer (some ⟨w2.heap.size,21,none⟩)) (by kernel_rfl) (by kernel_rfl) (by kernel_rfl) (fun _ _=>by kernel_rfl) ?_
   simp only [Act.put,List.setIfInBounds_toArray,List.set_cons_zero,List.set_cons_succ]
   refine Fre.ae (u) (by kernel_rfl) (by kernel_rfl) (by kernel_rfl) (fun W9 hW9=>exec_load_cell (o:=⟨some 19,_,_,_,_,_⟩) 23 (.tmp 18) rfl ⟨w2.heap.size,21,none⟩ rfl _ _ W9 Tryz.underlying23 rfl (((World.cell?_of_block (Below.block hW9 _ (World.block_lt_of_cell? wo _ HC21.out))).trans HC21.out))) ?_
   simp only [Act.put,List.setIfInBounds_toArray,List.set_cons_zero,List.set_cons_succ]
   refine Fre.ae (.int .i64 (j:Int)) (by kernel_rfl) (by kernel_rfl) (by kernel_rfl) (fun _ _=>by kernel_rfl) ?_
   simp only [Act.put,List.setIfInBounds_toArray,List.set_cons_zero,List.set_cons_succ]
   refine Fre.ae (.int .i64 ((97+j:Nat):Int)) (by kernel_rfl) (by kernel_rfl) (by kernel_rfl) (fun W9 hW9=>?hs1) ?_
   case hs1 =>
    go_simp
    all_goals (rw [Go.IntWalk.i64_in _ (by omega)])
   simp only [Act.put,List.setIfInBounds_toArray,List.set_cons_zero,List.set_cons_succ]
   refine Fre.ae (.int .u8 ((97+j:Nat):Int)) (by kernel_rfl) (by kernel_rfl) (by kernel_rfl) (fun W9 hW9=>?hs2) ?_
   case hs2 =>
    go_simp
    all_goals (rw [Go.IntWalk.u8_in _ (by omega)])
   simp only [Act.put,List.setIfInBounds_toArray,List.set_cons_zero,List.set_cons_succ]
   refine Fre.fX 23 _ (by kernel_rfl) (by kernel_rfl) rfl rfl (fun W hW=>y3 (o:=⟨some 23,_,_,_,_,_⟩) (.tmp 22) rfl (97+j) rfl W) ?_
   simp only [Act.put,List.setIfInBounds_toArray,List.set_cons_zero,List.set_cons_succ]
   refine Fre.wS 23 _ (.string ⟨#[UInt8.ofNat (97+j)]⟩) (by kernel_rfl) rfl (by kernel_rfl) (by kernel_rfl) (fun u W hW hu=>lj (o:=⟨some 24,_,_,_,_,_⟩) 24 9 (.tmp 23) rfl u rfl _ (wF (by omega) hu)) ?_
   simp only [Act.put,List.setIfInBounds_toArray,List.set_cons_zero,List.set_cons_succ]
   refine Fre.ae (.slice (some ⟨b,0,none⟩) ns.length cap) (by kernel_rfl) (by kernel_rfl) (by kernel_rfl) (fun _ _=>by kernel_rfl) ?_
   simp only [Act.put,List.setIfInBounds_toArray,List.set_cons_zero,List.set_cons_succ]
   refine Fre.ae (.int .i64 (j:Int)) (by kernel_rfl) (by kernel_rfl) (by kernel_rfl) (fun _ _=>by kernel_rfl) ?_
   simp only [Act.put,List.setIfInBounds_toArray,List.set_cons_zero,List.set_cons_succ]
   refine Fre.ae (.pointer (some ⟨b,j,none⟩)) (by kernel_rfl) (by kernel_rfl) (by kernel_rfl) (fun W9 hW9=>eY (o:=⟨some 27,_,_,_,_,_⟩) 79 3 (.tmp 25) (.tmp 26) rfl b ns.length cap j rfl rfl hj2 Tryz.underlying79 (by kernel_rfl) W9) ?_
   simp only [Act.put,List.setIfInBounds_toArray,List.set_cons_zero,List.set_cons_succ]
   refine Fre.ae (.int .i64 (m:Int)) (by kernel_rfl) (by kernel_rfl) (by kernel_rfl) (fun W9 hW9=>exec_load_cell (o:=⟨some 28,_,_,_,_,_⟩) 3 (.tmp 27) rfl ⟨b,j,none⟩ rfl _ _ W9 Tryz.underlying3 rfl (((World.cell?_of_block (Below.block hW9 _ (World.block_lt_of_cell? wo _ HCM.out))).trans HCM.out))) ?_
   simp only [Act.put,List.setIfInBounds_toArray,List.set_cons_zero,List.set_cons_succ]
   refine Fre.aA (.agg (bv (bX m)).toArray) 51 #[.int .i64 (m:Int)] (by kernel_rfl) (by kernel_rfl) (by kernel_rfl) (fun W9=>by kernel_rfl) (fun W9 hW9=>gR W9 m hm9) ?_
   simp only [Act.put,List.setIfInBounds_toArray,List.set_cons_zero,List.set_cons_succ]
   refine Fre.ae (.agg (iC ((List.replicate 20 0,⟨#[]⟩),bX m,true)).toArray) (by kernel_rfl) (by kernel_rfl) (by kernel_rfl) (fun W9 hW9=>y1 (o:=⟨some 30,_,_,_,_,_⟩) (.tmp 29) (.const (.bool true)) rfl m rfl rfl W9) ?_
   simp only [Act.put,List.setIfInBounds_toArray,List.set_cons_zero,List.set_cons_succ]
   refine Fre.ae (.agg (nC (rC j m)).toArray) (by kernel_rfl) (by kernel_rfl) (by kernel_rfl) (fun W9 hW9=>yC (o:=⟨some 31,_,_,_,_,_⟩) (.tmp 24) (.tmp 30) rfl j m rfl rfl W9) ?_
   simp only [Act.put,List.setIfInBounds_toArray,List.set_cons_zero,List.set_cons_succ]
   refine Fre.fX 32 _ (by kernel_rfl) (by kernel_rfl) rfl rfl (fun W hW=>xR (o:=⟨some 32,_,_,_,_,_⟩) (.tmp 31) rfl (rC j m) (qx j m) rfl W) ?_
   simp only [Act.put,List.setIfInBounds_toArray,List.set_cons_zero,List.set_cons_succ]
   intro w6 hx6
   dsimp only [Fre.ended,List.drop]
   rintro u23 _ u32 ⟨r,rfl,hkr⟩
   have H6:=ah (And.intro (HB.out.1.below hx6 HB.out.1.lt) (And.intro (ao HB.out.2.1 fun g _ hl9=>Below.block hx6 g hl9) (And.intro (HB.out.2.2.1.below hx6 HB.out.2.2.1.lt) (And.intro (HB.out.2.2.2.1.trans (Below.mono hx6 HB.out.2.2.2.1.size)) (And.intro (Nat.le_trans HB.out.2.2.2.2 (Below.size hx6)) (bH (n:=43) (m:=1) hkr (da (qx j m)) (fun v hv=>fQ _ v hv)))))))
   clear hx6 hkr
   go_wp2_with (at_builtin;((with_reducible refine ag 33 ?_);refine aH (o:=⟨some 33,_,_,_,_,_⟩) rfl _ _ 23 rfl w3.heap.size 87 inm _ 43 80 Tryz.underlying23 HJ.out.1 HJ.out.2.1 HJ.out.2.2.1 HJ.out.2.2.2 rfl (by decide) _ ((nds (ns.take j)).length) ((nds (ns.take j)).flatMap nC) H6.out.2.1 (some ⟨r,0,none⟩) 1 1 (nC (rC j m)) H6.out.2.2.2.2.2 ?hm1 ?hb1 ?hz1 rfl rfl ?_))
   case hm1=>simp only [maxLen];omega
   case hb1=>omega
   case hz1=>exact H6.out.2.2.2.2.1
   intro u7 w7 own7 gr7 _
   have hown7:w7.ownsRow w3.heap.size 87 43 u7 (nds (ns.take (j+1))).length ((nds (ns.take (j+1))).flatMap nC):=by rw [HST.out,List.length_append,hnl];simpa using own7
   have hne5:∀ q,u.ownBlock=some q→q ≠ w2.heap.size:=fun q hq e=>by have h1:=(aD H6.out.2.1 hq).1;have:=H4.out.2.2.2.1;omega
   have hne4:∀ q,u.ownBlock=some q→q ≠ w.heap.size:=fun q hq e=>by have h1:=(aD H6.out.2.1 hq).1;have:=H4.out.2.2.2.1;have:=H2.out.2.size;omega
   have H7:=ah (And.intro ((gr7.block _ H6.out.1.lt (fun e=>hne5 _ e.symm rfl)).trans H6.out.1) (And.intro hown7 (And.intro ((gr7.block _ H6.out.2.2.1.lt (fun e=>hne4 _ e.symm rfl)).trans H6.out.2.2.1) (And.intro (H6.out.2.2.2.1.grown gr7 H6.out.2.2.2.1.size (fun q hq=>by have h1:=(aD H6.out.2.1 hq).1;have:=H4.out.2.2.2.1;have:=H2.out.2.size;omega)) (Nat.le_trans H6.out.2.2.2.2.1 gr7.size)))))
   have hu1:u7.oneCell'=true:=by obtain ⟨A7,c7,rfl⟩:=hJ H7.out.2.1;rfl
   clear own7 hown7 hne5 hne4 gr7
   go_wp2_with (first | ((with_reducible refine bI 35 33 ?_);(refine bW (o:=⟨none,_,_,_,_,_⟩) rfl 23 (.tmp 35) (.tmp 33) rfl w2.heap.size (21) 59 (itC n u).toArray H7.out.1 (by rw [List.size_toArray,mG];omega) (by kernel_rfl) (u7) hu1 rfl rfl ?_);intro w8 hk hg hz;have h8:=ao H7.out.2.1 (fun q hq hl9=>hg.block q hl9 (fun e=>by have h1:=(aD H7.out.2.1 hq).1;have:=Option.some.inj e;have:=H4.out.2.2.2.1;omega));have H8:=ah (And.intro hk (And.intro h8 (And.intro ((hg.block _ (Blk.lt H7.out.2.2.1) (fun e=>by have:=Option.some.inj e;have:=H2.out.1.lt;omega)).trans H7.out.2.2.1) (And.intro (H7.out.2.2.2.1.grown hg H7.out.2.2.2.1.size (fun q hq=>by have:=Option.some.inj hq;have:=H2.out.2.size;omega)) (Nat.le_trans H7.out.2.2.2.2 hg.size)))));clear hk hg hz h8;simp only [Act.put]))
   go_roundw
   case rel=>exact ⟨j+1,u7,by omega,by go_num,H8.out⟩
   case measure=>simp [intOf];omega
  ·obtain rfl:j=ns.length:=by omega
   have hown:=HB.out.2.1
   rw [List.take_length] at hown
   have hu1:u.oneCell'=true:=by obtain ⟨A7,c7,rfl⟩:=hJ hown;rfl
   have HO:=ah hown
   have hsz6:(Tryz.prog.info? 59).map (·.size)=some (itC n u).toArray.size:=by rw [List.size_toArray,mG];kernel_rfl
   clear hown
   go_wp2_with (first | ((with_reducible refine ag 36 ?_);(refine aa (o:=⟨some 36,_,_,_,_,_⟩) rfl (.agg ((itC n u).toArray)) wo (au (o:=⟨some 36,_,_,_,_,_⟩) 59 (.tmp 5) rfl w2.heap.size rfl 59 _ _ wo HB.out.1 Tryz.underlying59 rfl hsz6) ?_)) | ((with_reducible refine bI 4 36 ?_);(with_reducible refine al (o:=⟨none,_,_,_,_,_⟩) rfl 59 (.tmp 4) (.tmp 36) rfl w.heap.size zcT (itC n u).toArray 59 HB.out.2.2.1 ?_ ?_ ?_ ?_ ?_ ?_);(exact hsz6);(rw [show (itC n u).toArray.size=23 by rw [List.size_toArray,mG]];kernel_rfl);(exact ve n hu1);rfl;rfl;intro w9 hk9 hg9;have h9:=ao HO.out (fun q hq hl9=>hg9.block q hl9 (fun e=>by have h1:=(aD HO.out hq).1;have:=Option.some.inj e;have:=H4.out.2.2.2.1;have:=H2.out.2.size;omega));have H9:=ah (And.intro hk9 (And.intro h9 (HB.out.2.2.2.1.grown hg9 HB.out.2.2.2.1.size (fun q hq=>by have:=Option.some.inj hq;omega))));clear hk9 hg9 h9;simp only [Act.put,List.setIfInBounds_toArray,List.set_cons_zero,List.set_cons_succ]))
   refine bodyPost_ret (results_cell_row rfl _ _ w.heap.size 59 (itC n u).toArray (0,0) _ rfl H9.out.1 Tryz.underlying59 rfl (by rw [List.size_toArray,mG];kernel_rfl)) rfl ⟨u,rfl,⟨(by show 1≤maxLen;decide),Bg ns,(fun x hx=>by cases hx),bS H9.out.2.1 (fun g hg=>by have:=(aD H9.out.2.1 hg).1;have:=H4.out.2.2.2.1;have:=H2.out.2.size;omega),World.ownsRow_nil _ _ _ _⟩,H9.out.2.2⟩
end Go.Proofs.YtomnhnmciopiiaaGreat
end
section
namespace Go.Proofs.YtomnhnmciopiiaaGreat
open Go Go.RowKit
theorem rf {α:Type} {t e:TypeId} {L:Lay α} (h0:0<L.n) {w:World} {B g:Nat} {cells:List (List Value)} {l:List α} (hb:Blk w g e cells.flatten.toArray) (hg:g<B) (hlen:cells.length=l.length) (hn:l.length≤maxLen) (hat:∀ (j:Nat) x cs,l[j]?=some x→cells[j]?=some cs→L.At w B cs x) :
  (Lay.slice t L).At w B [.slice (some ⟨g,0,none⟩) l.length l.length] l:=by
 have hl:∀ cs∈cells,(id cs).length=L.n:=fun cs hcs=>by
  obtain ⟨j,hj⟩:=List.getElem?_of_mem hcs
  obtain ⟨x,hx⟩:∃ x,l[j]?=some x:=⟨_,List.getElem?_eq_getElem (by have:=(List.getElem?_eq_some_iff.1 hj).1;omega)⟩
  exact L.len (hat j x cs hx hj)
 refine ⟨_,l.length,rfl,Nat.le_refl _,hn,(fun h=>by cases h),fun _=>⟨g,0,rfl,hg,fun j x hj=>?_⟩⟩
 obtain ⟨cs,hcs⟩:∃ cs,cells[j]?=some cs:=⟨_,List.getElem?_eq_getElem (by have:=(List.getElem?_eq_some_iff.1 hj).1;omega)⟩
 refine ⟨cs,fun i u hu=>?_,hat j x cs hj hcs⟩
 have h2:=jg (f:=id) h0 cells hl j cs hcs i u hu
 rw [hb.cell,Nat.zero_add]
 have e:cells.flatMap id=cells.flatten:=by simp [List.flatMap]
 rw [e] at h2
 simpa using h2
end Go.Proofs.YtomnhnmciopiiaaGreat
end
section
namespace Go.Proofs.YtomnhnmciopiiaaGreat
open Go Go.RowKit Go.Maps
set_option maxRecDepth 100000
theorem jc {P:Program} {ops:Array Oper} {rest:List Oper} {o:Oper} {a:Act} {w:World} {Q:Exit→Act→World→Prop} (hg:o.guard=none) (k:Nat) (ty:TypeId) (cs:Array Value) (hr:(execOp a.eval o).run P w=.ok (.value (.slice (some ⟨w.heap.size,0,none⟩) k k)) (w.alloc (.cells cs ty)))
  (h:∀ w',iS w w' ty cs→wpList P ops Q rest (a.put o.dst (.slice (some ⟨w.heap.size,0,none⟩) k k)) w'):wpList P ops Q (o :: rest) a w :=
 aa hg _ _ hr (h _ (cD w ty cs))
def qK:List Itm:=[gu 1 [],gu 2 [1],gu 3 [1,2],gu 4 []]
theorem rK:dB qK (bX 3)=0∧cA qK (bX 3)=[bX 1,bX 2,bX 3]:=by decide +kernel
theorem yL:dR qK (bX 3)=3:=by decide +kernel
theorem ph {w:World} {g:Nat} (ns:List Nat) (hb:Blk w g 3 (ns.map fun n:Nat=>Value.int .i64 (n:Int)).toArray):0<ns.length→∃ b,some (⟨g,0,none⟩:Addr)=some ⟨b,0,none⟩∧b<w.heap.size∧∀ (j m:Nat),ns[j]?=some m→w.cell? ⟨b,j,none⟩=some (.int .i64 (m:Int)) :=
 fun _=>⟨g,rfl,hb.lt,fun j m h=>by rw [hb.cell];simp [h]⟩
def exC (u1 u2 u3 u4:Value):List (List Value):=[tC (gu 1 []) u1 (.slice none 0 0),tC (gu 2 [1]) u2 (.slice none 0 0),tC (gu 3 [1,2]) u3 (.slice none 0 0),tC (gu 4 []) u4 (.slice none 0 0)]
theorem Cb {w:World} {g N:Nat} {u1 u2 u3 u4:Value} (hb:Blk w g 59 (exC u1 u2 u3 u4).flatten.toArray) (hN:w.heap.size≤N) (h1:aO w N (gu 1 []).2 u1 (.slice none 0 0)) (h2:aO w N (gu 2 [1]).2 u2 (.slice none 0 0)) (h3:aO w N (gu 3 [1,2]).2 u3 (.slice none 0 0)) (h4:aO w N (gu 4 []).2 u4 (.slice none 0 0)) :
  bz.At w N [.slice (some ⟨g,0,none⟩) 4 4] qK:=by
 refine rf (t:=22) (L:=iY) (l:=qK) (by decide) hb (Nat.lt_of_lt_of_le hb.lt hN) rfl (by decide) fun j x cs hx hcs=>?_
 match j,hx,hcs with
 | 0,hx,hcs=>injection hx with hx;injection hcs with hcs;subst hx hcs;exact bT.2 ⟨_,_,rfl,rfl,h1⟩
 | 1,hx,hcs=>injection hx with hx;injection hcs with hcs;subst hx hcs;exact bT.2 ⟨_,_,rfl,rfl,h2⟩
 | 2,hx,hcs=>injection hx with hx;injection hcs with hcs;subst hx hcs;exact bT.2 ⟨_,_,rfl,rfl,h3⟩
 | 3,hx,hcs=>injection hx with hx;injection hcs with hcs;subst hx hcs;exact bT.2 ⟨_,_,rfl,rfl,h4⟩
 | j+4,hx,_=>cases hx
theorem kt:(∀ x∈qK,x.2.2.1.length≤1000000)∧qK.length≤1000000:=by decide +kernel
theorem bx.fg {w w':World} {B:Nat} {d:Drv} {u1 u2:Value} (h:bx w B d u1 u2) (hb:Below w.heap.size w w'):bx w' B d u1 u2:=h.xf fun g _ hl=>hb.block g hl
set_option maxHeartbeats 4000000 in
theorem xh (w:World):Calls Tryz.prog 28 #[] w fun e w'=>e=.returned (.bool true)∧Below w.heap.size w w':=by
 go_enter Tryz.func28,Tryz.ntmps28
 go_wp2_with fail
 refine (ku w 1 (by omega) [] (by decide) (by decide) none 0 (fun h=>absurd h (by decide))).mono ?_
 rintro e w1 ⟨u1,rfl,ho,hb⟩
 dsimp only
 have H1:=ah (And.intro ho hb)
 clear ho hb
 go_wp2_with (first | ((with_reducible refine ag 5 ?_);(refine jc (o:=⟨some 5,_,_,_,_,_⟩) rfl 1 3 #[.int .i64 1] (by kernel_rfl) ?_);intro w2 hn;have H2:=ah (And.intro hn.blk (And.intro (H1.out.1.fg hn.below) (H1.out.2.trans (Below.mono hn.below H1.out.2.size))));clear hn;simp only [Act.put,List.setIfInBounds_toArray,List.set_cons_zero,List.set_cons_succ]))
 refine (ku w2 2 (by omega) [1] (by decide) (by decide) _ 1 (ph [1] H2.out.1)).mono ?_
 rintro e w3 ⟨u2,rfl,ho,hb⟩
 dsimp only
 have H3:=ah (And.intro (H2.out.2.1.fg hb) (And.intro ho (H2.out.2.2.trans (Below.mono hb H2.out.2.2.size))))
 clear ho hb
 go_wp2_with (first | ((with_reducible refine ag 7 ?_);(refine jc (o:=⟨some 7,_,_,_,_,_⟩) rfl 2 3 #[.int .i64 1,.int .i64 2] (by kernel_rfl) ?_);intro w4 hn;have H4:=ah (And.intro hn.blk (And.intro (H3.out.1.fg hn.below) (And.intro (H3.out.2.1.fg hn.below) (H3.out.2.2.trans (Below.mono hn.below H3.out.2.2.size)))));clear hn;simp only [Act.put,List.setIfInBounds_toArray,List.set_cons_zero,List.set_cons_succ]))
 refine (ku w4 3 (by omega) [1,2] (by decide) (by decide) _ 2 (ph [1,2] H4.out.1)).mono ?_
 rintro e w5 ⟨u3,rfl,ho,hb⟩
 dsimp only
 have H5:=ah (And.intro (H4.out.2.1.fg hb) (And.intro (H4.out.2.2.1.fg hb) (And.intro ho (H4.out.2.2.2.trans (Below.mono hb H4.out.2.2.2.size)))))
 clear ho hb
 go_wp2_with fail
 refine (ku w5 4 (by omega) [] (by decide) (by decide) none 0 (fun h=>absurd h (by decide))).mono ?_
 rintro e w6 ⟨u4,rfl,ho,hb⟩
 dsimp only
 have H6:=ah (And.intro (H5.out.1.fg hb) (And.intro (H5.out.2.1.fg hb) (And.intro (H5.out.2.2.1.fg hb) (And.intro ho (H5.out.2.2.2.trans (Below.mono hb H5.out.2.2.2.size))))))
 clear ho hb
 go_wp2_with (first | ((with_reducible refine ag 10 ?_);(refine jc (o:=⟨some 10,_,_,_,_,_⟩) rfl 4 59 (exC u1 u2 u3 u4).flatten.toArray (by kernel_rfl) ?_);intro w7 hn;have hat:=Cb hn.blk (Nat.le_refl _) ((H6.out.1.fg hn.below).at_ (Nat.le_refl _)) ((H6.out.2.1.fg hn.below).at_ (Nat.le_refl _)) ((H6.out.2.2.1.fg hn.below).at_ (Nat.le_refl _)) ((H6.out.2.2.2.1.fg hn.below).at_ (Nat.le_refl _));have H7:=ah (And.intro hat (H6.out.2.2.2.2.trans (Below.mono hn.below H6.out.2.2.2.2.size)));clear hn hat;simp only [Act.put,List.setIfInBounds_toArray,List.set_cons_zero,List.set_cons_succ]))
 refine (gR w7 3 (by omega)).mono ?_
 rintro e w8 ⟨rfl,hb⟩
 dsimp only
 have H8:=ah (And.intro (eT H7.out.1 hb) (H7.out.2.trans (Below.mono hb H7.out.2.size)))
 clear hb
 go_wp2_with fail
 refine (pb w8 qK _ 4 H8.out.1 kt.1 kt.2 (bX 3) rfl).mono ?_
 rintro e w9 ⟨u,rfl,hown,hb⟩
 rw [rK.2] at hown
 rw [rK.1]
 obtain ⟨g,cap,rfl⟩:=du hown (by decide)
 have hgl:=(aD hown rfl).2
 have H9:=ah (And.intro (show w9.rangeAt g 0 (bv (bX 1)) from gM hown 0 20 _ rfl) (And.intro (show w9.rangeAt g 40 (bv (bX 3)) from gM hown 40 20 _ rfl) (And.intro (eT H8.out.1 hb) (H8.out.2.trans (Below.mono hb H8.out.2.size)))))
 clear hown hb
 dsimp only
 go_wp2_with fail
 refine Fre.cq (X:=Bel) 27 [] (by kernel_rfl) (by kernel_rfl) (by simp) (by simp) (by simp) ?_
 simp only [List.take_succ_cons,List.take_zero,List.drop_succ_cons,List.drop_zero]
 refine Fre.ae (.int .i64 0) (by kernel_rfl) (by kernel_rfl) (by kernel_rfl) (fun _ _=>by kernel_rfl) ?_
 simp only [Act.put,List.setIfInBounds_toArray,List.set_cons_zero,List.set_cons_succ]
 refine Fre.ae (.bool true) (by kernel_rfl) (by kernel_rfl) (by kernel_rfl) (fun _ _=>by kernel_rfl) ?_
 simp only [Act.put,List.setIfInBounds_toArray,List.set_cons_zero,List.set_cons_succ]
 refine Fre.ae (.bool true) (by kernel_rfl) (by kernel_rfl) (by kernel_rfl) (fun _ _=>by kernel_rfl) ?_
 simp only [Act.put,List.setIfInBounds_toArray,List.set_cons_zero,List.set_cons_succ]
 refine Fre.ae (.slice (some ⟨g,0,none⟩) 3 cap) (by kernel_rfl) (by kernel_rfl) (by kernel_rfl) (fun _ _=>by kernel_rfl) ?_
 simp only [Act.put,List.setIfInBounds_toArray,List.set_cons_zero,List.set_cons_succ]
 refine Fre.ae (.int .i64 3) (by kernel_rfl) (by kernel_rfl) (by kernel_rfl) (fun _ _=>by kernel_rfl) ?_
 simp only [Act.put,List.setIfInBounds_toArray,List.set_cons_zero,List.set_cons_succ]
 refine Fre.ae (.bool true) (by kernel_rfl) (by kernel_rfl) (by kernel_rfl) (fun _ _=>by kernel_rfl) ?_
 simp only [Act.put,List.setIfInBounds_toArray,List.set_cons_zero,List.set_cons_succ]
 refine Fre.ae (.bool true) (by kernel_rfl) (by kernel_rfl) (by kernel_rfl) (fun _ _=>by kernel_rfl) ?_
 simp only [Act.put,List.setIfInBounds_toArray,List.set_cons_zero,List.set_cons_succ]
 refine Fre.ae (.bool true) (by kernel_rfl) (by kernel_rfl) (by kernel_rfl) (fun _ _=>by kernel_rfl) ?_
 simp only [Act.put,List.setIfInBounds_toArray,List.set_cons_zero,List.set_cons_succ]
 refine Fre.ae (.slice (some ⟨g,0,none⟩) 3 cap) (by kernel_rfl) (by kernel_rfl) (by kernel_rfl) (fun _ _=>by kernel_rfl) ?_
 simp only [Act.put,List.setIfInBounds_toArray,List.set_cons_zero,List.set_cons_succ]
 refine Fre.ae (.pointer (some ⟨g,0,none⟩)) (by kernel_rfl) (by kernel_rfl) (by kernel_rfl) (fun _ _=>by kernel_rfl) ?_
 simp only [Act.put,List.setIfInBounds_toArray,List.set_cons_zero,List.set_cons_succ]
 refine Fre.ae (.agg (bv (bX 1)).toArray) (by kernel_rfl) (by kernel_rfl) (by kernel_rfl) (fun W9 hW9=>ai (o:=⟨some 27,_,_,_,_,_⟩) 34 (.tmp 26) rfl g 0 rfl (bv (bX 1)) _ W9 (a8 H9.out.1 (Below.block hW9 _ hgl)) Tryz.underlying34 rfl (by kernel_rfl)) ?_
 simp only [Act.put,List.setIfInBounds_toArray,List.set_cons_zero,List.set_cons_succ]
 refine Fre.aA (.agg (bv (bX 1)).toArray) 51 #[.int .i64 1] (by kernel_rfl) (by kernel_rfl) (by kernel_rfl) (fun W9=>by kernel_rfl) (fun W9 hW9=>gR W9 1 (by omega)) ?_
 simp only [Act.put,List.setIfInBounds_toArray,List.set_cons_zero,List.set_cons_succ]
 refine Fre.ae (.bool true) (by kernel_rfl) (by kernel_rfl) (by kernel_rfl) (fun W9 hW9=>bU (o:=⟨some 29,_,_,_,_,_⟩) .eql 34 (.tmp 27) (.tmp 28) _ rfl (bv (bX 1)).toArray (bv (bX 1)).toArray rfl rfl (by kernel_rfl) _ (fun W=>(dQ (bX 1) (bX 1) rfl rfl W).trans (by rw [decide_eq_true rfl])) W9) ?_
 simp only [Act.put,List.setIfInBounds_toArray,List.set_cons_zero,List.set_cons_succ]
 refine Fre.ae (.bool true) (by kernel_rfl) (by kernel_rfl) (by kernel_rfl) (fun _ _=>by kernel_rfl) ?_
 simp only [Act.put,List.setIfInBounds_toArray,List.set_cons_zero,List.set_cons_succ]
 refine Fre.ae (.bool true) (by kernel_rfl) (by kernel_rfl) (by kernel_rfl) (fun _ _=>by kernel_rfl) ?_
 simp only [Act.put,List.setIfInBounds_toArray,List.set_cons_zero,List.set_cons_succ]
 refine Fre.ae (.slice (some ⟨g,0,none⟩) 3 cap) (by kernel_rfl) (by kernel_rfl) (by kernel_rfl) (fun _ _=>by kernel_rfl) ?_
 simp only [Act.put,List.setIfInBounds_toArray,List.set_cons_zero,List.set_cons_succ]
 refine Fre.ae (.pointer (some ⟨g,40,none⟩)) (by kernel_rfl) (by kernel_rfl) (by kernel_rfl) (fun _ _=>by kernel_rfl) ?_
 simp only [Act.put,List.setIfInBounds_toArray,List.set_cons_zero,List.set_cons_succ]
 refine Fre.ae (.agg (bv (bX 3)).toArray) (by kernel_rfl) (by kernel_rfl) (by kernel_rfl) (fun W9 hW9=>ai (o:=⟨some 34,_,_,_,_,_⟩) 34 (.tmp 33) rfl g 40 rfl (bv (bX 3)) _ W9 (a8 H9.out.2.1 (Below.block hW9 _ hgl)) Tryz.underlying34 rfl (by kernel_rfl)) ?_
 simp only [Act.put,List.setIfInBounds_toArray,List.set_cons_zero,List.set_cons_succ]
 refine Fre.aA (.agg (bv (bX 3)).toArray) 51 #[.int .i64 3] (by kernel_rfl) (by kernel_rfl) (by kernel_rfl) (fun W9=>by kernel_rfl) (fun W9 hW9=>gR W9 3 (by omega)) ?_
 simp only [Act.put,List.setIfInBounds_toArray,List.set_cons_zero,List.set_cons_succ]
 refine Fre.ae (.bool true) (by kernel_rfl) (by kernel_rfl) (by kernel_rfl) (fun W9 hW9=>bU (o:=⟨some 36,_,_,_,_,_⟩) .eql 34 (.tmp 34) (.tmp 35) _ rfl (bv (bX 3)).toArray (bv (bX 3)).toArray rfl rfl (by kernel_rfl) _ (fun W=>(dQ (bX 3) (bX 3) rfl rfl W).trans (by rw [decide_eq_true rfl])) W9) ?_
 simp only [Act.put,List.setIfInBounds_toArray,List.set_cons_zero,List.set_cons_succ]
 refine Fre.ae (.bool true) (by kernel_rfl) (by kernel_rfl) (by kernel_rfl) (fun _ _=>by kernel_rfl) ?_
 simp only [Act.put,List.setIfInBounds_toArray,List.set_cons_zero,List.set_cons_succ]
 refine Fre.ae (.bool true) (by kernel_rfl) (by kernel_rfl) (by kernel_rfl) (fun _ _=>by kernel_rfl) ?_
 simp only [Act.put,List.setIfInBounds_toArray,List.set_cons_zero,List.set_cons_succ]
 refine Fre.ae (.slice (some ⟨w6.heap.size,0,none⟩) 4 4) (by kernel_rfl) (by kernel_rfl) (by kernel_rfl) (fun _ _=>by kernel_rfl) ?_
 simp only [Act.put,List.setIfInBounds_toArray,List.set_cons_zero,List.set_cons_succ]
 refine Fre.aA (.agg (bv (bX 3)).toArray) 51 #[.int .i64 3] (by kernel_rfl) (by kernel_rfl) (by kernel_rfl) (fun W9=>by kernel_rfl) (fun W9 hW9=>gR W9 3 (by omega)) ?_
 simp only [Act.put,List.setIfInBounds_toArray,List.set_cons_zero,List.set_cons_succ]
 refine Fre.aA (.int .i64 3) 39 #[.slice (some ⟨w6.heap.size,0,none⟩) 4 4,.agg (bv (bX 3)).toArray] (by kernel_rfl) (by kernel_rfl) (by kernel_rfl) (fun W9=>by kernel_rfl) (fun W9 hW9=>?hcd) ?_
 case hcd =>
  have h:=oR W9 qK _ 4 (eT H9.out.2.2.1 hW9) kt.1 kt.2 (bX 3) rfl
  rw [yL] at h
  exact h
 simp only [Act.put,List.setIfInBounds_toArray,List.set_cons_zero,List.set_cons_succ]
 refine Fre.ae (.bool true) (by kernel_rfl) (by kernel_rfl) (by kernel_rfl) (fun _ _=>by kernel_rfl) ?_
 simp only [Act.put,List.setIfInBounds_toArray,List.set_cons_zero,List.set_cons_succ]
 refine Fre.ae (.bool true) (by kernel_rfl) (by kernel_rfl) (by kernel_rfl) (fun _ _=>by kernel_rfl) ?_
 simp only [Act.put,List.setIfInBounds_toArray,List.set_cons_zero,List.set_cons_succ]
 intro wx hx
 have HX:=ah (H9.out.2.2.2.trans (Below.mono hx H9.out.2.2.2.size))
 clear hx
 dsimp only [Fre.ended,List.drop]
 go_wp2_with fail
 go_ret
 exact ⟨rfl,HX.out⟩
end Go.Proofs.YtomnhnmciopiiaaGreat
end
section
namespace Go.Proofs.YtomnhnmciopiiaaGreat
open Go Go.RowKit Go.Maps
set_option maxRecDepth 100000
theorem zY {w:World} {B:Nat} {v:Value} {l:List Itm} (h:bz.At w B [v] l):∀ x∈l,okH x.1:=fun x hx=>by
 obtain ⟨j,hj⟩:=List.getElem?_of_mem hx
 obtain ⟨A,cap,rfl,_,_,_,hA⟩:=ak h
 obtain ⟨b,off,rfl,_,hE⟩:=hA (by have:=(List.getElem?_eq_some_iff.1 hj).1;omega)
 obtain ⟨cs,_,hat⟩:=hE j x hj
 obtain ⟨_,_,_,ho,_⟩:=bT.1 hat
 exact ho
theorem jy {H:Type} [DecidableEq H] {l:List (Dr.It H)} {c h:H} (hm:h∈Dr.bY l c):h∈Dr.css l:=(Dr.gQ _ _).subset hm
theorem Ae {l:List Itm} {h:Hsh} (hm:h∈Dr.css (l.map itP)):∃ x∈l,x.1=h:=by
 unfold Dr.css at hm
 obtain ⟨y,hy,rfl⟩:=List.mem_map.1 hm
 obtain ⟨x,hx,rfl⟩:=List.mem_map.1 hy
 exact ⟨x,hx,rfl⟩
theorem vC {l:List Itm} (hok:∀ x∈l,okH x.1) (z:Hsh):∀ h∈cA l z,okH h:=fun h hm=>by
 unfold cA at hm
 split at hm
 ·split at hm
  ·obtain ⟨x,hx,rfl⟩:=Ae (jy hm)
   exact hok x hx
  ·cases hm
 ·cases hm
theorem wQ {l:List Itm} (hok:∀ x∈l,okH x.1) (c:Hsh):∀ h∈Dr.cu (l.map itP) c,okH h:=fun h hm=>by
 obtain ⟨y,hy,_,h2⟩:=Dr.vA.1 hm
 obtain ⟨x,hx,rfl⟩:=List.mem_map.1 hy
 rw [← h2]
 exact hok x hx
theorem vO {H:Type} [DecidableEq H] (l:List (Dr.It H)) (c:H):(Dr.bY l c).length≤l.length:=by
 have h:(Dr.bY l c).length≤(Dr.css l).length:=(Dr.gQ _ _).length_le
 simpa [Dr.css] using h
theorem tM {l:List Itm} (z:Hsh):(cA l z).length≤l.length:=by
 unfold cA
 split
 ·split
  ·have:=vO (l.map itP) z
   rwa [List.length_map] at this
  ·exact Nat.zero_le _
 ·exact Nat.zero_le _
end Go.Proofs.YtomnhnmciopiiaaGreat
end
section
namespace Go.Proofs.YtomnhnmciopiiaaGreat
open Go Go.RowKit Go.Maps
set_option maxRecDepth 100000
section
variable {H:Type} [DecidableEq H]
theorem sX {l:List (Dr.It H)} (hr:Dr.eQ l) {c z:H} {i:Nat} (hz:(Dr.bY l c)[i]?=some z):∃ (n:Nat) (y:Dr.It H),l[n]?=some y∧y.cls=z∧(∀ d∈y.ins,(∃ p:Nat,nk (Dr.bY l c) d=(p:Int)∧p<i)∧d∈Dr.css l∧Dr.cI l d<Dr.cI l z)∧(Dr.bY l z).length≤i+1∧∀ d∈Dr.bY l z,d∈Dr.bY l c:=by
 obtain ⟨n,y,hy,hm,h1,h2,_⟩:=Dr.lG hr (c:=c) i (List.getElem?_eq_some_iff.1 hz).1
 rw [hz] at h1
 injection h1 with h1
 subst h1
 have hsub:=Dr.wH hr hy hm
 rw [h2] at hsub
 refine ⟨n,y,hy,rfl,fun d hd=>?_,hsub.2,hsub.1⟩
 have ha:=Dr.si hr hy hm hd
 obtain ⟨p,hp,e,_⟩:=tn ha.2
 have hat:=(Dr.lK hr (Dr.cS l ((Dr.css l).idxOf c)) hy hm).2
 rw [h2] at hat
 refine ⟨⟨p,hp,?_⟩,jy ha.2,Dr.yY hr hy hd⟩
 have h3:=ha.1
 rw [← e] at h3
 have h4:(Dr.bY l c).idxOf y.cls=i:=hat
 omega
end
end Go.Proofs.YtomnhnmciopiiaaGreat
end
section
namespace Go.Proofs.YtomnhnmciopiiaaGreat
open Go Go.RowKit Go.Maps
set_option maxRecDepth 100000
namespace Dr
variable {H:Type} [DecidableEq H]
theorem kh:∀ (l m:List (It H)) (known:List H),cv known (l++m)=(cv known l&&cv (known++css l) m)
 | [],m,known=>by simp [cv,css]
 | x :: l,m,known=>by
  have e:known++css (x :: l)=known++[x.cls]++css l:=by simp [css]
  rw [List.cons_append,cv,cv,kh l m (known++[x.cls]),e]
  simp only [Bool.and_assoc]
end Dr
variable (hof:Drv→Hsh)
def db (l:List Itm) (c:Hsh):Option Itm:=l.find? fun x=>decide (x.1=c)
variable {hof}
end Go.Proofs.YtomnhnmciopiiaaGreat
end
section
namespace Go.Proofs.YtomnhnmciopiiaaGreat
open Go Go.RowKit Go.Maps
set_option maxRecDepth 100000
theorem vM {H:Type} [DecidableEq H] {l:List H} {c:H} {p:Nat} (h:nk l c=(p:Int)):c∈l:=by
 unfold nk at h
 split at h
 ·assumption
 ·omega
theorem oh {H:Type} [DecidableEq H] {l:List (Dr.It H)} (hr:Dr.eQ l) {k:H} {y:Dr.It H} (hy:y∈l) (hm:y.cls∈Dr.bY l k):∀ c∈y.ins,c∈Dr.bY l k:=fun c hc=>by
 obtain ⟨i,hi⟩:=List.getElem?_of_mem hm
 obtain ⟨n,z,hz,h1,h2,_⟩:=sX hr hi
 have e:=Dr.px hr (List.mem_of_getElem? hz) hy h1
 rw [e] at h2
 obtain ⟨⟨p,hp,_⟩,_⟩:=h2 c hc
 exact vM hp
variable {hof:Drv→Hsh}
theorem r7 {α:Type} [DecidableEq α]:∀ {a b:List α},a.Nodup→(∀ x∈a,x∈b)→a.length≤b.length
 | [],b,_,_=>Nat.zero_le _
 | x :: a,b,hn,hs=>by
  obtain ⟨h1,h2⟩:=List.nodup_cons.1 hn
  have hx:=hs x (List.mem_cons_self ..)
  have h3:a.length≤(b.erase x).length:=r7 h2 fun y hy=>(List.mem_erase_of_ne (fun e=>h1 (by rw [← e];exact hy))).2 (hs y (List.mem_cons_of_mem _ hy))
  rw [List.length_erase_of_mem hx] at h3
  have:=List.length_pos_of_mem hx
  rw [List.length_cons]
  omega
end Go.Proofs.YtomnhnmciopiiaaGreat
end
section
namespace Go.Proofs.YtomnhnmciopiiaaGreat
open Go Go.RowKit Go.Maps
set_option maxRecDepth 100000
section
variable {w0 w w':World} {L:List Ent}
theorem Mem.alike (h:Mem w0 w L):Alike w0.heap.size w0 w:=fun _ hb=>h.old hb
theorem Mem.lay {α:Type} {M:Lay α} {cs:List Value} {x:α} (h:Mem w0 w L) (hx:M.At w0 w0.heap.size cs x):M.At w w.heap.size cs x:=M.dU (M.alike hx h.alike) h.below.size
theorem Mem.drv {d:Drv} {v1 v2:Value} (h:Mem w0 w L) (hx:aO w0 w0.heap.size d v1 v2):aO w w.heap.size d v1 v2:=hx.gF h.below
end
section
variable {hof:Drv→Hsh} {l:List Itm} {d:Drv}
end
end Go.Proofs.YtomnhnmciopiiaaGreat
end
section
namespace Go.Proofs.YtomnhnmciopiiaaGreat
open Go Go.RowKit Go.Maps
set_option maxRecDepth 100000
theorem aO.B0 {w:World} {B:Nat} {d:Drv} {v1 v2:Value} (h:aO w B d v1 v2):∀ x∈d.2.1,okN x:=fun x hx=>by
 obtain ⟨cs,hat⟩:=fc h.ins hx
 exact (bl.1 hat).2
theorem sJ {l:List Itm} {c:Hsh} (h:db l c=none):findD l c=(⟨#[]⟩,[],[]):=by
 unfold findD
 unfold db at h
 rw [h]
 rfl
end Go.Proofs.YtomnhnmciopiiaaGreat
end
