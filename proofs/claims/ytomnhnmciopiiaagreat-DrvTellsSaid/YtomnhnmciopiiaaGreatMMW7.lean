/- Part 7 of the texts of one proof. -/
import Derived.Test.YtomnhnmciopiiaaGreatMMW6
section
namespace Go.Proofs.YtomnhnmciopiiaaGreat
open Go Go.RowKit Go.Maps
set_option maxRecDepth 100000
attribute [local irreducible] wpList
def sj (l:List Nam):Nat→ByteArray
 | 0=>⟨#[]⟩
 | j+1=>match l[j]? with
  | some x=>x.1
  | none=>⟨#[]⟩
theorem ga {l:List Nam} {j:Nat} {x:Nam} (h:l[j]?=some x):sj l (j+1)=x.1:=by
 show (match l[j]? with | some x=>x.1 | none=>⟨#[]⟩)=x.1
 rw [h]
theorem uh {l:List Nam} {j:Nat} {x:Nam} (hj:0<(j:Int)) (h:l[j-1]?=some x):sj l j=x.1:=by
 obtain ⟨k,rfl⟩:∃ k,j=k+1:=⟨j-1,by omega⟩
 exact ga h
theorem dc (x:Nam) (b:ByteArray):iD x b=(bR x.1&&Op.bytesLess b.toList x.1.toList&&(if x.2.2.2=true then decide (x.2.1=dV) else bR x.2.1.2&&decide (x.2.2.1=dg))):=by
 unfold iD
 rw [il]
theorem wI {s:ByteArray} (h:bR s=true):Op.bytesLess (⟨#[]⟩:ByteArray).toList s.toList=true:=by
 have e:(⟨#[]⟩:ByteArray).toList=[]:=by
  rw [ByteArray.toList,ByteArray.toList.loop,if_neg (by decide)]
  rfl
 rw [e]
 unfold bR ft at h
 simp only [Bool.and_eq_true] at h
 cases hs:s.toList with
 | nil=>rw [hs] at h;simp at h
 | cons a l=>rfl
theorem bE (x:Nam) (l:List Nam) (b:ByteArray):eJ (x :: l) b=(iD x b&&eJ l x.1):=by
 rfl
theorem Ay (d:Drv):jf d=(bR d.1&&(!decide ((8:Int)<((d.2.1.length:Nat):Int))&&(!decide ((1000:Int)<((d.2.2.length:Nat):Int))&&eJ d.2.1 ⟨#[]⟩))):=by
 unfold jf
 have h1:decide ((d.2.1.length:Int)≤8)=!decide ((8:Int)<((d.2.1.length:Nat):Int)):=by by_cases h:(8:Int)<((d.2.1.length:Nat):Int)<;>simp [h]<;>omega
 have h2:decide ((d.2.2.length:Int)≤1000)=!decide ((1000:Int)<((d.2.2.length:Nat):Int)):=by by_cases h:(1000:Int)<((d.2.2.length:Nat):Int)<;>simp [h]<;>omega
 rw [h1,h2]
 cases bR d.1<;>cases eJ d.2.1 ⟨#[]⟩<;>simp
theorem bP (b:ByteArray):eJ [] b=true:=rfl
set_option maxHeartbeats 4000000 in
theorem yu (w:World) (d:Drv) (v1 v2:Value) (h:aO w w.heap.size d v1 v2) (b9:Bool) (hb:jf d=b9) :
  Calls Tryz.prog 87 #[.agg (dC d v1 v2).toArray] w fun e w'=>e=.returned (.bool b9)∧Below w.heap.size w w':=by
 have hnm:=h.name
 obtain ⟨A,cap,rfl,_,hcm,_,hA⟩:=ak h.ins
 obtain ⟨A2,cap2,rfl,_,hcm2,_,hA2⟩:=ak h.rcp
 simp only [maxLen] at hcm hcm2
 rw [Ay] at hb
 have HEQ:=hb
 clear hb
 have H0:=Mem.start w
 go_enter Tryz.func87,Tryz.ntmps87
 refine wp_seq_k (fun K1 hK1=>?_)
 refine rl ?_
 refine ay (o:=⟨some 1,_,_,_,_,_⟩) rfl 26 (.tmp 0) rfl (dC d (.slice A d.2.1.length cap) (.slice A2 d.2.2.length cap2)).toArray rfl ?_
 intro w2 hn
 have H3:=Mem.bA H0 hn
 clear hn
 refine rn ?_
 refine nt (hK1 _ _ ?_)
 refine wp_seq_k (fun K4 hK4=>?_)
 refine wp_seq_k (fun K5 hK5=>?_)
 refine rl ?_
 refine rv (v:=.pointer (some ⟨w.heap.size,0,none⟩)) (by kernel_rfl) ?_
 refine rv (xlc (range_cell (gh (Blk.range (Mem.blk H3 0 rfl)))) Tryz.underlying9) ?_
 obtain ⟨b6,hb6⟩:∃ b,bR (d.1)=b:=⟨_,rfl⟩
 refine an (by kernel_rfl) _ _ (by kernel_rfl) (kF (d.1) hnm b6 hb6 w2) ?_
 rintro e w7 ⟨rfl,hwz⟩
 rw [hwz]
 clear hwz
 refine ⟨_,rfl,rn ?_⟩
 cases b6
 ·refine rn ?_
  refine nt (hK5 _ _ ?_)
  refine ct ?_
  refine wp_seq_k (fun K9 hK9=>?_)
  refine rl ?_
  refine nt (hK9 _ _ ?_)
  refine wp_ret ?_
  simp only [Exit.then]
  refine bodyPost_ret (results_tmp rfl _ _ _) rfl ?_
  refine ⟨?_,Mem.below H3⟩
  have h:=HEQ
  simp only [Bool.false_and,hb6] at h
  subst h
  rfl
 ·refine rn ?_
  refine rv (v:=.pointer (some ⟨w.heap.size,1,none⟩)) (by kernel_rfl) ?_
  refine rv (xlc (range_cell (cG (Blk.range (Mem.blk H3 0 rfl)))) Tryz.underlying23) ?_
  by_cases p10:8<((d.2.1.length:Nat):Int)
  ·refine rv (rr (decide_eq_true p10)) ?_
   refine nt (hK5 _ _ ?_)
   refine ct ?_
   refine wp_seq_k (fun K11 hK11=>?_)
   refine rl ?_
   refine nt (hK11 _ _ ?_)
   refine wp_ret ?_
   simp only [Exit.then]
   refine bodyPost_ret (results_tmp rfl _ _ _) rfl ?_
   refine ⟨?_,Mem.below H3⟩
   have h:=HEQ
   simp only [Bool.false_and,Bool.and_false,decide_true,hb6,p10,Bool.not_true] at h
   subst h
   rfl
  ·refine rv (rr (decide_eq_false p10)) ?_
   refine rv (v:=.pointer (some ⟨w.heap.size,2,none⟩)) (by kernel_rfl) ?_
   refine rv (xlc (range_cell (js (Blk.range (Mem.blk H3 0 rfl)))) Tryz.underlying24) ?_
   by_cases p12:1000<((d.2.2.length:Nat):Int)
   ·refine rv (rr (decide_eq_true p12)) ?_
    refine nt (hK5 _ _ ?_)
    refine ct ?_
    refine wp_seq_k (fun K13 hK13=>?_)
    refine rl ?_
    refine nt (hK13 _ _ ?_)
    refine wp_ret ?_
    simp only [Exit.then]
    refine bodyPost_ret (results_tmp rfl _ _ _) rfl ?_
    refine ⟨?_,Mem.below H3⟩
    have h:=HEQ
    simp only [Bool.false_and,Bool.and_false,decide_true,decide_false,hb6,p10,p12,Bool.not_true,Bool.not_false] at h
    subst h
    rfl
   ·refine rv (rr (decide_eq_false p12)) ?_
    refine nt (hK5 _ _ ?_)
    refine cf ?_
    refine ks (hK4 _ _ ?_)
    refine wp_seq_k (fun K14 hK14=>?_)
    refine wp_seq_k (fun K15 hK15=>?_)
    refine rl ?_
    refine nt (hK15 _ _ ?_)
    refine wp_block ?_
    go_loopw [3] (fun x3 wr=>∃ j:Nat,x3=.int .i64 (j:Int)∧(j≤d.2.1.length)∧(eJ (d.2.1.drop j) (sj d.2.1 j)=b9)∧Mem w wr [cC (w.heap.size) 26 (dC d (.slice A d.2.1.length cap) (.slice A2 d.2.2.length cap2)).toArray]) (fun x3 _=>d.2.1.length-(intOf x3).toNat)
    case atStart=>exact ⟨0,rfl,by omega,(by have h:=HEQ;simp only [Bool.true_and,decide_false,hb6,p10,p12,Bool.not_false] at h;exact h),H3⟩
    case round =>
     obtain ⟨wo16,rfl⟩:∃ wo16,wo16=wr:=⟨_,rfl⟩
     obtain ⟨j,rfl,hj,HEQ,H17⟩:=hrel
     refine wp_seq_k (fun K19 hK19=>?_)
     refine wp_seq_k (fun K20 hK20=>?_)
     refine rl ?_
     refine rv (v:=.pointer (some ⟨w.heap.size,1,none⟩)) (by kernel_rfl) ?_
     refine rv (xlc (range_cell (cG (Blk.range (Mem.blk H17 0 rfl)))) Tryz.underlying23) ?_
     by_cases p21:(j:Int)<((d.2.1.length:Nat):Int)
     ·refine rv (aB (decide_eq_true p21)) ?_
      refine nt (hK20 _ _ ?_)
      refine ct ?_
      refine ks (hK19 _ _ ?_)
      refine wp_seq_k (fun K22 hK22=>?_)
      refine wp_block ?_
      refine wp_seq_k (fun K23 hK23=>?_)
      refine rl ?_
      refine rv (v:=.pointer (some ⟨w.heap.size,1,none⟩)) (by kernel_rfl) ?_
      refine rv (xlc (range_cell (cG (Blk.range (Mem.blk H17 0 rfl)))) Tryz.underlying23) ?_
      obtain ⟨b24,o25,rfl,hlt27,hE26⟩:=hA (by omega)
      obtain ⟨x28,hx29⟩:∃ x,(d.2.1)[j]?=some x:=⟨_,List.getElem?_eq_getElem (by first | omega | (rw [List.length_map,List.length_range];omega))⟩
      have hd30:=av hx29
      obtain ⟨cs,hr31,ha32⟩:=hE26 (j) x28 hx29
      obtain ⟨rfl,ok33⟩:=bl.1 ha32
      refine rv (dw (j) Tryz.underlying23 aY) ?_
      refine rv (xld (Mem.range H17 hr31 hlt27) Tryz.underlying87 (dE ok33)) ?_
      refine aC (o:=⟨some 4,_,_,_,_,_⟩) rfl 87 zcN (by kernel_rfl) ?_
      intro w34 hn
      have H35:=Mem.bA H17 hn
      clear hn
      refine rn ?_
      refine al (o:=⟨none,_,_,_,_,_⟩) rfl 87 (.tmp 4) (.tmp 32) rfl wo16.heap.size zcN (nC x28).toArray 87 (Mem.blk H35 0 rfl) (iF ok33) (dk mT (iF ok33)) (ui x28) rfl rfl ?_
      intro w36 hk hg
      have H37:=Mem.st H35 0 rfl hk hg
      clear hk hg
      refine rn ?_
      refine nt (hK23 _ _ ?_)
      refine wp_seq_k (fun K38 hK38=>?_)
      refine wp_seq_k (fun K39 hK39=>?_)
      obtain ⟨b40,hb40⟩:∃ b,bR (x28.1)=b:=⟨_,rfl⟩
      refine Fre.aW (X:=Bel) [] (by kernel_rfl) (by kernel_rfl) (by simp) (by simp) (by simp) ?_
      refine Fre.mvv (v:=.pointer (some ⟨wo16.heap.size,0,none⟩)) (fun _ _=>by kernel_rfl) ?_
      refine Fre.mvv (fun W9 hW9=>xlc (range_cell (ky (Blk.range (Mem.blk (Mem.call H37 hW9) 0 rfl)))) Tryz.underlying9) ?_
      refine Fre.aA (.bool b40) _ _ (by kernel_rfl) (by kernel_rfl) (by kernel_rfl) (fun W9=>by kernel_rfl) (fun W9 hW9=>tw (kF (x28.1) ok33.1 b40 hb40 W9)) ?_
      refine Fre.rmd ?_
      cases b40
      ·refine Fre.rmd ?_
       intro w41 hx43
       dsimp only [Fre.ended,List.drop]
       have H42:=Mem.call H37 hx43
       refine ab (hK39 _ _ ?_)
       refine ct ?_
       refine wp_seq_k (fun K44 hK44=>?_)
       refine rl ?_
       refine nt (hK44 _ _ ?_)
       refine wp_ret ?_
       simp only [Exit.then,Exit.inBlock]
       refine bodyPost_ret (results_tmp rfl _ _ _) rfl ?_
       refine ⟨?_,Mem.below H42⟩
       have h:=HEQ
       simp only [bE,dc,Bool.false_and,hd30,hb40] at h
       subst h
       rfl
      ·refine Fre.rmd ?_
       by_cases p45:0<(j:Int)
       ·refine Fre.mvv (fun _ _=>rr (decide_eq_true p45)) ?_
        refine Fre.mvv (v:=.pointer (some ⟨w.heap.size,1,none⟩)) (fun _ _=>by kernel_rfl) ?_
        refine Fre.mvv (fun W9 hW9=>xlc (range_cell (cG (Blk.range (Mem.blk (Mem.call H37 hW9) 1 rfl)))) Tryz.underlying23) ?_
        refine Fre.mvv (fun _ _=>xt (((j-1:Nat):Int))) ?_
        obtain ⟨x46,hx47⟩:∃ x,(d.2.1)[j-1]?=some x:=⟨_,List.getElem?_eq_getElem (by first | omega | (rw [List.length_map,List.length_range];omega))⟩
        have hd48:=av hx47
        obtain ⟨cs,hr49,ha50⟩:=hE26 (j-1) x46 hx47
        obtain ⟨rfl,ok51⟩:=bl.1 ha50
        have hpv:=uh (by omega) hx47
        refine Fre.mvv (fun _ _=>dw (j-1) Tryz.underlying23 aY) ?_
        refine Fre.mvv (v:=.pointer (some ⟨b24,o25+(j-1)*43,none⟩)) (fun _ _=>by kernel_rfl) ?_
        refine Fre.mvv (fun W9 hW9=>xlc (range_cell (ky (Mem.range (Mem.call H37 hW9) hr49 hlt27))) Tryz.underlying9) ?_
        refine Fre.mvv (v:=.pointer (some ⟨wo16.heap.size,0,none⟩)) (fun _ _=>by kernel_rfl) ?_
        refine Fre.mvv (fun W9 hW9=>xlc (range_cell (ky (Blk.range (Mem.blk (Mem.call H37 hW9) 0 rfl)))) Tryz.underlying9) ?_
        obtain ⟨b52,hb52⟩:∃ b,Op.bytesLess (x46.1).toList (x28.1).toList=b:=⟨_,rfl⟩
        refine Fre.mvv (fun W9 _=>z6 (o:=⟨some 50,_,_,_,_,_⟩) 9 9 (.tmp 47) (.tmp 49) rfl (x46.1) (x28.1) rfl rfl _ hb52 W9) ?_
        intro w53 hx55
        dsimp only [Fre.ended,List.drop]
        have H54:=Mem.call H37 hx55
        refine ab (hK39 _ _ ?_)
        cases b52
        ·refine ct ?_
         refine wp_seq_k (fun K56 hK56=>?_)
         refine rl ?_
         refine nt (hK56 _ _ ?_)
         refine wp_ret ?_
         simp only [Exit.then,Exit.inBlock]
         refine bodyPost_ret (results_tmp rfl _ _ _) rfl ?_
         refine ⟨?_,Mem.below H54⟩
         have h:=HEQ
         simp only [bE,dc,Bool.false_and,Bool.and_false,hd30,hb40,hpv,hb52] at h
         subst h
         rfl
        ·refine cf ?_
         refine ks (hK38 _ _ ?_)
         refine wp_seq_k (fun K57 hK57=>?_)
         refine rl ?_
         refine rv (v:=.pointer (some ⟨wo16.heap.size,1,none⟩)) (by kernel_rfl) ?_
         refine rv (v:=.pointer (some ⟨wo16.heap.size,42,none⟩)) (by kernel_rfl) ?_
         obtain ⟨b58,hb58⟩:∃ b,x28.2.2.2=b:=⟨_,rfl⟩
         refine rv (v:=.bool b58) (by rw [← hb58];exact (exec_load_cell (o:=⟨some 55,_,_,_,_,_⟩) 4 (.tmp 54) rfl ⟨wo16.heap.size,42,none⟩ rfl _ _ w53 Tryz.underlying4 rfl (range_cell (iI ok33.2 (cR (Blk.range (Mem.blk H54 0 rfl))))))) ?_
         cases b58
         ·refine rn ?_
          refine rv (v:=.pointer (some ⟨wo16.heap.size,1,none⟩)) (by kernel_rfl) ?_
          refine rv (v:=.pointer (some ⟨wo16.heap.size,42,none⟩)) (by kernel_rfl) ?_
          refine rv (v:=.bool false) (by rw [← hb58];exact (exec_load_cell (o:=⟨some 66,_,_,_,_,_⟩) 4 (.tmp 65) rfl ⟨wo16.heap.size,42,none⟩ rfl _ _ w53 Tryz.underlying4 rfl (range_cell (iI ok33.2 (cR (Blk.range (Mem.blk H54 0 rfl))))))) ?_
          refine rv (v:=.pointer (some ⟨wo16.heap.size,1,none⟩)) (by kernel_rfl) ?_
          refine rv (v:=.pointer (some ⟨wo16.heap.size,1,none⟩)) (by kernel_rfl) ?_
          refine rv (v:=.pointer (some ⟨wo16.heap.size,21,none⟩)) (by kernel_rfl) ?_
          refine rv (xlc (range_cell (rM ok33.2.1 (j7 (cR (Blk.range (Mem.blk H54 0 rfl)))))) Tryz.underlying9) ?_
          obtain ⟨b59,hb59⟩:∃ b,bR (x28.2.1.2)=b:=⟨_,rfl⟩
          refine an (by kernel_rfl) _ _ (by kernel_rfl) (kF (x28.2.1.2) ok33.2.1.2 b59 hb59 w53) ?_
          rintro e w60 ⟨rfl,hwz⟩
          rw [hwz]
          clear hwz
          refine ⟨_,rfl,rn ?_⟩
          cases b59
          ·refine rn ?_
           refine nt (hK57 _ _ ?_)
           refine ct ?_
           refine wp_seq_k (fun K62 hK62=>?_)
           refine rl ?_
           refine nt (hK62 _ _ ?_)
           refine wp_ret ?_
           simp only [Exit.then,Exit.inBlock]
           refine bodyPost_ret (results_tmp rfl _ _ _) rfl ?_
           refine ⟨?_,Mem.below H54⟩
           have h:=HEQ
           simp only [bE,dc,Bool.false_and,Bool.and_true,Bool.and_false,hd30,hb40,hpv,hb52,hb58,hb59,↓reduceIte,Bool.false_eq_true] at h
           subst h
           rfl
          ·refine rn ?_
           refine rv (v:=.pointer (some ⟨wo16.heap.size,1,none⟩)) (by kernel_rfl) ?_
           refine rv (v:=.pointer (some ⟨wo16.heap.size,22,none⟩)) (by kernel_rfl) ?_
           refine rv (xld (lq ok33.2 (cR (Blk.range (Mem.blk H54 0 rfl)))) Tryz.underlying34 (cN ok33.2.2)) ?_
           refine rv (v:=.agg (bv dg).toArray) (by kernel_rfl) ?_
           by_cases p63:x28.2.2.1=dg
           ·refine rv (dL (o:=⟨some 80,_,_,_,_,_⟩) 34 34 (.tmp 78) (.tmp 79) rfl (bv x28.2.2.1).toArray (bv dg).toArray rfl rfl (by kernel_rfl) _ w53 (by have h9:=cU (x28.2.2.1) (dg) ok33.2.2 fp w53;rwa [show decide _=true from (decide_eq_true p63)] at h9)) ?_
            refine nt (hK57 _ _ ?_)
            refine cf ?_
            refine wp_skip ?_
            refine aq ?_
            refine ab (hK22 _ _ ?_)
            refine rl ?_
            refine rv (aR (((j+1:Nat):Int))) ?_
            refine wpList_nil ?_
            have H64:=Mem.pick H54 [1] (by decide) rfl
            refine ab ?_
            show _∧_
            go_roundw
            case rel=>exact ⟨(j+1),rfl,by omega,(by have h:=HEQ;simp only [bE,dc,Bool.true_and,Bool.and_true,decide_true,hd30,hb40,hpv,hb52,hb58,hb59,p63,↓reduceIte,Bool.false_eq_true] at h;rw [ga hx29];exact h),H64⟩
            case measure=>simp [intOf];omega
           ·refine rv (dL (o:=⟨some 80,_,_,_,_,_⟩) 34 34 (.tmp 78) (.tmp 79) rfl (bv x28.2.2.1).toArray (bv dg).toArray rfl rfl (by kernel_rfl) _ w53 (by have h9:=cU (x28.2.2.1) (dg) ok33.2.2 fp w53;rwa [show decide _=false from (decide_eq_false p63)] at h9)) ?_
            refine nt (hK57 _ _ ?_)
            refine ct ?_
            refine wp_seq_k (fun K65 hK65=>?_)
            refine rl ?_
            refine nt (hK65 _ _ ?_)
            refine wp_ret ?_
            simp only [Exit.then,Exit.inBlock]
            refine bodyPost_ret (results_tmp rfl _ _ _) rfl ?_
            refine ⟨?_,Mem.below H54⟩
            have h:=HEQ
            simp only [bE,dc,Bool.false_and,Bool.and_true,Bool.and_false,decide_false,hd30,hb40,hpv,hb52,hb58,hb59,p63,↓reduceIte,Bool.false_eq_true] at h
            subst h
            rfl
         ·refine rv (v:=.pointer (some ⟨wo16.heap.size,1,none⟩)) (by kernel_rfl) ?_
          refine rv (v:=.pointer (some ⟨wo16.heap.size,1,none⟩)) (by kernel_rfl) ?_
          refine rv (xld (j7 (cR (Blk.range (Mem.blk H54 0 rfl)))) Tryz.underlying83 (ck ok33.2.1)) ?_
          refine rv (v:=.agg (pC dV).toArray) (by kernel_rfl) ?_
          by_cases p66:x28.2.1=dV
          ·refine rv (dL (o:=⟨some 61,_,_,_,_,_⟩) 83 83 (.tmp 59) (.tmp 60) rfl (pC x28.2.1).toArray (pC dV).toArray rfl rfl (by kernel_rfl) _ w53 (by have h9:=fk (x28.2.1) (dV) ok33.2.1 eG w53;rwa [show decide _=true from (decide_eq_true p66)] at h9)) ?_
           refine rv (v:=.pointer (some ⟨wo16.heap.size,1,none⟩)) (by kernel_rfl) ?_
           refine rv (v:=.pointer (some ⟨wo16.heap.size,42,none⟩)) (by kernel_rfl) ?_
           refine rv (v:=.bool true) (by rw [← hb58];exact (exec_load_cell (o:=⟨some 66,_,_,_,_,_⟩) 4 (.tmp 65) rfl ⟨wo16.heap.size,42,none⟩ rfl _ _ w53 Tryz.underlying4 rfl (range_cell (iI ok33.2 (cR (Blk.range (Mem.blk H54 0 rfl))))))) ?_
           refine nt (hK57 _ _ ?_)
           refine cf ?_
           refine wp_skip ?_
           refine aq ?_
           refine ab (hK22 _ _ ?_)
           refine rl ?_
           refine rv (aR (((j+1:Nat):Int))) ?_
           refine wpList_nil ?_
           have H67:=Mem.pick H54 [1] (by decide) rfl
           refine ab ?_
           show _∧_
           go_roundw
           case rel=>exact ⟨(j+1),rfl,by omega,(by have h:=HEQ;simp only [bE,dc,Bool.true_and,Bool.and_true,decide_true,hd30,hb40,hpv,hb52,hb58,p66,↓reduceIte] at h;rw [ga hx29];exact h),H67⟩
           case measure=>simp [intOf];omega
          ·refine rv (dL (o:=⟨some 61,_,_,_,_,_⟩) 83 83 (.tmp 59) (.tmp 60) rfl (pC x28.2.1).toArray (pC dV).toArray rfl rfl (by kernel_rfl) _ w53 (by have h9:=fk (x28.2.1) (dV) ok33.2.1 eG w53;rwa [show decide _=false from (decide_eq_false p66)] at h9)) ?_
           refine nt (hK57 _ _ ?_)
           refine ct ?_
           refine wp_seq_k (fun K68 hK68=>?_)
           refine rl ?_
           refine nt (hK68 _ _ ?_)
           refine wp_ret ?_
           simp only [Exit.then,Exit.inBlock]
           refine bodyPost_ret (results_tmp rfl _ _ _) rfl ?_
           refine ⟨?_,Mem.below H54⟩
           have h:=HEQ
           simp only [bE,dc,Bool.false_and,Bool.and_true,Bool.and_false,decide_false,hd30,hb40,hpv,hb52,hb58,p66,↓reduceIte] at h
           subst h
           rfl
       ·have hj0:j=0:=by omega
        have hpv:sj d.2.1 j=⟨#[]⟩:=by rw [hj0];rfl
        have hz:=wI hb40
        refine Fre.mvv (fun _ _=>rr (decide_eq_false p45)) ?_
        intro w69 hx71
        dsimp only [Fre.ended,List.drop]
        have H70:=Mem.call H37 hx71
        refine ab (hK39 _ _ ?_)
        refine cf ?_
        refine ks (hK38 _ _ ?_)
        refine wp_seq_k (fun K72 hK72=>?_)
        refine rl ?_
        refine rv (v:=.pointer (some ⟨wo16.heap.size,1,none⟩)) (by kernel_rfl) ?_
        refine rv (v:=.pointer (some ⟨wo16.heap.size,42,none⟩)) (by kernel_rfl) ?_
        obtain ⟨b73,hb73⟩:∃ b,x28.2.2.2=b:=⟨_,rfl⟩
        refine rv (v:=.bool b73) (by rw [← hb73];exact (exec_load_cell (o:=⟨some 55,_,_,_,_,_⟩) 4 (.tmp 54) rfl ⟨wo16.heap.size,42,none⟩ rfl _ _ w69 Tryz.underlying4 rfl (range_cell (iI ok33.2 (cR (Blk.range (Mem.blk H70 0 rfl))))))) ?_
        cases b73
        ·refine rn ?_
         refine rv (v:=.pointer (some ⟨wo16.heap.size,1,none⟩)) (by kernel_rfl) ?_
         refine rv (v:=.pointer (some ⟨wo16.heap.size,42,none⟩)) (by kernel_rfl) ?_
         refine rv (v:=.bool false) (by rw [← hb73];exact (exec_load_cell (o:=⟨some 66,_,_,_,_,_⟩) 4 (.tmp 65) rfl ⟨wo16.heap.size,42,none⟩ rfl _ _ w69 Tryz.underlying4 rfl (range_cell (iI ok33.2 (cR (Blk.range (Mem.blk H70 0 rfl))))))) ?_
         refine rv (v:=.pointer (some ⟨wo16.heap.size,1,none⟩)) (by kernel_rfl) ?_
         refine rv (v:=.pointer (some ⟨wo16.heap.size,1,none⟩)) (by kernel_rfl) ?_
         refine rv (v:=.pointer (some ⟨wo16.heap.size,21,none⟩)) (by kernel_rfl) ?_
         refine rv (xlc (range_cell (rM ok33.2.1 (j7 (cR (Blk.range (Mem.blk H70 0 rfl)))))) Tryz.underlying9) ?_
         obtain ⟨b74,hb74⟩:∃ b,bR (x28.2.1.2)=b:=⟨_,rfl⟩
         refine an (by kernel_rfl) _ _ (by kernel_rfl) (kF (x28.2.1.2) ok33.2.1.2 b74 hb74 w69) ?_
         rintro e w75 ⟨rfl,hwz⟩
         rw [hwz]
         clear hwz
         refine ⟨_,rfl,rn ?_⟩
         cases b74
         ·refine rn ?_
          refine nt (hK72 _ _ ?_)
          refine ct ?_
          refine wp_seq_k (fun K77 hK77=>?_)
          refine rl ?_
          refine nt (hK77 _ _ ?_)
          refine wp_ret ?_
          simp only [Exit.then,Exit.inBlock]
          refine bodyPost_ret (results_tmp rfl _ _ _) rfl ?_
          refine ⟨?_,Mem.below H70⟩
          have h:=HEQ
          simp only [bE,dc,Bool.false_and,Bool.and_true,Bool.and_false,hd30,hb40,hz,hpv,hb73,hb74,↓reduceIte,Bool.false_eq_true] at h
          subst h
          rfl
         ·refine rn ?_
          refine rv (v:=.pointer (some ⟨wo16.heap.size,1,none⟩)) (by kernel_rfl) ?_
          refine rv (v:=.pointer (some ⟨wo16.heap.size,22,none⟩)) (by kernel_rfl) ?_
          refine rv (xld (lq ok33.2 (cR (Blk.range (Mem.blk H70 0 rfl)))) Tryz.underlying34 (cN ok33.2.2)) ?_
          refine rv (v:=.agg (bv dg).toArray) (by kernel_rfl) ?_
          by_cases p78:x28.2.2.1=dg
          ·refine rv (dL (o:=⟨some 80,_,_,_,_,_⟩) 34 34 (.tmp 78) (.tmp 79) rfl (bv x28.2.2.1).toArray (bv dg).toArray rfl rfl (by kernel_rfl) _ w69 (by have h9:=cU (x28.2.2.1) (dg) ok33.2.2 fp w69;rwa [show decide _=true from (decide_eq_true p78)] at h9)) ?_
           refine nt (hK72 _ _ ?_)
           refine cf ?_
           refine wp_skip ?_
           refine aq ?_
           refine ab (hK22 _ _ ?_)
           refine rl ?_
           refine rv (aR (((j+1:Nat):Int))) ?_
           refine wpList_nil ?_
           have H79:=Mem.pick H70 [1] (by decide) rfl
           refine ab ?_
           show _∧_
           go_roundw
           case rel=>exact ⟨(j+1),rfl,by omega,(by have h:=HEQ;simp only [bE,dc,Bool.true_and,Bool.and_true,decide_true,hd30,hb40,hz,hpv,hb73,hb74,p78,↓reduceIte,Bool.false_eq_true] at h;rw [ga hx29];exact h),H79⟩
           case measure=>simp [intOf];omega
          ·refine rv (dL (o:=⟨some 80,_,_,_,_,_⟩) 34 34 (.tmp 78) (.tmp 79) rfl (bv x28.2.2.1).toArray (bv dg).toArray rfl rfl (by kernel_rfl) _ w69 (by have h9:=cU (x28.2.2.1) (dg) ok33.2.2 fp w69;rwa [show decide _=false from (decide_eq_false p78)] at h9)) ?_
           refine nt (hK72 _ _ ?_)
           refine ct ?_
           refine wp_seq_k (fun K80 hK80=>?_)
           refine rl ?_
           refine nt (hK80 _ _ ?_)
           refine wp_ret ?_
           simp only [Exit.then,Exit.inBlock]
           refine bodyPost_ret (results_tmp rfl _ _ _) rfl ?_
           refine ⟨?_,Mem.below H70⟩
           have h:=HEQ
           simp only [bE,dc,Bool.false_and,Bool.and_true,Bool.and_false,decide_false,hd30,hb40,hz,hpv,hb73,hb74,p78,↓reduceIte,Bool.false_eq_true] at h
           subst h
           rfl
        ·refine rv (v:=.pointer (some ⟨wo16.heap.size,1,none⟩)) (by kernel_rfl) ?_
         refine rv (v:=.pointer (some ⟨wo16.heap.size,1,none⟩)) (by kernel_rfl) ?_
         refine rv (xld (j7 (cR (Blk.range (Mem.blk H70 0 rfl)))) Tryz.underlying83 (ck ok33.2.1)) ?_
         refine rv (v:=.agg (pC dV).toArray) (by kernel_rfl) ?_
         by_cases p81:x28.2.1=dV
         ·refine rv (dL (o:=⟨some 61,_,_,_,_,_⟩) 83 83 (.tmp 59) (.tmp 60) rfl (pC x28.2.1).toArray (pC dV).toArray rfl rfl (by kernel_rfl) _ w69 (by have h9:=fk (x28.2.1) (dV) ok33.2.1 eG w69;rwa [show decide _=true from (decide_eq_true p81)] at h9)) ?_
          refine rv (v:=.pointer (some ⟨wo16.heap.size,1,none⟩)) (by kernel_rfl) ?_
          refine rv (v:=.pointer (some ⟨wo16.heap.size,42,none⟩)) (by kernel_rfl) ?_
          refine rv (v:=.bool true) (by rw [← hb73];exact (exec_load_cell (o:=⟨some 66,_,_,_,_,_⟩) 4 (.tmp 65) rfl ⟨wo16.heap.size,42,none⟩ rfl _ _ w69 Tryz.underlying4 rfl (range_cell (iI ok33.2 (cR (Blk.range (Mem.blk H70 0 rfl))))))) ?_
          refine nt (hK72 _ _ ?_)
          refine cf ?_
          refine wp_skip ?_
          refine aq ?_
          refine ab (hK22 _ _ ?_)
          refine rl ?_
          refine rv (aR (((j+1:Nat):Int))) ?_
          refine wpList_nil ?_
          have H82:=Mem.pick H70 [1] (by decide) rfl
          refine ab ?_
          show _∧_
          go_roundw
          case rel=>exact ⟨(j+1),rfl,by omega,(by have h:=HEQ;simp only [bE,dc,Bool.true_and,Bool.and_true,decide_true,hd30,hb40,hz,hpv,hb73,p81,↓reduceIte] at h;rw [ga hx29];exact h),H82⟩
          case measure=>simp [intOf];omega
         ·refine rv (dL (o:=⟨some 61,_,_,_,_,_⟩) 83 83 (.tmp 59) (.tmp 60) rfl (pC x28.2.1).toArray (pC dV).toArray rfl rfl (by kernel_rfl) _ w69 (by have h9:=fk (x28.2.1) (dV) ok33.2.1 eG w69;rwa [show decide _=false from (decide_eq_false p81)] at h9)) ?_
          refine nt (hK72 _ _ ?_)
          refine ct ?_
          refine wp_seq_k (fun K83 hK83=>?_)
          refine rl ?_
          refine nt (hK83 _ _ ?_)
          refine wp_ret ?_
          simp only [Exit.then,Exit.inBlock]
          refine bodyPost_ret (results_tmp rfl _ _ _) rfl ?_
          refine ⟨?_,Mem.below H70⟩
          have h:=HEQ
          simp only [bE,dc,Bool.false_and,Bool.and_true,Bool.and_false,decide_false,hd30,hb40,hz,hpv,hb73,p81,↓reduceIte] at h
          subst h
          rfl
     ·have he84:=bF (l:=d.2.1) (j:=j) (by omega)
      refine rv (aB (decide_eq_false p21)) ?_
      refine nt (hK20 _ _ ?_)
      refine cf ?_
      refine wp_exit ?_
      refine aj ?_
      refine aj ?_
      refine ax ?_
      refine ab (hK14 _ _ ?_)
      refine wp_seq_k (fun K85 hK85=>?_)
      refine rl ?_
      refine nt (hK85 _ _ ?_)
      refine wp_ret ?_
      refine bodyPost_ret (results_tmp rfl _ _ _) rfl ?_
      refine ⟨?_,Mem.below H17⟩
      have h:=HEQ
      simp only [bP,he84] at h
      subst h
      rfl
end Go.Proofs.YtomnhnmciopiiaaGreat
end
section
namespace Go.Proofs.YtomnhnmciopiiaaGreat
open Go Go.RowKit Go.Maps
set_option maxRecDepth 100000
def mw (s:ByteArray):ByteArray:=s++⟨#[10]⟩
def dS (d:Drv):Nat→ByteArray
 | 0=>mw (⟨#[100,114,118,32]⟩++d.1)
 | j+1=>match d.2.1[j]? with
  | some x=>dS d j++mw (fu x)
  | none=>dS d j
theorem lI {d:Drv} {j:Nat} {x:Nam} (h:d.2.1[j]?=some x):dS d (j+1)=dS d j++mw (fu x):=by
 rw [dS,h]
theorem py:∀ (l:List (List UInt8)),l ≠ []→Lib.join l [10]++[10]=l.flatMap fun s=>s++[10]
 | [],h=>absurd rfl h
 | [s],_=>by simp [Lib.join]
 | s :: t :: l,_=>by
  have ih:=py (t :: l) (by simp)
  rw [List.flatMap_cons,← ih]
  simp [Lib.join]
theorem oP (d:Drv):∀ j,j≤d.2.1.length→(dS d j).data.toList=((⟨#[100,114,118,32]⟩++d.1:ByteArray) :: (d.2.1.take j).map fu).flatMap fun s=>s.data.toList++[10]
 | 0,_=>by simp [dS,mw,ByteArray.data_append]
 | j+1,h=>by
  obtain ⟨x,hx⟩:∃ x,d.2.1[j]?=some x:=⟨_,List.getElem?_eq_getElem (by omega)⟩
  rw [lI hx,ByteArray.data_append,Array.toList_append,oP d j (by omega),List.take_add_one,hx]
  simp [mw,ByteArray.data_append]
theorem rD (d:Drv):eF d=dS d d.2.1.length++mw (⟨#[114,117,110,32]⟩++⟨(cH d.2.2).toArray⟩):=by
 apply ByteArray.ext
 apply Array.toList_inj.1
 have h:=oP d d.2.1.length (Nat.le_refl _)
 rw [List.take_length] at h
 rw [ByteArray.data_append,Array.toList_append,h]
 unfold eF
 rw [ByteArray.data_append,Array.toList_append]
 have hj:=py ((cw d).map (·.data.toList)) (by simp [cw])
 refine hj.trans ?_
 simp [cw,mw,ByteArray.data_append,List.flatMap_map]
end Go.Proofs.YtomnhnmciopiiaaGreat
end
section
namespace Go.Proofs.YtomnhnmciopiiaaGreat
open Go Go.RowKit Go.Maps
set_option maxRecDepth 100000
attribute [local irreducible] wpList
theorem qH {h:Hsh} (hh:okH h) {S:ByteArray} (hS:S=⟨(aQ h).toArray⟩):S.size≤40:=by
 have h1:=dr h
 have h2:h.length=20:=hh
 rw [hS]
 show (aQ h).toArray.size≤_
 rw [List.size_toArray]
 omega
theorem qY (l:List Int):(⟨(cH l).toArray⟩:ByteArray).size≤2*l.length+1:=by
 show (cH l).toArray.size≤_
 rw [List.size_toArray]
 exact j5 l
theorem wj (w:World) (l:List Int) (v:Value) (h:bZ.At w w.heap.size [v] l) (hl:l.length≤1000000) (S:ByteArray) (hS:(⟨(cH l).toArray⟩:ByteArray)=S) :
  Calls Tryz.prog 90 #[v] w fun e w'=>e=.returned (.string S)∧Below w.heap.size w w':=hS▸rh w l v h hl
theorem xX {d:Drv} {j:Nat} {x:Nam} (hx:d.2.1[j]?=some x) (hi:x.2.2.2=true) {S:ByteArray} (hS:S=⟨(aQ x.2.2.1).toArray⟩) :
  dS d j++⟨#[99,108,97,115,115,32]⟩++x.1++⟨#[32]⟩++S++⟨#[10]⟩=dS d (j+1):=by
 rw [lI hx,mw,fu,if_pos hi,hS]
 simp only [ByteArray.append_assoc]
theorem zh {d:Drv} {j:Nat} {x:Nam} (hx:d.2.1[j]?=some x) (hi:x.2.2.2=false) :
  dS d j++⟨#[115,114,99,32]⟩++x.1++⟨#[32]⟩++fW x.2.1++⟨#[10]⟩=dS d (j+1):=by
 rw [lI hx,mw,fu,if_neg (by rw [hi];simp)]
 simp only [ByteArray.append_assoc]
theorem wT {d:Drv} (h:d.1.size≤24):(dS d 0).size≤1000+200*0:=by
 rw [dS,mw]
 have e4:(⟨#[100,114,118,32]⟩:ByteArray).size=4:=rfl
 have e1:(⟨#[10]⟩:ByteArray).size=1:=rfl
 simp only [ByteArray.size_append,e4,e1]
 omega
set_option maxHeartbeats 4000000 in
theorem xS (w:World) (d:Drv) (v1 v2:Value) (h:aO w w.heap.size d v1 v2) :
  Calls Tryz.prog 57 #[.agg (dC d v1 v2).toArray] w fun e w'=>∃ v,e=.returned (.tuple #[v,.int .i64 (fK d)])∧(fK d=0→∃ g cap,v=.slice (some ⟨g,0,none⟩) (eF d).size cap∧qU w' g (eF d)∧(eF d).size≤cap∧w.heap.size≤g∧g<w'.heap.size)∧Below w.heap.size w w':=by
 have hnm:=h.name
 obtain ⟨A,cap,rfl,_,hcm,_,hA⟩:=ak h.ins
 obtain ⟨A2,cap2,rfl,_,hcm2,_,hA2⟩:=ak h.rcp
 simp only [maxLen] at hcm hcm2
 have H0:=Mem.start w
 go_enter Tryz.func57,Tryz.ntmps57
 refine wp_seq_k (fun K1 hK1=>?_)
 refine rl ?_
 refine ay (o:=⟨some 1,_,_,_,_,_⟩) rfl 26 (.tmp 0) rfl (dC d (.slice A d.2.1.length cap) (.slice A2 d.2.2.length cap2)).toArray rfl ?_
 intro w2 hn
 have H3:=Mem.bA H0 hn
 clear hn
 refine rn ?_
 refine nt (hK1 _ _ ?_)
 refine wp_seq_k (fun K4 hK4=>?_)
 refine wp_seq_k (fun K5 hK5=>?_)
 refine rl ?_
 refine rv (xld (Blk.range (Mem.blk H3 0 rfl)) Tryz.underlying26 (bJ d (.slice A d.2.1.length cap) (.slice A2 d.2.2.length cap2))) ?_
 obtain ⟨bc,hbc⟩:∃ b,jf d=b:=⟨_,rfl⟩
 refine an (by kernel_rfl) _ _ (by kernel_rfl) (yu w2 d _ _ (Mem.drv H3 h) bc hbc) ?_
 rintro e w6 ⟨rfl,hb8⟩
 refine ⟨_,rfl,rn ?_⟩
 have H7:=Mem.call H3 hb8
 cases bc
 ·refine rn ?_
  refine nt (hK5 _ _ ?_)
  refine ct ?_
  refine wp_seq_k (fun K9 hK9=>?_)
  refine rl ?_
  refine nt (hK9 _ _ ?_)
  refine wp_ret ?_
  simp only [Exit.then]
  refine bodyPost_ret (cB (r1:=.tmp 2) (r2:=.tmp 3) rfl ⟨rfl,rfl,trivial⟩) rfl ?_
  have hpe:fK d=2:=by unfold fK;rw [if_neg (by rw [hbc];simp)]
  rw [hpe]
  exact ⟨_,rfl,(fun h=>by cases h),Mem.below H7⟩
 ·obtain ⟨hn9,hl8,hr9⟩:=lx hbc
  have hln:=nu hbc
  have hn24:=dv hn9
  refine rn ?_
  refine nt (hK5 _ _ ?_)
  refine cf ?_
  refine ks (hK4 _ _ ?_)
  refine wp_seq_k (fun K10 hK10=>?_)
  refine rl ?_
  refine rv (v:=.pointer (some ⟨w.heap.size,0,none⟩)) (by kernel_rfl) ?_
  refine rv (xlc (range_cell (gh (Blk.range (Mem.blk H7 0 rfl)))) Tryz.underlying9) ?_
  refine rv (j4 ((⟨#[100,114,118,32]⟩:ByteArray)) (d.1) (by have e0:(⟨#[100,114,118,32]⟩:ByteArray).size=4:=rfl;simp only [e0];omega)) ?_
  refine rv (j4 ((⟨#[100,114,118,32]⟩:ByteArray)++d.1) ((⟨#[10]⟩:ByteArray)) (by have e0:(⟨#[100,114,118,32]⟩:ByteArray).size=4:=rfl;have e1:(⟨#[10]⟩:ByteArray).size=1:=rfl;simp only [ByteArray.size_append,e0,e1];omega)) ?_
  refine nt (hK10 _ _ ?_)
  refine wp_seq_k (fun K11 hK11=>?_)
  refine wp_seq_k (fun K12 hK12=>?_)
  refine rl ?_
  refine nt (hK12 _ _ ?_)
  refine wp_block ?_
  go_loopw [4,5] (fun x4 x5 wr=>∃ j:Nat,x4=.string ((dS d j))∧x5=.int .i64 (j:Int)∧(j≤d.2.1.length)∧((dS d j).size≤1000+200*j)∧Mem w wr [cC (w.heap.size) 26 (dC d (.slice A d.2.1.length cap) (.slice A2 d.2.2.length cap2)).toArray]) (fun x4 x5 _=>d.2.1.length-(intOf x5).toNat)
  case atStart=>exact ⟨0,rfl,rfl,by omega,wT hn24,H7⟩
  case round =>
   obtain ⟨wo13,rfl⟩:∃ wo13,wo13=wr:=⟨_,rfl⟩
   obtain ⟨j,rfl,rfl,hj,hos,H14⟩:=hrel
   refine wp_seq_k (fun K16 hK16=>?_)
   refine wp_seq_k (fun K17 hK17=>?_)
   refine rl ?_
   refine rv (v:=.pointer (some ⟨w.heap.size,1,none⟩)) (by kernel_rfl) ?_
   refine rv (xlc (range_cell (cG (Blk.range (Mem.blk H14 0 rfl)))) Tryz.underlying23) ?_
   by_cases p18:(j:Int)<((d.2.1.length:Nat):Int)
   ·refine rv (aB (decide_eq_true p18)) ?_
    refine nt (hK17 _ _ ?_)
    refine ct ?_
    refine ks (hK16 _ _ ?_)
    refine wp_seq_k (fun K19 hK19=>?_)
    refine wp_block ?_
    refine wp_seq_k (fun K20 hK20=>?_)
    refine rl ?_
    refine rv (v:=.pointer (some ⟨w.heap.size,1,none⟩)) (by kernel_rfl) ?_
    refine rv (xlc (range_cell (cG (Blk.range (Mem.blk H14 0 rfl)))) Tryz.underlying23) ?_
    obtain ⟨b21,o22,rfl,hlt24,hE23⟩:=hA (by omega)
    obtain ⟨x25,hx26⟩:∃ x,(d.2.1)[j]?=some x:=⟨_,List.getElem?_eq_getElem (by first | omega | (rw [List.length_map,List.length_range];omega))⟩
    have hd27:=av hx26
    obtain ⟨cs,hr28,ha29⟩:=hE23 (j) x25 hx26
    obtain ⟨rfl,ok30⟩:=bl.1 ha29
    have hx24:=(hln _ (List.mem_of_getElem? hx26)).1
    refine rv (dw (j) Tryz.underlying23 aY) ?_
    refine rv (xld (Mem.range H14 hr28 hlt24) Tryz.underlying87 (dE ok30)) ?_
    refine aC (o:=⟨some 6,_,_,_,_,_⟩) rfl 87 zcN (by kernel_rfl) ?_
    intro w31 hn
    have H32:=Mem.bA H14 hn
    clear hn
    refine rn ?_
    refine al (o:=⟨none,_,_,_,_,_⟩) rfl 87 (.tmp 6) (.tmp 27) rfl wo13.heap.size zcN (nC x25).toArray 87 (Mem.blk H32 0 rfl) (iF ok30) (dk mT (iF ok30)) (ui x25) rfl rfl ?_
    intro w33 hk hg
    have H34:=Mem.st H32 0 rfl hk hg
    clear hk hg
    refine rn ?_
    refine nt (hK20 _ _ ?_)
    refine wp_seq_k (fun K35 hK35=>?_)
    refine rl ?_
    refine rv (v:=.pointer (some ⟨wo13.heap.size,1,none⟩)) (by kernel_rfl) ?_
    refine rv (v:=.pointer (some ⟨wo13.heap.size,42,none⟩)) (by kernel_rfl) ?_
    obtain ⟨b36,hb36⟩:∃ b,x25.2.2.2=b:=⟨_,rfl⟩
    refine rv (v:=.bool b36) (by rw [← hb36];exact (exec_load_cell (o:=⟨some 30,_,_,_,_,_⟩) 4 (.tmp 29) rfl ⟨wo13.heap.size,42,none⟩ rfl _ _ w33 Tryz.underlying4 rfl (range_cell (iI ok30.2 (cR (Blk.range (Mem.blk H34 0 rfl))))))) ?_
    refine nt (hK35 _ _ ?_)
    cases b36
    ·refine cf ?_
     refine wp_seq_k (fun K37 hK37=>?_)
     refine rl ?_
     refine rv (v:=.pointer (some ⟨wo13.heap.size,1,none⟩)) (by kernel_rfl) ?_
     refine rv (v:=.pointer (some ⟨wo13.heap.size,1,none⟩)) (by kernel_rfl) ?_
     refine rv (xld (j7 (cR (Blk.range (Mem.blk H34 0 rfl)))) Tryz.underlying83 (ck ok30.2.1)) ?_
     have hp38:=(hln _ (List.mem_of_getElem? hx26)).2 hb36
     have hzhp38:(fW x25.2.1).size≤65:=by have h1:=dr x25.2.1.1;have h2:x25.2.1.1.length=20:=ok30.2.1.1;have h3:=dv hp38;rw [km];omega
     refine an (by kernel_rfl) _ _ (by kernel_rfl) (wL x25.2.1 ok30.2.1 hp38 w33) ?_
     rintro e w39 ⟨rfl,hb41⟩
     refine ⟨_,rfl,rn ?_⟩
     have H40:=Mem.call H34 hb41
     refine rn ?_
     refine nt (hK37 _ _ ?_)
     refine rl ?_
     refine rv (j4 ((dS d j)) ((⟨#[115,114,99,32]⟩:ByteArray)) (by have e0:(⟨#[115,114,99,32]⟩:ByteArray).size=4:=rfl;simp only [e0];omega)) ?_
     refine rv (v:=.pointer (some ⟨wo13.heap.size,0,none⟩)) (by kernel_rfl) ?_
     refine rv (xlc (range_cell (ky (Blk.range (Mem.blk H40 0 rfl)))) Tryz.underlying9) ?_
     refine rv (j4 ((dS d j)++(⟨#[115,114,99,32]⟩:ByteArray)) (x25.1) (by have e0:(⟨#[115,114,99,32]⟩:ByteArray).size=4:=rfl;simp only [ByteArray.size_append,e0];omega)) ?_
     refine rv (j4 ((dS d j)++(⟨#[115,114,99,32]⟩:ByteArray)++x25.1) ((⟨#[32]⟩:ByteArray)) (by have e0:(⟨#[115,114,99,32]⟩:ByteArray).size=4:=rfl;have e1:(⟨#[32]⟩:ByteArray).size=1:=rfl;simp only [ByteArray.size_append,e0,e1];omega)) ?_
     refine rv (j4 ((dS d j)++(⟨#[115,114,99,32]⟩:ByteArray)++x25.1++(⟨#[32]⟩:ByteArray)) ((fW x25.2.1)) (by have e0:(⟨#[115,114,99,32]⟩:ByteArray).size=4:=rfl;have e1:(⟨#[32]⟩:ByteArray).size=1:=rfl;simp only [ByteArray.size_append,e0,e1];omega)) ?_
     refine rv (j4 ((dS d j)++(⟨#[115,114,99,32]⟩:ByteArray)++x25.1++(⟨#[32]⟩:ByteArray)++(fW x25.2.1)) ((⟨#[10]⟩:ByteArray)) (by have e0:(⟨#[115,114,99,32]⟩:ByteArray).size=4:=rfl;have e1:(⟨#[32]⟩:ByteArray).size=1:=rfl;have e2:(⟨#[10]⟩:ByteArray).size=1:=rfl;simp only [ByteArray.size_append,e0,e1,e2];omega)) ?_
     refine wpList_nil ?_
     refine aq ?_
     refine ab (hK19 _ _ ?_)
     refine rl ?_
     refine rv (aR (((j+1:Nat):Int))) ?_
     refine wpList_nil ?_
     have le6:(⟨#[99,108,97,115,115,32]⟩:ByteArray).size=6:=rfl
     have le4:(⟨#[115,114,99,32]⟩:ByteArray).size=4:=rfl
     have le1:(⟨#[32]⟩:ByteArray).size=1:=rfl
     have le1b:(⟨#[10]⟩:ByteArray).size=1:=rfl
     have hx24:=(hln _ (List.mem_of_getElem? hx26)).1
     have ho42:=zh hx26 hb36
     have H43:=Mem.pick H40 [1] (by decide) rfl
     refine ab ?_
     show _∧_
     go_roundw
     case rel=>exact ⟨(j+1),(congrArg Value.string ho42),rfl,by omega,by rw [← ho42];simp only [ByteArray.size_append,le4,le1,le1b];omega,H43⟩
     case measure=>simp [intOf];omega
    ·refine ct ?_
     obtain ⟨S44,hS44⟩:∃ S:ByteArray,S=⟨(aQ x25.2.2.1).toArray⟩:=⟨_,rfl⟩
     have hzS44:S44.size≤40:=qH ok30.2.2 hS44
     refine Fre.aW (X:=Bel) [] (by kernel_rfl) (by kernel_rfl) (by simp) (by simp) (by simp) ?_
     refine Fre.rmd ?_
     refine Fre.mvv (fun _ _=>j4 ((dS d j)) ((⟨#[99,108,97,115,115,32]⟩:ByteArray)) (by have e0:(⟨#[99,108,97,115,115,32]⟩:ByteArray).size=6:=rfl;simp only [e0];omega)) ?_
     refine Fre.mvv (v:=.pointer (some ⟨wo13.heap.size,0,none⟩)) (fun _ _=>by kernel_rfl) ?_
     refine Fre.mvv (fun W9 hW9=>xlc (range_cell (ky (Blk.range (Mem.blk (Mem.call H34 hW9) 0 rfl)))) Tryz.underlying9) ?_
     refine Fre.mvv (fun _ _=>j4 ((dS d j)++(⟨#[99,108,97,115,115,32]⟩:ByteArray)) (x25.1) (by have e0:(⟨#[99,108,97,115,115,32]⟩:ByteArray).size=6:=rfl;simp only [ByteArray.size_append,e0];omega)) ?_
     refine Fre.mvv (fun _ _=>j4 ((dS d j)++(⟨#[99,108,97,115,115,32]⟩:ByteArray)++x25.1) ((⟨#[32]⟩:ByteArray)) (by have e0:(⟨#[99,108,97,115,115,32]⟩:ByteArray).size=6:=rfl;have e1:(⟨#[32]⟩:ByteArray).size=1:=rfl;simp only [ByteArray.size_append,e0,e1];omega)) ?_
     refine Fre.mvv (v:=.pointer (some ⟨wo13.heap.size,1,none⟩)) (fun _ _=>by kernel_rfl) ?_
     refine Fre.mvv (v:=.pointer (some ⟨wo13.heap.size,22,none⟩)) (fun _ _=>by kernel_rfl) ?_
     refine Fre.mvv (fun W9 hW9=>xld (lq ok30.2 (cR (Blk.range (Mem.blk (Mem.call H34 hW9) 0 rfl)))) Tryz.underlying34 (cN ok30.2.2)) ?_
     refine Fre.aA (.string S44) _ _ (by kernel_rfl) (by kernel_rfl) (by kernel_rfl) (fun W9=>by kernel_rfl) (fun W9 hW9=>nw x25.2.2.1 ok30.2.2 S44 hS44 W9) ?_
     refine Fre.rmd ?_
     refine Fre.mvv (fun _ _=>j4 ((dS d j)++(⟨#[99,108,97,115,115,32]⟩:ByteArray)++x25.1++(⟨#[32]⟩:ByteArray)) (S44) (by have e0:(⟨#[99,108,97,115,115,32]⟩:ByteArray).size=6:=rfl;have e1:(⟨#[32]⟩:ByteArray).size=1:=rfl;simp only [ByteArray.size_append,e0,e1];omega)) ?_
     refine Fre.mvv (fun _ _=>j4 ((dS d j)++(⟨#[99,108,97,115,115,32]⟩:ByteArray)++x25.1++(⟨#[32]⟩:ByteArray)++S44) ((⟨#[10]⟩:ByteArray)) (by have e0:(⟨#[99,108,97,115,115,32]⟩:ByteArray).size=6:=rfl;have e1:(⟨#[32]⟩:ByteArray).size=1:=rfl;have e2:(⟨#[10]⟩:ByteArray).size=1:=rfl;simp only [ByteArray.size_append,e0,e1,e2];omega)) ?_
     intro w45 hx47
     dsimp only [Fre.ended,List.drop]
     have H46:=Mem.call H34 hx47
     refine aq ?_
     refine ab (hK19 _ _ ?_)
     refine rl ?_
     refine rv (aR (((j+1:Nat):Int))) ?_
     refine wpList_nil ?_
     have le6:(⟨#[99,108,97,115,115,32]⟩:ByteArray).size=6:=rfl
     have le4:(⟨#[115,114,99,32]⟩:ByteArray).size=4:=rfl
     have le1:(⟨#[32]⟩:ByteArray).size=1:=rfl
     have le1b:(⟨#[10]⟩:ByteArray).size=1:=rfl
     have hx24:=(hln _ (List.mem_of_getElem? hx26)).1
     have ho48:=xX hx26 hb36 hS44
     have H49:=Mem.pick H46 [1] (by decide) rfl
     refine ab ?_
     show _∧_
     go_roundw
     case rel=>exact ⟨(j+1),(congrArg Value.string ho48),rfl,by omega,by rw [← ho48];simp only [ByteArray.size_append,le6,le1,le1b];omega,H49⟩
     case measure=>simp [intOf];omega
   ·have he50:=bF (l:=d.2.1) (j:=j) (by omega)
    refine rv (aB (decide_eq_false p18)) ?_
    refine nt (hK17 _ _ ?_)
    refine cf ?_
    refine wp_exit ?_
    refine aj ?_
    refine aj ?_
    refine ax ?_
    refine ab (hK11 _ _ ?_)
    refine wp_seq_k (fun K51 hK51=>?_)
    refine rl ?_
    refine rv (j4 ((dS d j)) ((⟨#[114,117,110,32]⟩:ByteArray)) (by have e0:(⟨#[114,117,110,32]⟩:ByteArray).size=4:=rfl;simp only [e0];omega)) ?_
    refine rv (v:=.pointer (some ⟨w.heap.size,2,none⟩)) (by kernel_rfl) ?_
    refine rv (xlc (range_cell (js (Blk.range (Mem.blk H14 0 rfl)))) Tryz.underlying24) ?_
    obtain ⟨S52,hS52⟩:∃ S:ByteArray,(⟨(cH (d.2.2)).toArray⟩:ByteArray)=S:=⟨_,rfl⟩
    have hzS52:S52.size≤2*(d.2.2).length+1:=hS52▸qY _
    refine an (by kernel_rfl) _ _ (by kernel_rfl) (wj wo13 (d.2.2) _ (Mem.lay H14 h.rcp) (by omega) S52 hS52) ?_
    rintro e w53 ⟨rfl,hb55⟩
    refine ⟨_,rfl,rn ?_⟩
    have H54:=Mem.call H14 hb55
    refine rv (j4 ((dS d j)++(⟨#[114,117,110,32]⟩:ByteArray)) (S52) (by have e0:(⟨#[114,117,110,32]⟩:ByteArray).size=4:=rfl;simp only [ByteArray.size_append,e0];omega)) ?_
    refine rv (j4 ((dS d j)++(⟨#[114,117,110,32]⟩:ByteArray)++S52) ((⟨#[10]⟩:ByteArray)) (by have e0:(⟨#[114,117,110,32]⟩:ByteArray).size=4:=rfl;have e1:(⟨#[10]⟩:ByteArray).size=1:=rfl;simp only [ByteArray.size_append,e0,e1];omega)) ?_
    refine nt (hK51 _ _ ?_)
    refine wp_seq_k (fun K56 hK56=>?_)
    refine wp_seq_k (fun K57 hK57=>?_)
    refine rl ?_
    refine rv (v:=.int .i64 ((((dS d j)++(⟨#[114,117,110,32]⟩:ByteArray)++S52++(⟨#[10]⟩:ByteArray)).size:Nat):Int)) (by kernel_rfl) ?_
    by_cases p58:2000<((((dS d j)++(⟨#[114,117,110,32]⟩:ByteArray)++S52++(⟨#[10]⟩:ByteArray)).size:Nat):Int)
    ·refine rv (rr (decide_eq_true p58)) ?_
     refine nt (hK57 _ _ ?_)
     refine ct ?_
     refine wp_seq_k (fun K59 hK59=>?_)
     refine rl ?_
     refine nt (hK59 _ _ ?_)
     refine wp_ret ?_
     simp only [Exit.then]
     refine bodyPost_ret (cB (r1:=.tmp 2) (r2:=.tmp 3) rfl ⟨rfl,rfl,trivial⟩) rfl ?_
     have hje:j=d.2.1.length:=by omega
     have ht9:(dS d j)++(⟨#[114,117,110,32]⟩:ByteArray)++S52++(⟨#[10]⟩:ByteArray)=eF d:=by rw [rD,mw,← hje];simp only [hS52,ByteArray.append_assoc]
     have hsz:=p58
     rw [ht9] at hsz
     have hpe:fK d=3:=by unfold fK;rw [if_pos hbc,if_pos (by omega)]
     rw [hpe]
     exact ⟨_,rfl,(fun h=>by cases h),Mem.below H54⟩
    ·refine rv (rr (decide_eq_false p58)) ?_
     refine nt (hK57 _ _ ?_)
     refine cf ?_
     refine ks (hK56 _ _ ?_)
     refine wp_seq_k (fun K60 hK60=>?_)
     refine rl ?_
     refine jr (o:=⟨some 70,_,_,_,_,_⟩) rfl 9 24 5 (.tmp 69) rfl Tryz.underlying9 Tryz.underlying24 Tryz.underlying5 ((dS d j)++(⟨#[114,117,110,32]⟩:ByteArray)++S52++(⟨#[10]⟩:ByteArray)) rfl ?_
     intro g63 c64 w61 ht65 hc66 hg67 hl68 hb69
     refine rn ?_
     have H62:=Mem.call H54 hb69
     refine rn ?_
     refine nt (hK60 _ _ ?_)
     refine wp_ret ?_
     refine bodyPost_ret (cB (r1:=.tmp 2) (r2:=.tmp 3) rfl ⟨rfl,rfl,trivial⟩) rfl ?_
     have hje:j=d.2.1.length:=by omega
     have ht9:(dS d j)++(⟨#[114,117,110,32]⟩:ByteArray)++S52++(⟨#[10]⟩:ByteArray)=eF d:=by rw [rD,mw,← hje];simp only [hS52,ByteArray.append_assoc]
     have hsz:=p58
     rw [ht9] at hsz
     rw [ht9] at ht65 hc66
     have hpe:fK d=0:=by unfold fK;rw [if_pos hbc,if_neg (by omega)]
     rw [hpe]
     exact ⟨_,rfl,fun _=>⟨g63,c64,congrArg (fun n=>Value.slice (some ⟨g63,0,none⟩) n c64) (congrArg ByteArray.size ht9),ht65,hc66,Nat.le_trans (Mem.below H54).size hg67,hl68⟩,Mem.below H62⟩
end Go.Proofs.YtomnhnmciopiiaaGreat
end
section
namespace Go.Proofs.YtomnhnmciopiiaaGreat
open Go Go.RowKit Go.Maps
set_option maxRecDepth 100000
attribute [local irreducible] wpList
theorem BF (w:World) (d:Drv) (v1 v2:Value) (h:aO w w.heap.size d v1 v2) (e9:Int) (he:fK d=e9) :
  Calls Tryz.prog 57 #[.agg (dC d v1 v2).toArray] w fun e w'=>∃ v,e=.returned (.tuple #[v,.int .i64 e9])∧(e9=0→∃ g cap,v=.slice (some ⟨g,0,none⟩) (eF d).size cap∧qU w' g (eF d)∧(eF d).size≤cap∧w.heap.size≤g∧g<w'.heap.size)∧Below w.heap.size w w':=he▸xS w d v1 v2 h
theorem q9 {l:List Hsh} (h:∀ z∈l,okH z) {c:Hsh} (hc:okH c):∀ z∈l++[c],okH z:=fun z hz=>by
 rcases List.mem_append.1 hz with hz | hz
 ·exact h z hz
 ·rw [List.mem_singleton.1 hz];exact hc
theorem fJ {w:World} {d:Drv} {v1 v2:Value} (h:aO w w.heap.size d v1 v2):∀ c∈az d.2.1,okH c:=fun c hc=>by
 obtain ⟨x,hx,rfl⟩:=uN hc
 exact (h.B0 x hx).2.2
def inL {H:Type} [DecidableEq H] (kn:List H):List H→Bool
 | []=>true
 | c :: cs=>decide (c∈kn)&&inL kn cs
theorem iv {H:Type} [DecidableEq H] (kn:List H):inL kn []=true:=rfl
theorem yr {H:Type} [DecidableEq H] (kn:List H) (c:H) (cs:List H):inL kn (c :: cs)=(decide (c∈kn)&&inL kn cs):=rfl
theorem uK {H:Type} [DecidableEq H] (kn:List H):∀ cs:List H,(cs.all fun c=>kn.contains c)=inL kn cs
 | []=>rfl
 | c :: cs=>by
  rw [List.all_cons,inL,uK kn cs,List.contains_eq_mem]
theorem q7 {H:Type} [DecidableEq H] (kn:List H) (x:Dr.It H) (l:List (Dr.It H)):Dr.cv kn (x :: l)=(x.ok&&(!decide (x.cls∈kn)&&(inL kn x.ins&&Dr.cv (kn++[x.cls]) l))):=by
 rw [Dr.cv,uK,List.contains_eq_mem]
 simp only [Bool.and_assoc]
theorem ly (p:Prop) (i j:Decidable p):@decide p i=@decide p j:=by
 cases i<;>cases j<;>first | rfl | contradiction
theorem er (kn:List Hsh) (x:Itm) (l:List Itm):Dr.cv kn ((x :: l).map itP)=(decide (fK x.2=0)&&(!decide (x.1∈kn)&&(inL kn (az x.2.2.1)&&Dr.cv (kn++[x.1]) (l.map itP)))):=by
 rw [List.map_cons,q7,ly (x.1∈kn) _ (@List.instDecidableMemOfLawfulBEq Hsh instBEqOfDecidableEq _ x.1 kn)]
 rfl
theorem eU (kn:List Hsh) (c:Hsh) (cs:List Hsh):inL kn (c :: cs)=(decide (c∈kn)&&inL kn cs):=by
 rw [yr,ly (c∈kn)]
theorem e7 (kn:List Hsh):Dr.cv kn (([]:List Itm).map itP)=true:=rfl
set_option maxHeartbeats 4000000 in
theorem kb (w:World) (l:List Itm) (v:Value) (h:eM.At w w.heap.size [v] l) (hl:∀ x∈l,x.2.2.1.length≤1000000) (hlen:l.length≤1000000) (b9:Bool) (hb:Dr.bL (l.map itP)=b9) :
  Calls Tryz.prog 36 #[v] w fun e w'=>e=.returned (.bool b9)∧Below w.heap.size w w':=by
 obtain ⟨A0,cap,rfl,_,hcm,_,hA⟩:=ak h
 simp only [maxLen] at hcm
 have H0:=Mem.start w
 go_enter Tryz.func36,Tryz.ntmps36
 refine wp_seq_k (fun K1 hK1=>?_)
 refine rl ?_
 refine nt (hK1 _ _ ?_)
 refine wp_seq_k (fun K2 hK2=>?_)
 refine rl ?_
 refine nt (hK2 _ _ ?_)
 refine wp_seq_k (fun K3 hK3=>?_)
 refine wp_seq_k (fun K4 hK4=>?_)
 refine rl ?_
 refine nt (hK4 _ _ ?_)
 refine wp_block ?_
 have H0r:=Mem.dI H0 w.heap.size 34 20
 go_loopw [3,4] (fun x3 x4 wr=>∃ j:Nat,∃ kn:List Hsh,∃ A:Option Addr,∃ c:Nat,x3=.slice A kn.length c∧x4=.int .i64 (j:Int)∧(j≤l.length)∧(kn.length≤j)∧(∀ z∈kn,okH z)∧(Dr.cv kn ((l.drop j).map itP)=b9)∧Mem w wr [aw (w.heap.size) 34 20 (.slice A kn.length c) (kn).length ((kn).flatMap bv)]) (fun x3 x4 _=>l.length-(intOf x4).toNat)
 case atStart=>exact ⟨0,([]),none,0,rfl,rfl,by omega,(by simp),(fun _ h=>by cases h),hb,H0r⟩
 case round =>
  obtain ⟨wo5,rfl⟩:∃ wo5,wo5=wr:=⟨_,rfl⟩
  obtain ⟨j,kn,A,c,rfl,rfl,hj,hkl,hall,HEQ,H6⟩:=hrel
  refine wp_seq_k (fun K8 hK8=>?_)
  refine wp_seq_k (fun K9 hK9=>?_)
  refine rl ?_
  by_cases p10:(j:Int)<((l.length:Nat):Int)
  ·refine rv (aB (decide_eq_true p10)) ?_
   refine nt (hK9 _ _ ?_)
   refine ct ?_
   refine ks (hK8 _ _ ?_)
   refine wp_seq_k (fun K11 hK11=>?_)
   refine wp_block ?_
   refine wp_seq_k (fun K12 hK12=>?_)
   refine rl ?_
   obtain ⟨b13,o14,rfl,hlt16,hE15⟩:=hA (by omega)
   obtain ⟨x17,hx18⟩:∃ x,(l)[j]?=some x:=⟨_,List.getElem?_eq_getElem (by first | omega | (rw [List.length_map,List.length_range];omega))⟩
   have hd19:=av hx18
   obtain ⟨cs,hr20,ha21⟩:=hE15 (j) x17 hx18
   obtain ⟨v22,v23,rfl,xo24,xd25⟩:=dx.1 ha21
   obtain ⟨A26,c27,rfl,hlc27,hmc27,_,hA28⟩:=ak xd25.ins
   obtain ⟨A29,c30,rfl,hlc30,hmc30,_,hA31⟩:=ak xd25.rcp
   simp only [maxLen] at hmc27 hmc30
   have hcs:(az x17.2.2.1).length≤1000000:=by have h1:=ef x17.2.2.1 x17.2.2.1.length;rw [List.take_length] at h1;have h2:=hl _ (List.mem_of_getElem? hx18);omega
   refine rv (dw (j) Tryz.underlying40 cX) ?_
   refine rv (v:=.pointer (some ⟨b13,o14+j*23+20,none⟩)) (by kernel_rfl) ?_
   refine rv (xld (cg xo24 (Mem.range H6 hr20 hlt16)) Tryz.underlying26 (bJ x17.2 (.slice A26 x17.2.2.1.length c27) (.slice A29 x17.2.2.2.length c30))) ?_
   obtain ⟨e33,he33⟩:∃ e,fK x17.2=e:=⟨_,rfl⟩
   refine an (by kernel_rfl) _ _ (by kernel_rfl) (BF wo5 x17.2 _ _ (Mem.drv H6 xd25) e33 he33) ?_
   rintro e w35 ⟨v32,rfl,hg34,hb37⟩
   refine ⟨_,rfl,rn ?_⟩
   have H36:=Mem.call H6 hb37
   refine rn ?_
   refine nt (hK12 _ _ ?_)
   refine wp_seq_k (fun K38 hK38=>?_)
   refine wp_seq_k (fun K39 hK39=>?_)
   refine rl ?_
   by_cases p40:e33=0
   ·refine rv (sD (decide_eq_true p40)) ?_
    refine rv (dw (j) Tryz.underlying40 cX) ?_
    refine rv (v:=.pointer (some ⟨b13,o14+j*23,none⟩)) (by kernel_rfl) ?_
    refine rv (xld (cy (Mem.range H36 hr20 hlt16)) Tryz.underlying34 (cN xo24)) ?_
    obtain ⟨b41,hb41⟩:∃ b,decide (x17.1∈kn)=b:=⟨_,rfl⟩
    refine an (by kernel_rfl) _ _ (by kernel_rfl) (fq w35 (kn) _ (iX (Mem.own H36 0 rfl) hall) x17.1 xo24 b41 hb41) ?_
    rintro e w42 ⟨rfl,hb44⟩
    refine ⟨_,rfl,rn ?_⟩
    have H43:=Mem.call H36 hb44
    cases b41
    ·refine rn ?_
     refine nt (hK39 _ _ ?_)
     refine cf ?_
     refine ks (hK38 _ _ ?_)
     refine wp_seq_k (fun K45 hK45=>?_)
     refine rl ?_
     refine rv (dw (j) Tryz.underlying40 cX) ?_
     refine rv (v:=.pointer (some ⟨b13,o14+j*23+20,none⟩)) (by kernel_rfl) ?_
     refine rv (xld (cg xo24 (Mem.range H43 hr20 hlt16)) Tryz.underlying26 (bJ x17.2 (.slice A26 x17.2.2.1.length c27) (.slice A29 x17.2.2.2.length c30))) ?_
     refine an (by kernel_rfl) _ _ (by kernel_rfl) (eK w42 x17.2 _ _ (Mem.drv H43 xd25) (hl _ (List.mem_of_getElem? hx18))) ?_
     rintro e w50 ⟨A46,c47,rfl,hm48⟩
     refine ⟨_,rfl,rn ?_⟩
     have H51:=Mem.seq H43 hm48
     refine rn ?_
     refine nt (hK45 _ _ ?_)
     refine wp_seq_k (fun K53 hK53=>?_)
     refine wp_seq_k (fun K54 hK54=>?_)
     refine rl ?_
     refine nt (hK54 _ _ ?_)
     refine wp_block ?_
     go_loopw [8] (fun x8 wr=>∃ k:Nat,x8=.int .i64 (k:Int)∧(k≤(az x17.2.2.1).length)∧((inL kn ((az x17.2.2.1).drop k)&&Dr.cv (kn++[x17.1]) ((l.drop (j+1)).map itP))=b9)∧Mem w wr [aw (w42.heap.size) 34 20 (.slice A46 (az x17.2.2.1).length c47) ((az x17.2.2.1)).length (((az x17.2.2.1)).flatMap bv),aw (w.heap.size) 34 20 (.slice A kn.length c) (kn).length ((kn).flatMap bv)]) (fun x8 _=>(az x17.2.2.1).length-(intOf x8).toNat)
     case atStart=>exact ⟨0,rfl,by omega,(by have h:=HEQ;simp only [er,Bool.true_and,decide_true,hd19,he33,p40,hb41,Bool.not_false] at h;exact h),H51⟩
     case round =>
      obtain ⟨wo55,rfl⟩:∃ wo55,wo55=wr:=⟨_,rfl⟩
      obtain ⟨k,rfl,hk,HEQ2,H56⟩:=hrel
      refine wp_seq_k (fun K58 hK58=>?_)
      refine wp_seq_k (fun K59 hK59=>?_)
      refine rl ?_
      by_cases p60:(k:Int)<(((az x17.2.2.1).length:Nat):Int)
      ·refine rv (aB (decide_eq_true p60)) ?_
       refine nt (hK59 _ _ ?_)
       refine ct ?_
       refine ks (hK58 _ _ ?_)
       refine wp_seq_k (fun K61 hK61=>?_)
       refine wp_block ?_
       refine wp_seq_k (fun K62 hK62=>?_)
       refine rl ?_
       obtain ⟨b63,rfl,hlt66⟩:=aG (Mem.own H56 0 rfl) (by omega)
       obtain ⟨x67,hx68⟩:∃ x,((az x17.2.2.1))[k]?=some x:=⟨_,List.getElem?_eq_getElem (by first | omega | (rw [List.length_map,List.length_range];omega))⟩
       have hd69:=av hx68
       have ok70:=(fJ xd25) _ (List.mem_of_getElem? hx68)
       refine rv (aT (k) Tryz.underlying27 cJ) ?_
       refine rv (xld (dW (f:=bv) (by decide) (Mem.own H56 0 rfl) (fun z hz=>by rw [bvL];exact (fJ xd25) z hz) hx68) Tryz.underlying34 (cN ok70)) ?_
       obtain ⟨b71,hb71⟩:∃ b,decide (x67∈kn)=b:=⟨_,rfl⟩
       refine an (by kernel_rfl) _ _ (by kernel_rfl) (fq wo55 (kn) _ (iX (Mem.own H56 1 rfl) hall) x67 ok70 b71 hb71) ?_
       rintro e w72 ⟨rfl,hb74⟩
       refine ⟨_,rfl,rn ?_⟩
       have H73:=Mem.call H56 hb74
       cases b71
       ·refine rn ?_
        refine nt (hK62 _ _ ?_)
        refine ct ?_
        refine wp_seq_k (fun K75 hK75=>?_)
        refine rl ?_
        refine nt (hK75 _ _ ?_)
        refine wp_ret ?_
        simp only [Exit.then,Exit.inBlock]
        refine bodyPost_ret (results_tmp rfl _ _ _) rfl ?_
        refine ⟨?_,Mem.below H73⟩
        have h:=HEQ2
        simp only [eU,Bool.false_and,hd69,hb71] at h
        subst h
        rfl
       ·refine rn ?_
        refine nt (hK62 _ _ ?_)
        refine cf ?_
        refine wp_skip ?_
        refine aq ?_
        refine ab (hK61 _ _ ?_)
        refine rl ?_
        refine rv (aR (((k+1:Nat):Int))) ?_
        refine wpList_nil ?_
        refine ab ?_
        show _∧_
        go_roundw
        case rel=>exact ⟨(k+1),rfl,by omega,(by have h:=HEQ2;simp only [eU,Bool.true_and,hd69,hb71] at h;exact h),H73⟩
        case measure=>simp [intOf];omega
      ·have he76:=bF (l:=(az x17.2.2.1)) (j:=k) (by omega)
       refine rv (aB (decide_eq_false p60)) ?_
       refine nt (hK59 _ _ ?_)
       refine cf ?_
       refine wp_exit ?_
       refine aj ?_
       refine aj ?_
       refine ax ?_
       refine ab (hK53 _ _ ?_)
       refine rl ?_
       refine rv (dw (j) Tryz.underlying40 cX) ?_
       refine rv (v:=.pointer (some ⟨b13,o14+j*23,none⟩)) (by kernel_rfl) ?_
       refine rv (xld (cy (Mem.range H56 hr20 hlt16)) Tryz.underlying34 (cN xo24)) ?_
       refine aL (o:=⟨some 60,_,_,_,_,_⟩) rfl 27 (.tmp 59) rfl 34 20 (.agg zcH) (.agg (bv x17.1).toArray) rfl Tryz.underlying27 cJ (by decide) (by decide) (fun w=>by kernel_rfl) (by rw [Value.cells,List.size_toArray,bvL];exact xo24) ?_
       intro w77 hn
       have H78:=Mem.bA H56 hn
       clear hn
       refine rn ?_
       obtain ⟨inm34,iq34,ir34,is34,it34⟩:=info_parts dJ
       refine aH (o:=⟨some 61,_,_,_,_,_⟩) rfl _ _ 27 rfl (w.heap.size) 34 _ _ 20 20 Tryz.underlying27 iq34 ir34 is34 it34 rfl (by decide) (.slice A kn.length c) ((kn).length) ((kn).flatMap bv) (Mem.own H78 2 rfl) ((some ⟨wo55.heap.size,0,none⟩)) (1) (1) (bv x17.1) (bH (n:=20) (m:=1) (Mem.blk H78 0 rfl) (by rw [bvL];exact xo24) (bv1 _)) ?hmt79 ?hbt79 ?hzt79 rfl rfl ?_
       case hmt79=>simp only [maxLen];omega
       case hbt79=>omega
       case hzt79=>exact (Mem.below H78).size
       intro u82 w80 ow85 gr86 hp87
       refine rn ?_
       have ow85:w80.ownsRow (w.heap.size) 34 20 u82 (kn++[x17.1]).length ((kn++[x17.1]).flatMap bv):=by first | simpa using ow85 | (simp at ow85 ⊢;exact ow85)
       obtain ⟨A83,c84,rfl⟩:=aP ow85
       have H81:=Mem.app H78 2 rfl ow85 gr86 hp87
       clear ow85 gr86 hp87
       refine rn ?_
       refine wpList_nil ?_
       refine aq ?_
       refine ab (hK11 _ _ ?_)
       refine rl ?_
       refine rv (aR (((j+1:Nat):Int))) ?_
       refine wpList_nil ?_
       have H88:=Mem.pick H81 [2] (by decide) rfl
       refine ab ?_
       show _∧_
       go_roundw
       case rel=>exact ⟨(j+1),((kn++[x17.1])),A83,c84,rfl,rfl,by omega,(by simp only [List.length_append,List.length_singleton];omega),(q9 hall xo24),(by have h:=HEQ2;simp only [iv,Bool.true_and,he76] at h;exact h),H88⟩
       case measure=>simp [intOf];omega
    ·refine rn ?_
     refine nt (hK39 _ _ ?_)
     refine ct ?_
     refine wp_seq_k (fun K89 hK89=>?_)
     refine rl ?_
     refine nt (hK89 _ _ ?_)
     refine wp_ret ?_
     simp only [Exit.then,Exit.inBlock]
     refine bodyPost_ret (results_tmp rfl _ _ _) rfl ?_
     refine ⟨?_,Mem.below H43⟩
     have h:=HEQ
     simp only [er,Bool.true_and,Bool.false_and,decide_true,hd19,he33,p40,hb41,Bool.not_true] at h
     subst h
     rfl
   ·refine rv (sD (decide_eq_false p40)) ?_
    refine nt (hK39 _ _ ?_)
    refine ct ?_
    refine wp_seq_k (fun K90 hK90=>?_)
    refine rl ?_
    refine nt (hK90 _ _ ?_)
    refine wp_ret ?_
    simp only [Exit.then,Exit.inBlock]
    refine bodyPost_ret (results_tmp rfl _ _ _) rfl ?_
    refine ⟨?_,Mem.below H36⟩
    have h:=HEQ
    simp only [er,Bool.false_and,decide_false,hd19,he33,p40] at h
    subst h
    rfl
  ·have he91:=bF (l:=l) (j:=j) (by omega)
   refine rv (aB (decide_eq_false p10)) ?_
   refine nt (hK9 _ _ ?_)
   refine cf ?_
   refine wp_exit ?_
   refine aj ?_
   refine aj ?_
   refine ax ?_
   refine ab (hK3 _ _ ?_)
   refine wp_seq_k (fun K92 hK92=>?_)
   refine rl ?_
   refine nt (hK92 _ _ ?_)
   refine wp_ret ?_
   refine bodyPost_ret (results_tmp rfl _ _ _) rfl ?_
   refine ⟨?_,Mem.below H6⟩
   have h:=HEQ
   simp only [e7,he91] at h
   subst h
   rfl
end Go.Proofs.YtomnhnmciopiiaaGreat
end
section
namespace Go.Proofs.YtomnhnmciopiiaaGreat
open Go Go.RowKit Go.Maps
set_option maxRecDepth 100000
theorem AH {w:World} {B B' s n:Nat} {t:TypeId} {u:Value} {xs:List Value} (h:w.ownsRow B t s u n xs) (hB:B'≤B):w.ownsRow B' t s u n xs:=by
 obtain ⟨h1,h2⟩:=h
 refine ⟨h1,?_⟩
 rcases h2 with h2 | ⟨g,cap,cur,e,hg,h3⟩
 ·exact .inl h2
 ·exact .inr ⟨g,cap,cur,e,Nat.le_trans hB hg,h3⟩
theorem yz {P:Program} {f:FuncId} {args:Array Value} {w W:World} {n s:Nat} {t:TypeId} {xs:List Value} (h:Calls P f args W fun e w'=>∃ A cap,e=.returned (.slice A n cap)∧Mem W w' [aw W.heap.size t s (.slice A n cap) n xs]) (hx:Bel w W) :
  Calls P f args W fun e w'=>∃ u,e=.returned u∧Fre.Ext Bel W w'∧zm w (fun u=>aw w.heap.size t s u n xs) u w':=by
 refine h.mono ?_
 rintro e w' ⟨A,cap,rfl,hm⟩
 exact ⟨_,rfl,hm.below,AH (Mem.own hm 0 rfl) hx.size,fun b hf=>⟨Nat.le_trans hx.size (hm.from_ 0 rfl hf).1,(hm.from_ 0 rfl hf).2⟩⟩
theorem rA {H:Type} [DecidableEq H] (x:Dr.It H) (l:List (Dr.It H)) (c:H):Dr.cu (x :: l) c=if c∈x.ins then x.cls :: Dr.cu l c else Dr.cu l c:=by
 unfold Dr.cu
 rw [List.filter_cons]
 by_cases h:c∈x.ins
 ·rw [if_pos h,if_pos (by rw [List.contains_eq_mem];exact decide_eq_true h),List.map_cons]
 ·rw [if_neg h,if_neg (by rw [List.contains_eq_mem,decide_eq_false h];simp)]
end Go.Proofs.YtomnhnmciopiiaaGreat
end
section
namespace Go.Proofs.YtomnhnmciopiiaaGreat
open Go Go.RowKit Go.Maps
set_option maxRecDepth 100000
def mtB (j:Nat):List UInt8:=[35,1,0,0,47,UInt8.ofNat j,0,0]
theorem sc {ρ:Operand→Value} {o:Oper} (src dst:TypeId) (x:Operand) (ho:o.op=.convert src dst x) (g:Nat) (hx:ρ x=.slice (some ⟨g,0,none⟩) 8 8) (l:List UInt8) (hl:l.length=8) (hs:Tryz.prog.underlying src=some (.slice 5)) (hd:Tryz.prog.underlying dst=some .string) (w:World) (hb:Blk w g 5 (bv l).toArray) :
  (execOp ρ o).run Tryz.prog w=.ok (.value (.string ⟨l.toArray⟩)) w:=by
 have h:=run_convert_bytes_back (P:=Tryz.prog) w src dst 5 ⟨g,0,none⟩ 8 l hs Tryz.underlying5 hd fun j hj=>by
  rw [Addr.add_mid,Nat.zero_add,hb.cell]
  simp [bv,hj]
 rw [hl] at h
 unfold execOp
 simp only [ho,hx,Sem.run_bind,h,Result.andThen_ok,Sem.run_pure]
set_option maxHeartbeats 1000000 in
theorem p6 (j:Nat) (hj:j<12) (w:World):Calls Tryz.prog 125 #[.int .i64 1,.int .i64 (j:Int)] w fun e w'=>e=.returned (.string ⟨(mtB j).toArray⟩)∧Below w.heap.size w w':=by
 have h8:IntKind.wrap .u8 (j:Int)=(j:Int):=zC _ (by omega) (by omega)
 have j0:(0:Int)≤(j:Int):=by omega
 have j9:(j:Int)<12:=by omega
 have q1:(j:Int) / 256=0:=by omega
 have q2:(j:Int) / 65536=0:=by omega
 have e8:((UInt8.ofNat j).toNat:Int)=(j:Int):=by rw [UInt8.toNat_ofNat'];omega
 obtain ⟨w2,hw2⟩:∃ w2,w2=w.alloc (.cells #[.int .u8 35,.int .u8 1,.int .u8 0,.int .u8 0,.int .u8 47,.int .u8 (j:Int),.int .u8 0,.int .u8 0] 5):=⟨_,rfl⟩
 have hb2:Below w.heap.size w w2:=by rw [hw2];exact (Below.refl _ w).alloc (Nat.le_refl _) _
 have hk2:Blk w2 w.heap.size 5 (bv (mtB j)).toArray:=by
  rw [hw2,show (bv (mtB j)).toArray=#[.int .u8 35,.int .u8 1,.int .u8 0,.int .u8 0,.int .u8 47,.int .u8 ((UInt8.ofNat j).toNat:Int),.int .u8 0,.int .u8 0] from rfl,e8]
  exact Blk.new _ _ _
 have H2:=ah (And.intro hb2 hk2)
 have HW:=ah hw2
 clear hb2 hk2 hw2 e8
 go_enter Tryz.func125,Tryz.ntmps125
 go_wp2_with ((with_reducible refine ag 22 ?_);refine aa (o:=⟨some 22,_,_,_,_,_⟩) rfl (.string ⟨(mtB j).toArray⟩) w2 (by rw [← HW.out];exact sc (o:=⟨some 22,_,_,_,_,_⟩) 24 9 (.tmp 21) rfl w.heap.size rfl (mtB j) rfl Tryz.underlying24 Tryz.underlying9 w2 H2.out.2) ?_)
 go_ret
 exact ⟨rfl,H2.out.1⟩
theorem Ao (j:Nat):(⟨(mtB j).toArray⟩:ByteArray).size≤maxLen:=of_decide_eq_true (by kernel_rfl)
theorem Mem.make {w0 w w':World} {L:List Ent} {t:TypeId} {s n:Nat} {c:Nat} {xs:List Value} (h:Mem w0 w L) (ho:w'.ownsRow w0.heap.size t s (.slice (some ⟨w.heap.size,0,none⟩) n c) n xs) (hg:w.grownBy w' none):Mem w0 w' (aw w0.heap.size t s (.slice (some ⟨w.heap.size,0,none⟩) n c) n xs :: L) :=
 h.new ((Below.refl _ w).grown hg (Nat.le_refl _) (fun _ hb=>by cases hb)) (eh _ _ _ _ _ _) ho fun b hf=>by
  have e:some w.heap.size=some b:=hf
  injection e with e
  subst e
  exact ⟨Nat.le_refl _,(World.ownsRow.lt ho _ rfl).2⟩
theorem mA {w:World} {B s n cap:Nat} {A:Option Addr} {t:TypeId} {xs:List Value} (h:w.ownsRow B t s (.slice A n cap) n xs):n≤cap∧cap≤maxLen:=by
 obtain ⟨_,h2⟩:=h
 rcases h2 with ⟨h2,_⟩ | ⟨g,c,cur,e,_,_,h3,h4,_⟩
 ·injection h2 with _ e2 e3
  subst e2 e3
  exact ⟨Nat.le_refl _,Nat.zero_le _⟩
 ·injection e with _ _ e3
  subst e3
  exact ⟨h3,h4⟩
theorem iy {P:Program} {ρ:Operand→Value} {o:Oper} (t e:TypeId) (x y:Operand) (ho:o.op=.slice t x none (some y) none) (A:Option Addr) (len cap n:Nat) (hx:ρ x=.slice A len cap) (hy:ρ y=.int .i64 (n:Int)) (hn:n≤cap) {s:Nat} (ht:P.underlying t=some (.slice e)) (hs:(P.info? e).map (·.size)=some s) (W:World) :
  (execOp ρ o).run P W=.ok (.value (.slice A n cap)) W:=by
 refine iA t x none (some y) none ho _ (fun w=>?_) W
 have e2:P.elem t=e:=by simp [Program.elem,ht]
 rw [hx,Option.map_some,hy,Option.map_none,run_sliceAt_slice w t _ _ _ _ (by rw [e2];exact ht)]
 have h:=run_slice_h (P:=P) w t A len cap (by rw [e2];exact ht) .i64 (n:Int) (by omega) (by omega)
 rw [h,e2]
 cases hi:P.info? e with
 | none=>simp [hi] at hs
 | some i =>
  have e0:A.map (fun a=>a.add 0)=A:=by cases A<;>simp [Addr.add]
  simp [sizeOf,typeInfo,hi,sliced,e0]
theorem kJ {α:Type} {l:List α} {m:Nat→α} {j:Nat} {x:α} (h:(l++(List.range 12).map m)[j]?=some x) (hj:l.length≤j):x=m (j-l.length):=by
 have hlt:=(List.getElem?_eq_some_iff.1 h).1
 simp at hlt
 rw [List.getElem?_append_right hj,List.getElem?_map,List.getElem?_range (by omega)] at h
 exact (Option.some.inj h).symm
theorem sf {α:Type} {l r:List α} {j:Nat} {x y:α} (h:(l++r)[j]?=some x) (hy:l[j]?=some y):x=y:=by
 rw [List.getElem?_append_left (List.getElem?_eq_some_iff.1 hy).1,hy] at h
 exact (Option.some.inj h).symm
theorem ny {α:Type} (m:Nat→α) (j:Nat):(List.range j).map m++[m j]=(List.range (j+1)).map m:=by
 rw [List.range_succ,List.map_append]
 rfl
end Go.Proofs.YtomnhnmciopiiaaGreat
end
section
namespace Go.Proofs.YtomnhnmciopiiaaGreat
open Go Go.RowKit
section
variable {P:Program} {w:World} {ops:Array Oper} {rest:List Oper} {o:Oper} {a:Act} {Q:Exit→Act→World→Prop}
theorem cT (hg:o.guard=none) (ty:TypeId) (x y:Operand) (ho:o.op=.store ty x y) {B g n cap s k:Nat} {xs:List Value} (hown:w.ownsRow B ty s (.slice (some ⟨g,0,none⟩) n cap) n xs) (cs:List Value) (hk:k<n) (hcs:cs.length=s) (hi:(P.info? ty).map (·.size)=some cs.toArray.size) (h1:cs.toArray.all (·.oneCell')=true)
  (hx:a.eval x=.pointer (some ⟨g,k*s,none⟩)) (hy:a.eval y=.agg cs.toArray)
  (h:∀ w',w'.ownsRow B ty s (.slice (some ⟨g,0,none⟩) n cap) n (xs.take (k*s)++(cs++xs.drop (k*s+s)))→w.grownBy w' (some g)→w'.heap.size=w.heap.size→wpList P ops Q rest (a.put o.dst undef) w'):wpList P ops Q (o :: rest) a w:=by
 have hks:k*s+s≤n*s:=by
  have:(k+1)*s≤n*s:=Nat.mul_le_mul_right _ hk
  rwa [Nat.add_mul,Nat.one_mul] at this
 have hth:=v7 hown (k*s) cs.length (by rw [hcs];exact hks)
 refine wpList_store_mid hg ty x y ho g (k*s) cs.toArray hx hy (by simpa using hth) hi h1 ?_
 have h2:=pO hown (k*s) cs (by rw [hcs];exact hks)
 rw [hcs] at h2
 have hg2:=iQ (g:=g) cs (k*s) w (World.grownBy.refl w (some g))
 have hsz:∀ (vs:List Value) (q:Nat) (w:World),(w.setCells g q vs).heap.size=w.heap.size:=by
  intro vs
  induction vs with
  | nil=>intro q w;rfl
  | cons v vs ih=>intro q w;rw [World.setCells,ih];simp [World.setCell]
 exact h _ (by simpa using h2) (by simpa using hg2) (by first | (simp;done) | (simpa using hsz cs (k*s) w))
end
end Go.Proofs.YtomnhnmciopiiaaGreat
end
section
namespace Go.Proofs.YtomnhnmciopiiaaGreat
open Go Go.RowKit
section
variable {P:Program} {w:World} {ops:Array Oper} {rest:List Oper} {o:Oper} {a:Act} {Q:Exit→Act→World→Prop}
def so (w w':World) (v v':Value) (n m:Nat):Prop :=
 (∃ g cap,v=.slice (some ⟨g,0,none⟩) n cap∧v'=.slice (some ⟨g,0,none⟩) (n+m) cap)∨(v'.ownBlock=some w.heap.size∧Below w.heap.size w w')
theorem vH (base:Nat) (t ty e:TypeId) (i:TypeInfo) (z:Value) (size bytes:Nat) (ht:P.underlying t=some (.slice e)) (hi:P.info? e=some i) (hz:i.zero=some z)
  (hsize:i.size=size) (hby:i.bytes=bytes) (hzs:z.cells.size=size) (hsz:0<size) (v:Value) (n:Nat) (xs:List Value) (hown:w.ownsRow base e size v n xs)
  (A:Option Addr) (m c:Nat) (news:List Value) (hs:gd w size A m c news) (hm:0<m) (h63:n+m≤maxLen) (hbytes:(n+m)*bytes≤140737488355328) (hbase:base≤w.heap.size) :
  ∃ v' w',(Builtin.append_ #[t,t] ty #[v,.slice A m c]).run P w=.ok v' w'∧w'.ownsRow base e size v' (n+m) (xs++news)∧w.grownBy w' v.ownBlock∧so w w' v v' n m:=by
 obtain ⟨v',w',hr,h2,h3,_,_⟩:=rF (P:=P) (w:=w) base t ty e i z size bytes ht hi hz hsize hby hzs hsz v n xs hown A m c news hs h63 hbytes hbase
 refine ⟨v',w',hr,h2,h3,?_⟩
 rcases A with _ | ad
 ·have:=(hs.none_ rfl).1;omega
 have hsmall:n+m≤9223372036854775807:=by simp only [maxLen] at h63;omega
 have hl:news.length=m*i.size:=by rw [hs.len,hsize]
 have hxl:xs.length=n*i.size:=by rw [hsize];exact hown.1
 rcases aU hown with ⟨rfl,rfl,rfl⟩ | ⟨g,cap,cur,rfl,hbg,hnc,hcm,hg,hcs,htake,_⟩
 ·have h:=run_append_nil (P:=P) w t ty e i z ht hi hz ad m c news hl (hs.cells ad rfl) hm (by omega) (by rw [hby];have hb:=hbytes;simp only [Nat.zero_add] at hb;omega)
  rw [hr] at h
  injection h with h4 h5
  subst h4 h5
  exact .inr ⟨rfl,((Below.refl _ _).drew).alloc (Nat.le_refl _) _⟩
 ·by_cases hroom:n+m≤cap
  ·have hlt:n*i.size+news.length≤cur.size:=by
    rw [hl,hsize,hcs,← Nat.add_mul]
    exact Nat.mul_le_mul_right _ hroom
   have h:=run_append_room (P:=P) w t ty e i ht hi g n cap cur hg ad m c news hl (hs.cells ad rfl) hs.one hroom hlt
   rw [hr] at h
   injection h with h4 h5
   subst h4
   exact .inl ⟨g,cap,rfl,rfl⟩
  ·have holds:∀ j u,xs[j]?=some u→w.cell? ((⟨g,0,none⟩:Addr).add j)=some u:=hown.cells (g:=g) rfl
   have h:=run_append_grow (P:=P) w t ty e i z ht hi hz ⟨g,0,none⟩ n cap xs hxl holds ad m c news hl (hs.cells ad rfl) (by omega) (by omega) (growslice_fits (by omega) (by rw [hby];exact hbytes))
   rw [hr] at h
   injection h with h4 h5
   subst h4 h5
   exact .inr ⟨rfl,((Below.refl _ _).drew).alloc (Nat.le_refl _) _⟩
theorem cY (hgd:o.guard=none) (s x:Operand) (t:TypeId)
  (ho:o.op=.call { callee:=.builtin .append,args:=#[s,x],argTypes:=#[t,t] })
  (base:Nat) (e:TypeId) (i:TypeInfo) (z:Value) (size bytes:Nat) (ht:P.underlying t=some (.slice e)) (hi:P.info? e=some i) (hz:i.zero=some z)
  (hsize:i.size=size) (hby:i.bytes=bytes) (hzs:z.cells.size=size) (hsz:0<size) (v:Value) (n:Nat) (xs:List Value) (hown:w.ownsRow base e size v n xs)
  (A:Option Addr) (m c:Nat) (news:List Value) (hsrc:gd w size A m c news) (hm:0<m) (h63:n+m≤maxLen) (hbytes:(n+m)*bytes≤140737488355328) (hbase:base≤w.heap.size)
  (hs:a.eval s=v) (hx:a.eval x=.slice A m c)
  (h:∀ v' w',w'.ownsRow base e size v' (n+m) (xs++news)→w.grownBy w' v.ownBlock→so w w' v v' n m→wpList P ops Q rest (a.put o.dst v') w') :
  wpList P ops Q (o :: rest) a w:=by
 refine wpList_plain hgd fun K hK=>?_
 obtain ⟨v',w',hr,h2,h3,h4⟩:=vH (P:=P) (w:=w) base t o.type e i z size bytes ht hi hz hsize hby hzs hsz v n xs hown A m c news hsrc hm h63 hbytes hbase
 unfold Oper.wp execOp
 simp only [ho,resolve,invoke,builtin,Sem.run_bind,Sem.run_pure,Result.andThen_ok,List.map_toArray,List.map_cons,List.map_nil,hs,hx,hr]
 exact hK _ _ (h v' w' h2 h3 h4)
end
structure PS where
 u:Value
 n:Nat
 xs:List Value
 v:Value
 m:Nat
 ys:List Value
def PS.self (u:Value) (n:Nat) (xs:List Value):PS:=⟨u,n,xs,u,n,xs⟩
def ar (B:Nat) (t:TypeId) (s:Nat) (p:PS):Ent :=
 ⟨fun b=>p.u.ownBlock=some b∨p.v.ownBlock=some b,fun w=>w.ownsRow B t s p.u p.n p.xs∧w.ownsRow B t s p.v p.m p.ys∧∀ b,p.u.ownBlock=some b→p.v.ownBlock=some b→p.n≤p.m∧p.ys.take (p.n*s)=p.xs∧∃ cap,p.u=.slice (some ⟨b,0,none⟩) p.n cap∧p.v=.slice (some ⟨b,0,none⟩) p.m cap⟩
theorem gJ (B:Nat) (t:TypeId) (s:Nat) (p:PS):(ar B t s p).Ok:=fun _ _ h hk =>
 ⟨ao h.1 fun g hg hl=>hk g (.inl hg) hl,ao h.2.1 fun g hg hl=>hk g (.inr hg) hl,h.2.2⟩
theorem gZ {B:Nat} {t:TypeId} {s:Nat} {u:Value} {n:Nat} {xs:List Value} {w:World} (h:w.ownsRow B t s u n xs):(ar B t s (.self u n xs)).P w :=
 ⟨h,h,fun b h1 _=>by
  rcases aU h with ⟨e,_⟩ | ⟨g,cap,cur,e,_⟩
  ·rw [show (PS.self u n xs).u=u from rfl,e] at h1;cases h1
  ·have e2:(PS.self u n xs).u=u:=rfl
   rw [e2,e] at h1
   injection h1 with h1
   subst h1
   exact ⟨Nat.le_refl _,List.take_of_length_le (Nat.le_of_eq h.1),cap,e,e⟩⟩
theorem vP {w w':World} {B s n g:Nat} {t:TypeId} {u v:Value} {xs:List Value} (h:w.ownsRow B t s u n xs) (hg:w.grownBy w' v.ownBlock) (hn:∀ b,u.ownBlock=some b→v.ownBlock ≠ some b):w'.ownsRow B t s u n xs :=
 ao h fun g hu hl=>hg.block g hl fun e=>hn g hu e.symm
theorem ri {B:Nat} {t:TypeId} {s:Nat} {p:PS} {w w':World} (h:(ar B t s p).P w) {v':Value} {k:Nat} {news:List Value} (ho:w'.ownsRow B t s v' (p.m+k) (p.ys++news)) (hg:w.grownBy w' p.v.ownBlock) (hr:so w w' p.v v' p.m k) :
  (ar B t s ⟨p.u,p.n,p.xs,v',p.m+k,p.ys++news⟩).P w'∧∀ b,(ar B t s ⟨p.u,p.n,p.xs,v',p.m+k,p.ys++news⟩).F b→(ar B t s p).F b∨(w.heap.size≤b∧b<w'.heap.size):=by
 obtain ⟨h1,h2,h3⟩:=h
 rcases hr with ⟨g,cap,e1,e2⟩ | ⟨e1,hb⟩
 ·have hvb:p.v.ownBlock=some g:=by rw [e1];rfl
  have hvb':v'.ownBlock=some g:=by rw [e2];rfl
  refine ⟨⟨?_,ho,fun b hu hv=>?_⟩,fun b hf=>?_⟩
  ·by_cases hs:p.u.ownBlock=some g
   ·obtain ⟨hle,ht,cap',eu,ev⟩:=h3 g hs hvb
    rw [e1] at ev
    injection ev with _ _ ec
    subst ec
    have h4:=yv (e2▸ho) (k:=p.n) (by omega)
    have h5:(p.ys++news).take (p.n*s)=p.xs:=by
     rw [List.take_append_of_le_length (by rw [h2.1];exact Nat.mul_le_mul_right _ hle)]
     exact ht
    rw [h5] at h4
    rw [show (PS.mk p.u p.n p.xs v' (p.m+k) (p.ys++news)).u=p.u from rfl,eu]
    exact h4
   ·exact vP (g:=g) h1 hg fun b hu hv=>by
     rw [hvb] at hv
     injection hv with hv
     subst hv
     exact hs hu
  ·have hbg:b=g:=by
    have hv:v'.ownBlock=some b:=hv
    rw [hvb'] at hv
    injection hv with hv
    exact hv.symm
   subst hbg
   obtain ⟨hle,ht,cap',eu,ev⟩:=h3 b hu hvb
   rw [e1] at ev
   injection ev with _ _ ec
   subst ec
   refine ⟨by show p.n≤p.m+k;omega,?_,cap,eu,e2⟩
   show (p.ys++news).take (p.n*s)=p.xs
   rw [List.take_append_of_le_length (by rw [h2.1];exact Nat.mul_le_mul_right _ hle)]
   exact ht
  ·rcases hf with hf | hf
   ·exact .inl (.inl hf)
   ·have hf:v'.ownBlock=some b:=hf
    exact .inl (.inr (by rw [hvb];rw [hvb'] at hf;exact hf))
 ·refine ⟨⟨ao h1 fun g hu hl=>hb.block g hl,ho,fun b hu hv=>?_⟩,fun b hf=>?_⟩
  ·exfalso
   have h5:=(aD h1 hu).2
   have hv:v'.ownBlock=some b:=hv
   rw [e1] at hv
   injection hv with hv
   omega
  ·rcases hf with hf | hf
   ·exact .inl (.inl hf)
   ·have hf:v'.ownBlock=some b:=hf
    have h6:=(aD ho hf).2
    rw [e1] at hf
    injection hf with hf
    exact .inr ⟨by omega,h6⟩
section
variable {w0 w w':World} {L:List Ent}
theorem Mem.tu {α:Type} {g:α→Ent} {st:Nat→α} {m k:Nat} {y:α} (h:Mem w0 w (Ent.all (List.range m) (fun i=>g (st i)) :: L)) (hk:k<m) {row:Option Nat} (hg:w.grownBy w' row) (hrow:∀ b,row=some b→(g (st k)).F b) (hok:∀ z,(g z).Ok) (hp:(g y).P w') (hF:∀ b,(g y).F b→(g (st k)).F b∨(w.heap.size≤b∧b<w'.heap.size)) :
  Mem w0 w' (Ent.all (List.range m) (fun i=>g (if i=k then y else st i)) :: L):=by
 have hP:=h.get (e:=Ent.all (List.range m) (fun i=>g (st i))) 0 rfl
 have hkm:k∈List.range m:=List.mem_range.2 hk
 have hfar:∀ i,i<m→i ≠ k→Far (g (st i)).F (g (st k)).F:=fun i hi hne=>by
  have h1:=List.pairwise_iff_getElem.1 hP.2
  rcases Nat.lt_or_ge i k with hlt | hge
  ·have:=h1 i k (by simpa using hi) (by simpa using hk) hlt
   simpa using this
  ·have:=h1 k i (by simpa using hk) (by simpa using hi) (by omega)
   have h2:Far (g (st k)).F (g (st i)).F:=by simpa using this
   exact h2.symm
 have hlow:∀ i,i<m→∀ b,(g (st i)).F b→b<w.heap.size:=fun i hi b hb=>(h.lo (Ent.all (List.range m) (fun i=>g (st i))) (by simp) b ⟨i,List.mem_range.2 hi,hb⟩).2
 refine h.upd (e:=Ent.all (List.range m) (fun i=>g (st i))) (e':=Ent.all (List.range m) (fun i=>g (if i=k then y else st i))) 0 rfl hg (fun b hb=>⟨k,hkm,hrow b hb⟩) (Ent.nN fun i _=>hok _) ⟨fun i hi=>?_,?_⟩ fun b ⟨i,hi,hf⟩=>?_
 ·have hi:=List.mem_range.1 hi
  by_cases e:i=k
  ·simp only [if_pos e];exact hp
  ·simp only [if_neg e]
   exact hok _ w w' (hP.1 i (List.mem_range.2 hi)) fun b hf hl=>hg.block b hl fun e2=>hfar i hi e b hf (hrow b e2.symm)
 ·refine List.pairwise_iff_getElem.2 fun a c ha hc hac=>?_
  simp only [List.length_range] at ha hc
  simp only [List.getElem_range]
  have key:∀ i,i<m→i ≠ k→Far (g y).F (g (st i)).F:=fun i hi hne b h1 h2=>by
   rcases hF b h1 with h3 | h3
   ·exact hfar i hi hne b h2 h3
   ·have:=hlow i hi b h2;omega
  by_cases e1:a=k
  ·rw [if_pos e1,if_neg (by omega)]
   exact key c hc (by omega)
  ·rw [if_neg e1]
   by_cases e2:c=k
   ·rw [if_pos e2]
    exact (key a ha e1).symm
   ·rw [if_neg e2]
    have:=List.pairwise_iff_getElem.1 hP.2 a c (by simpa using ha) (by simpa using hc) hac
    simpa using this
 ·have hi:=List.mem_range.1 hi
  by_cases e:i=k
  ·simp only [if_pos e] at hf
   rcases hF b hf with h3 | h3
   ·exact .inl ⟨k,hkm,h3⟩
   ·exact .inr h3
  ·simp only [if_neg e] at hf
   exact .inl ⟨i,List.mem_range.2 hi,hf⟩
theorem Mem.kE {α:Type} {g:α→Ent} {st:Nat→α} {m k:Nat} (h:Mem w0 w L) (i:Nat) (hi:L[i]?=some (Ent.all (List.range m) (fun i=>g (st i)))) (hk:k<m):(g (st k)).P w :=
 (h.get i hi).1 k (List.mem_range.2 hk)
theorem Ent.all_congr {α:Type} {l:List α} {f f':α→Ent} (he:∀ x∈l,f x=f' x):Ent.all l f=Ent.all l f':=by
 unfold Ent.all
 congr 1
 ·funext b
  exact propext (exists_congr fun x=>and_congr_right fun hx=>by rw [he x hx])
 ·funext w
  refine propext (and_congr (forall_congr' fun x=>forall_congr' fun hx=>by rw [he x hx]) ⟨fun hp=>?_,fun hp=>?_⟩)
  ·exact hp.imp_of_mem fun {a b} ha hb hf=>by rw [← he a ha,← he b hb];exact hf
  ·exact hp.imp_of_mem fun {a b} ha hb hf=>by rw [he a ha,he b hb];exact hf
theorem Mem.bq {α:Type} {g:α→Ent} {st st':Nat→α} {m:Nat} (h:Mem w0 w (Ent.all (List.range m) (fun i=>g (st i)) :: L)) (he:∀ i,i<m→st i=st' i):Mem w0 w (Ent.all (List.range m) (fun i=>g (st' i)) :: L):=by
 rw [← Ent.all_congr (f:=fun i=>g (st i)) (f':=fun i=>g (st' i)) fun i hi=>by show g (st i)=g (st' i);rw [he i (List.mem_range.1 hi)]]
 exact h
def kV (L:List Ent):Ent:=⟨fun b=>∃ e∈L,e.F b,fun w=>∀ e∈L,e.P w⟩
theorem xT (h:∀ e∈L,e.Ok):(kV L).Ok:=fun w w' hp hk e he=>h e he w w' (hp e he) fun b hf hl=>hk b ⟨e,he,hf⟩ hl
theorem Mem.pack (K:List Ent) (h:Mem w0 w (K++L)):Mem w0 w (K++[kV L])∧(∀ e∈L,e.Ok)∧L.Pairwise fun x y=>Far x.F y.F:=by
 have hp:=List.pairwise_append.1 h.far
 have hok:∀ e∈L,e.Ok:=fun e he=>h.ok e (List.mem_append_right _ he)
 refine ⟨⟨h.below,fun e he=>?_,fun e he=>?_,fun e he b hf=>?_,List.pairwise_append.2 ⟨hp.1,by simp,fun x hx y hy b h1 h2=>?_⟩⟩,hok,hp.2.1⟩
 ·rcases List.mem_append.1 he with he | he
  ·exact h.ok e (List.mem_append_left _ he)
  ·rw [List.mem_singleton.1 he];exact xT hok
 ·rcases List.mem_append.1 he with he | he
  ·exact h.holds e (List.mem_append_left _ he)
  ·rw [List.mem_singleton.1 he];exact fun x hx=>h.holds x (List.mem_append_right _ hx)
 ·rcases List.mem_append.1 he with he | he
  ·exact h.lo e (List.mem_append_left _ he) b hf
  ·rw [List.mem_singleton.1 he] at hf
   obtain ⟨x,hx,hf⟩:=hf
   exact h.lo x (List.mem_append_right _ hx) b hf
 ·rw [List.mem_singleton.1 hy] at h2
  obtain ⟨e,he,h2⟩:=h2
  exact hp.2.2 x hx e he b h1 h2
theorem Mem.unpack (K:List Ent) (h:Mem w0 w (K++[kV L])) (hok:∀ e∈L,e.Ok) (hfar:L.Pairwise fun x y=>Far x.F y.F):Mem w0 w (K++L):=by
 have hp:=List.pairwise_append.1 h.far
 have hr:=h.holds (kV L) (by simp)
 refine ⟨h.below,fun e he=>?_,fun e he=>?_,fun e he b hf=>?_,List.pairwise_append.2 ⟨hp.1,hfar,fun x hx y hy b h1 h2=>hp.2.2 x hx (kV L) (by simp) b h1 ⟨y,hy,h2⟩⟩⟩
 ·rcases List.mem_append.1 he with he | he
  ·exact h.ok e (List.mem_append_left _ he)
  ·exact hok e he
 ·rcases List.mem_append.1 he with he | he
  ·exact h.holds e (List.mem_append_left _ he)
  ·exact hr e he
 ·rcases List.mem_append.1 he with he | he
  ·exact h.lo e (List.mem_append_left _ he) b hf
  ·exact h.lo (kV L) (by simp) b ⟨e,he,hf⟩
end
end Go.Proofs.YtomnhnmciopiiaaGreat
end
section
namespace Go.Proofs.YtomnhnmciopiiaaGreat
open Go Go.RowKit Go.Maps
set_option maxRecDepth 100000
attribute [local irreducible] wpList
def mtG (k i:Nat):List UInt8:=[35,UInt8.ofNat k,UInt8.ofNat (k / 256),UInt8.ofNat (k / 65536),47,UInt8.ofNat i,UInt8.ofNat (i / 256),UInt8.ofNat (i / 65536)]
theorem nW (k i:Nat):(⟨(mtG k i).toArray⟩:ByteArray).size≤maxLen:=of_decide_eq_true (by kernel_rfl)
theorem mB {P:Program} {ρ:Operand→Value} {o:Oper} (t r:TypeId) (x y:Operand) (ho:o.op=.binOp .shr t x y r) (a q d:Nat) (hx:ρ x=.int .i64 (a:Int)) (hy:ρ y=.int .u64 (q:Int)) (hq:q<64) (hd:d=2 ^ q) (W:World):(execOp ρ o).run P W=.ok (.value (.int .i64 ((a / d:Nat):Int))) W:=by
 subst hd
 unfold execOp
 simp [ho,hx,hy,go_sem,eqGuard,binOp]
theorem gL {ρ:Operand→Value} {o:Oper} (x:Operand) (ho:o.op=.convert 3 5 x) (a:Nat) (hx:ρ x=.int .i64 (a:Int)) (W:World):(execOp ρ o).run Tryz.prog W=.ok (.value (.int .u8 ((UInt8.ofNat a).toNat:Int))) W:=by
 unfold execOp
 simp [ho,hx,go_sem,convert,IntKind.wrap,IntKind.signed,IntKind.bits]
set_option maxHeartbeats 1000000 in
theorem gE (k i:Nat) (w:World):Calls Tryz.prog 125 #[.int .i64 (k:Int),.int .i64 (i:Int)] w fun e w'=>e=.returned (.string ⟨(mtG k i).toArray⟩)∧Below w.heap.size w w':=by
 have H0:=Mem.start w
 go_enter Tryz.func125,Tryz.ntmps125
 refine wp_seq_k (fun K1 hK1=>?_)
 refine rl ?_
 refine nt (hK1 _ _ ?_)
 refine wp_seq_k (fun K2 hK2=>?_)
 refine rl ?_
 refine rv (gL (o:=⟨some 6,_,_,_,_,_⟩) (.tmp 5) rfl k rfl w) ?_
 refine rv (mB (o:=⟨some 8,_,_,_,_,_⟩) 3 139 (.tmp 7) (.const (.int .u64 8)) rfl k 8 256 rfl rfl (by decide) rfl w) ?_
 refine rv (gL (o:=⟨some 9,_,_,_,_,_⟩) (.tmp 8) rfl (k / 256) rfl w) ?_
 refine rv (mB (o:=⟨some 11,_,_,_,_,_⟩) 3 139 (.tmp 10) (.const (.int .u64 16)) rfl k 16 65536 rfl rfl (by decide) rfl w) ?_
 refine rv (gL (o:=⟨some 12,_,_,_,_,_⟩) (.tmp 11) rfl (k / 65536) rfl w) ?_
 refine rv (gL (o:=⟨some 14,_,_,_,_,_⟩) (.tmp 13) rfl i rfl w) ?_
 refine rv (mB (o:=⟨some 16,_,_,_,_,_⟩) 3 139 (.tmp 15) (.const (.int .u64 8)) rfl i 8 256 rfl rfl (by decide) rfl w) ?_
 refine rv (gL (o:=⟨some 17,_,_,_,_,_⟩) (.tmp 16) rfl (i / 256) rfl w) ?_
 refine rv (mB (o:=⟨some 19,_,_,_,_,_⟩) 3 139 (.tmp 18) (.const (.int .u64 16)) rfl i 16 65536 rfl rfl (by decide) rfl w) ?_
 refine rv (gL (o:=⟨some 20,_,_,_,_,_⟩) (.tmp 19) rfl (i / 65536) rfl w) ?_
 obtain ⟨w8,hw8⟩:∃ w8,w8=w.alloc (.cells (bv (mtG k i)).toArray 5):=⟨_,rfl⟩
 have hn8:iS w w8 5 (bv (mtG k i)).toArray:=hw8▸cD _ _ _
 have H8:=Mem.bA H0 hn8
 refine rvw (v:=.slice (some ⟨w.heap.size,0,none⟩) 8 8) (w':=w8) (by rw [hw8];kernel_rfl) ?_
 refine rn ?_
 refine rv (sc (o:=⟨some 22,_,_,_,_,_⟩) 24 9 (.tmp 21) rfl w.heap.size rfl (mtG k i) rfl Tryz.underlying24 Tryz.underlying9 w8 (Mem.blk H8 0 rfl)) ?_
 refine nt (hK2 _ _ ?_)
 refine wp_ret ?_
 refine bodyPost_ret (results_tmp rfl _ _ _) rfl ?_
 exact ⟨rfl,Mem.below H8⟩
def aK (k i:Nat):Nam:=(⟨(mtG k i).toArray⟩,(dg,⟨#[]⟩),dg,false)
theorem bh (k i:Nat):okN (aK k i):=⟨nW k i,eG,fp⟩
set_option maxHeartbeats 1000000 in
theorem eV (k i:Nat) (w:World):Calls Tryz.prog 82 #[.int .i64 (k:Int),.int .i64 (i:Int)] w fun e w'=>e=.returned (.agg (nC (aK k i)).toArray)∧Below w.heap.size w w':=by
 have H0:=Mem.start w
 go_enter Tryz.func82,Tryz.ntmps82
 refine wp_seq_k (fun K1 hK1=>?_)
 refine rl ?_
 refine aC (o:=⟨some 4,_,_,_,_,_⟩) rfl 87 zcN (by kernel_rfl) ?_
 intro w2 hn
 have H3:=Mem.bA H0 hn
 clear hn
 refine rn ?_
 refine nt (hK1 _ _ ?_)
 refine wp_seq_k (fun K4 hK4=>?_)
 refine rl ?_
 refine an (by kernel_rfl) _ _ (by kernel_rfl) (gE k i w2) ?_
 rintro e w5 ⟨rfl,hb7⟩
 refine ⟨_,rfl,rn ?_⟩
 have H6:=Mem.call H3 hb7
 refine rv (v:=.agg (nC (aK k i)).toArray) (by kernel_rfl) ?_
 refine al (o:=⟨none,_,_,_,_,_⟩) rfl 87 (.tmp 4) (.tmp 8) rfl w.heap.size zcN (nC (aK k i)).toArray 87 (Mem.blk H6 0 rfl) (iF (bh k i)) (dk mT (iF (bh k i))) (ui (aK k i)) rfl rfl ?_
 intro w8 hk hg
 have H9:=Mem.st H6 0 rfl hk hg
 clear hk hg
 refine rn ?_
 refine nt (hK4 _ _ ?_)
 refine wp_ret ?_
 refine bodyPost_ret (fv (r1:=.cell 4 87) rfl ⟨⟨_,rfl,iz (Blk.range (Mem.blk H9 0 rfl)) Tryz.underlying87 rfl (dE (bh k i))⟩,trivial⟩) rfl ?_
 exact ⟨rfl,Mem.below H9⟩
def aN (k i:Nat):Drv:=(⟨(mtG k i).toArray⟩,[],[])
theorem rS (w:World) (B:Nat) (k i:Nat):aO w B (aN k i) (.slice none 0 0) (.slice none 0 0) :=
 ⟨nW k i,⟨none,0,rfl,Nat.le_refl _,Nat.zero_le _,(fun _=>rfl),fun h=>absurd h (Nat.lt_irrefl 0)⟩,⟨none,0,rfl,Nat.le_refl _,Nat.zero_le _,(fun _=>rfl),fun h=>absurd h (Nat.lt_irrefl 0)⟩⟩
set_option maxHeartbeats 1000000 in
theorem fh (k i:Nat) (w:World):Calls Tryz.prog 151 #[.int .i64 (k:Int),.int .i64 (i:Int)] w fun e w'=>e=.returned (.agg (dC (aN k i) (.slice none 0 0) (.slice none 0 0)).toArray)∧Below w.heap.size w w':=by
 have H0:=Mem.start w
 go_enter Tryz.func151,Tryz.ntmps151
 refine wp_seq_k (fun K1 hK1=>?_)
 refine rl ?_
 refine aC (o:=⟨some 4,_,_,_,_,_⟩) rfl 26 zcD (by kernel_rfl) ?_
 intro w2 hn
 have H3:=Mem.bA H0 hn
 clear hn
 refine rn ?_
 refine nt (hK1 _ _ ?_)
 refine wp_seq_k (fun K4 hK4=>?_)
 refine rl ?_
 refine an (by kernel_rfl) _ _ (by kernel_rfl) (gE k i w2) ?_
 rintro e w5 ⟨rfl,hb7⟩
 refine ⟨_,rfl,rn ?_⟩
 have H6:=Mem.call H3 hb7
 refine rv (v:=.agg (dC (aN k i) (.slice none 0 0) (.slice none 0 0)).toArray) (by kernel_rfl) ?_
 refine al (o:=⟨none,_,_,_,_,_⟩) rfl 26 (.tmp 4) (.tmp 8) rfl w.heap.size zcD (dC (aN k i) (.slice none 0 0) (.slice none 0 0)).toArray 26 (Mem.blk H6 0 rfl) (dF (aN k i) (.slice none 0 0) (.slice none 0 0)) (dk fP (dF (aN k i) (.slice none 0 0) (.slice none 0 0))) (ll (aN k i) rfl rfl) rfl rfl ?_
 intro w8 hk hg
 have H9:=Mem.st H6 0 rfl hk hg
 clear hk hg
 refine rn ?_
 refine nt (hK4 _ _ ?_)
 refine wp_ret ?_
 refine bodyPost_ret (fv (r1:=.cell 4 26) rfl ⟨⟨_,rfl,iz (Blk.range (Mem.blk H9 0 rfl)) Tryz.underlying26 rfl (bJ (aN k i) (.slice none 0 0) (.slice none 0 0))⟩,trivial⟩) rfl ?_
 exact ⟨rfl,Mem.below H9⟩
end Go.Proofs.YtomnhnmciopiiaaGreat
end
section
namespace Go.Proofs.YtomnhnmciopiiaaGreat
open Go Go.RowKit Go.Maps
set_option maxRecDepth 100000
attribute [local irreducible] wpList
def mkN (k i:Nat):Nat:=1000003*(k+7)+i
def mgB (k i:Nat):UInt8:=UInt8.ofNat (mkN k i*11400714819323198485 % 18446744073709551616 / 72057594037927936)
def bC (b:UInt8):List Value:=[.int .u8 (b.toNat:Int)]
theorem zu {ρ:Operand→Value} {o:Oper} (x:Operand) (ho:o.op=.convert 3 188 x) (a:Nat) (hx:ρ x=.int .i64 (a:Int)) (ha:a<9223372036854775808) (W:World):(execOp ρ o).run Tryz.prog W=.ok (.value (.int .u64 (a:Int))) W:=by
 unfold execOp
 simp [ho,hx,go_sem,convert,IntKind.wrap,IntKind.signed,IntKind.bits]
 omega
theorem zJ {P:Program} {ρ:Operand→Value} {o:Oper} (t r:TypeId) (x y:Operand) (ho:o.op=.binOp .mul t x y r) (a b:Nat) (hx:ρ x=.int .u64 (a:Int)) (hy:ρ y=.int .u64 (b:Int)) (W:World):(execOp ρ o).run P W=.ok (.value (.int .u64 ((a*b % 18446744073709551616:Nat):Int))) W:=by
 unfold execOp
 simp [ho,hx,hy,go_sem,eqGuard,binOp,IntKind.wrap,IntKind.signed,IntKind.bits]
theorem AQ {P:Program} {ρ:Operand→Value} {o:Oper} (t r:TypeId) (x y:Operand) (ho:o.op=.binOp .shr t x y r) (a q d:Nat) (hx:ρ x=.int .u64 (a:Int)) (hy:ρ y=.int .u64 (q:Int)) (hq:q<64) (hd:d=2 ^ q) (W:World):(execOp ρ o).run P W=.ok (.value (.int .u64 ((a / d:Nat):Int))) W:=by
 subst hd
 unfold execOp
 simp [ho,hx,hy,go_sem,eqGuard,binOp]
theorem xN {ρ:Operand→Value} {o:Oper} (x:Operand) (ho:o.op=.convert 188 5 x) (a:Nat) (hx:ρ x=.int .u64 (a:Int)) (W:World):(execOp ρ o).run Tryz.prog W=.ok (.value (.int .u8 ((UInt8.ofNat a).toNat:Int))) W:=by
 unfold execOp
 simp [ho,hx,go_sem,convert,IntKind.wrap,IntKind.signed,IntKind.bits]
theorem xq (k i:Nat) (hk:k≤2000000) (hi:i≤2000000) (w:World):Calls Tryz.prog 126 #[.int .i64 (k:Int),.int .i64 (i:Int)] w fun e w'=>e=.returned (.int .i64 ((mkN k i:Nat):Int))∧Below w.heap.size w w':=by
 have H0:=Mem.start w
 go_enter Tryz.func126,Tryz.ntmps126
 refine wp_seq_k (fun K1 hK1=>?_)
 refine rl ?_
 refine nt (hK1 _ _ ?_)
 refine wp_seq_k (fun K2 hK2=>?_)
 refine rl ?_
 refine rv (aR (((k+7:Nat):Int))) ?_
 refine rv (BA (o:=⟨some 7,_,_,_,_,_⟩) 3 3 (.const (.int .i64 1000003)) (.tmp 6) rfl .i64 (1000003) (((k+7:Nat):Int)) (1000003*((k+7:Nat):Int)) rfl rfl (by first | (rw [Go.IntWalk.i64_in _ (by omega)];done) | (rw [Go.IntWalk.i64_in _ (by omega)];omega) | (rw [Go.IntWalk.i64_in _ (by omega)];push_cast;omega)) w) ?_
 refine rv (aR (1000003*((k+7:Nat):Int)+(i:Int))) ?_
 refine nt (hK2 _ _ ?_)
 refine wp_ret ?_
 refine bodyPost_ret (results_tmp rfl _ _ _) rfl ?_
 exact ⟨by rw [show ((mkN k i:Nat):Int)=1000003*((k+7:Nat):Int)+(i:Int) by unfold mkN;omega];rfl,Mem.below H0⟩
theorem gq (k i:Nat) (hk:k≤2000000) (hi:i≤2000000) (w:World):Calls Tryz.prog 83 #[.int .i64 (k:Int),.int .i64 (i:Int)] w fun e w'=>e=.returned (.int .u8 ((mgB k i).toNat:Int))∧Below w.heap.size w w':=by
 have H0:=Mem.start w
 go_enter Tryz.func83,Tryz.ntmps83
 refine wp_seq_k (fun K1 hK1=>?_)
 refine rl ?_
 refine nt (hK1 _ _ ?_)
 refine wp_seq_k (fun K2 hK2=>?_)
 refine rl ?_
 refine an (by kernel_rfl) _ _ (by kernel_rfl) (xq k i hk hi w) ?_
 rintro e w3 ⟨rfl,hb5⟩
 refine ⟨_,rfl,rn ?_⟩
 have H4:=Mem.call H0 hb5
 refine rv (zu (o:=⟨some 8,_,_,_,_,_⟩) (.tmp 7) rfl (mkN k i) rfl (by unfold mkN;omega) w3) ?_
 refine rv (zJ (o:=⟨some 9,_,_,_,_,_⟩) 188 188 (.tmp 8) (.const (.int .u64 11400714819323198485)) rfl (mkN k i) 11400714819323198485 rfl rfl w3) ?_
 refine rv (AQ (o:=⟨some 10,_,_,_,_,_⟩) 188 139 (.tmp 9) (.const (.int .u64 56)) rfl (mkN k i*11400714819323198485 % 18446744073709551616) 56 72057594037927936 rfl rfl (by decide) (by decide) w3) ?_
 refine rv (xN (o:=⟨some 11,_,_,_,_,_⟩) (.tmp 10) rfl (mkN k i*11400714819323198485 % 18446744073709551616 / 72057594037927936) rfl w3) ?_
 refine nt (hK2 _ _ ?_)
 refine wp_ret ?_
 refine bodyPost_ret (results_tmp rfl _ _ _) rfl ?_
 exact ⟨rfl,Mem.below H4⟩
end Go.Proofs.YtomnhnmciopiiaaGreat
end
section
namespace Go.Proofs.YtomnhnmciopiiaaGreat
open Go Go.RowKit Go.Maps
set_option maxRecDepth 100000
attribute [local irreducible] wpList
def cQ (j:Nat):Nam:=(⟨(mtB j).toArray⟩,(dg,⟨#[]⟩),dg,false)
theorem eH (j:Nat):okN (cQ j):=⟨Ao j,eG,fp⟩
set_option maxHeartbeats 1000000 in
theorem lS (j:Nat) (hj:j<12) (w:World):Calls Tryz.prog 82 #[.int .i64 1,.int .i64 (j:Int)] w fun e w'=>e=.returned (.agg (nC (cQ j)).toArray)∧Below w.heap.size w w':=by
 have H0:=Mem.start w
 go_enter Tryz.func82,Tryz.ntmps82
 refine wp_seq_k (fun K1 hK1=>?_)
 refine rl ?_
 refine aC (o:=⟨some 4,_,_,_,_,_⟩) rfl 87 zcN (by kernel_rfl) ?_
 intro w2 hn
 have H3:=Mem.bA H0 hn
 clear hn
 refine rn ?_
 refine nt (hK1 _ _ ?_)
 refine wp_seq_k (fun K4 hK4=>?_)
 refine rl ?_
 refine an (by kernel_rfl) _ _ (by kernel_rfl) (p6 j hj w2) ?_
 rintro e w5 ⟨rfl,hb7⟩
 refine ⟨_,rfl,rn ?_⟩
 have H6:=Mem.call H3 hb7
 refine rv (v:=.agg (nC (cQ j)).toArray) (by kernel_rfl) ?_
 refine al (o:=⟨none,_,_,_,_,_⟩) rfl 87 (.tmp 4) (.tmp 8) rfl w.heap.size zcN (nC (cQ j)).toArray 87 (Mem.blk H6 0 rfl) (iF (eH j)) (dk mT (iF (eH j))) (ui (cQ j)) rfl rfl ?_
 intro w8 hk hg
 have H9:=Mem.st H6 0 rfl hk hg
 clear hk hg
 refine rn ?_
 refine nt (hK4 _ _ ?_)
 refine wp_ret ?_
 refine bodyPost_ret (fv (r1:=.cell 4 87) rfl ⟨⟨_,rfl,iz (Blk.range (Mem.blk H9 0 rfl)) Tryz.underlying87 rfl (dE (eH j))⟩,trivial⟩) rfl ?_
 exact ⟨rfl,Mem.below H9⟩
def fo (B:Nat) (A:Option Addr) (cap:Nat) (l:List Nam):Ent:=aw B 87 43 (.slice A (l++(List.range 12).map cQ).length cap) (l++(List.range 12).map cQ).length ((l++(List.range 12).map cQ).flatMap nC)
set_option maxHeartbeats 4000000 in
theorem nJ (w:World) (l:List Nam) (v:Value) (h:de.At w w.heap.size [v] l) (hl:l.length≤1000000) :
  Calls Tryz.prog 52 #[v] w fun e w'=>∃ A cap,e=.returned (.slice A l.length cap)∧Mem w w' [fo w.heap.size A cap l]:=by
 obtain ⟨A0,cap,rfl,_,hcm,_,hA⟩:=ak h
 simp only [maxLen] at hcm
 unfold fo
 have H0:=Mem.start w
 go_enter Tryz.func52,Tryz.ntmps52
 refine wp_seq_k (fun K1 hK1=>?_)
 refine rl ?_
 refine nt (hK1 _ _ ?_)
 refine wp_seq_k (fun K2 hK2=>?_)
 refine rl ?_
 refine rv (aR (((l.length+12:Nat):Int))) ?_
 obtain ⟨inm87,iq87,ir87,is87,it87⟩:=info_parts lu
 refine wpList_make_own _ rfl _ _ 23 rfl w.heap.size 87 _ _ 43 Tryz.underlying23 iq87 ir87 is87 _ _ _ (l.length+12) rfl rfl rfl (by rw [it87];omega) (by simp only [maxLen];omega) (Mem.below H0).size ?_
 intro w3 ow gr
 refine rn ?_
 have H4:=Mem.make H0 ow gr
 clear ow gr
 refine rn ?_
 refine nt (hK2 _ _ ?_)
 refine wp_seq_k (fun K6 hK6=>?_)
 refine rl ?_
 refine aH (o:=⟨some 11,_,_,_,_,_⟩) rfl _ _ 23 rfl (w.heap.size) 87 _ _ 43 80 Tryz.underlying23 iq87 ir87 is87 it87 rfl (by decide) (.slice (some ⟨w.heap.size,0,none⟩) 0 (l.length+12)) (0) ([]) (Mem.own H4 0 rfl) (A0) (l.length) (cap) ((l).flatMap nC) (jD (L:=ia) (f:=nC) (by decide) (fun h=>(bl.1 h).1) fQ (Mem.lay H4 h)).2 ?hmt7 ?hbt7 ?hzt7 rfl rfl ?_
 case hmt7=>simp only [maxLen];omega
 case hbt7=>omega
 case hzt7=>exact (Mem.below H4).size
 intro u10 w8 ow13 gr14 hp15
 refine rn ?_
 have ow13:w8.ownsRow (w.heap.size) 87 43 u10 (l).length ((l).flatMap nC):=by first | simpa using ow13 | (simp at ow13 ⊢;exact ow13)
 obtain ⟨A11,c12,rfl⟩:=aP ow13
 have H9:=Mem.app H4 0 rfl ow13 gr14 hp15
 clear ow13 gr14 hp15
 refine rn ?_
 refine nt (hK6 _ _ ?_)
 refine wp_seq_k (fun K16 hK16=>?_)
 refine wp_seq_k (fun K17 hK17=>?_)
 refine rl ?_
 refine nt (hK17 _ _ ?_)
 refine wp_block ?_
 go_loopw [3,4] (fun x3 x4 wr=>∃ j:Nat,∃ kn:List Nam,∃ A9:Option Addr,∃ c9:Nat,x3=.slice A9 kn.length c9∧x4=.int .i64 (j:Int)∧(j≤12)∧(kn=l++(List.range j).map cQ)∧Mem w wr [aw (w.heap.size) 87 43 (.slice A9 kn.length c9) (kn).length ((kn).flatMap nC)]) (fun x3 x4 _=>12-(intOf x4).toNat)
 case atStart=>exact ⟨0,((l)),A11,c12,rfl,rfl,by omega,(by simp),H9⟩
 case round =>
  obtain ⟨wo18,rfl⟩:∃ wo18,wo18=wr:=⟨_,rfl⟩
  obtain ⟨j,kn,A9,c9,rfl,rfl,hj,hkn,H19⟩:=hrel
  have hln:kn.length=l.length+j:=by rw [hkn];simp
  refine wp_seq_k (fun K21 hK21=>?_)
  refine wp_seq_k (fun K22 hK22=>?_)
  refine rl ?_
  by_cases p23:(j:Int)<12
  ·refine rv (aB (decide_eq_true p23)) ?_
   refine nt (hK22 _ _ ?_)
   refine ct ?_
   refine ks (hK21 _ _ ?_)
   refine wp_seq_k (fun K24 hK24=>?_)
   refine wp_block ?_
   refine rl ?_
   refine an (by kernel_rfl) _ _ (by kernel_rfl) (lS j (by omega) wo18) ?_
   rintro e w25 ⟨rfl,hb27⟩
   refine ⟨_,rfl,rn ?_⟩
   have H26:=Mem.call H19 hb27
   refine aL (o:=⟨some 19,_,_,_,_,_⟩) rfl 23 (.tmp 18) rfl 87 43 (.agg zcN) (.agg (nC (cQ j)).toArray) rfl Tryz.underlying23 aY (by decide) (by decide) (fun w=>by kernel_rfl) (by rw [Value.cells,List.size_toArray];exact da (eH _)) ?_
   intro w28 hn
   have H29:=Mem.bA H26 hn
   clear hn
   refine rn ?_
   refine aH (o:=⟨some 20,_,_,_,_,_⟩) rfl _ _ 23 rfl (w.heap.size) 87 _ _ 43 80 Tryz.underlying23 iq87 ir87 is87 it87 rfl (by decide) (.slice A9 kn.length c9) ((kn).length) ((kn).flatMap nC) (Mem.own H29 1 rfl) ((some ⟨w25.heap.size,0,none⟩)) (1) (1) (nC (cQ j)) (bH (n:=43) (m:=1) (Mem.blk H29 0 rfl) (da (eH _)) (fQ (cQ j))) ?hmt30 ?hbt30 ?hzt30 rfl rfl ?_
   case hmt30=>simp only [maxLen];omega
   case hbt30=>omega
   case hzt30=>exact (Mem.below H29).size
   intro u33 w31 ow36 gr37 hp38
   refine rn ?_
   have ow36:w31.ownsRow (w.heap.size) 87 43 u33 (kn++[(cQ j)]).length ((kn++[(cQ j)]).flatMap nC):=by first | simpa using ow36 | (simp at ow36 ⊢;exact ow36)
   obtain ⟨A34,c35,rfl⟩:=aP ow36
   have H32:=Mem.app H29 1 rfl ow36 gr37 hp38
   clear ow36 gr37 hp38
   refine rn ?_
   refine wpList_nil ?_
   refine aq ?_
   refine ab (hK24 _ _ ?_)
   refine rl ?_
   refine rv (aR (((j+1:Nat):Int))) ?_
   refine wpList_nil ?_
   have H39:=Mem.pick H32 [1] (by decide) rfl
   refine ab ?_
   show _∧_
   go_roundw
   case rel=>exact ⟨(j+1),((kn++[(cQ j)])),A34,c35,rfl,rfl,by omega,(by rw [hkn,List.append_assoc,ny]),H39⟩
   case measure=>simp [intOf];omega
  ·refine rv (aB (decide_eq_false p23)) ?_
   refine nt (hK22 _ _ ?_)
   refine cf ?_
   refine wp_exit ?_
   refine aj ?_
   refine aj ?_
   refine ax ?_
   refine ab (hK16 _ _ ?_)
   refine wp_seq_k (fun K40 hK40=>?_)
   refine rl ?_
   obtain ⟨b41,rfl,hlt44⟩:=aG (Mem.own H19 0 rfl) (by omega)
   refine rv (iy (o:=⟨some 24,_,_,_,_,_⟩) 23 87 (.tmp 21) (.tmp 23) rfl (some ⟨b41,0,none⟩) (kn.length) c9 (l.length) rfl rfl (by have h9:=mA (Mem.own H19 0 rfl);(try simp only [List.length_append,List.length_map,List.length_range] at h9);omega) Tryz.underlying23 aY wo18) ?_
   refine nt (hK40 _ _ ?_)
   refine wp_ret ?_
   refine bodyPost_ret (results_tmp rfl _ _ _) rfl ?_
   have hje:j=12:=by omega
   subst hje hkn
   exact ⟨_,_,rfl,H19⟩
set_option maxHeartbeats 4000000 in
theorem nB (w:World) (l:List Nam) (v:Value) (h:de.At w w.heap.size [v] l) (hall:∀ x∈l++(List.range 12).map cQ,okN x) (hl:l.length≤1000000) (B:Nat) (A9:Option Addr) (c9:Nat) (ho:(fo B A9 c9 l).P w) :
  Calls Tryz.prog 68 #[.slice A9 l.length c9,v] w fun e w'=>e=.returned (.bool true)∧Below w.heap.size w w':=by
 have ho:w.ownsRow B 87 43 (.slice A9 (l++(List.range 12).map cQ).length c9) (l++(List.range 12).map cQ).length ((l++(List.range 12).map cQ).flatMap nC):=ho
 have hln:(l++(List.range 12).map cQ).length=l.length+12:=by simp
 obtain ⟨g,rfl,hg9⟩:=aG ho (by omega)
 have hc9:=(mA ho).1
 rw [hln] at hc9
 have ho9:=ho
 rw [hln] at ho9
 rw [← hln] at ho9
 have hlen9:∀ x∈l++(List.range 12).map cQ,(nC x).length=43:=fun x hx=>da (hall x hx)
 obtain ⟨A0,cap,rfl,_,hcm,_,hA⟩:=ak h
 simp only [maxLen] at hcm
 have H0:=Mem.start w
 go_enter Tryz.func68,Tryz.ntmps68
 refine wp_seq_k (fun K1 hK1=>?_)
 refine rl ?_
 refine nt (hK1 _ _ ?_)
 refine wp_seq_k (fun K2 hK2=>?_)
 refine wp_seq_k (fun K3 hK3=>?_)
 refine rl ?_
 refine rv (sD (decide_eq_true rfl)) ?_
 refine nt (hK3 _ _ ?_)
 refine cf ?_
 refine ks (hK2 _ _ ?_)
 refine wp_seq_k (fun K4 hK4=>?_)
 refine rl ?_
 refine rv (aR (((l.length+12:Nat):Int))) ?_
 refine rv (iy (o:=⟨some 16,_,_,_,_,_⟩) 23 87 (.tmp 12) (.tmp 15) rfl (some ⟨g,0,none⟩) (l.length) c9 (l.length+12) rfl rfl hc9 Tryz.underlying23 aY w) ?_
 refine nt (hK4 _ _ ?_)
 refine wp_seq_k (fun K5 hK5=>?_)
 refine wp_seq_k (fun K6 hK6=>?_)
 refine rl ?_
 refine nt (hK6 _ _ ?_)
 refine wp_block ?_
 go_loopw [6] (fun x6 wr=>∃ j:Nat,x6=.int .i64 (j:Int)∧(j≤l.length+12)∧Mem w wr []) (fun x6 _=>l.length+12-(intOf x6).toNat)
 case atStart=>exact ⟨0,rfl,by omega,H0⟩
 case round =>
  obtain ⟨wo7,rfl⟩:∃ wo7,wo7=wr:=⟨_,rfl⟩
  obtain ⟨j,rfl,hj,H8⟩:=hrel
  refine wp_seq_k (fun K10 hK10=>?_)
  refine wp_seq_k (fun K11 hK11=>?_)
  refine rl ?_
  by_cases p12:(j:Int)<((l.length+12:Nat):Int)
  ·refine rv (aB (decide_eq_true p12)) ?_
   refine nt (hK11 _ _ ?_)
   refine ct ?_
   refine ks (hK10 _ _ ?_)
   refine wp_seq_k (fun K13 hK13=>?_)
   refine wp_block ?_
   refine wp_seq_k (fun K14 hK14=>?_)
   refine Fre.aW (X:=Bel) [] (by kernel_rfl) (by kernel_rfl) (by simp) (by simp) (by simp) ?_
   refine Fre.rmd ?_
   by_cases p15:(j:Int)<((l.length:Nat):Int)
   ·refine Fre.mvv (fun _ _=>aB (decide_eq_true p15)) ?_
    obtain ⟨x16,hx17⟩:∃ x,((l++(List.range 12).map cQ))[j]?=some x:=⟨_,List.getElem?_eq_getElem (by first | omega | (rw [List.length_map,List.length_range];omega))⟩
    have hd18:=av hx17
    have ok19:=hall _ (List.mem_of_getElem? hx17)
    refine Fre.mvv (fun _ _=>aT (j) Tryz.underlying23 aY) ?_
    refine Fre.mvv (fun W9 hW9=>xld (Mem.range (Mem.call H8 hW9) (dW (f:=nC) (by decide) ho9 hlen9 hx17) hg9) Tryz.underlying87 (dE ok19)) ?_
    obtain ⟨b20,o21,rfl,hlt23,hE22⟩:=hA (by omega)
    obtain ⟨x24,hx25⟩:∃ x,(l)[j]?=some x:=⟨_,List.getElem?_eq_getElem (by first | omega | (rw [List.length_map,List.length_range];omega))⟩
    have hd26:=av hx25
    obtain ⟨cs,hr27,ha28⟩:=hE22 (j) x24 hx25
    obtain ⟨rfl,ok29⟩:=bl.1 ha28
    have hxy9:=sf hx17 hx25
    refine Fre.mvv (fun _ _=>dw (j) Tryz.underlying23 aY) ?_
    refine Fre.mvv (fun W9 hW9=>xld (Mem.range (Mem.call H8 hW9) hr27 hlt23) Tryz.underlying87 (dE ok29)) ?_
    refine Fre.mvv (fun W9 _=>b3 (o:=⟨some 36,_,_,_,_,_⟩) 87 87 (.tmp 31) (.tmp 35) rfl (nC x16).toArray (nC x24).toArray rfl rfl (by kernel_rfl) _ W9 (by have h9:=iV (x16) (x24) ok19 ok29 W9;rwa [show decide _=true from (decide_eq_true hxy9)] at h9)) ?_
    by_cases p30:((l.length:Nat):Int)≤(j:Int)
    ·refine Fre.mvv (fun _ _=>rI (decide_eq_true p30)) ?_
     refine Fre.mvv (fun _ _=>aT (j) Tryz.underlying23 aY) ?_
     refine Fre.mvv (fun W9 hW9=>xld (Mem.range (Mem.call H8 hW9) (dW (f:=nC) (by decide) ho9 hlen9 hx17) hg9) Tryz.underlying87 (dE ok19)) ?_
     refine Fre.mvv (fun _ _=>xt (((j-l.length:Nat):Int))) ?_
     have hmk9:=kJ hx17 (by omega)
     refine Fre.aA (.agg (nC (cQ (j-l.length))).toArray) _ _ (by kernel_rfl) (by kernel_rfl) (by kernel_rfl) (fun W9=>by kernel_rfl) (fun W9 hW9=>lS (j-l.length) (by omega) W9) ?_
     refine Fre.rmd ?_
     refine Fre.mvv (fun W9 _=>b3 (o:=⟨some 54,_,_,_,_,_⟩) 87 87 (.tmp 48) (.tmp 53) rfl (nC x16).toArray (nC (cQ (j-l.length))).toArray rfl rfl (by kernel_rfl) _ W9 (by have h9:=iV (x16) ((cQ (j-l.length))) ok19 (eH _) W9;rwa [show decide _=true from (decide_eq_true hmk9)] at h9)) ?_
     intro w31 hx33
     dsimp only [Fre.ended,List.drop]
     have H32:=Mem.call H8 hx33
     refine ab (hK14 _ _ ?_)
     refine cf ?_
     refine wp_skip ?_
     refine aq ?_
     refine ab (hK13 _ _ ?_)
     refine rl ?_
     refine rv (aR (((j+1:Nat):Int))) ?_
     refine wpList_nil ?_
     refine ab ?_
     show _∧_
     go_roundw
     case rel=>exact ⟨(j+1),rfl,by omega,H32⟩
     case measure=>simp [intOf];omega
    ·refine Fre.mvv (fun _ _=>rI (decide_eq_false p30)) ?_
     intro w34 hx36
     dsimp only [Fre.ended,List.drop]
     have H35:=Mem.call H8 hx36
     refine ab (hK14 _ _ ?_)
     refine cf ?_
     refine wp_skip ?_
     refine aq ?_
     refine ab (hK13 _ _ ?_)
     refine rl ?_
     refine rv (aR (((j+1:Nat):Int))) ?_
     refine wpList_nil ?_
     refine ab ?_
     show _∧_
     go_roundw
     case rel=>exact ⟨(j+1),rfl,by omega,H35⟩
     case measure=>simp [intOf];omega
   ·have he37:=bF (l:=l) (j:=j) (by omega)
    refine Fre.mvv (fun _ _=>aB (decide_eq_false p15)) ?_
    by_cases p38:((l.length:Nat):Int)≤(j:Int)
    ·refine Fre.mvv (fun _ _=>rI (decide_eq_true p38)) ?_
     obtain ⟨x39,hx40⟩:∃ x,((l++(List.range 12).map cQ))[j]?=some x:=⟨_,List.getElem?_eq_getElem (by first | omega | (rw [List.length_map,List.length_range];omega))⟩
     have hd41:=av hx40
     have ok42:=hall _ (List.mem_of_getElem? hx40)
     refine Fre.mvv (fun _ _=>aT (j) Tryz.underlying23 aY) ?_
     refine Fre.mvv (fun W9 hW9=>xld (Mem.range (Mem.call H8 hW9) (dW (f:=nC) (by decide) ho9 hlen9 hx40) hg9) Tryz.underlying87 (dE ok42)) ?_
     refine Fre.mvv (fun _ _=>xt (((j-l.length:Nat):Int))) ?_
     have hmk9:=kJ hx40 (by omega)
     refine Fre.aA (.agg (nC (cQ (j-l.length))).toArray) _ _ (by kernel_rfl) (by kernel_rfl) (by kernel_rfl) (fun W9=>by kernel_rfl) (fun W9 hW9=>lS (j-l.length) (by omega) W9) ?_
     refine Fre.rmd ?_
     refine Fre.mvv (fun W9 _=>b3 (o:=⟨some 54,_,_,_,_,_⟩) 87 87 (.tmp 48) (.tmp 53) rfl (nC x39).toArray (nC (cQ (j-l.length))).toArray rfl rfl (by kernel_rfl) _ W9 (by have h9:=iV (x39) ((cQ (j-l.length))) ok42 (eH _) W9;rwa [show decide _=true from (decide_eq_true hmk9)] at h9)) ?_
     intro w43 hx45
     dsimp only [Fre.ended,List.drop]
     have H44:=Mem.call H8 hx45
     refine ab (hK14 _ _ ?_)
     refine cf ?_
     refine wp_skip ?_
     refine aq ?_
     refine ab (hK13 _ _ ?_)
     refine rl ?_
     refine rv (aR (((j+1:Nat):Int))) ?_
     refine wpList_nil ?_
     refine ab ?_
     show _∧_
     go_roundw
     case rel=>exact ⟨(j+1),rfl,by omega,H44⟩
     case measure=>simp [intOf];omega
    ·refine Fre.mvv (fun _ _=>rI (decide_eq_false p38)) ?_
     intro w46 hx48
     dsimp only [Fre.ended,List.drop]
     have H47:=Mem.call H8 hx48
     refine ab (hK14 _ _ ?_)
     refine cf ?_
     refine wp_skip ?_
     refine aq ?_
     refine ab (hK13 _ _ ?_)
     refine rl ?_
     refine rv (aR (((j+1:Nat):Int))) ?_
     refine wpList_nil ?_
     refine ab ?_
     show _∧_
     go_roundw
     case rel=>exact ⟨(j+1),rfl,by omega,H47⟩
     case measure=>simp [intOf];omega
  ·refine rv (aB (decide_eq_false p12)) ?_
   refine nt (hK11 _ _ ?_)
   refine cf ?_
   refine wp_exit ?_
   refine aj ?_
   refine aj ?_
   refine ax ?_
   refine ab (hK5 _ _ ?_)
   refine wp_seq_k (fun K49 hK49=>?_)
   refine rl ?_
   refine nt (hK49 _ _ ?_)
   refine wp_ret ?_
   refine bodyPost_ret (results_tmp rfl _ _ _) rfl ?_
   exact ⟨rfl,Mem.below H8⟩
end Go.Proofs.YtomnhnmciopiiaaGreat
end
