/- Part 10 of the texts of one proof. -/
import Derived.Test.YtomnhnmciopiiaaGreatMMT9
set_option maxRecDepth 100000
set_option linter.unusedVariables false
set_option linter.unusedSimpArgs false
set_option maxHeartbeats 40000000
open And renaming intro → xad
open Array renaming toList_append → xcj
open Go.RowKit.Below renaming refl → xao
open Bool renaming and_eq_true → xaw, and_false → xbO, and_true → xby, false_and → xbc, false_eq_true → xbI, true_and → xa8
open Go.Builtin renaming zeroCells → xcr
open ByteArray renaming append_assoc → xca, data_append → xbz, size_append → xaM
open Go.IntWalk renaming i64_in → xbe
open Go.IntKind renaming wrap → xbA
open Go.Lib renaming join → xbV
open List renaming append_assoc → xaR, contains_eq_mem → xcD, drop → xaE, flatMap_cons → xbf, getElem?_eq_getElem → xai, getElem?_eq_some_iff → xah, getElem?_map → xaL, length_append → xak, length_map → xap, length_singleton → xbq, length_take → xaN, map_cons → xa9, mem_append → xax, mem_append_left → xaY, mem_append_right → xbi, mem_map → xaA, mem_of_getElem? → xaj, mem_range → xba, mem_singleton → xan, pairwise_append → xbw, pairwise_iff_getElem → xa6, range → xaf, set_cons_succ → xac, set_cons_zero → xab, size_toArray → xal, take_add_one → xaB, take_append_of_le_length → xbl, take_length → xaG, take_of_length_le → xav, take_zero → xaC
open Nat renaming add_mul → xbK, le_refl → xag, le_trans → xaH, mul_le_mul_right → xbm
open Go.Op renaming bytesLess → xb1
open Option.some renaming inj → xam
open Go.Result renaming andThen_ok → xat
open Go.Sem renaming run_bind → xaI, run_pure → xaQ
open UInt8 renaming ofNat → xaJ
open Go.Value renaming cells → xaU, slice → xas, string → xbd
open Go.World.grownBy renaming refl → xa1
section
namespace Go.Proofs.YtomnhnmciopiiaaGreat
open Go Go.RowKit Go.Maps
attribute [local irreducible] wpList
def yJ (l:List Nam):Nat→ByteArray
 | 0=>⟨#[]⟩
 | j+1=>match l[j]? with
  | some x=>x.1
  | none=>⟨#[]⟩
theorem iy {l:List Nam} {j:Nat} {x:Nam} (h:l[j]?=some x):yJ l (j+1)=x.1:=by
 show (match l[j]? with | some x=>x.1 | none=>⟨#[]⟩)=x.1
 rw [h]
theorem xJ {l:List Nam} {j:Nat} {x:Nam} (hj:0<(j:Int)) (h:l[j-1]?=some x):yJ l j=x.1:=by
 obtain ⟨k,rfl⟩:∃ k,j=k+1:=⟨j-1,by omega⟩
 exact iy h
theorem fg (x:Nam) (b:ByteArray):jC x b=(cy x.1&&xb1 b.toList x.1.toList&&(if x.2.2.2=true then decide (x.2.1=ft) else cy x.2.1.2&&decide (x.2.2.1=aW))):=by
 unfold jC
 rw [pT]
theorem zU {s:ByteArray} (h:cy s=true):xb1 (⟨#[]⟩:ByteArray).toList s.toList=true:=by
 have e:(⟨#[]⟩:ByteArray).toList=[]:=by
  rw [ByteArray.toList,ByteArray.toList.loop,if_neg (by decide)]
  rfl
 rw [e]
 unfold cy gJ at h
 simp only [xaw] at h
 cases hs:s.toList with
 | nil=>rw [hs] at h;simp at h
 | cons a l=>rfl
theorem cL (x:Nam) (l:List Nam) (b:ByteArray):fC (x :: l) b=(jC x b&&fC l x.1):=by
 rfl
theorem Dx (d:Drv):jV d=(cy d.1&&(!decide ((8:Int)<((d.2.1.length:Nat):Int))&&(!decide ((1000:Int)<((d.2.2.length:Nat):Int))&&fC d.2.1 ⟨#[]⟩))):=by
 unfold jV
 have h1:decide ((d.2.1.length:Int)≤8)=!decide ((8:Int)<((d.2.1.length:Nat):Int)):=by by_cases h:(8:Int)<((d.2.1.length:Nat):Int)<;>simp [h]<;>omega
 have h2:decide ((d.2.2.length:Int)≤1000)=!decide ((1000:Int)<((d.2.2.length:Nat):Int)):=by by_cases h:(1000:Int)<((d.2.2.length:Nat):Int)<;>simp [h]<;>omega
 rw [h1,h2]
 cases cy d.1<;>cases fC d.2.1 ⟨#[]⟩<;>simp
theorem wj (b:ByteArray):fC [] b=true:=rfl
theorem CY (w:World) (d:Drv) (v1 v2:Value) (h:au w w.heap.size d v1 v2) (b9:Bool) (hb:jV d=b9) :
  Calls Tryz.prog 87 #[.agg (dC d v1 v2).toArray] w fun e w'=>e=.returned (.bool b9)∧Below w.heap.size w w':=by
 have hnm:=h.name
 obtain ⟨A,cap,rfl,_,hcm,_,hA⟩:=aj h.ins
 obtain ⟨A2,cap2,rfl,_,hcm2,_,hA2⟩:=aj h.rcp
 simp only [maxLen] at hcm hcm2
 rw [Dx] at hb
 have HEQ:=hb
 clear hb
 have H0:=Mem.start w
 go_enter Tryz.func87,Tryz.ntmps87
 refine sk fun _ K1=>rl ?_
 refine bx 26 (dC d (.slice A d.2.1.length cap) (.slice A2 d.2.2.length cap2)) fun w2 hn_=>?_
 have H3:=Mem.aM H0 hn_
 refine rn ?_
 refine nt (K1 _ _ (sk fun _ K4=>sk fun _ K5=>rl ?_))
 refine rp w.heap.size 0 ?_
 refine rv (xlc (range_cell (iJ (Blk.range (Mem.blk H3 0 rfl)))) Tryz.underlying9) ?_
 obtain ⟨b6,hb6⟩:∃ b,cy (d.1)=b:=⟨_,rfl⟩
 refine cs (mE (d.1) hnm b6 hb6 w2) (rn ?_)
 cases b6
 ·refine rn ?_
  refine nt (K5 _ _ (ct (sk fun _ K9=>rl ?_)))
  refine nt (K9 _ _ (rt ?_))
  refine ⟨?_,Mem.below H3⟩
  have h:=HEQ
  simp only [xbc,hb6] at h
  subst h
  rfl
 ·refine rn ?_
  refine rp w.heap.size 1 ?_
  refine rv (xlc (range_cell (dg (Blk.range (Mem.blk H3 0 rfl)))) Tryz.underlying23) ?_
  by_cases p10:8<((d.2.1.length:Nat):Int)
  ·refine rv (ou (decide_eq_true p10)) ?_
   refine nt (K5 _ _ (ct (sk fun _ K11=>rl ?_)))
   refine nt (K11 _ _ (rt ?_))
   refine ⟨?_,Mem.below H3⟩
   have h:=HEQ
   simp only [xbc,xbO,decide_true,hb6,p10,Bool.not_true] at h
   subst h
   rfl
  ·refine rv (ou (decide_eq_false p10)) ?_
   refine rp w.heap.size 2 ?_
   refine rv (xlc (range_cell (jZ (Blk.range (Mem.blk H3 0 rfl)))) Tryz.underlying24) ?_
   by_cases p12:1000<((d.2.2.length:Nat):Int)
   ·refine rv (ou (decide_eq_true p12)) ?_
    refine nt (K5 _ _ (ct (sk fun _ K13=>rl ?_)))
    refine nt (K13 _ _ (rt ?_))
    refine ⟨?_,Mem.below H3⟩
    have h:=HEQ
    simp only [xbc,xbO,decide_true,decide_false,hb6,p10,p12,Bool.not_true,Bool.not_false] at h
    subst h
    rfl
   ·refine rv (ou (decide_eq_false p12)) ?_
    refine nt (K5 _ _ (cf (ks (K4 _ _ (sk fun _ K14=>sk fun _ K15=>rl ?_)))))
    refine nt (K15 _ _ (wp_block ?_))
    go_loopw [3] (fun x3 wr=>∃ j:Nat,x3=.int .i64 (j:Int)∧(j≤d.2.1.length)∧(fC (d.2.1.drop j) (yJ d.2.1 j)=b9)∧Mem w wr [bh (w.heap.size) 26 (dC d (.slice A d.2.1.length cap) (.slice A2 d.2.2.length cap2)).toArray]) (fun x3 _=>d.2.1.length-(intOf x3).toNat)
    case atStart=>exact ⟨0,rfl,by omega,(by have h:=HEQ;simp only [xa8,decide_false,hb6,p10,p12,Bool.not_false] at h;exact h),H3⟩
    case round =>
     obtain ⟨wo16,rfl⟩:∃ wo16,wo16=wr:=⟨_,rfl⟩
     obtain ⟨j,rfl,hj,HEQ,H17⟩:=hrel
     refine sk fun _ K19=>sk fun _ K20=>rl ?_
     refine rp w.heap.size 1 ?_
     refine rv (xlc (range_cell (dg (Blk.range (Mem.blk H17 0 rfl)))) Tryz.underlying23) ?_
     by_cases p21:(j:Int)<((d.2.1.length:Nat):Int)
     ·refine rv (aK (decide_eq_true p21)) ?_
      refine nt (K20 _ _ (ct (ks (K19 _ _ (sk fun _ K22=>wp_block (sk fun _ K23=>rl ?_))))))
      refine rp w.heap.size 1 ?_
      refine rv (xlc (range_cell (dg (Blk.range (Mem.blk H17 0 rfl)))) Tryz.underlying23) ?_
      obtain ⟨b24,o25,rfl,hlt27,hE26⟩:=hA (by omega)
      obtain ⟨x28,hx29⟩:=gx (l:=d.2.1) (j:=j)
      have hd30:=aD hx29
      obtain ⟨cs,hr31,ha32⟩:=hE26 (j) x28 hx29
      obtain ⟨rfl,ok33⟩:=bZ.1 ha32
      refine rv (fw (j) Tryz.underlying23 bz) ?_
      refine rv (xld (Mem.range H17 hr31 hlt27) Tryz.underlying87 (eL ok33)) ?_
      refine nz 87 zcN fun w34 hn_=>?_
      have H35:=Mem.aM H17 hn_
      refine rn ?_
      refine stb (Mem.blk H35 0 rfl) (kX ok33) (bP tI (kX ok33)) (zS x28) fun w36 hk_ hg_=>?_
      have H37:=Mem.st H35 0 rfl hk_ hg_
      refine rn ?_
      refine nt (K23 _ _ (sk fun _ K38=>sk fun _ K39=>?_))
      obtain ⟨b40,hb40⟩:∃ b,cy (x28.1)=b:=⟨_,rfl⟩
      refine Fre.cC (X:=Bel) [] (by kernel_rfl) (by kernel_rfl) (by simp) (by simp) (by simp) ?_
      refine Fre.mvv (v:=.pointer (some ⟨wo16.heap.size,0,none⟩)) (fun _ _=>by kernel_rfl) ?_
      refine Fre.mvv (fun W9 hW9=>xlc (range_cell (mr (Blk.range (Mem.blk (Mem.call H37 hW9) 0 rfl)))) Tryz.underlying9) ?_
      refine Fre.mc (fun W9 hW9=>xR (mE (x28.1) ok33.1 b40 hb40 W9)) ?_
      refine Fre.rmd ?_
      cases b40
      ·refine Fre.rmd ?_
       intro w41 hx43
       dsimp only [Fre.ended,xaE]
       have H42:=Mem.call H37 hx43
       refine ah (K39 _ _ (ct (sk fun _ K44=>rl ?_)))
       refine nt (K44 _ _ (rt ?_))
       refine ⟨?_,Mem.below H42⟩
       have h:=HEQ
       simp only [cL,fg,xbc,hd30,hb40] at h
       subst h
       rfl
      ·refine Fre.rmd ?_
       by_cases p45:0<(j:Int)
       ·refine Fre.mvv (fun _ _=>ou (decide_eq_true p45)) ?_
        refine Fre.mvv (v:=.pointer (some ⟨w.heap.size,1,none⟩)) (fun _ _=>by kernel_rfl) ?_
        refine Fre.mvv (fun W9 hW9=>xlc (range_cell (dg (Blk.range (Mem.blk (Mem.call H37 hW9) 1 rfl)))) Tryz.underlying23) ?_
        refine Fre.mvv (fun _ _=>Du (((j-1:Nat):Int))) ?_
        obtain ⟨x46,hx47⟩:=gx (l:=d.2.1) (j:=j-1)
        have hd48:=aD hx47
        obtain ⟨cs,hr49,ha50⟩:=hE26 (j-1) x46 hx47
        obtain ⟨rfl,ok51⟩:=bZ.1 ha50
        have hpv:=xJ (by omega) hx47
        refine Fre.mvv (fun _ _=>fw (j-1) Tryz.underlying23 bz) ?_
        refine Fre.mvv (v:=.pointer (some ⟨b24,o25+(j-1)*43,none⟩)) (fun _ _=>by kernel_rfl) ?_
        refine Fre.mvv (fun W9 hW9=>xlc (range_cell (mr (Mem.range (Mem.call H37 hW9) hr49 hlt27))) Tryz.underlying9) ?_
        refine Fre.mvv (v:=.pointer (some ⟨wo16.heap.size,0,none⟩)) (fun _ _=>by kernel_rfl) ?_
        refine Fre.mvv (fun W9 hW9=>xlc (range_cell (mr (Blk.range (Mem.blk (Mem.call H37 hW9) 0 rfl)))) Tryz.underlying9) ?_
        obtain ⟨b52,hb52⟩:∃ b,xb1 (x46.1).toList (x28.1).toList=b:=⟨_,rfl⟩
        refine Fre.mvv (fun W9 _=>DY 9 9 (.tmp 47) (.tmp 49) rfl (x46.1) (x28.1) rfl rfl _ hb52 W9) ?_
        intro w53 hx55
        dsimp only [Fre.ended,xaE]
        have H54:=Mem.call H37 hx55
        refine ah (K39 _ _ ?_)
        cases b52
        ·refine ct (sk fun _ K56=>rl ?_)
         refine nt (K56 _ _ (rt ?_))
         refine ⟨?_,Mem.below H54⟩
         have h:=HEQ
         simp only [cL,fg,xbc,xbO,hd30,hb40,hpv,hb52] at h
         subst h
         rfl
        ·refine cf (ks (K38 _ _ (sk fun _ K57=>rl ?_)))
         refine rp wo16.heap.size 1 ?_
         refine rp wo16.heap.size 42 ?_
         obtain ⟨b58,hb58⟩:∃ b,x28.2.2.2=b:=⟨_,rfl⟩
         refine rv (v:=.bool b58) (by rw [← hb58];exact (exec_load_cell 4 (.tmp 54) rfl ⟨wo16.heap.size,42,none⟩ rfl _ _ w53 Tryz.underlying4 rfl (range_cell (kV ok33.2 (eE (Blk.range (Mem.blk H54 0 rfl))))))) ?_
         cases b58
         ·refine rn ?_
          refine rp wo16.heap.size 1 ?_
          refine rp wo16.heap.size 42 ?_
          refine rv (v:=.bool false) (by rw [← hb58];exact (exec_load_cell 4 (.tmp 65) rfl ⟨wo16.heap.size,42,none⟩ rfl _ _ w53 Tryz.underlying4 rfl (range_cell (kV ok33.2 (eE (Blk.range (Mem.blk H54 0 rfl))))))) ?_
          refine rp wo16.heap.size 1 ?_
          refine rp wo16.heap.size 1 ?_
          refine rp wo16.heap.size 21 ?_
          refine rv (xlc (range_cell (EA ok33.2.1 (pL (eE (Blk.range (Mem.blk H54 0 rfl)))))) Tryz.underlying9) ?_
          obtain ⟨b59,hb59⟩:∃ b,cy (x28.2.1.2)=b:=⟨_,rfl⟩
          refine cs (mE (x28.2.1.2) ok33.2.1.2 b59 hb59 w53) (rn ?_)
          cases b59
          ·refine rn ?_
           refine nt (K57 _ _ (ct (sk fun _ K62=>rl ?_)))
           refine nt (K62 _ _ (rt ?_))
           refine ⟨?_,Mem.below H54⟩
           have h:=HEQ
           simp only [cL,fg,xbc,xby,xbO,hd30,hb40,hpv,hb52,hb58,hb59,↓reduceIte,xbI] at h
           subst h
           rfl
          ·refine rn ?_
           refine rp wo16.heap.size 1 ?_
           refine rp wo16.heap.size 22 ?_
           refine rv (xld (mX ok33.2 (eE (Blk.range (Mem.blk H54 0 rfl)))) Tryz.underlying34 (bN ok33.2.2)) ?_
           refine rv (v:=.agg (bv aW).toArray) (by kernel_rfl) ?_
           by_cases p63:x28.2.2.1=aW
           ·refine rv (dA 34 34 (.tmp 78) (.tmp 79) rfl (bv x28.2.2.1).toArray (bv aW).toArray rfl rfl (by kernel_rfl) _ w53 (by have h9:=dc (x28.2.2.1) (aW) ok33.2.2 aX w53;rwa [show decide _=true from (decide_eq_true p63)] at h9)) ?_
            refine nt (K57 _ _ (cf ?_))
            refine wp_skip ?_
            refine ar (ah (K22 _ _ (rl ?_)))
            refine rv (bp (((j+1:Nat):Int))) ?_
            refine wpList_nil ?_
            have H64:=Mem.pick H54 [1] (by decide) rfl
            refine ah ?_
            show _∧_
            go_roundw
            case rel=>exact ⟨(j+1),rfl,by omega,(by have h:=HEQ;simp only [cL,fg,xa8,xby,decide_true,hd30,hb40,hpv,hb52,hb58,hb59,p63,↓reduceIte,xbI] at h;rw [iy hx29];exact h),H64⟩
            case measure=>simp [intOf];omega
           ·refine rv (dA 34 34 (.tmp 78) (.tmp 79) rfl (bv x28.2.2.1).toArray (bv aW).toArray rfl rfl (by kernel_rfl) _ w53 (by have h9:=dc (x28.2.2.1) (aW) ok33.2.2 aX w53;rwa [show decide _=false from (decide_eq_false p63)] at h9)) ?_
            refine nt (K57 _ _ (ct (sk fun _ K65=>rl ?_)))
            refine nt (K65 _ _ (rt ?_))
            refine ⟨?_,Mem.below H54⟩
            have h:=HEQ
            simp only [cL,fg,xbc,xby,xbO,decide_false,hd30,hb40,hpv,hb52,hb58,hb59,p63,↓reduceIte,xbI] at h
            subst h
            rfl
         ·refine rp wo16.heap.size 1 ?_
          refine rp wo16.heap.size 1 ?_
          refine rv (xld (pL (eE (Blk.range (Mem.blk H54 0 rfl)))) Tryz.underlying83 (xE ok33.2.1)) ?_
          refine rv (v:=.agg (pC ft).toArray) (by kernel_rfl) ?_
          by_cases p66:x28.2.1=ft
          ·refine rv (dA 83 83 (.tmp 59) (.tmp 60) rfl (pC x28.2.1).toArray (pC ft).toArray rfl rfl (by kernel_rfl) _ w53 (by have h9:=ma (x28.2.1) (ft) ok33.2.1 iE w53;rwa [show decide _=true from (decide_eq_true p66)] at h9)) ?_
           refine rp wo16.heap.size 1 ?_
           refine rp wo16.heap.size 42 ?_
           refine rv (v:=.bool true) (by rw [← hb58];exact (exec_load_cell 4 (.tmp 65) rfl ⟨wo16.heap.size,42,none⟩ rfl _ _ w53 Tryz.underlying4 rfl (range_cell (kV ok33.2 (eE (Blk.range (Mem.blk H54 0 rfl))))))) ?_
           refine nt (K57 _ _ (cf ?_))
           refine wp_skip ?_
           refine ar (ah (K22 _ _ (rl ?_)))
           refine rv (bp (((j+1:Nat):Int))) ?_
           refine wpList_nil ?_
           have H67:=Mem.pick H54 [1] (by decide) rfl
           refine ah ?_
           show _∧_
           go_roundw
           case rel=>exact ⟨(j+1),rfl,by omega,(by have h:=HEQ;simp only [cL,fg,xa8,xby,decide_true,hd30,hb40,hpv,hb52,hb58,p66,↓reduceIte] at h;rw [iy hx29];exact h),H67⟩
           case measure=>simp [intOf];omega
          ·refine rv (dA 83 83 (.tmp 59) (.tmp 60) rfl (pC x28.2.1).toArray (pC ft).toArray rfl rfl (by kernel_rfl) _ w53 (by have h9:=ma (x28.2.1) (ft) ok33.2.1 iE w53;rwa [show decide _=false from (decide_eq_false p66)] at h9)) ?_
           refine nt (K57 _ _ (ct (sk fun _ K68=>rl ?_)))
           refine nt (K68 _ _ (rt ?_))
           refine ⟨?_,Mem.below H54⟩
           have h:=HEQ
           simp only [cL,fg,xbc,xby,xbO,decide_false,hd30,hb40,hpv,hb52,hb58,p66,↓reduceIte] at h
           subst h
           rfl
       ·have hj0:j=0:=by omega
        have hpv:yJ d.2.1 j=⟨#[]⟩:=by rw [hj0];rfl
        have hz:=zU hb40
        refine Fre.mvv (fun _ _=>ou (decide_eq_false p45)) ?_
        intro w69 hx71
        dsimp only [Fre.ended,xaE]
        have H70:=Mem.call H37 hx71
        refine ah (K39 _ _ (cf (ks (K38 _ _ (sk fun _ K72=>rl ?_)))))
        refine rp wo16.heap.size 1 ?_
        refine rp wo16.heap.size 42 ?_
        obtain ⟨b73,hb73⟩:∃ b,x28.2.2.2=b:=⟨_,rfl⟩
        refine rv (v:=.bool b73) (by rw [← hb73];exact (exec_load_cell 4 (.tmp 54) rfl ⟨wo16.heap.size,42,none⟩ rfl _ _ w69 Tryz.underlying4 rfl (range_cell (kV ok33.2 (eE (Blk.range (Mem.blk H70 0 rfl))))))) ?_
        cases b73
        ·refine rn ?_
         refine rp wo16.heap.size 1 ?_
         refine rp wo16.heap.size 42 ?_
         refine rv (v:=.bool false) (by rw [← hb73];exact (exec_load_cell 4 (.tmp 65) rfl ⟨wo16.heap.size,42,none⟩ rfl _ _ w69 Tryz.underlying4 rfl (range_cell (kV ok33.2 (eE (Blk.range (Mem.blk H70 0 rfl))))))) ?_
         refine rp wo16.heap.size 1 ?_
         refine rp wo16.heap.size 1 ?_
         refine rp wo16.heap.size 21 ?_
         refine rv (xlc (range_cell (EA ok33.2.1 (pL (eE (Blk.range (Mem.blk H70 0 rfl)))))) Tryz.underlying9) ?_
         obtain ⟨b74,hb74⟩:∃ b,cy (x28.2.1.2)=b:=⟨_,rfl⟩
         refine cs (mE (x28.2.1.2) ok33.2.1.2 b74 hb74 w69) (rn ?_)
         cases b74
         ·refine rn ?_
          refine nt (K72 _ _ (ct (sk fun _ K77=>rl ?_)))
          refine nt (K77 _ _ (rt ?_))
          refine ⟨?_,Mem.below H70⟩
          have h:=HEQ
          simp only [cL,fg,xbc,xby,xbO,hd30,hb40,hz,hpv,hb73,hb74,↓reduceIte,xbI] at h
          subst h
          rfl
         ·refine rn ?_
          refine rp wo16.heap.size 1 ?_
          refine rp wo16.heap.size 22 ?_
          refine rv (xld (mX ok33.2 (eE (Blk.range (Mem.blk H70 0 rfl)))) Tryz.underlying34 (bN ok33.2.2)) ?_
          refine rv (v:=.agg (bv aW).toArray) (by kernel_rfl) ?_
          by_cases p78:x28.2.2.1=aW
          ·refine rv (dA 34 34 (.tmp 78) (.tmp 79) rfl (bv x28.2.2.1).toArray (bv aW).toArray rfl rfl (by kernel_rfl) _ w69 (by have h9:=dc (x28.2.2.1) (aW) ok33.2.2 aX w69;rwa [show decide _=true from (decide_eq_true p78)] at h9)) ?_
           refine nt (K72 _ _ (cf ?_))
           refine wp_skip ?_
           refine ar (ah (K22 _ _ (rl ?_)))
           refine rv (bp (((j+1:Nat):Int))) ?_
           refine wpList_nil ?_
           have H79:=Mem.pick H70 [1] (by decide) rfl
           refine ah ?_
           show _∧_
           go_roundw
           case rel=>exact ⟨(j+1),rfl,by omega,(by have h:=HEQ;simp only [cL,fg,xa8,xby,decide_true,hd30,hb40,hz,hpv,hb73,hb74,p78,↓reduceIte,xbI] at h;rw [iy hx29];exact h),H79⟩
           case measure=>simp [intOf];omega
          ·refine rv (dA 34 34 (.tmp 78) (.tmp 79) rfl (bv x28.2.2.1).toArray (bv aW).toArray rfl rfl (by kernel_rfl) _ w69 (by have h9:=dc (x28.2.2.1) (aW) ok33.2.2 aX w69;rwa [show decide _=false from (decide_eq_false p78)] at h9)) ?_
           refine nt (K72 _ _ (ct (sk fun _ K80=>rl ?_)))
           refine nt (K80 _ _ (rt ?_))
           refine ⟨?_,Mem.below H70⟩
           have h:=HEQ
           simp only [cL,fg,xbc,xby,xbO,decide_false,hd30,hb40,hz,hpv,hb73,hb74,p78,↓reduceIte,xbI] at h
           subst h
           rfl
        ·refine rp wo16.heap.size 1 ?_
         refine rp wo16.heap.size 1 ?_
         refine rv (xld (pL (eE (Blk.range (Mem.blk H70 0 rfl)))) Tryz.underlying83 (xE ok33.2.1)) ?_
         refine rv (v:=.agg (pC ft).toArray) (by kernel_rfl) ?_
         by_cases p81:x28.2.1=ft
         ·refine rv (dA 83 83 (.tmp 59) (.tmp 60) rfl (pC x28.2.1).toArray (pC ft).toArray rfl rfl (by kernel_rfl) _ w69 (by have h9:=ma (x28.2.1) (ft) ok33.2.1 iE w69;rwa [show decide _=true from (decide_eq_true p81)] at h9)) ?_
          refine rp wo16.heap.size 1 ?_
          refine rp wo16.heap.size 42 ?_
          refine rv (v:=.bool true) (by rw [← hb73];exact (exec_load_cell 4 (.tmp 65) rfl ⟨wo16.heap.size,42,none⟩ rfl _ _ w69 Tryz.underlying4 rfl (range_cell (kV ok33.2 (eE (Blk.range (Mem.blk H70 0 rfl))))))) ?_
          refine nt (K72 _ _ (cf ?_))
          refine wp_skip ?_
          refine ar (ah (K22 _ _ (rl ?_)))
          refine rv (bp (((j+1:Nat):Int))) ?_
          refine wpList_nil ?_
          have H82:=Mem.pick H70 [1] (by decide) rfl
          refine ah ?_
          show _∧_
          go_roundw
          case rel=>exact ⟨(j+1),rfl,by omega,(by have h:=HEQ;simp only [cL,fg,xa8,xby,decide_true,hd30,hb40,hz,hpv,hb73,p81,↓reduceIte] at h;rw [iy hx29];exact h),H82⟩
          case measure=>simp [intOf];omega
         ·refine rv (dA 83 83 (.tmp 59) (.tmp 60) rfl (pC x28.2.1).toArray (pC ft).toArray rfl rfl (by kernel_rfl) _ w69 (by have h9:=ma (x28.2.1) (ft) ok33.2.1 iE w69;rwa [show decide _=false from (decide_eq_false p81)] at h9)) ?_
          refine nt (K72 _ _ (ct (sk fun _ K83=>rl ?_)))
          refine nt (K83 _ _ (rt ?_))
          refine ⟨?_,Mem.below H70⟩
          have h:=HEQ
          simp only [cL,fg,xbc,xby,xbO,decide_false,hd30,hb40,hz,hpv,hb73,p81,↓reduceIte] at h
          subst h
          rfl
     ·have he84:=bE (l:=d.2.1) (j:=j) (by omega)
      refine rv (aK (decide_eq_false p21)) ?_
      refine nt (K20 _ _ (cf (wp_exit (an (an (aB (ah (K14 _ _ (sk fun _ K85=>rl ?_)))))))))
      refine nt (K85 _ _ (rt ?_))
      refine ⟨?_,Mem.below H17⟩
      have h:=HEQ
      simp only [wj,he84] at h
      subst h
      rfl
end Go.Proofs.YtomnhnmciopiiaaGreat
end
section
namespace Go.Proofs.YtomnhnmciopiiaaGreat
open Go Go.RowKit Go.Maps
def nY (s:ByteArray):ByteArray:=s++⟨#[10]⟩
def eT (d:Drv):Nat→ByteArray
 | 0=>nY (⟨#[100,114,118,32]⟩++d.1)
 | j+1=>match d.2.1[j]? with
  | some x=>eT d j++nY (gG x)
  | none=>eT d j
theorem ni {d:Drv} {j:Nat} {x:Nam} (h:d.2.1[j]?=some x):eT d (j+1)=eT d j++nY (gG x):=by
 rw [eT,h]
theorem rY:∀ (l:List (List UInt8)),l ≠ []→xbV l [10]++[10]=l.flatMap fun s=>s++[10]
 | [],h=>absurd rfl h
 | [s],_=>by simp [xbV]
 | s :: t :: l,_=>by
  have ih:=rY (t :: l) (by simp)
  rw [xbf,← ih]
  simp [xbV]
theorem sg (d:Drv):∀ j,j≤d.2.1.length→(eT d j).data.toList=((⟨#[100,114,118,32]⟩++d.1:ByteArray) :: (d.2.1.take j).map gG).flatMap fun s=>s.data.toList++[10]
 | 0,_=>by simp [eT,nY,xbz]
 | j+1,h=>by
  obtain ⟨x,hx⟩:∃ x,d.2.1[j]?=some x:=⟨_,xai (by omega)⟩
  rw [ni hx,xbz,xcj,sg d j (by omega),xaB,hx]
  simp [nY,xbz]
theorem vM (d:Drv):a8 d=eT d d.2.1.length++nY (⟨#[114,117,110,32]⟩++⟨(di d.2.2).toArray⟩):=by
 apply ByteArray.ext
 apply Array.toList_inj.1
 have h:=sg d d.2.1.length (xag _)
 rw [xaG] at h
 rw [xbz,xcj,h]
 unfold a8
 rw [xbz,xcj]
 have hj:=rY ((cU d).map (·.data.toList)) (by simp [cU])
 refine hj.trans ?_
 simp [cU,nY,xbz,List.flatMap_map]
end Go.Proofs.YtomnhnmciopiiaaGreat
end
section
namespace Go.Proofs.YtomnhnmciopiiaaGreat
open Go Go.RowKit Go.Maps
attribute [local irreducible] wpList
theorem te {h:Hsh} (hh:okH h) {S:ByteArray} (hS:S=⟨(aU h).toArray⟩):S.size≤40:=by
 have h1:=ei h
 have h2:h.length=20:=hh
 rw [hS]
 show (aU h).toArray.size≤_
 rw [xal]
 omega
theorem vG (l:List Int):(⟨(di l).toArray⟩:ByteArray).size≤2*l.length+1:=by
 show (di l).toArray.size≤_
 rw [xal]
 exact lI l
theorem Ar (w:World) (l:List Int) (v:Value) (h:cA.At w w.heap.size [v] l) (hl:l.length≤1000000) (S:ByteArray) (hS:(⟨(di l).toArray⟩:ByteArray)=S) :
  Calls Tryz.prog 90 #[v] w fun e w'=>e=.returned (.string S)∧Below w.heap.size w w':=hS▸vw w l v h hl
theorem CK {d:Drv} {j:Nat} {x:Nam} (hx:d.2.1[j]?=some x) (hi:x.2.2.2=true) {S:ByteArray} (hS:S=⟨(aU x.2.2.1).toArray⟩) :
  eT d j++⟨#[99,108,97,115,115,32]⟩++x.1++⟨#[32]⟩++S++⟨#[10]⟩=eT d (j+1):=by
 rw [ni hx,nY,gG,if_pos hi,hS]
 simp only [xca]
theorem CL {d:Drv} {j:Nat} {x:Nam} (hx:d.2.1[j]?=some x) (hi:x.2.2.2=false) :
  eT d j++⟨#[115,114,99,32]⟩++x.1++⟨#[32]⟩++ix x.2.1++⟨#[10]⟩=eT d (j+1):=by
 rw [ni hx,nY,gG,if_neg (by rw [hi];simp)]
 simp only [xca]
theorem Ag {d:Drv} (h:d.1.size≤24):(eT d 0).size≤1000+200*0:=by
 rw [eT,nY]
 have e4:(⟨#[100,114,118,32]⟩:ByteArray).size=4:=rfl
 have e1:(⟨#[10]⟩:ByteArray).size=1:=rfl
 simp only [xaM,e4,e1]
 omega
theorem vA (w:World) (d:Drv) (v1 v2:Value) (h:au w w.heap.size d v1 v2) :
  Calls Tryz.prog 57 #[.agg (dC d v1 v2).toArray] w fun e w'=>∃ v,e=.returned (.tuple #[v,.int .i64 (bF d)])∧(bF d=0→∃ g cap,v=.slice (some ⟨g,0,none⟩) (a8 d).size cap∧dD w' g (a8 d)∧(a8 d).size≤cap∧w.heap.size≤g∧g<w'.heap.size)∧Below w.heap.size w w':=by
 have hnm:=h.name
 obtain ⟨A,cap,rfl,_,hcm,_,hA⟩:=aj h.ins
 obtain ⟨A2,cap2,rfl,_,hcm2,_,hA2⟩:=aj h.rcp
 simp only [maxLen] at hcm hcm2
 have H0:=Mem.start w
 go_enter Tryz.func57,Tryz.ntmps57
 refine sk fun _ K1=>rl ?_
 refine bx 26 (dC d (.slice A d.2.1.length cap) (.slice A2 d.2.2.length cap2)) fun w2 hn_=>?_
 have H3:=Mem.aM H0 hn_
 refine rn ?_
 refine nt (K1 _ _ (sk fun _ K4=>sk fun _ K5=>rl ?_))
 refine rv (xld (Blk.range (Mem.blk H3 0 rfl)) Tryz.underlying26 (aS d (.slice A d.2.1.length cap) (.slice A2 d.2.2.length cap2))) ?_
 obtain ⟨bc,hbc⟩:∃ b,jV d=b:=⟨_,rfl⟩
 refine ac (CY w2 d _ _ (Mem.drv H3 h) bc hbc) ?_
 rintro e w6 ⟨rfl,hb8⟩
 refine ⟨_,rfl,rn ?_⟩
 have H7:=Mem.call H3 hb8
 cases bc
 ·refine rn ?_
  refine nt (K5 _ _ (ct (sk fun _ K9=>rl ?_)))
  refine nt (K9 _ _ ?_)
  refine wp_ret ?_
  simp only [Exit.then]
  refine bodyPost_ret (bu (r1:=.tmp 2) (r2:=.tmp 3) rfl ⟨rfl,rfl,trivial⟩) rfl ?_
  have hpe:bF d=2:=by unfold bF;rw [if_neg (by rw [hbc];simp)]
  rw [hpe]
  exact ⟨_,rfl,(fun h=>by cases h),Mem.below H7⟩
 ·obtain ⟨hn9,hl8,hr9⟩:=mP hbc
  have hln:=o9 hbc
  have hn24:=ez hn9
  refine rn ?_
  refine nt (K5 _ _ (cf (ks (K4 _ _ (sk fun _ K10=>rl ?_)))))
  refine rp w.heap.size 0 ?_
  refine rv (xlc (range_cell (iJ (Blk.range (Mem.blk H7 0 rfl)))) Tryz.underlying9) ?_
  refine rv (lP ((⟨#[100,114,118,32]⟩:ByteArray)) (d.1) (by have e0:(⟨#[100,114,118,32]⟩:ByteArray).size=4:=rfl;simp only [e0];omega)) ?_
  refine rv (lP ((⟨#[100,114,118,32]⟩:ByteArray)++d.1) ((⟨#[10]⟩:ByteArray)) (by have e0:(⟨#[100,114,118,32]⟩:ByteArray).size=4:=rfl;have e1:(⟨#[10]⟩:ByteArray).size=1:=rfl;simp only [xaM,e0,e1];omega)) ?_
  refine nt (K10 _ _ (sk fun _ K11=>sk fun _ K12=>rl ?_))
  refine nt (K12 _ _ (wp_block ?_))
  go_loopw [4,5] (fun x4 x5 wr=>∃ j:Nat,x4=.string ((eT d j))∧x5=.int .i64 (j:Int)∧(j≤d.2.1.length)∧((eT d j).size≤1000+200*j)∧Mem w wr [bh (w.heap.size) 26 (dC d (.slice A d.2.1.length cap) (.slice A2 d.2.2.length cap2)).toArray]) (fun x4 x5 _=>d.2.1.length-(intOf x5).toNat)
  case atStart=>exact ⟨0,rfl,rfl,by omega,Ag hn24,H7⟩
  case round =>
   obtain ⟨wo13,rfl⟩:∃ wo13,wo13=wr:=⟨_,rfl⟩
   obtain ⟨j,rfl,rfl,hj,hos,H14⟩:=hrel
   refine sk fun _ K16=>sk fun _ K17=>rl ?_
   refine rp w.heap.size 1 ?_
   refine rv (xlc (range_cell (dg (Blk.range (Mem.blk H14 0 rfl)))) Tryz.underlying23) ?_
   by_cases p18:(j:Int)<((d.2.1.length:Nat):Int)
   ·refine rv (aK (decide_eq_true p18)) ?_
    refine nt (K17 _ _ (ct (ks (K16 _ _ (sk fun _ K19=>wp_block (sk fun _ K20=>rl ?_))))))
    refine rp w.heap.size 1 ?_
    refine rv (xlc (range_cell (dg (Blk.range (Mem.blk H14 0 rfl)))) Tryz.underlying23) ?_
    obtain ⟨b21,o22,rfl,hlt24,hE23⟩:=hA (by omega)
    obtain ⟨x25,hx26⟩:=gx (l:=d.2.1) (j:=j)
    have hd27:=aD hx26
    obtain ⟨cs,hr28,ha29⟩:=hE23 (j) x25 hx26
    obtain ⟨rfl,ok30⟩:=bZ.1 ha29
    have hx24:=(hln _ (xaj hx26)).1
    refine rv (fw (j) Tryz.underlying23 bz) ?_
    refine rv (xld (Mem.range H14 hr28 hlt24) Tryz.underlying87 (eL ok30)) ?_
    refine nz 87 zcN fun w31 hn_=>?_
    have H32:=Mem.aM H14 hn_
    refine rn ?_
    refine stb (Mem.blk H32 0 rfl) (kX ok30) (bP tI (kX ok30)) (zS x25) fun w33 hk_ hg_=>?_
    have H34:=Mem.st H32 0 rfl hk_ hg_
    refine rn ?_
    refine nt (K20 _ _ (sk fun _ K35=>rl ?_))
    refine rp wo13.heap.size 1 ?_
    refine rp wo13.heap.size 42 ?_
    obtain ⟨b36,hb36⟩:∃ b,x25.2.2.2=b:=⟨_,rfl⟩
    refine rv (v:=.bool b36) (by rw [← hb36];exact (exec_load_cell 4 (.tmp 29) rfl ⟨wo13.heap.size,42,none⟩ rfl _ _ w33 Tryz.underlying4 rfl (range_cell (kV ok30.2 (eE (Blk.range (Mem.blk H34 0 rfl))))))) ?_
    refine nt (K35 _ _ ?_)
    cases b36
    ·refine cf (sk fun _ K37=>rl ?_)
     refine rp wo13.heap.size 1 ?_
     refine rp wo13.heap.size 1 ?_
     refine rv (xld (pL (eE (Blk.range (Mem.blk H34 0 rfl)))) Tryz.underlying83 (xE ok30.2.1)) ?_
     have hp38:=(hln _ (xaj hx26)).2 hb36
     have hzhp38:(ix x25.2.1).size≤65:=by have h1:=ei x25.2.1.1;have h2:x25.2.1.1.length=20:=ok30.2.1.1;have h3:=ez hp38;rw [lC];omega
     refine ac (AF x25.2.1 ok30.2.1 hp38 w33) ?_
     rintro e w39 ⟨rfl,hb41⟩
     refine ⟨_,rfl,rn ?_⟩
     have H40:=Mem.call H34 hb41
     refine rn ?_
     refine nt (K37 _ _ (rl ?_))
     refine rv (lP ((eT d j)) ((⟨#[115,114,99,32]⟩:ByteArray)) (by have e0:(⟨#[115,114,99,32]⟩:ByteArray).size=4:=rfl;simp only [e0];omega)) ?_
     refine rp wo13.heap.size 0 ?_
     refine rv (xlc (range_cell (mr (Blk.range (Mem.blk H40 0 rfl)))) Tryz.underlying9) ?_
     refine rv (lP ((eT d j)++(⟨#[115,114,99,32]⟩:ByteArray)) (x25.1) (by have e0:(⟨#[115,114,99,32]⟩:ByteArray).size=4:=rfl;simp only [xaM,e0];omega)) ?_
     refine rv (lP ((eT d j)++(⟨#[115,114,99,32]⟩:ByteArray)++x25.1) ((⟨#[32]⟩:ByteArray)) (by have e0:(⟨#[115,114,99,32]⟩:ByteArray).size=4:=rfl;have e1:(⟨#[32]⟩:ByteArray).size=1:=rfl;simp only [xaM,e0,e1];omega)) ?_
     refine rv (lP ((eT d j)++(⟨#[115,114,99,32]⟩:ByteArray)++x25.1++(⟨#[32]⟩:ByteArray)) ((ix x25.2.1)) (by have e0:(⟨#[115,114,99,32]⟩:ByteArray).size=4:=rfl;have e1:(⟨#[32]⟩:ByteArray).size=1:=rfl;simp only [xaM,e0,e1];omega)) ?_
     refine rv (lP ((eT d j)++(⟨#[115,114,99,32]⟩:ByteArray)++x25.1++(⟨#[32]⟩:ByteArray)++(ix x25.2.1)) ((⟨#[10]⟩:ByteArray)) (by have e0:(⟨#[115,114,99,32]⟩:ByteArray).size=4:=rfl;have e1:(⟨#[32]⟩:ByteArray).size=1:=rfl;have e2:(⟨#[10]⟩:ByteArray).size=1:=rfl;simp only [xaM,e0,e1,e2];omega)) ?_
     refine wpList_nil ?_
     refine ar (ah (K19 _ _ (rl ?_)))
     refine rv (bp (((j+1:Nat):Int))) ?_
     refine wpList_nil ?_
     have le6:(⟨#[99,108,97,115,115,32]⟩:ByteArray).size=6:=rfl
     have le4:(⟨#[115,114,99,32]⟩:ByteArray).size=4:=rfl
     have le1:(⟨#[32]⟩:ByteArray).size=1:=rfl
     have le1b:(⟨#[10]⟩:ByteArray).size=1:=rfl
     have hx24:=(hln _ (xaj hx26)).1
     have ho42:=CL hx26 hb36
     have H43:=Mem.pick H40 [1] (by decide) rfl
     refine ah ?_
     show _∧_
     go_roundw
     case rel=>exact ⟨(j+1),(congrArg xbd ho42),rfl,by omega,by rw [← ho42];simp only [xaM,le4,le1,le1b];omega,H43⟩
     case measure=>simp [intOf];omega
    ·refine ct ?_
     obtain ⟨S44,hS44⟩:∃ S:ByteArray,S=⟨(aU x25.2.2.1).toArray⟩:=⟨_,rfl⟩
     have hzS44:S44.size≤40:=te ok30.2.2 hS44
     refine Fre.cC (X:=Bel) [] (by kernel_rfl) (by kernel_rfl) (by simp) (by simp) (by simp) ?_
     refine Fre.rmd ?_
     refine Fre.mvv (fun _ _=>lP ((eT d j)) ((⟨#[99,108,97,115,115,32]⟩:ByteArray)) (by have e0:(⟨#[99,108,97,115,115,32]⟩:ByteArray).size=6:=rfl;simp only [e0];omega)) ?_
     refine Fre.mvv (v:=.pointer (some ⟨wo13.heap.size,0,none⟩)) (fun _ _=>by kernel_rfl) ?_
     refine Fre.mvv (fun W9 hW9=>xlc (range_cell (mr (Blk.range (Mem.blk (Mem.call H34 hW9) 0 rfl)))) Tryz.underlying9) ?_
     refine Fre.mvv (fun _ _=>lP ((eT d j)++(⟨#[99,108,97,115,115,32]⟩:ByteArray)) (x25.1) (by have e0:(⟨#[99,108,97,115,115,32]⟩:ByteArray).size=6:=rfl;simp only [xaM,e0];omega)) ?_
     refine Fre.mvv (fun _ _=>lP ((eT d j)++(⟨#[99,108,97,115,115,32]⟩:ByteArray)++x25.1) ((⟨#[32]⟩:ByteArray)) (by have e0:(⟨#[99,108,97,115,115,32]⟩:ByteArray).size=6:=rfl;have e1:(⟨#[32]⟩:ByteArray).size=1:=rfl;simp only [xaM,e0,e1];omega)) ?_
     refine Fre.mvv (v:=.pointer (some ⟨wo13.heap.size,1,none⟩)) (fun _ _=>by kernel_rfl) ?_
     refine Fre.mvv (v:=.pointer (some ⟨wo13.heap.size,22,none⟩)) (fun _ _=>by kernel_rfl) ?_
     refine Fre.mvv (fun W9 hW9=>xld (mX ok30.2 (eE (Blk.range (Mem.blk (Mem.call H34 hW9) 0 rfl)))) Tryz.underlying34 (bN ok30.2.2)) ?_
     refine Fre.mc (fun W9 hW9=>qy x25.2.2.1 ok30.2.2 S44 hS44 W9) ?_
     refine Fre.rmd ?_
     refine Fre.mvv (fun _ _=>lP ((eT d j)++(⟨#[99,108,97,115,115,32]⟩:ByteArray)++x25.1++(⟨#[32]⟩:ByteArray)) (S44) (by have e0:(⟨#[99,108,97,115,115,32]⟩:ByteArray).size=6:=rfl;have e1:(⟨#[32]⟩:ByteArray).size=1:=rfl;simp only [xaM,e0,e1];omega)) ?_
     refine Fre.mvv (fun _ _=>lP ((eT d j)++(⟨#[99,108,97,115,115,32]⟩:ByteArray)++x25.1++(⟨#[32]⟩:ByteArray)++S44) ((⟨#[10]⟩:ByteArray)) (by have e0:(⟨#[99,108,97,115,115,32]⟩:ByteArray).size=6:=rfl;have e1:(⟨#[32]⟩:ByteArray).size=1:=rfl;have e2:(⟨#[10]⟩:ByteArray).size=1:=rfl;simp only [xaM,e0,e1,e2];omega)) ?_
     intro w45 hx47
     dsimp only [Fre.ended,xaE]
     have H46:=Mem.call H34 hx47
     refine ar (ah (K19 _ _ (rl ?_)))
     refine rv (bp (((j+1:Nat):Int))) ?_
     refine wpList_nil ?_
     have le6:(⟨#[99,108,97,115,115,32]⟩:ByteArray).size=6:=rfl
     have le4:(⟨#[115,114,99,32]⟩:ByteArray).size=4:=rfl
     have le1:(⟨#[32]⟩:ByteArray).size=1:=rfl
     have le1b:(⟨#[10]⟩:ByteArray).size=1:=rfl
     have hx24:=(hln _ (xaj hx26)).1
     have ho48:=CK hx26 hb36 hS44
     have H49:=Mem.pick H46 [1] (by decide) rfl
     refine ah ?_
     show _∧_
     go_roundw
     case rel=>exact ⟨(j+1),(congrArg xbd ho48),rfl,by omega,by rw [← ho48];simp only [xaM,le6,le1,le1b];omega,H49⟩
     case measure=>simp [intOf];omega
   ·have he50:=bE (l:=d.2.1) (j:=j) (by omega)
    refine rv (aK (decide_eq_false p18)) ?_
    refine nt (K17 _ _ (cf (wp_exit (an (an (aB (ah (K11 _ _ (sk fun _ K51=>rl ?_)))))))))
    refine rv (lP ((eT d j)) ((⟨#[114,117,110,32]⟩:ByteArray)) (by have e0:(⟨#[114,117,110,32]⟩:ByteArray).size=4:=rfl;simp only [e0];omega)) ?_
    refine rp w.heap.size 2 ?_
    refine rv (xlc (range_cell (jZ (Blk.range (Mem.blk H14 0 rfl)))) Tryz.underlying24) ?_
    obtain ⟨S52,hS52⟩:∃ S:ByteArray,(⟨(di (d.2.2)).toArray⟩:ByteArray)=S:=⟨_,rfl⟩
    have hzS52:S52.size≤2*(d.2.2).length+1:=hS52▸vG _
    refine ac (Ar wo13 (d.2.2) _ (Mem.lay H14 h.rcp) (by omega) S52 hS52) ?_
    rintro e w53 ⟨rfl,hb55⟩
    refine ⟨_,rfl,rn ?_⟩
    have H54:=Mem.call H14 hb55
    refine rv (lP ((eT d j)++(⟨#[114,117,110,32]⟩:ByteArray)) (S52) (by have e0:(⟨#[114,117,110,32]⟩:ByteArray).size=4:=rfl;simp only [xaM,e0];omega)) ?_
    refine rv (lP ((eT d j)++(⟨#[114,117,110,32]⟩:ByteArray)++S52) ((⟨#[10]⟩:ByteArray)) (by have e0:(⟨#[114,117,110,32]⟩:ByteArray).size=4:=rfl;have e1:(⟨#[10]⟩:ByteArray).size=1:=rfl;simp only [xaM,e0,e1];omega)) ?_
    refine nt (K51 _ _ (sk fun _ K56=>sk fun _ K57=>rl ?_))
    refine rv (v:=.int .i64 ((((eT d j)++(⟨#[114,117,110,32]⟩:ByteArray)++S52++(⟨#[10]⟩:ByteArray)).size:Nat):Int)) (by kernel_rfl) ?_
    by_cases p58:2000<((((eT d j)++(⟨#[114,117,110,32]⟩:ByteArray)++S52++(⟨#[10]⟩:ByteArray)).size:Nat):Int)
    ·refine rv (ou (decide_eq_true p58)) ?_
     refine nt (K57 _ _ (ct (sk fun _ K59=>rl ?_)))
     refine nt (K59 _ _ ?_)
     refine wp_ret ?_
     simp only [Exit.then]
     refine bodyPost_ret (bu (r1:=.tmp 2) (r2:=.tmp 3) rfl ⟨rfl,rfl,trivial⟩) rfl ?_
     have hje:j=d.2.1.length:=by omega
     have ht9:(eT d j)++(⟨#[114,117,110,32]⟩:ByteArray)++S52++(⟨#[10]⟩:ByteArray)=a8 d:=by rw [vM,nY,← hje];simp only [hS52,xca]
     have hsz:=p58
     rw [ht9] at hsz
     have hpe:bF d=3:=by unfold bF;rw [if_pos hbc,if_pos (by omega)]
     rw [hpe]
     exact ⟨_,rfl,(fun h=>by cases h),Mem.below H54⟩
    ·refine rv (ou (decide_eq_false p58)) ?_
     refine nt (K57 _ _ (cf (ks (K56 _ _ (sk fun _ K60=>rl ?_)))))
     refine kq rfl 9 24 5 (.tmp 69) rfl Tryz.underlying9 Tryz.underlying24 Tryz.underlying5 ((eT d j)++(⟨#[114,117,110,32]⟩:ByteArray)++S52++(⟨#[10]⟩:ByteArray)) rfl ?_
     intro g63 c64 w61 ht65 hc66 hg67 hl68 hb69
     refine rn ?_
     have H62:=Mem.call H54 hb69
     refine rn ?_
     refine nt (K60 _ _ ?_)
     refine wp_ret ?_
     refine bodyPost_ret (bu (r1:=.tmp 2) (r2:=.tmp 3) rfl ⟨rfl,rfl,trivial⟩) rfl ?_
     have hje:j=d.2.1.length:=by omega
     have ht9:(eT d j)++(⟨#[114,117,110,32]⟩:ByteArray)++S52++(⟨#[10]⟩:ByteArray)=a8 d:=by rw [vM,nY,← hje];simp only [hS52,xca]
     have hsz:=p58
     rw [ht9] at hsz
     rw [ht9] at ht65 hc66
     have hpe:bF d=0:=by unfold bF;rw [if_pos hbc,if_neg (by omega)]
     rw [hpe]
     exact ⟨_,rfl,fun _=>⟨g63,c64,congrArg (fun n=>xas (some ⟨g63,0,none⟩) n c64) (congrArg ByteArray.size ht9),ht65,hc66,xaH (Mem.below H54).size hg67,hl68⟩,Mem.below H62⟩
end Go.Proofs.YtomnhnmciopiiaaGreat
end
section
namespace Go.Proofs.YtomnhnmciopiiaaGreat
open Go Go.RowKit Go.Maps
attribute [local irreducible] wpList
theorem C9 (w:World) (d:Drv) (v1 v2:Value) (h:au w w.heap.size d v1 v2) (e9:Int) (he:bF d=e9) :
  Calls Tryz.prog 57 #[.agg (dC d v1 v2).toArray] w fun e w'=>∃ v,e=.returned (.tuple #[v,.int .i64 e9])∧(e9=0→∃ g cap,v=.slice (some ⟨g,0,none⟩) (a8 d).size cap∧dD w' g (a8 d)∧(a8 d).size≤cap∧w.heap.size≤g∧g<w'.heap.size)∧Below w.heap.size w w':=he▸vA w d v1 v2 h
theorem Bl {l:List Hsh} (h:∀ z∈l,okH z) {c:Hsh} (hc:okH c):∀ z∈l++[c],okH z:=fun z hz=>by
 rcases xax.1 hz with hz | hz
 ·exact h z hz
 ·rw [xan.1 hz];exact hc
theorem gU {w:World} {d:Drv} {v1 v2:Value} (h:au w w.heap.size d v1 v2):∀ c∈aA d.2.1,okH c:=fun c hc=>by
 obtain ⟨x,hx,rfl⟩:=yn hc
 exact (h.Ey x hx).2.2
def inL {H:Type} [DecidableEq H] (kn:List H):List H→Bool
 | []=>true
 | c :: cs=>decide (c∈kn)&&inL kn cs
theorem Ec {H:Type} [DecidableEq H] (kn:List H):inL kn []=true:=rfl
theorem Cb {H:Type} [DecidableEq H] (kn:List H) (c:H) (cs:List H):inL kn (c :: cs)=(decide (c∈kn)&&inL kn cs):=rfl
theorem yz {H:Type} [DecidableEq H] (kn:List H):∀ cs:List H,(cs.all fun c=>kn.contains c)=inL kn cs
 | []=>rfl
 | c :: cs=>by
  rw [List.all_cons,inL,yz kn cs,xcD]
theorem vz {H:Type} [DecidableEq H] (kn:List H) (x:Dr.It H) (l:List (Dr.It H)):Dr.cP kn (x :: l)=(x.ok&&(!decide (x.cls∈kn)&&(inL kn x.ins&&Dr.cP (kn++[x.cls]) l))):=by
 rw [Dr.cP,yz,xcD]
 simp only [Bool.and_assoc]
theorem mQ (p:Prop) (i j:Decidable p):@decide p i=@decide p j:=by
 cases i<;>cases j<;>first | rfl | contradiction
theorem lG (kn:List Hsh) (x:Itm) (l:List Itm):Dr.cP kn ((x :: l).map itP)=(decide (bF x.2=0)&&(!decide (x.1∈kn)&&(inL kn (aA x.2.2.1)&&Dr.cP (kn++[x.1]) (l.map itP)))):=by
 rw [xa9,vz,mQ (x.1∈kn) _ (@List.instDecidableMemOfLawfulBEq Hsh instBEqOfDecidableEq _ x.1 kn)]
 rfl
theorem rU (kn:List Hsh) (c:Hsh) (cs:List Hsh):inL kn (c :: cs)=(decide (c∈kn)&&inL kn cs):=by
 rw [Cb,mQ (c∈kn)]
theorem Aw (kn:List Hsh):Dr.cP kn (([]:List Itm).map itP)=true:=rfl
theorem qz (w:World) (l:List Itm) (v:Value) (h:eg.At w w.heap.size [v] l) (hl:∀ x∈l,x.2.2.1.length≤1000000) (hlen:l.length≤1000000) (b9:Bool) (hb:Dr.bO (l.map itP)=b9) :
  Calls Tryz.prog 36 #[v] w fun e w'=>e=.returned (.bool b9)∧Below w.heap.size w w':=by
 obtain ⟨A0,cap,rfl,_,hcm,_,hA⟩:=aj h
 simp only [maxLen] at hcm
 have H0:=Mem.start w
 go_enter Tryz.func36,Tryz.ntmps36
 refine sk fun _ K1=>rl ?_
 refine nt (K1 _ _ (sk fun _ K2=>rl ?_))
 refine nt (K2 _ _ (sk fun _ K3=>sk fun _ K4=>rl ?_))
 refine nt (K4 _ _ (wp_block ?_))
 have H0r:=Mem.dE H0 w.heap.size 34 20
 go_loopw [3,4] (fun x3 x4 wr=>∃ j:Nat,∃ kn:List Hsh,∃ A:Option Addr,∃ c:Nat,x3=.slice A kn.length c∧x4=.int .i64 (j:Int)∧(j≤l.length)∧(kn.length≤j)∧(∀ z∈kn,okH z)∧(Dr.cP kn ((l.drop j).map itP)=b9)∧Mem w wr [ax (w.heap.size) 34 20 (.slice A kn.length c) (kn).length ((kn).flatMap bv)]) (fun x3 x4 _=>l.length-(intOf x4).toNat)
 case atStart=>exact ⟨0,([]),none,0,rfl,rfl,by omega,(by simp),(fun _ h=>by cases h),hb,H0r⟩
 case round =>
  obtain ⟨wo5,rfl⟩:∃ wo5,wo5=wr:=⟨_,rfl⟩
  obtain ⟨j,kn,A,c,rfl,rfl,hj,hkl,hall,HEQ,H6⟩:=hrel
  refine sk fun _ K8=>sk fun _ K9=>rl ?_
  by_cases p10:(j:Int)<((l.length:Nat):Int)
  ·refine rv (aK (decide_eq_true p10)) ?_
   refine nt (K9 _ _ (ct (ks (K8 _ _ (sk fun _ K11=>wp_block (sk fun _ K12=>rl ?_))))))
   obtain ⟨b13,o14,rfl,hlt16,hE15⟩:=hA (by omega)
   obtain ⟨x17,hx18⟩:=gx (l:=l) (j:=j)
   have hd19:=aD hx18
   obtain ⟨cs,hr20,ha21⟩:=hE15 (j) x17 hx18
   obtain ⟨v22,v23,rfl,xo24,xd25⟩:=eN.1 ha21
   obtain ⟨A26,c27,rfl,hlc27,hmc27,_,hA28⟩:=aj xd25.ins
   obtain ⟨A29,c30,rfl,hlc30,hmc30,_,hA31⟩:=aj xd25.rcp
   simp only [maxLen] at hmc27 hmc30
   have hcs:(aA x17.2.2.1).length≤1000000:=by have h1:=im x17.2.2.1 x17.2.2.1.length;rw [xaG] at h1;have h2:=hl _ (xaj hx18);omega
   refine rv (fw (j) Tryz.underlying40 dM) ?_
   refine rp b13 (o14+j*23+20) ?_
   refine rv (xld (de xo24 (Mem.range H6 hr20 hlt16)) Tryz.underlying26 (aS x17.2 (.slice A26 x17.2.2.1.length c27) (.slice A29 x17.2.2.2.length c30))) ?_
   obtain ⟨e33,he33⟩:∃ e,bF x17.2=e:=⟨_,rfl⟩
   refine ac (C9 wo5 x17.2 _ _ (Mem.drv H6 xd25) e33 he33) ?_
   rintro e w35 ⟨v32,rfl,hg34,hb37⟩
   refine ⟨_,rfl,rn ?_⟩
   have H36:=Mem.call H6 hb37
   refine rn ?_
   refine nt (K12 _ _ (sk fun _ K38=>sk fun _ K39=>rl ?_))
   by_cases p40:e33=0
   ·refine rv (mK (decide_eq_true p40)) ?_
    refine rv (fw (j) Tryz.underlying40 dM) ?_
    refine rp b13 (o14+j*23) ?_
    refine rv (xld (cz (Mem.range H36 hr20 hlt16)) Tryz.underlying34 (bN xo24)) ?_
    obtain ⟨b41,hb41⟩:∃ b,decide (x17.1∈kn)=b:=⟨_,rfl⟩
    refine ac (jv w35 (kn) _ (nr (Mem.own H36 0 rfl) hall) x17.1 xo24 b41 hb41) ?_
    rintro e w42 ⟨rfl,hb44⟩
    refine ⟨_,rfl,rn ?_⟩
    have H43:=Mem.call H36 hb44
    cases b41
    ·refine rn ?_
     refine nt (K39 _ _ (cf (ks (K38 _ _ (sk fun _ K45=>rl ?_)))))
     refine rv (fw (j) Tryz.underlying40 dM) ?_
     refine rp b13 (o14+j*23+20) ?_
     refine rv (xld (de xo24 (Mem.range H43 hr20 hlt16)) Tryz.underlying26 (aS x17.2 (.slice A26 x17.2.2.1.length c27) (.slice A29 x17.2.2.2.length c30))) ?_
     refine ac (jL w42 x17.2 _ _ (Mem.drv H43 xd25) (hl _ (xaj hx18))) ?_
     rintro e w50 ⟨A46,c47,rfl,hm48⟩
     refine ⟨_,rfl,rn ?_⟩
     have H51:=Mem.seq H43 hm48
     refine rn ?_
     refine nt (K45 _ _ (sk fun _ K53=>sk fun _ K54=>rl ?_))
     refine nt (K54 _ _ (wp_block ?_))
     go_loopw [8] (fun x8 wr=>∃ k:Nat,x8=.int .i64 (k:Int)∧(k≤(aA x17.2.2.1).length)∧((inL kn ((aA x17.2.2.1).drop k)&&Dr.cP (kn++[x17.1]) ((l.drop (j+1)).map itP))=b9)∧Mem w wr [ax (w42.heap.size) 34 20 (.slice A46 (aA x17.2.2.1).length c47) ((aA x17.2.2.1)).length (((aA x17.2.2.1)).flatMap bv),ax (w.heap.size) 34 20 (.slice A kn.length c) (kn).length ((kn).flatMap bv)]) (fun x8 _=>(aA x17.2.2.1).length-(intOf x8).toNat)
     case atStart=>exact ⟨0,rfl,by omega,(by have h:=HEQ;simp only [lG,xa8,decide_true,hd19,he33,p40,hb41,Bool.not_false] at h;exact h),H51⟩
     case round =>
      obtain ⟨wo55,rfl⟩:∃ wo55,wo55=wr:=⟨_,rfl⟩
      obtain ⟨k,rfl,hk,HEQ2,H56⟩:=hrel
      refine sk fun _ K58=>sk fun _ K59=>rl ?_
      by_cases p60:(k:Int)<(((aA x17.2.2.1).length:Nat):Int)
      ·refine rv (aK (decide_eq_true p60)) ?_
       refine nt (K59 _ _ (ct (ks (K58 _ _ (sk fun _ K61=>wp_block (sk fun _ K62=>rl ?_))))))
       obtain ⟨b63,rfl,hlt66⟩:=aR (Mem.own H56 0 rfl) (by omega)
       obtain ⟨x67,hx68⟩:=gx (l:=(aA x17.2.2.1)) (j:=k)
       have hd69:=aD hx68
       have ok70:=(gU xd25) _ (xaj hx68)
       refine rv (bT (k) Tryz.underlying27 cr) ?_
       refine rv (xld (dQ (f:=bv) (by decide) (Mem.own H56 0 rfl) (fun z hz=>by rw [bvL];exact (gU xd25) z hz) hx68) Tryz.underlying34 (bN ok70)) ?_
       obtain ⟨b71,hb71⟩:∃ b,decide (x67∈kn)=b:=⟨_,rfl⟩
       refine ac (jv wo55 (kn) _ (nr (Mem.own H56 1 rfl) hall) x67 ok70 b71 hb71) ?_
       rintro e w72 ⟨rfl,hb74⟩
       refine ⟨_,rfl,rn ?_⟩
       have H73:=Mem.call H56 hb74
       cases b71
       ·refine rn ?_
        refine nt (K62 _ _ (ct (sk fun _ K75=>rl ?_)))
        refine nt (K75 _ _ (rt ?_))
        refine ⟨?_,Mem.below H73⟩
        have h:=HEQ2
        simp only [rU,xbc,hd69,hb71] at h
        subst h
        rfl
       ·refine rn ?_
        refine nt (K62 _ _ (cf ?_))
        refine wp_skip ?_
        refine ar (ah (K61 _ _ (rl ?_)))
        refine rv (bp (((k+1:Nat):Int))) ?_
        refine wpList_nil ?_
        refine ah ?_
        show _∧_
        go_roundw
        case rel=>exact ⟨(k+1),rfl,by omega,(by have h:=HEQ2;simp only [rU,xa8,hd69,hb71] at h;exact h),H73⟩
        case measure=>simp [intOf];omega
      ·have he76:=bE (l:=(aA x17.2.2.1)) (j:=k) (by omega)
       refine rv (aK (decide_eq_false p60)) ?_
       refine nt (K59 _ _ (cf (wp_exit (an (an (aB (ah (K53 _ _ (rl ?_)))))))))
       refine rv (fw (j) Tryz.underlying40 dM) ?_
       refine rp b13 (o14+j*23) ?_
       refine rv (xld (cz (Mem.range H56 hr20 hlt16)) Tryz.underlying34 (bN xo24)) ?_
       refine aO rfl 27 (.tmp 59) rfl 34 20 (.agg zcH) (.agg (bv x17.1).toArray) rfl Tryz.underlying27 cr (by decide) (by decide) (fun w=>by kernel_rfl) (by rw [xaU,xal,bvL];exact xo24) ?_
       intro w77 hn
       have H78:=Mem.aM H56 hn
       clear hn
       refine rn ?_
       obtain ⟨inm34,iq34,ir34,is34,it34⟩:=info_parts fU
       refine aE rfl _ _ 27 rfl (w.heap.size) 34 _ _ 20 20 Tryz.underlying27 iq34 ir34 is34 it34 rfl (by decide) (.slice A kn.length c) ((kn).length) ((kn).flatMap bv) (Mem.own H78 2 rfl) ((some ⟨wo55.heap.size,0,none⟩)) (1) (1) (bv x17.1) (bU (n:=20) (m:=1) (Mem.blk H78 0 rfl) (by rw [bvL];exact xo24) (bv1 _)) ?hmt79 ?hbt79 ?hzt79 rfl rfl ?_
       case hmt79=>simp only [maxLen];omega
       case hbt79=>omega
       case hzt79=>exact (Mem.below H78).size
       intro u82 w80 ow85 gr86 hp87
       refine rn ?_
       have ow85:w80.ownsRow (w.heap.size) 34 20 u82 (kn++[x17.1]).length ((kn++[x17.1]).flatMap bv):=by first | simpa using ow85 | (simp at ow85 ⊢;exact ow85)
       obtain ⟨A83,c84,rfl⟩:=aI ow85
       have H81:=Mem.app H78 2 rfl ow85 gr86 hp87
       clear ow85 gr86 hp87
       refine rn ?_
       refine wpList_nil ?_
       refine ar (ah (K11 _ _ (rl ?_)))
       refine rv (bp (((j+1:Nat):Int))) ?_
       refine wpList_nil ?_
       have H88:=Mem.pick H81 [2] (by decide) rfl
       refine ah ?_
       show _∧_
       go_roundw
       case rel=>exact ⟨(j+1),((kn++[x17.1])),A83,c84,rfl,rfl,by omega,(by simp only [xak,xbq];omega),(Bl hall xo24),(by have h:=HEQ2;simp only [Ec,xa8,he76] at h;exact h),H88⟩
       case measure=>simp [intOf];omega
    ·refine rn ?_
     refine nt (K39 _ _ (ct (sk fun _ K89=>rl ?_)))
     refine nt (K89 _ _ (rt ?_))
     refine ⟨?_,Mem.below H43⟩
     have h:=HEQ
     simp only [lG,xa8,xbc,decide_true,hd19,he33,p40,hb41,Bool.not_true] at h
     subst h
     rfl
   ·refine rv (mK (decide_eq_false p40)) ?_
    refine nt (K39 _ _ (ct (sk fun _ K90=>rl ?_)))
    refine nt (K90 _ _ (rt ?_))
    refine ⟨?_,Mem.below H36⟩
    have h:=HEQ
    simp only [lG,xbc,decide_false,hd19,he33,p40] at h
    subst h
    rfl
  ·have he91:=bE (l:=l) (j:=j) (by omega)
   refine rv (aK (decide_eq_false p10)) ?_
   refine nt (K9 _ _ (cf (wp_exit (an (an (aB (ah (K3 _ _ (sk fun _ K92=>rl ?_)))))))))
   refine nt (K92 _ _ (rt ?_))
   refine ⟨?_,Mem.below H6⟩
   have h:=HEQ
   simp only [Aw,he91] at h
   subst h
   rfl
end Go.Proofs.YtomnhnmciopiiaaGreat
end
section
namespace Go.Proofs.YtomnhnmciopiiaaGreat
open Go Go.RowKit Go.Maps
def mtB (j:Nat):List UInt8:=[35,1,0,0,47,xaJ j,0,0]
theorem uw {ρ:Operand→Value} {o:Oper} (src dst:TypeId) (x:Operand) (ho:o.op=.convert src dst x) (g:Nat) (hx:ρ x=.slice (some ⟨g,0,none⟩) 8 8) (l:List UInt8) (hl:l.length=8) (hs:Tryz.prog.underlying src=some (.slice 5)) (hd:Tryz.prog.underlying dst=some .string) (w:World) (hb:Blk w g 5 (bv l).toArray) :
  (execOp ρ o).run Tryz.prog w=.ok (.value (.string ⟨l.toArray⟩)) w:=by
 have h:=run_convert_bytes_back (P:=Tryz.prog) w src dst 5 ⟨g,0,none⟩ 8 l hs Tryz.underlying5 hd fun j hj=>by
  rw [Addr.add_mid,Nat.zero_add,hb.cell]
  simp [bv,hj]
 rw [hl] at h
 unfold execOp
 simp only [ho,hx,xaI,h,xat,xaQ]
theorem ti (j:Nat) (hj:j<12) (w:World):Calls Tryz.prog 125 #[.int .i64 1,.int .i64 (j:Int)] w fun e w'=>e=.returned (.string ⟨(mtB j).toArray⟩)∧Below w.heap.size w w':=by
 have h8:xbA .u8 (j:Int)=(j:Int):=Ds _ (by omega) (by omega)
 have j0:(0:Int)≤(j:Int):=by omega
 have j9:(j:Int)<12:=by omega
 have q1:(j:Int) / 256=0:=by omega
 have q2:(j:Int) / 65536=0:=by omega
 have e8:((xaJ j).toNat:Int)=(j:Int):=by rw [UInt8.toNat_ofNat'];omega
 obtain ⟨w2,hw2⟩:∃ w2,w2=w.alloc (.cells #[.int .u8 35,.int .u8 1,.int .u8 0,.int .u8 0,.int .u8 47,.int .u8 (j:Int),.int .u8 0,.int .u8 0] 5):=⟨_,rfl⟩
 have hb2:Below w.heap.size w w2:=by rw [hw2];exact (xao _ w).alloc (xag _) _
 have hk2:Blk w2 w.heap.size 5 (bv (mtB j)).toArray:=by
  rw [hw2,show (bv (mtB j)).toArray=#[.int .u8 35,.int .u8 1,.int .u8 0,.int .u8 0,.int .u8 47,.int .u8 ((xaJ j).toNat:Int),.int .u8 0,.int .u8 0] from rfl,e8]
  exact Blk.new _ _ _
 have H2:=ab (xad hb2 hk2)
 have HW:=ab hw2
 clear hb2 hk2 hw2 e8
 go_enter Tryz.func125,Tryz.ntmps125
 go_wp2_with ((with_reducible refine ae 22 ?_);refine aa rfl (.string ⟨(mtB j).toArray⟩) w2 (by rw [← HW.out];exact uw 24 9 (.tmp 21) rfl w.heap.size rfl (mtB j) rfl Tryz.underlying24 Tryz.underlying9 w2 H2.out.2) ?_)
 go_ret
 exact ⟨rfl,H2.out.1⟩
theorem Es (j:Nat):(⟨(mtB j).toArray⟩:ByteArray).size≤maxLen:=of_decide_eq_true (by kernel_rfl)
theorem Mem.make {w0 w w':World} {L:List Ent} {t:TypeId} {s n:Nat} {c:Nat} {xs:List Value} (h:Mem w0 w L) (ho:w'.ownsRow w0.heap.size t s (.slice (some ⟨w.heap.size,0,none⟩) n c) n xs) (hg:w.grownBy w' none):Mem w0 w' (ax w0.heap.size t s (.slice (some ⟨w.heap.size,0,none⟩) n c) n xs :: L) :=
 h.new ((xao _ w).grown hg (xag _) (fun _ hb=>by cases hb)) (gz _ _ _ _ _ _) ho fun b hf=>by
  have e:some w.heap.size=some b:=hf
  injection e with e
  subst e
  exact ⟨xag _,(World.ownsRow.lt ho _ rfl).2⟩
theorem oK {w:World} {B s n cap:Nat} {A:Option Addr} {t:TypeId} {xs:List Value} (h:w.ownsRow B t s (.slice A n cap) n xs):n≤cap∧cap≤maxLen:=by
 obtain ⟨_,h2⟩:=h
 rcases h2 with ⟨h2,_⟩ | ⟨g,c,cur,e,_,_,h3,h4,_⟩
 ·injection h2 with _ e2 e3
  subst e2 e3
  exact ⟨xag _,Nat.zero_le _⟩
 ·injection e with _ _ e3
  subst e3
  exact ⟨h3,h4⟩
theorem jD {P:Program} {ρ:Operand→Value} {o:Oper} (t e:TypeId) (x y:Operand) (ho:o.op=.slice t x none (some y) none) (A:Option Addr) (len cap n:Nat) (hx:ρ x=.slice A len cap) (hy:ρ y=.int .i64 (n:Int)) (hn:n≤cap) {s:Nat} (ht:P.underlying t=some (.slice e)) (hs:(P.info? e).map (·.size)=some s) (W:World) :
  (execOp ρ o).run P W=.ok (.value (.slice A n cap)) W:=by
 refine iq t x none (some y) none ho _ (fun w=>?_) W
 have e2:P.elem t=e:=by simp [Program.elem,ht]
 rw [hx,Option.map_some,hy,Option.map_none,run_sliceAt_slice w t _ _ _ _ (by rw [e2];exact ht)]
 have h:=run_slice_h (P:=P) w t A len cap (by rw [e2];exact ht) .i64 (n:Int) (by omega) (by omega)
 rw [h,e2]
 cases hi:P.info? e with
 | none=>simp [hi] at hs
 | some i =>
  have e0:A.map (fun a=>a.add 0)=A:=by cases A<;>simp [Addr.add]
  simp [sizeOf,typeInfo,hi,sliced,e0]
theorem mo {α:Type} {l:List α} {m:Nat→α} {j:Nat} {x:α} (h:(l++(xaf 12).map m)[j]?=some x) (hj:l.length≤j):x=m (j-l.length):=by
 have hlt:=(xah.1 h).1
 simp at hlt
 rw [List.getElem?_append_right hj,xaL,List.getElem?_range (by omega)] at h
 exact (xam h).symm
theorem uB {α:Type} {l r:List α} {j:Nat} {x y:α} (h:(l++r)[j]?=some x) (hy:l[j]?=some y):x=y:=by
 rw [List.getElem?_append_left (xah.1 hy).1,hy] at h
 exact (xam h).symm
theorem pY {α:Type} (m:Nat→α) (j:Nat):(xaf j).map m++[m j]=(xaf (j+1)).map m:=by
 rw [List.range_succ,List.map_append]
 rfl
end Go.Proofs.YtomnhnmciopiiaaGreat
end
section
namespace Go.Proofs.YtomnhnmciopiiaaGreat
open Go Go.RowKit
section
variable {P:Program} {w:World} {ops:Array Oper} {rest:List Oper} {o:Oper} {a:Act} {Q:Exit→Act→World→Prop}
theorem nF {α:Type} {f:α→List Value} {s:Nat}:∀ (l:List α) (k:Nat) (x:α),(∀ y∈l,(f y).length=s)→k<l.length→(l.set k x).flatMap f=(l.flatMap f).take (k*s)++(f x++(l.flatMap f).drop (k*s+s))
 | [],k,x,_,hk=>by simp at hk
 | y :: l,0,x,h,_=>by
  have hy:=h y (by simp)
  simp only [xab,xbf,Nat.zero_mul,xaC,List.nil_append,Nat.zero_add]
  rw [List.drop_left' hy]
 | y :: l,k+1,x,h,hk=>by
  have hy:=h y (by simp)
  have ih:=nF l k x (fun z hz=>h z (by simp [hz])) (by simpa using hk)
  have e1:(k+1)*s=s+k*s:=by rw [xbK];omega
  rw [xac,xbf,xbf,ih,e1]
  rw [List.take_append,List.drop_append,hy]
  have e2:s+k*s-s=k*s:=by omega
  have e3:s+k*s+s-s=k*s+s:=by omega
  have e4:(f y).take (s+k*s)=f y:=xav (by omega)
  have e5:(f y).drop (s+k*s+s)=[]:=List.drop_eq_nil_of_le (by omega)
  rw [e2,e3,e4,e5]
  simp
theorem eC (hg:o.guard=none) (ty:TypeId) (x y:Operand) (ho:o.op=.store ty x y) {B g n cap s k:Nat} {xs:List Value} (hown:w.ownsRow B ty s (.slice (some ⟨g,0,none⟩) n cap) n xs) (cs:List Value) (hk:k<n) (hcs:cs.length=s) (hi:(P.info? ty).map (·.size)=some cs.toArray.size) (h1:cs.toArray.all (·.oneCell')=true)
  (hx:a.eval x=.pointer (some ⟨g,k*s,none⟩)) (hy:a.eval y=.agg cs.toArray)
  (h:∀ w',w'.ownsRow B ty s (.slice (some ⟨g,0,none⟩) n cap) n (xs.take (k*s)++(cs++xs.drop (k*s+s)))→w.grownBy w' (some g)→w'.heap.size=w.heap.size→wpList P ops Q rest (a.put o.dst undef) w'):wpList P ops Q (o :: rest) a w:=by
 have hks:k*s+s≤n*s:=by
  have:(k+1)*s≤n*s:=xbm _ hk
  rwa [xbK,Nat.one_mul] at this
 have hth:=si hown (k*s) cs.length (by rw [hcs];exact hks)
 refine wpList_store_mid hg ty x y ho g (k*s) cs.toArray hx hy (by simpa using hth) hi h1 ?_
 have h2:=my hown (k*s) cs (by rw [hcs];exact hks)
 rw [hcs] at h2
 have hg2:=ir (g:=g) cs (k*s) w (xa1 w (some g))
 have hsz:∀ (vs:List Value) (q:Nat) (w:World),(w.setCells g q vs).heap.size=w.heap.size:=by
  intro vs
  induction vs with
  | nil=>intro q w;rfl
  | cons v vs ih=>intro q w;rw [World.setCells,ih];simp [World.setCell]
 exact h _ (by simpa using h2) (by simpa using hg2) (by first | (simp;done) | (simpa using hsz cs (k*s) w))
theorem oq (hg:o.guard=none) (st ty:TypeId) (x:Operand) (ho:o.op=.call { callee:=.builtin .clear,args:=#[x],argTypes:=#[st] }) (hst:P.underlying st=some (.slice ty)) {z:Value} (hz:∀ w,(zeroValue ty).run P w=.ok z w) (hz1:∀ v∈z.cells,v.oneCell'=true) {B g n cap s k c:Nat} (hzs:z.cells.size=s) (hs0:0<s) {xs:List Value} (hown:w.ownsRow B ty s (.slice (some ⟨g,0,none⟩) n cap) n xs) (hk:k<n)
  (hx:a.eval x=.slice (some ⟨g,k*s,none⟩) (n-k) c)
  (h:∀ w',w'.ownsRow B ty s (.slice (some ⟨g,0,none⟩) k cap) k (xs.take (k*s))→w.grownBy w' (some g)→wpList P ops Q rest (a.put o.dst (.tuple #[])) w'):wpList P ops Q (o :: rest) a w:=by
 obtain ⟨vs,hvs⟩:∃ vs,vs=(xcr z.cells (n-k)).toList:=⟨_,rfl⟩
 have hvl:vs.length=(n-k)*s:=by rw [hvs,Array.length_toList,size_zeroCells,hzs]
 have hone:∀ v∈vs,v.oneCell'=true:=fun v hv=>by
  rw [hvs] at hv
  unfold xcr at hv
  simp only [Array.toList_map,xaA] at hv
  obtain ⟨i,_,rfl⟩:=hv
  have hlt:i % z.cells.size<z.cells.size:=Nat.mod_lt _ (by omega)
  rw [getElem!_pos z.cells (i % z.cells.size) hlt]
  exact hz1 _ (Array.getElem_mem _)
 have hks:k*s+(n-k)*s=n*s:=by rw [← xbK];congr 1;omega
 have hth:=si hown (k*s) ((n-k)*s) (by omega)
 have hrun:=run_storeCells_cells (P:=P) g (k*s) vs 0 w (fun j hj=>by simpa using (hth j (by omega)).1) (fun j hj=>by simpa using (hth j (by omega)).2) hone
 have h2:=my hown (k*s) vs (by omega)
 have h3:=vn h2 (Nat.le_of_lt hk)
 rw [xbl (by rw [xaN,hown.1];have:k*s≤n*s:=xbm _ (Nat.le_of_lt hk);omega),List.take_take,Nat.min_self] at h3
 have hg2:=ir (g:=g) vs (k*s) w (xa1 w (some g))
 have hne:n-k ≠ 0:=by omega
 have hcl:(Builtin.clear_ #[st] o.type #[.slice (some ⟨g,k*s,none⟩) (n-k) c]).run P w=.ok (.tuple #[]) (w.setCells g (k*s) vs):=by
  unfold Builtin.clear_
  simp only [Nat.add_zero] at hrun
  have e:(do storeCells ⟨g,k*s,none⟩ (xcr (← zeroValue ty).cells (n-k)).toList:Sem Unit).run P w=.ok () (w.setCells g (k*s) vs):=by
   rw [xaI,hz,xat,← hvs,hrun]
  cases hm:n-k with
  | zero=>omega
  | succ m =>
   rw [hm] at e
   rw [xaI] at e
   simp [run_underlying hst]
   rw [hz] at e ⊢
   simp only [xat] at e ⊢
   rw [e]
   rfl
 refine wpList_plain hg fun K hK=>?_
 unfold Oper.wp execOp
 simp only [ho,resolve,invoke,builtin,xaI,xaQ,xat,List.map_toArray,xa9,List.map_nil,hx,hcl]
 exact hK _ _ (h _ h3 hg2)
theorem pt {ρ:Operand→Value} {o:Oper} (t e s:Nat) (x y:Operand) (ho:o.op=.slice t x (some y) none none) (b off len cap n:Nat) (hx:ρ x=.slice (some ⟨b,off,none⟩) len cap) (hy:ρ y=.int .i64 (n:Int)) (ht:P.underlying t=some (.slice e)) (hs:(P.info? e).map (·.size)=some s) (hn:n≤len) (_:len≤cap) (hc:n<cap) (w:World) :
  (execOp ρ o).run P w=.ok (.value (.slice (some ⟨b,off+n*s,none⟩) (len-n) (cap-n))) w:=by
 refine iq t x (some y) none none ho _ (fun W=>?_) w
 rw [hx,Option.map_some,hy]
 have e2:P.elem t=e:=by simp [Program.elem,ht]
 rw [run_sliceAt_slice W t _ _ _ _ (by rw [e2];exact ht)]
 have h:=run_slice_l (P:=P) W t (some ⟨b,off,none⟩) len cap (by rw [e2];exact ht) .i64 (n:Int) (by omega) (by omega)
 refine h.trans ?_
 rw [e2]
 cases hi:P.info? e with
 | none=>simp [hi] at hs
 | some i =>
  have h1:i.size=s:=by simpa [hi] using hs
  have h3:¬ cap=n:=by omega
  simp [sizeOf,typeInfo,hi,h1,sliced,Addr.add,h3]
end
end Go.Proofs.YtomnhnmciopiiaaGreat
end
section
namespace Go.Proofs.YtomnhnmciopiiaaGreat
open Go Go.RowKit
section
variable {P:Program} {w:World} {ops:Array Oper} {rest:List Oper} {o:Oper} {a:Act} {Q:Exit→Act→World→Prop}
def tJ (w w':World) (v v':Value) (n m:Nat):Prop :=
 (∃ g cap,v=.slice (some ⟨g,0,none⟩) n cap∧v'=.slice (some ⟨g,0,none⟩) (n+m) cap)∨(v'.ownBlock=some w.heap.size∧Below w.heap.size w w')
theorem AG (base:Nat) (t ty e:TypeId) (i:TypeInfo) (z:Value) (size bytes:Nat) (ht:P.underlying t=some (.slice e)) (hi:P.info? e=some i) (hz:i.zero=some z)
  (hsize:i.size=size) (hby:i.bytes=bytes) (hzs:z.cells.size=size) (hsz:0<size) (v:Value) (n:Nat) (xs:List Value) (hown:w.ownsRow base e size v n xs)
  (A:Option Addr) (m c:Nat) (news:List Value) (hs:eZ w size A m c news) (hm:0<m) (h63:n+m≤maxLen) (hbytes:(n+m)*bytes≤140737488355328) (hbase:base≤w.heap.size) :
  ∃ v' w',(Builtin.append_ #[t,t] ty #[v,.slice A m c]).run P w=.ok v' w'∧w'.ownsRow base e size v' (n+m) (xs++news)∧w.grownBy w' v.ownBlock∧tJ w w' v v' n m:=by
 obtain ⟨v',w',hr,h2,h3,_,_⟩:=qA (P:=P) (w:=w) base t ty e i z size bytes ht hi hz hsize hby hzs hsz v n xs hown A m c news hs h63 hbytes hbase
 refine ⟨v',w',hr,h2,h3,?_⟩
 rcases A with _ | ad
 ·have:=(hs.none_ rfl).1;omega
 have hsmall:n+m≤9223372036854775807:=by simp only [maxLen] at h63;omega
 have hl:news.length=m*i.size:=by rw [hs.len,hsize]
 have hxl:xs.length=n*i.size:=by rw [hsize];exact hown.1
 rcases a7 hown with ⟨rfl,rfl,rfl⟩ | ⟨g,cap,cur,rfl,hbg,hnc,hcm,hg,hcs,htake,_⟩
 ·have h:=run_append_nil (P:=P) w t ty e i z ht hi hz ad m c news hl (hs.cells ad rfl) hm (by omega) (by rw [hby];have hb:=hbytes;simp only [Nat.zero_add] at hb;omega)
  rw [hr] at h
  injection h with h4 h5
  subst h4 h5
  exact .inr ⟨rfl,((xao _ _).drew).alloc (xag _) _⟩
 ·by_cases hroom:n+m≤cap
  ·have hlt:n*i.size+news.length≤cur.size:=by
    rw [hl,hsize,hcs,← xbK]
    exact xbm _ hroom
   have h:=run_append_room (P:=P) w t ty e i ht hi g n cap cur hg ad m c news hl (hs.cells ad rfl) hs.one hroom hlt
   rw [hr] at h
   injection h with h4 h5
   subst h4
   exact .inl ⟨g,cap,rfl,rfl⟩
  ·have holds:∀ j u,xs[j]?=some u→w.cell? ((⟨g,0,none⟩:Addr).add j)=some u:=hown.cells (g:=g) rfl
   have h:=run_append_grow (P:=P) w t ty e i z ht hi hz ⟨g,0,none⟩ n cap xs hxl holds ad m c news hl (hs.cells ad rfl) (by omega) (by omega) (growslice_fits (by omega) (by rw [hby];exact hbytes))
   rw [hr] at h
   injection h with h4 h5
   subst h4 h5
   exact .inr ⟨rfl,((xao _ _).drew).alloc (xag _) _⟩
theorem eU (hgd:o.guard=none) (s x:Operand) (t:TypeId)
  (ho:o.op=.call { callee:=.builtin .append,args:=#[s,x],argTypes:=#[t,t] })
  (base:Nat) (e:TypeId) (i:TypeInfo) (z:Value) (size bytes:Nat) (ht:P.underlying t=some (.slice e)) (hi:P.info? e=some i) (hz:i.zero=some z)
  (hsize:i.size=size) (hby:i.bytes=bytes) (hzs:z.cells.size=size) (hsz:0<size) (v:Value) (n:Nat) (xs:List Value) (hown:w.ownsRow base e size v n xs)
  (A:Option Addr) (m c:Nat) (news:List Value) (hsrc:eZ w size A m c news) (hm:0<m) (h63:n+m≤maxLen) (hbytes:(n+m)*bytes≤140737488355328) (hbase:base≤w.heap.size)
  (hs:a.eval s=v) (hx:a.eval x=.slice A m c)
  (h:∀ v' w',w'.ownsRow base e size v' (n+m) (xs++news)→w.grownBy w' v.ownBlock→tJ w w' v v' n m→wpList P ops Q rest (a.put o.dst v') w') :
  wpList P ops Q (o :: rest) a w:=by
 refine wpList_plain hgd fun K hK=>?_
 obtain ⟨v',w',hr,h2,h3,h4⟩:=AG (P:=P) (w:=w) base t o.type e i z size bytes ht hi hz hsize hby hzs hsz v n xs hown A m c news hsrc hm h63 hbytes hbase
 unfold Oper.wp execOp
 simp only [ho,resolve,invoke,builtin,xaI,xaQ,xat,List.map_toArray,xa9,List.map_nil,hs,hx,hr]
 exact hK _ _ (h v' w' h2 h3 h4)
end
structure PS where
 u:Value
 n:Nat
 xs:List Value
 v:Value
 m:Nat
 ys:List Value
def PS.self (u:Value) (n:Nat) (xs:List Value):PS:=⟨u,n,xs,u,n,xs⟩
def aw (B:Nat) (t:TypeId) (s:Nat) (p:PS):Ent :=
 ⟨fun b=>p.u.ownBlock=some b∨p.v.ownBlock=some b,fun w=>w.ownsRow B t s p.u p.n p.xs∧w.ownsRow B t s p.v p.m p.ys∧∀ b,p.u.ownBlock=some b→p.v.ownBlock=some b→p.n≤p.m∧p.ys.take (p.n*s)=p.xs∧∃ cap,p.u=.slice (some ⟨b,0,none⟩) p.n cap∧p.v=.slice (some ⟨b,0,none⟩) p.m cap⟩
theorem jt (B:Nat) (t:TypeId) (s:Nat) (p:PS):(aw B t s p).Ok:=fun _ _ h hk =>
 ⟨ao h.1 fun g hg hl=>hk g (.inl hg) hl,ao h.2.1 fun g hg hl=>hk g (.inr hg) hl,h.2.2⟩
theorem ju {B:Nat} {t:TypeId} {s:Nat} {u:Value} {n:Nat} {xs:List Value} {w:World} (h:w.ownsRow B t s u n xs):(aw B t s (.self u n xs)).P w :=
 ⟨h,h,fun b h1 _=>by
  rcases a7 h with ⟨e,_⟩ | ⟨g,cap,cur,e,_⟩
  ·rw [show (PS.self u n xs).u=u from rfl,e] at h1;cases h1
  ·have e2:(PS.self u n xs).u=u:=rfl
   rw [e2,e] at h1
   injection h1 with h1
   subst h1
   exact ⟨xag _,xav (Nat.le_of_eq h.1),cap,e,e⟩⟩
theorem zr {w w':World} {B s n g:Nat} {t:TypeId} {u v:Value} {xs:List Value} (h:w.ownsRow B t s u n xs) (hg:w.grownBy w' v.ownBlock) (hn:∀ b,u.ownBlock=some b→v.ownBlock ≠ some b):w'.ownsRow B t s u n xs :=
 ao h fun g hu hl=>hg.block g hl fun e=>hn g hu e.symm
theorem vr {B:Nat} {t:TypeId} {s:Nat} {p:PS} {w w':World} (h:(aw B t s p).P w) {v':Value} {k:Nat} {news:List Value} (ho:w'.ownsRow B t s v' (p.m+k) (p.ys++news)) (hg:w.grownBy w' p.v.ownBlock) (hr:tJ w w' p.v v' p.m k) :
  (aw B t s ⟨p.u,p.n,p.xs,v',p.m+k,p.ys++news⟩).P w'∧∀ b,(aw B t s ⟨p.u,p.n,p.xs,v',p.m+k,p.ys++news⟩).F b→(aw B t s p).F b∨(w.heap.size≤b∧b<w'.heap.size):=by
 obtain ⟨h1,h2,h3⟩:=h
 rcases hr with ⟨g,cap,e1,e2⟩ | ⟨e1,hb⟩
 ·have hvb:p.v.ownBlock=some g:=by rw [e1];rfl
  have hvb':v'.ownBlock=some g:=by rw [e2];rfl
  refine ⟨⟨?_,ho,fun b hu hv=>?_⟩,fun b hf=>?_⟩
  ·by_cases hs:p.u.ownBlock=some g
   ·obtain ⟨hle,ht,cap',eu,ev⟩:=h3 g hs hvb
    rw [e1] at ev
    injection ev with _ _ ec
    subst ec
    have h4:=vn (e2▸ho) (k:=p.n) (by omega)
    have h5:(p.ys++news).take (p.n*s)=p.xs:=by
     rw [xbl (by rw [h2.1];exact xbm _ hle)]
     exact ht
    rw [h5] at h4
    rw [show (PS.mk p.u p.n p.xs v' (p.m+k) (p.ys++news)).u=p.u from rfl,eu]
    exact h4
   ·exact zr (g:=g) h1 hg fun b hu hv=>by
     rw [hvb] at hv
     injection hv with hv
     subst hv
     exact hs hu
  ·have hbg:b=g:=by
    have hv:v'.ownBlock=some b:=hv
    rw [hvb'] at hv
    injection hv with hv
    exact hv.symm
   subst hbg
   obtain ⟨hle,ht,cap',eu,ev⟩:=h3 b hu hvb
   rw [e1] at ev
   injection ev with _ _ ec
   subst ec
   refine ⟨by show p.n≤p.m+k;omega,?_,cap,eu,e2⟩
   show (p.ys++news).take (p.n*s)=p.xs
   rw [xbl (by rw [h2.1];exact xbm _ hle)]
   exact ht
  ·rcases hf with hf | hf
   ·exact .inl (.inl hf)
   ·have hf:v'.ownBlock=some b:=hf
    exact .inl (.inr (by rw [hvb];rw [hvb'] at hf;exact hf))
 ·refine ⟨⟨ao h1 fun g hu hl=>hb.block g hl,ho,fun b hu hv=>?_⟩,fun b hf=>?_⟩
  ·exfalso
   have h5:=(az h1 hu).2
   have hv:v'.ownBlock=some b:=hv
   rw [e1] at hv
   injection hv with hv
   omega
  ·rcases hf with hf | hf
   ·exact .inl (.inl hf)
   ·have hf:v'.ownBlock=some b:=hf
    have h6:=(az ho hf).2
    rw [e1] at hf
    injection hf with hf
    exact .inr ⟨by omega,h6⟩
section
variable {w0 w w':World} {L:List Ent}
theorem Mem.wH {α:Type} {g:α→Ent} {st:Nat→α} {m k:Nat} {y:α} (h:Mem w0 w (Ent.all (xaf m) (fun i=>g (st i)) :: L)) (hk:k<m) {row:Option Nat} (hg:w.grownBy w' row) (hrow:∀ b,row=some b→(g (st k)).F b) (hok:∀ z,(g z).Ok) (hp:(g y).P w') (hF:∀ b,(g y).F b→(g (st k)).F b∨(w.heap.size≤b∧b<w'.heap.size)) :
  Mem w0 w' (Ent.all (xaf m) (fun i=>g (if i=k then y else st i)) :: L):=by
 have hP:=h.get (e:=Ent.all (xaf m) (fun i=>g (st i))) 0 rfl
 have hkm:k∈xaf m:=xba.2 hk
 have hfar:∀ i,i<m→i ≠ k→Far (g (st i)).F (g (st k)).F:=fun i hi hne=>by
  have h1:=xa6.1 hP.2
  rcases Nat.lt_or_ge i k with hlt | hge
  ·have:=h1 i k (by simpa using hi) (by simpa using hk) hlt
   simpa using this
  ·have:=h1 k i (by simpa using hk) (by simpa using hi) (by omega)
   have h2:Far (g (st k)).F (g (st i)).F:=by simpa using this
   exact h2.symm
 have hlow:∀ i,i<m→∀ b,(g (st i)).F b→b<w.heap.size:=fun i hi b hb=>(h.lo (Ent.all (xaf m) (fun i=>g (st i))) (by simp) b ⟨i,xba.2 hi,hb⟩).2
 refine h.upd (e:=Ent.all (xaf m) (fun i=>g (st i))) (e':=Ent.all (xaf m) (fun i=>g (if i=k then y else st i))) 0 rfl hg (fun b hb=>⟨k,hkm,hrow b hb⟩) (Ent.oY fun i _=>hok _) ⟨fun i hi=>?_,?_⟩ fun b ⟨i,hi,hf⟩=>?_
 ·have hi:=xba.1 hi
  by_cases e:i=k
  ·simp only [if_pos e];exact hp
  ·simp only [if_neg e]
   exact hok _ w w' (hP.1 i (xba.2 hi)) fun b hf hl=>hg.block b hl fun e2=>hfar i hi e b hf (hrow b e2.symm)
 ·refine xa6.2 fun a c ha hc hac=>?_
  simp only [List.length_range] at ha hc
  simp only [List.getElem_range]
  have key:∀ i,i<m→i ≠ k→Far (g y).F (g (st i)).F:=fun i hi hne b h1 h2=>by
   rcases hF b h1 with h3 | h3
   ·exact hfar i hi hne b h2 h3
   ·have:=hlow i hi b h2;omega
  by_cases e1:a=k
  ·rw [if_pos e1,if_neg (by omega)]
   exact key c hc (by omega)
  ·rw [if_neg e1]
   by_cases e2:c=k
   ·rw [if_pos e2]
    exact (key a ha e1).symm
   ·rw [if_neg e2]
    have:=xa6.1 hP.2 a c (by simpa using ha) (by simpa using hc) hac
    simpa using this
 ·have hi:=xba.1 hi
  by_cases e:i=k
  ·simp only [if_pos e] at hf
   rcases hF b hf with h3 | h3
   ·exact .inl ⟨k,hkm,h3⟩
   ·exact .inr h3
  ·simp only [if_neg e] at hf
   exact .inl ⟨i,xba.2 hi,hf⟩
theorem Mem.nD {α:Type} {g:α→Ent} {st:Nat→α} {m k:Nat} (h:Mem w0 w L) (i:Nat) (hi:L[i]?=some (Ent.all (xaf m) (fun i=>g (st i)))) (hk:k<m):(g (st k)).P w :=
 (h.get i hi).1 k (xba.2 hk)
theorem Ent.all_congr {α:Type} {l:List α} {f f':α→Ent} (he:∀ x∈l,f x=f' x):Ent.all l f=Ent.all l f':=by
 unfold Ent.all
 congr 1
 ·funext b
  exact propext (exists_congr fun x=>and_congr_right fun hx=>by rw [he x hx])
 ·funext w
  refine propext (and_congr (forall_congr' fun x=>forall_congr' fun hx=>by rw [he x hx]) ⟨fun hp=>?_,fun hp=>?_⟩)
  ·exact hp.imp_of_mem fun {a b} ha hb hf=>by rw [← he a ha,← he b hb];exact hf
  ·exact hp.imp_of_mem fun {a b} ha hb hf=>by rw [he a ha,he b hb];exact hf
theorem Mem.cG {α:Type} {g:α→Ent} {st st':Nat→α} {m:Nat} (h:Mem w0 w (Ent.all (xaf m) (fun i=>g (st i)) :: L)) (he:∀ i,i<m→st i=st' i):Mem w0 w (Ent.all (xaf m) (fun i=>g (st' i)) :: L):=by
 rw [← Ent.all_congr (f:=fun i=>g (st i)) (f':=fun i=>g (st' i)) fun i hi=>by show g (st i)=g (st' i);rw [he i (xba.1 hi)]]
 exact h
def nO (L:List Ent):Ent:=⟨fun b=>∃ e∈L,e.F b,fun w=>∀ e∈L,e.P w⟩
theorem C0 (h:∀ e∈L,e.Ok):(nO L).Ok:=fun w w' hp hk e he=>h e he w w' (hp e he) fun b hf hl=>hk b ⟨e,he,hf⟩ hl
theorem Mem.pack (K:List Ent) (h:Mem w0 w (K++L)):Mem w0 w (K++[nO L])∧(∀ e∈L,e.Ok)∧L.Pairwise fun x y=>Far x.F y.F:=by
 have hp:=xbw.1 h.far
 have hok:∀ e∈L,e.Ok:=fun e he=>h.ok e (xbi _ he)
 refine ⟨⟨h.below,fun e he=>?_,fun e he=>?_,fun e he b hf=>?_,xbw.2 ⟨hp.1,by simp,fun x hx y hy b h1 h2=>?_⟩⟩,hok,hp.2.1⟩
 ·rcases xax.1 he with he | he
  ·exact h.ok e (xaY _ he)
  ·rw [xan.1 he];exact C0 hok
 ·rcases xax.1 he with he | he
  ·exact h.holds e (xaY _ he)
  ·rw [xan.1 he];exact fun x hx=>h.holds x (xbi _ hx)
 ·rcases xax.1 he with he | he
  ·exact h.lo e (xaY _ he) b hf
  ·rw [xan.1 he] at hf
   obtain ⟨x,hx,hf⟩:=hf
   exact h.lo x (xbi _ hx) b hf
 ·rw [xan.1 hy] at h2
  obtain ⟨e,he,h2⟩:=h2
  exact hp.2.2 x hx e he b h1 h2
theorem Mem.unpack (K:List Ent) (h:Mem w0 w (K++[nO L])) (hok:∀ e∈L,e.Ok) (hfar:L.Pairwise fun x y=>Far x.F y.F):Mem w0 w (K++L):=by
 have hp:=xbw.1 h.far
 have hr:=h.holds (nO L) (by simp)
 refine ⟨h.below,fun e he=>?_,fun e he=>?_,fun e he b hf=>?_,xbw.2 ⟨hp.1,hfar,fun x hx y hy b h1 h2=>hp.2.2 x hx (nO L) (by simp) b h1 ⟨y,hy,h2⟩⟩⟩
 ·rcases xax.1 he with he | he
  ·exact h.ok e (xaY _ he)
  ·exact hok e he
 ·rcases xax.1 he with he | he
  ·exact h.holds e (xaY _ he)
  ·exact hr e he
 ·rcases xax.1 he with he | he
  ·exact h.lo e (xaY _ he) b hf
  ·exact h.lo (nO L) (by simp) b ⟨e,he,hf⟩
end
end Go.Proofs.YtomnhnmciopiiaaGreat
end
section
namespace Go.Proofs.YtomnhnmciopiiaaGreat
open Go Go.RowKit Go.Maps
attribute [local irreducible] wpList
def mtG (k i:Nat):List UInt8:=[35,xaJ k,xaJ (k / 256),xaJ (k / 65536),47,xaJ i,xaJ (i / 256),xaJ (i / 65536)]
theorem uY (k i:Nat):(⟨(mtG k i).toArray⟩:ByteArray).size≤maxLen:=of_decide_eq_true (by kernel_rfl)
theorem oA {P:Program} {ρ:Operand→Value} {o:Oper} (t r:TypeId) (x y:Operand) (ho:o.op=.binOp .shr t x y r) (a q d:Nat) (hx:ρ x=.int .i64 (a:Int)) (hy:ρ y=.int .u64 (q:Int)) (hq:q<64) (hd:d=2 ^ q) (W:World):(execOp ρ o).run P W=.ok (.value (.int .i64 ((a / d:Nat):Int))) W:=by
 subst hd
 unfold execOp
 simp [ho,hx,hy,go_sem,eqGuard,binOp]
theorem jc {ρ:Operand→Value} {o:Oper} (x:Operand) (ho:o.op=.convert 3 5 x) (a:Nat) (hx:ρ x=.int .i64 (a:Int)) (W:World):(execOp ρ o).run Tryz.prog W=.ok (.value (.int .u8 ((xaJ a).toNat:Int))) W:=by
 unfold execOp
 simp [ho,hx,go_sem,convert,xbA,IntKind.signed,IntKind.bits]
theorem kW (k i:Nat) (w:World):Calls Tryz.prog 125 #[.int .i64 (k:Int),.int .i64 (i:Int)] w fun e w'=>e=.returned (.string ⟨(mtG k i).toArray⟩)∧Below w.heap.size w w':=by
 have H0:=Mem.start w
 go_enter Tryz.func125,Tryz.ntmps125
 refine sk fun _ K1=>rl ?_
 refine nt (K1 _ _ (sk fun _ K2=>rl ?_))
 refine rv (jc (.tmp 5) rfl k rfl w) ?_
 refine rv (oA 3 139 (.tmp 7) (.const (.int .u64 8)) rfl k 8 256 rfl rfl (by decide) rfl w) ?_
 refine rv (jc (.tmp 8) rfl (k / 256) rfl w) ?_
 refine rv (oA 3 139 (.tmp 10) (.const (.int .u64 16)) rfl k 16 65536 rfl rfl (by decide) rfl w) ?_
 refine rv (jc (.tmp 11) rfl (k / 65536) rfl w) ?_
 refine rv (jc (.tmp 13) rfl i rfl w) ?_
 refine rv (oA 3 139 (.tmp 15) (.const (.int .u64 8)) rfl i 8 256 rfl rfl (by decide) rfl w) ?_
 refine rv (jc (.tmp 16) rfl (i / 256) rfl w) ?_
 refine rv (oA 3 139 (.tmp 18) (.const (.int .u64 16)) rfl i 16 65536 rfl rfl (by decide) rfl w) ?_
 refine rv (jc (.tmp 19) rfl (i / 65536) rfl w) ?_
 obtain ⟨w8,hw8⟩:∃ w8,w8=w.alloc (.cells (bv (mtG k i)).toArray 5):=⟨_,rfl⟩
 have hn8:fy w w8 5 (bv (mtG k i)).toArray:=hw8▸bS _ _ _
 have H8:=Mem.aM H0 hn8
 refine rvw (v:=.slice (some ⟨w.heap.size,0,none⟩) 8 8) (w':=w8) (by rw [hw8];kernel_rfl) ?_
 refine rn ?_
 refine rv (uw 24 9 (.tmp 21) rfl w.heap.size rfl (mtG k i) rfl Tryz.underlying24 Tryz.underlying9 w8 (Mem.blk H8 0 rfl)) ?_
 refine nt (K2 _ _ (rt ?_))
 exact ⟨rfl,Mem.below H8⟩
def aN (k i:Nat):Nam:=(⟨(mtG k i).toArray⟩,(aW,⟨#[]⟩),aW,false)
theorem bL (k i:Nat):okN (aN k i):=⟨uY k i,iE,aX⟩
theorem gd (k i:Nat) (w:World):Calls Tryz.prog 82 #[.int .i64 (k:Int),.int .i64 (i:Int)] w fun e w'=>e=.returned (.agg (nC (aN k i)).toArray)∧Below w.heap.size w w':=by
 have H0:=Mem.start w
 go_enter Tryz.func82,Tryz.ntmps82
 refine sk fun _ K1=>rl ?_
 refine nz 87 zcN fun w2 hn_=>?_
 have H3:=Mem.aM H0 hn_
 refine rn ?_
 refine nt (K1 _ _ (sk fun _ K4=>rl ?_))
 refine ac (kW k i w2) ?_
 rintro e w5 ⟨rfl,hb7⟩
 refine ⟨_,rfl,rn ?_⟩
 have H6:=Mem.call H3 hb7
 refine rv (v:=.agg (nC (aN k i)).toArray) (by kernel_rfl) ?_
 refine stb (Mem.blk H6 0 rfl) (kX (bL k i)) (bP tI (kX (bL k i))) (zS (aN k i)) fun w8 hk_ hg_=>?_
 have H9:=Mem.st H6 0 rfl hk_ hg_
 refine rn ?_
 refine nt (K4 _ _ ?_)
 refine wp_ret ?_
 refine bodyPost_ret (gK (r1:=.cell 4 87) rfl ⟨⟨_,rfl,dP (Blk.range (Mem.blk H9 0 rfl)) Tryz.underlying87 rfl (eL (bL k i))⟩,trivial⟩) rfl ?_
 exact ⟨rfl,Mem.below H9⟩
def aT (k i:Nat):Drv:=(⟨(mtG k i).toArray⟩,[],[])
theorem uU (w:World) (B:Nat) (k i:Nat):au w B (aT k i) (.slice none 0 0) (.slice none 0 0) :=
 ⟨uY k i,⟨none,0,rfl,xag _,Nat.zero_le _,(fun _=>rfl),fun h=>absurd h (Nat.lt_irrefl 0)⟩,⟨none,0,rfl,xag _,Nat.zero_le _,(fun _=>rfl),fun h=>absurd h (Nat.lt_irrefl 0)⟩⟩
theorem gb (k i:Nat) (w:World):Calls Tryz.prog 151 #[.int .i64 (k:Int),.int .i64 (i:Int)] w fun e w'=>e=.returned (.agg (dC (aT k i) (.slice none 0 0) (.slice none 0 0)).toArray)∧Below w.heap.size w w':=by
 have H0:=Mem.start w
 go_enter Tryz.func151,Tryz.ntmps151
 refine sk fun _ K1=>rl ?_
 refine nz 26 zcD fun w2 hn_=>?_
 have H3:=Mem.aM H0 hn_
 refine rn ?_
 refine nt (K1 _ _ (sk fun _ K4=>rl ?_))
 refine ac (kW k i w2) ?_
 rintro e w5 ⟨rfl,hb7⟩
 refine ⟨_,rfl,rn ?_⟩
 have H6:=Mem.call H3 hb7
 refine rv (v:=.agg (dC (aT k i) (.slice none 0 0) (.slice none 0 0)).toArray) (by kernel_rfl) ?_
 refine stb (Mem.blk H6 0 rfl) (dS (aT k i) (.slice none 0 0) (.slice none 0 0)) (bP gq (dS (aT k i) (.slice none 0 0) (.slice none 0 0))) (lp (aT k i) rfl rfl) fun w8 hk_ hg_=>?_
 have H9:=Mem.st H6 0 rfl hk_ hg_
 refine rn ?_
 refine nt (K4 _ _ ?_)
 refine wp_ret ?_
 refine bodyPost_ret (gK (r1:=.cell 4 26) rfl ⟨⟨_,rfl,dP (Blk.range (Mem.blk H9 0 rfl)) Tryz.underlying26 rfl (aS (aT k i) (.slice none 0 0) (.slice none 0 0))⟩,trivial⟩) rfl ?_
 exact ⟨rfl,Mem.below H9⟩
end Go.Proofs.YtomnhnmciopiiaaGreat
end
section
namespace Go.Proofs.YtomnhnmciopiiaaGreat
open Go Go.RowKit Go.Maps
attribute [local irreducible] wpList
def mkN (k i:Nat):Nat:=1000003*(k+7)+i
def mgB (k i:Nat):UInt8:=xaJ (mkN k i*11400714819323198485 % 18446744073709551616 / 72057594037927936)
def bC (b:UInt8):List Value:=[.int .u8 (b.toNat:Int)]
theorem BM {ρ:Operand→Value} {o:Oper} (x:Operand) (ho:o.op=.convert 3 188 x) (a:Nat) (hx:ρ x=.int .i64 (a:Int)) (ha:a<9223372036854775808) (W:World):(execOp ρ o).run Tryz.prog W=.ok (.value (.int .u64 (a:Int))) W:=by
 unfold execOp
 simp [ho,hx,go_sem,convert,xbA,IntKind.signed,IntKind.bits]
 omega
theorem DZ {P:Program} {ρ:Operand→Value} {o:Oper} (t r:TypeId) (x y:Operand) (ho:o.op=.binOp .mul t x y r) (a b:Nat) (hx:ρ x=.int .u64 (a:Int)) (hy:ρ y=.int .u64 (b:Int)) (W:World):(execOp ρ o).run P W=.ok (.value (.int .u64 ((a*b % 18446744073709551616:Nat):Int))) W:=by
 unfold execOp
 simp [ho,hx,hy,go_sem,eqGuard,binOp,xbA,IntKind.signed,IntKind.bits]
theorem D0 {P:Program} {ρ:Operand→Value} {o:Oper} (t r:TypeId) (x y:Operand) (ho:o.op=.binOp .shr t x y r) (a q d:Nat) (hx:ρ x=.int .u64 (a:Int)) (hy:ρ y=.int .u64 (q:Int)) (hq:q<64) (hd:d=2 ^ q) (W:World):(execOp ρ o).run P W=.ok (.value (.int .u64 ((a / d:Nat):Int))) W:=by
 subst hd
 unfold execOp
 simp [ho,hx,hy,go_sem,eqGuard,binOp]
theorem BL {ρ:Operand→Value} {o:Oper} (x:Operand) (ho:o.op=.convert 188 5 x) (a:Nat) (hx:ρ x=.int .u64 (a:Int)) (W:World):(execOp ρ o).run Tryz.prog W=.ok (.value (.int .u8 ((xaJ a).toNat:Int))) W:=by
 unfold execOp
 simp [ho,hx,go_sem,convert,xbA,IntKind.signed,IntKind.bits]
theorem zN (k i:Nat) (hk:k≤2000000) (hi:i≤2000000) (w:World):Calls Tryz.prog 126 #[.int .i64 (k:Int),.int .i64 (i:Int)] w fun e w'=>e=.returned (.int .i64 ((mkN k i:Nat):Int))∧Below w.heap.size w w':=by
 have H0:=Mem.start w
 go_enter Tryz.func126,Tryz.ntmps126
 refine sk fun _ K1=>rl ?_
 refine nt (K1 _ _ (sk fun _ K2=>rl ?_))
 refine rv (bp (((k+7:Nat):Int))) ?_
 refine rv (FK 3 3 (.const (.int .i64 1000003)) (.tmp 6) rfl .i64 (1000003) (((k+7:Nat):Int)) (1000003*((k+7:Nat):Int)) rfl rfl (by first | (rw [xbe _ (by omega)];done) | (rw [xbe _ (by omega)];omega) | (rw [xbe _ (by omega)];push_cast;omega)) w) ?_
 refine rv (bp (1000003*((k+7:Nat):Int)+(i:Int))) ?_
 refine nt (K2 _ _ (rt ?_))
 exact ⟨by rw [show ((mkN k i:Nat):Int)=1000003*((k+7:Nat):Int)+(i:Int) by unfold mkN;omega];rfl,Mem.below H0⟩
theorem iO (k i:Nat) (hk:k≤2000000) (hi:i≤2000000) (w:World):Calls Tryz.prog 83 #[.int .i64 (k:Int),.int .i64 (i:Int)] w fun e w'=>e=.returned (.int .u8 ((mgB k i).toNat:Int))∧Below w.heap.size w w':=by
 have H0:=Mem.start w
 go_enter Tryz.func83,Tryz.ntmps83
 refine sk fun _ K1=>rl ?_
 refine nt (K1 _ _ (sk fun _ K2=>rl ?_))
 refine ac (zN k i hk hi w) ?_
 rintro e w3 ⟨rfl,hb5⟩
 refine ⟨_,rfl,rn ?_⟩
 have H4:=Mem.call H0 hb5
 refine rv (BM (.tmp 7) rfl (mkN k i) rfl (by unfold mkN;omega) w3) ?_
 refine rv (DZ 188 188 (.tmp 8) (.const (.int .u64 11400714819323198485)) rfl (mkN k i) 11400714819323198485 rfl rfl w3) ?_
 refine rv (D0 188 139 (.tmp 9) (.const (.int .u64 56)) rfl (mkN k i*11400714819323198485 % 18446744073709551616) 56 72057594037927936 rfl rfl (by decide) (by decide) w3) ?_
 refine rv (BL (.tmp 10) rfl (mkN k i*11400714819323198485 % 18446744073709551616 / 72057594037927936) rfl w3) ?_
 refine nt (K2 _ _ (rt ?_))
 exact ⟨rfl,Mem.below H4⟩
end Go.Proofs.YtomnhnmciopiiaaGreat
end
section
namespace Go.Proofs.YtomnhnmciopiiaaGreat
open Go Go.RowKit Go.Maps
attribute [local irreducible] wpList
def dU (j:Nat):Nam:=(⟨(mtB j).toArray⟩,(aW,⟨#[]⟩),aW,false)
theorem fG (j:Nat):okN (dU j):=⟨Es j,iE,aX⟩
theorem m8 (j:Nat) (hj:j<12) (w:World):Calls Tryz.prog 82 #[.int .i64 1,.int .i64 (j:Int)] w fun e w'=>e=.returned (.agg (nC (dU j)).toArray)∧Below w.heap.size w w':=by
 have H0:=Mem.start w
 go_enter Tryz.func82,Tryz.ntmps82
 refine sk fun _ K1=>rl ?_
 refine nz 87 zcN fun w2 hn_=>?_
 have H3:=Mem.aM H0 hn_
 refine rn ?_
 refine nt (K1 _ _ (sk fun _ K4=>rl ?_))
 refine ac (ti j hj w2) ?_
 rintro e w5 ⟨rfl,hb7⟩
 refine ⟨_,rfl,rn ?_⟩
 have H6:=Mem.call H3 hb7
 refine rv (v:=.agg (nC (dU j)).toArray) (by kernel_rfl) ?_
 refine stb (Mem.blk H6 0 rfl) (kX (fG j)) (bP tI (kX (fG j))) (zS (dU j)) fun w8 hk_ hg_=>?_
 have H9:=Mem.st H6 0 rfl hk_ hg_
 refine rn ?_
 refine nt (K4 _ _ ?_)
 refine wp_ret ?_
 refine bodyPost_ret (gK (r1:=.cell 4 87) rfl ⟨⟨_,rfl,dP (Blk.range (Mem.blk H9 0 rfl)) Tryz.underlying87 rfl (eL (fG j))⟩,trivial⟩) rfl ?_
 exact ⟨rfl,Mem.below H9⟩
def gF (B:Nat) (A:Option Addr) (cap:Nat) (l:List Nam):Ent:=ax B 87 43 (.slice A (l++(xaf 12).map dU).length cap) (l++(xaf 12).map dU).length ((l++(xaf 12).map dU).flatMap nC)
theorem pS (w:World) (l:List Nam) (v:Value) (h:dW.At w w.heap.size [v] l) (hl:l.length≤1000000) :
  Calls Tryz.prog 52 #[v] w fun e w'=>∃ A cap,e=.returned (.slice A l.length cap)∧Mem w w' [gF w.heap.size A cap l]:=by
 obtain ⟨A0,cap,rfl,_,hcm,_,hA⟩:=aj h
 simp only [maxLen] at hcm
 unfold gF
 have H0:=Mem.start w
 go_enter Tryz.func52,Tryz.ntmps52
 refine sk fun _ K1=>rl ?_
 refine nt (K1 _ _ (sk fun _ K2=>rl ?_))
 refine rv (bp (((l.length+12:Nat):Int))) ?_
 obtain ⟨inm87,iq87,ir87,is87,it87⟩:=info_parts fV
 refine wpList_make_own _ rfl _ _ 23 rfl w.heap.size 87 _ _ 43 Tryz.underlying23 iq87 ir87 is87 _ _ _ (l.length+12) rfl rfl rfl (by rw [it87];omega) (by simp only [maxLen];omega) (Mem.below H0).size ?_
 intro w3 ow gr
 refine rn ?_
 have H4:=Mem.make H0 ow gr
 clear ow gr
 refine rn ?_
 refine nt (K2 _ _ (sk fun _ K6=>rl ?_))
 refine aE rfl _ _ 23 rfl (w.heap.size) 87 _ _ 43 80 Tryz.underlying23 iq87 ir87 is87 it87 rfl (by decide) (.slice (some ⟨w.heap.size,0,none⟩) 0 (l.length+12)) (0) ([]) (Mem.own H4 0 rfl) (A0) (l.length) (cap) ((l).flatMap nC) (ij (L:=gO) (f:=nC) (by decide) (fun h=>(bZ.1 h).1) fj (Mem.lay H4 h)).2 ?hmt7 ?hbt7 ?hzt7 rfl rfl ?_
 case hmt7=>simp only [maxLen];omega
 case hbt7=>omega
 case hzt7=>exact (Mem.below H4).size
 intro u10 w8 ow13 gr14 hp15
 refine rn ?_
 have ow13:w8.ownsRow (w.heap.size) 87 43 u10 (l).length ((l).flatMap nC):=by first | simpa using ow13 | (simp at ow13 ⊢;exact ow13)
 obtain ⟨A11,c12,rfl⟩:=aI ow13
 have H9:=Mem.app H4 0 rfl ow13 gr14 hp15
 clear ow13 gr14 hp15
 refine rn ?_
 refine nt (K6 _ _ (sk fun _ K16=>sk fun _ K17=>rl ?_))
 refine nt (K17 _ _ (wp_block ?_))
 go_loopw [3,4] (fun x3 x4 wr=>∃ j:Nat,∃ kn:List Nam,∃ A9:Option Addr,∃ c9:Nat,x3=.slice A9 kn.length c9∧x4=.int .i64 (j:Int)∧(j≤12)∧(kn=l++(xaf j).map dU)∧Mem w wr [ax (w.heap.size) 87 43 (.slice A9 kn.length c9) (kn).length ((kn).flatMap nC)]) (fun x3 x4 _=>12-(intOf x4).toNat)
 case atStart=>exact ⟨0,((l)),A11,c12,rfl,rfl,by omega,(by simp),H9⟩
 case round =>
  obtain ⟨wo18,rfl⟩:∃ wo18,wo18=wr:=⟨_,rfl⟩
  obtain ⟨j,kn,A9,c9,rfl,rfl,hj,hkn,H19⟩:=hrel
  have hln:kn.length=l.length+j:=by rw [hkn];simp
  refine sk fun _ K21=>sk fun _ K22=>rl ?_
  by_cases p23:(j:Int)<12
  ·refine rv (aK (decide_eq_true p23)) ?_
   refine nt (K22 _ _ (ct (ks (K21 _ _ (sk fun _ K24=>wp_block (rl ?_))))))
   refine ac (m8 j (by omega) wo18) ?_
   rintro e w25 ⟨rfl,hb27⟩
   refine ⟨_,rfl,rn ?_⟩
   have H26:=Mem.call H19 hb27
   refine aO rfl 23 (.tmp 18) rfl 87 43 (.agg zcN) (.agg (nC (dU j)).toArray) rfl Tryz.underlying23 bz (by decide) (by decide) (fun w=>by kernel_rfl) (by rw [xaU,xal];exact cV (fG _)) ?_
   intro w28 hn
   have H29:=Mem.aM H26 hn
   clear hn
   refine rn ?_
   refine aE rfl _ _ 23 rfl (w.heap.size) 87 _ _ 43 80 Tryz.underlying23 iq87 ir87 is87 it87 rfl (by decide) (.slice A9 kn.length c9) ((kn).length) ((kn).flatMap nC) (Mem.own H29 1 rfl) ((some ⟨w25.heap.size,0,none⟩)) (1) (1) (nC (dU j)) (bU (n:=43) (m:=1) (Mem.blk H29 0 rfl) (cV (fG _)) (fj (dU j))) ?hmt30 ?hbt30 ?hzt30 rfl rfl ?_
   case hmt30=>simp only [maxLen];omega
   case hbt30=>omega
   case hzt30=>exact (Mem.below H29).size
   intro u33 w31 ow36 gr37 hp38
   refine rn ?_
   have ow36:w31.ownsRow (w.heap.size) 87 43 u33 (kn++[(dU j)]).length ((kn++[(dU j)]).flatMap nC):=by first | simpa using ow36 | (simp at ow36 ⊢;exact ow36)
   obtain ⟨A34,c35,rfl⟩:=aI ow36
   have H32:=Mem.app H29 1 rfl ow36 gr37 hp38
   clear ow36 gr37 hp38
   refine rn ?_
   refine wpList_nil ?_
   refine ar (ah (K24 _ _ (rl ?_)))
   refine rv (bp (((j+1:Nat):Int))) ?_
   refine wpList_nil ?_
   have H39:=Mem.pick H32 [1] (by decide) rfl
   refine ah ?_
   show _∧_
   go_roundw
   case rel=>exact ⟨(j+1),((kn++[(dU j)])),A34,c35,rfl,rfl,by omega,(by rw [hkn,xaR,pY]),H39⟩
   case measure=>simp [intOf];omega
  ·refine rv (aK (decide_eq_false p23)) ?_
   refine nt (K22 _ _ (cf (wp_exit (an (an (aB (ah (K16 _ _ (sk fun _ K40=>rl ?_)))))))))
   obtain ⟨b41,rfl,hlt44⟩:=aR (Mem.own H19 0 rfl) (by omega)
   refine rv (jD 23 87 (.tmp 21) (.tmp 23) rfl (some ⟨b41,0,none⟩) (kn.length) c9 (l.length) rfl rfl (by have h9:=oK (Mem.own H19 0 rfl);(try simp only [xak,xap,List.length_range] at h9);omega) Tryz.underlying23 bz wo18) ?_
   refine nt (K40 _ _ (rt ?_))
   have hje:j=12:=by omega
   subst hje hkn
   exact ⟨_,_,rfl,H19⟩
theorem pQ (w:World) (l:List Nam) (v:Value) (h:dW.At w w.heap.size [v] l) (hall:∀ x∈l++(xaf 12).map dU,okN x) (hl:l.length≤1000000) (B:Nat) (A9:Option Addr) (c9:Nat) (ho:(gF B A9 c9 l).P w) :
  Calls Tryz.prog 68 #[.slice A9 l.length c9,v] w fun e w'=>e=.returned (.bool true)∧Below w.heap.size w w':=by
 have ho:w.ownsRow B 87 43 (.slice A9 (l++(xaf 12).map dU).length c9) (l++(xaf 12).map dU).length ((l++(xaf 12).map dU).flatMap nC):=ho
 have hln:(l++(xaf 12).map dU).length=l.length+12:=by simp
 obtain ⟨g,rfl,hg9⟩:=aR ho (by omega)
 have hc9:=(oK ho).1
 rw [hln] at hc9
 have ho9:=ho
 rw [hln] at ho9
 rw [← hln] at ho9
 have hlen9:∀ x∈l++(xaf 12).map dU,(nC x).length=43:=fun x hx=>cV (hall x hx)
 obtain ⟨A0,cap,rfl,_,hcm,_,hA⟩:=aj h
 simp only [maxLen] at hcm
 have H0:=Mem.start w
 go_enter Tryz.func68,Tryz.ntmps68
 refine sk fun _ K1=>rl ?_
 refine nt (K1 _ _ (sk fun _ K2=>sk fun _ K3=>rl ?_))
 refine rv (mK (decide_eq_true rfl)) ?_
 refine nt (K3 _ _ (cf (ks (K2 _ _ (sk fun _ K4=>rl ?_)))))
 refine rv (bp (((l.length+12:Nat):Int))) ?_
 refine rv (jD 23 87 (.tmp 12) (.tmp 15) rfl (some ⟨g,0,none⟩) (l.length) c9 (l.length+12) rfl rfl hc9 Tryz.underlying23 bz w) ?_
 refine nt (K4 _ _ (sk fun _ K5=>sk fun _ K6=>rl ?_))
 refine nt (K6 _ _ (wp_block ?_))
 go_loopw [6] (fun x6 wr=>∃ j:Nat,x6=.int .i64 (j:Int)∧(j≤l.length+12)∧Mem w wr []) (fun x6 _=>l.length+12-(intOf x6).toNat)
 case atStart=>exact ⟨0,rfl,by omega,H0⟩
 case round =>
  obtain ⟨wo7,rfl⟩:∃ wo7,wo7=wr:=⟨_,rfl⟩
  obtain ⟨j,rfl,hj,H8⟩:=hrel
  refine sk fun _ K10=>sk fun _ K11=>rl ?_
  by_cases p12:(j:Int)<((l.length+12:Nat):Int)
  ·refine rv (aK (decide_eq_true p12)) ?_
   refine nt (K11 _ _ (ct (ks (K10 _ _ (sk fun _ K13=>wp_block (sk fun _ K14=>?_))))))
   refine Fre.cC (X:=Bel) [] (by kernel_rfl) (by kernel_rfl) (by simp) (by simp) (by simp) ?_
   refine Fre.rmd ?_
   by_cases p15:(j:Int)<((l.length:Nat):Int)
   ·refine Fre.mvv (fun _ _=>aK (decide_eq_true p15)) ?_
    obtain ⟨x16,hx17⟩:=gx (l:=(l++(xaf 12).map dU)) (j:=j)
    have hd18:=aD hx17
    have ok19:=hall _ (xaj hx17)
    refine Fre.mvv (fun _ _=>bT (j) Tryz.underlying23 bz) ?_
    refine Fre.mvv (fun W9 hW9=>xld (Mem.range (Mem.call H8 hW9) (dQ (f:=nC) (by decide) ho9 hlen9 hx17) hg9) Tryz.underlying87 (eL ok19)) ?_
    obtain ⟨b20,o21,rfl,hlt23,hE22⟩:=hA (by omega)
    obtain ⟨x24,hx25⟩:=gx (l:=l) (j:=j)
    have hd26:=aD hx25
    obtain ⟨cs,hr27,ha28⟩:=hE22 (j) x24 hx25
    obtain ⟨rfl,ok29⟩:=bZ.1 ha28
    have hxy9:=uB hx17 hx25
    refine Fre.mvv (fun _ _=>fw (j) Tryz.underlying23 bz) ?_
    refine Fre.mvv (fun W9 hW9=>xld (Mem.range (Mem.call H8 hW9) hr27 hlt23) Tryz.underlying87 (eL ok29)) ?_
    refine Fre.mvv (fun W9 _=>dG 87 87 (.tmp 31) (.tmp 35) rfl (nC x16).toArray (nC x24).toArray rfl rfl (by kernel_rfl) _ W9 (by have h9:=j4 (x16) (x24) ok19 ok29 W9;rwa [show decide _=true from (decide_eq_true hxy9)] at h9)) ?_
    by_cases p30:((l.length:Nat):Int)≤(j:Int)
    ·refine Fre.mvv (fun _ _=>vS (decide_eq_true p30)) ?_
     refine Fre.mvv (fun _ _=>bT (j) Tryz.underlying23 bz) ?_
     refine Fre.mvv (fun W9 hW9=>xld (Mem.range (Mem.call H8 hW9) (dQ (f:=nC) (by decide) ho9 hlen9 hx17) hg9) Tryz.underlying87 (eL ok19)) ?_
     refine Fre.mvv (fun _ _=>Du (((j-l.length:Nat):Int))) ?_
     have hmk9:=mo hx17 (by omega)
     refine Fre.mc (fun W9 hW9=>m8 (j-l.length) (by omega) W9) ?_
     refine Fre.rmd ?_
     refine Fre.mvv (fun W9 _=>dG 87 87 (.tmp 48) (.tmp 53) rfl (nC x16).toArray (nC (dU (j-l.length))).toArray rfl rfl (by kernel_rfl) _ W9 (by have h9:=j4 (x16) ((dU (j-l.length))) ok19 (fG _) W9;rwa [show decide _=true from (decide_eq_true hmk9)] at h9)) ?_
     intro w31 hx33
     dsimp only [Fre.ended,xaE]
     have H32:=Mem.call H8 hx33
     refine ah (K14 _ _ (cf ?_))
     refine wp_skip ?_
     refine ar (ah (K13 _ _ (rl ?_)))
     refine rv (bp (((j+1:Nat):Int))) ?_
     refine wpList_nil ?_
     refine ah ?_
     show _∧_
     go_roundw
     case rel=>exact ⟨(j+1),rfl,by omega,H32⟩
     case measure=>simp [intOf];omega
    ·refine Fre.mvv (fun _ _=>vS (decide_eq_false p30)) ?_
     intro w34 hx36
     dsimp only [Fre.ended,xaE]
     have H35:=Mem.call H8 hx36
     refine ah (K14 _ _ (cf ?_))
     refine wp_skip ?_
     refine ar (ah (K13 _ _ (rl ?_)))
     refine rv (bp (((j+1:Nat):Int))) ?_
     refine wpList_nil ?_
     refine ah ?_
     show _∧_
     go_roundw
     case rel=>exact ⟨(j+1),rfl,by omega,H35⟩
     case measure=>simp [intOf];omega
   ·have he37:=bE (l:=l) (j:=j) (by omega)
    refine Fre.mvv (fun _ _=>aK (decide_eq_false p15)) ?_
    by_cases p38:((l.length:Nat):Int)≤(j:Int)
    ·refine Fre.mvv (fun _ _=>vS (decide_eq_true p38)) ?_
     obtain ⟨x39,hx40⟩:=gx (l:=(l++(xaf 12).map dU)) (j:=j)
     have hd41:=aD hx40
     have ok42:=hall _ (xaj hx40)
     refine Fre.mvv (fun _ _=>bT (j) Tryz.underlying23 bz) ?_
     refine Fre.mvv (fun W9 hW9=>xld (Mem.range (Mem.call H8 hW9) (dQ (f:=nC) (by decide) ho9 hlen9 hx40) hg9) Tryz.underlying87 (eL ok42)) ?_
     refine Fre.mvv (fun _ _=>Du (((j-l.length:Nat):Int))) ?_
     have hmk9:=mo hx40 (by omega)
     refine Fre.mc (fun W9 hW9=>m8 (j-l.length) (by omega) W9) ?_
     refine Fre.rmd ?_
     refine Fre.mvv (fun W9 _=>dG 87 87 (.tmp 48) (.tmp 53) rfl (nC x39).toArray (nC (dU (j-l.length))).toArray rfl rfl (by kernel_rfl) _ W9 (by have h9:=j4 (x39) ((dU (j-l.length))) ok42 (fG _) W9;rwa [show decide _=true from (decide_eq_true hmk9)] at h9)) ?_
     intro w43 hx45
     dsimp only [Fre.ended,xaE]
     have H44:=Mem.call H8 hx45
     refine ah (K14 _ _ (cf ?_))
     refine wp_skip ?_
     refine ar (ah (K13 _ _ (rl ?_)))
     refine rv (bp (((j+1:Nat):Int))) ?_
     refine wpList_nil ?_
     refine ah ?_
     show _∧_
     go_roundw
     case rel=>exact ⟨(j+1),rfl,by omega,H44⟩
     case measure=>simp [intOf];omega
    ·refine Fre.mvv (fun _ _=>vS (decide_eq_false p38)) ?_
     intro w46 hx48
     dsimp only [Fre.ended,xaE]
     have H47:=Mem.call H8 hx48
     refine ah (K14 _ _ (cf ?_))
     refine wp_skip ?_
     refine ar (ah (K13 _ _ (rl ?_)))
     refine rv (bp (((j+1:Nat):Int))) ?_
     refine wpList_nil ?_
     refine ah ?_
     show _∧_
     go_roundw
     case rel=>exact ⟨(j+1),rfl,by omega,H47⟩
     case measure=>simp [intOf];omega
  ·refine rv (aK (decide_eq_false p12)) ?_
   refine nt (K11 _ _ (cf (wp_exit (an (an (aB (ah (K5 _ _ (sk fun _ K49=>rl ?_)))))))))
   refine nt (K49 _ _ (rt ?_))
   exact ⟨rfl,Mem.below H8⟩
end Go.Proofs.YtomnhnmciopiiaaGreat
end
