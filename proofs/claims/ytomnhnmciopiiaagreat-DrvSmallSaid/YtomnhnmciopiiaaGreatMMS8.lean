/- Part 8 of the texts of one proof. -/
import Derived.Test.YtomnhnmciopiiaaGreatMMS7
set_option maxRecDepth 100000
set_option linter.unusedVariables false
set_option linter.unusedSimpArgs false
set_option maxHeartbeats 40000000
open Go.Act renaming put → xad
open And renaming intro → xae
open Array renaming toList_append → xbN
open Go.RowKit.Below renaming refl → xaq
open Bool renaming and_eq_true → xaG, and_false → xbp, and_true → xbc, false_and → xaZ, false_eq_true → xa9, true_and → xbe
open ByteArray renaming append_assoc → xbJ, data_append → xbm, size_append → xaC
open Go.IntWalk renaming i64_in → xaS
open Go.IntKind renaming wrap → xbf
open Go.Lib renaming join → xby
open List renaming contains_eq_mem → xbM, drop → xas, getElem?_eq_getElem → xaj, getElem?_eq_some_iff → xah, getElem?_map → xaD, length_append → xap, length_map → xat, length_singleton → xa0, mem_append → xau, mem_append_left → xa1, mem_of_getElem? → xak, mem_range → xbb, mem_singleton → xan, pairwise_append → xa7, pairwise_iff_getElem → xaV, range → xaf, setIfInBounds_toArray → xaa, set_cons_succ → xab, set_cons_zero → xac, size_toArray → xal, take_add_one → xaz, take_length → xaB
open Nat renaming le_refl → xai, le_trans → xay, mul_le_mul_right → xa8
open Go.Op renaming bytesLess → xaF
open Option.some renaming inj → xao
open Go.Result renaming andThen_ok → xaA
open Go.Sem renaming run_bind → xaK, run_pure → xaN
open UInt8 renaming ofNat → xaX
open Go.Value renaming slice → xag, string → xaY
section
namespace Go.Proofs.YtomnhnmciopiiaaGreat
open Go Go.RowKit Go.Maps
theorem kV (s:ByteArray) (hs:s.size≤maxLen) (b:Bool) (hb:bT s=b) (w:World):Calls Tryz.prog 130 #[.string s] w fun e w'=>e=.returned (.bool b)∧w'=w:=hb▸wW s hs w
theorem cj {p:Pth} (hp:okP p):(Tryz.prog.info? 83).map (·.size)=some (pC p).length:=by rw [bQ hp];kernel_rfl
theorem eQ {p:Pth} (hp:okP p):(Tryz.prog.info? 83).map (·.size)=some (pC p).toArray.size:=by rw [xal];exact cj hp
theorem r8 (p:Pth):(pC p).toArray.all (·.oneCell')=true:=all_oneCell_toArray fun v hv=>by
 unfold pC at hv
 rcases xau.1 hv with hv | hv
 ·exact bv1 _ v hv
 ·rw [xan.1 hv];rfl
theorem qJ {p:Pth} {w:World} {b o:Nat} (h:w.rangeAt b o (pC p)):w.rangeAt b o (bv p.1):=cz (c2:=[.string p.2]) h
theorem sa {p:Pth} (hp:okP p) {w:World} {b o:Nat} (h:w.rangeAt b o (pC p)):w.rangeAt b (o+20) [.string p.2]:=fH (pre:=bv p.1) (post:=[]) h (by simp [pC]) (by rw [bvL];exact hp.1)
theorem oc (h:Hsh) (hh:okH h) (S:ByteArray) (hS:S=⟨(aQ h).toArray⟩) (w:World) :
  Calls Tryz.prog 88 #[.agg (bv h).toArray] w fun e w'=>e=.returned (.string S)∧Below w.heap.size w w':=hS▸qP h hh w
theorem wX (p:Pth) (hp:okP p) (hn:bT p.2=true) (w:World) :
  Calls Tryz.prog 89 #[.agg (pC p).toArray] w fun e w'=>e=.returned (.tuple #[.string (fS p),.int .i64 0])∧Below w.heap.size w w':=by
 have hll:=dq p.1
 have hl20:p.1.length=20:=hp.1
 have hn24:=du hn
 obtain ⟨S,hS⟩:∃ S:ByteArray,S=⟨(aQ p.1).toArray⟩:=⟨_,rfl⟩
 have hSn:S.size≤40:=by rw [hS];show (aQ p.1).toArray.size≤_;rw [xal];omega
 have hpS:fS p=(S++⟨#[45]⟩)++p.2:=by rw [hS];rfl
 have HS:=ah hS
 have HPS:=ah hpS
 have HN:=ah hn
 clear hll hS hpS hn
 have H0:=ah (Mem.start w)
 go_enter Tryz.func89,Tryz.ntmps89
 go_wp2_with (first | ((with_reducible refine ag 1 ?_);(refine aW rfl 83 (.tmp 0) rfl (pC p).toArray rfl ?_);intro w1 hn;have H1:=ah (Mem.bh H0.out hn);clear hn;simp only [xad,xaa,xac,xab]) | ((with_reducible refine ag 5 ?_);(refine aa rfl (.string p.2) w1 (exec_load_cell 9 (.tmp 4) rfl ⟨w.heap.size,20,none⟩ rfl _ _ w1 Tryz.underlying9 rfl (range_cell (sa hp (Blk.range (Mem.blk H1.out 0 rfl))))) ?_)))
 refine (kV p.2 hp.2 true HN.out w1).mono ?_
 rintro e wz ⟨rfl,hwz⟩
 rw [hwz]
 clear hwz
 dsimp only
 go_wp2_with fail
 refine Fre.aV (X:=Bel) [] (by kernel_rfl) (by kernel_rfl) (by simp) (by simp) (by simp) ?_
 refine Fre.ae (.pointer (some ⟨w.heap.size,0,none⟩)) (by kernel_rfl) (by kernel_rfl) (by kernel_rfl) (fun _ _=>by kernel_rfl) ?_
 simp only [xad,xaa,xac,xab]
 refine Fre.ae (.agg (bv p.1).toArray) (by kernel_rfl) (by kernel_rfl) (by kernel_rfl) (fun W9 hW9=>(aj 34 (.tmp 8) rfl w.heap.size (0) rfl (bv p.1) _ W9 (qJ (Blk.range (Mem.blk (Mem.call H1.out hW9) 0 rfl))) Tryz.underlying34 rfl (cP hp.1))) ?_
 simp only [xad,xaa,xac,xab]
 refine Fre.dB (.string S) 88 #[.agg (bv p.1).toArray] (by kernel_rfl) (by kernel_rfl) (by kernel_rfl) (fun W9=>by kernel_rfl) (fun W9 hW9=>oc p.1 hp.1 S HS.out W9) ?_
 simp only [xad,xaa,xac,xab]
 refine Fre.ae (.string (S++⟨#[45]⟩)) (by kernel_rfl) (by kernel_rfl) (by kernel_rfl) (fun W9 hW9=>aZ 9 (.tmp 10) (.const (.string ⟨#[45]⟩)) 9 rfl (S) (⟨#[45]⟩) rfl rfl (by show S.size+1≤_;omega) W9) ?_
 simp only [xad,xaa,xac,xab]
 refine Fre.ae (.pointer (some ⟨w.heap.size,20,none⟩)) (by kernel_rfl) (by kernel_rfl) (by kernel_rfl) (fun _ _=>by kernel_rfl) ?_
 simp only [xad,xaa,xac,xab]
 refine Fre.ae (.string p.2) (by kernel_rfl) (by kernel_rfl) (by kernel_rfl) (fun W9 hW9=>(exec_load_cell 9 (.tmp 12) rfl ⟨w.heap.size,20,none⟩ rfl _ _ W9 Tryz.underlying9 rfl (range_cell (sa hp (Blk.range (Mem.blk (Mem.call H1.out hW9) 0 rfl)))))) ?_
 simp only [xad,xaa,xac,xab]
 refine Fre.ae (.string ((S++⟨#[45]⟩)++p.2)) (by kernel_rfl) (by kernel_rfl) (by kernel_rfl) (fun W9 hW9=>aZ 9 (.tmp 11) (.tmp 13) 9 rfl ((S++⟨#[45]⟩)) (p.2) rfl rfl (by rw [xaC];show S.size+1+_≤_;omega) W9) ?_
 simp only [xad,xaa,xac,xab]
 refine Fre.ae (.string ((S++⟨#[45]⟩)++p.2)) (by kernel_rfl) (by kernel_rfl) (by kernel_rfl) (fun _ _=>by kernel_rfl) ?_
 simp only [xad,xaa,xac,xab]
 refine Fre.ae (.int .i64 0) (by kernel_rfl) (by kernel_rfl) (by kernel_rfl) (fun _ _=>by kernel_rfl) ?_
 simp only [xad,xaa,xac,xab]
 intro w2 hx
 dsimp only [Fre.ended,xas]
 have H2:=ah (Mem.call H1.out hx)
 clear hx
 go_wp2_with fail
 refine bodyPost_ret (cB (r1:=.tmp 2) (r2:=.tmp 3) rfl ⟨rfl,rfl,trivial⟩) rfl ?_
 exact ⟨by rw [HPS.out];rfl,Mem.below H2.out⟩
end Go.Proofs.YtomnhnmciopiiaaGreat
end
section
namespace Go.Proofs.YtomnhnmciopiiaaGreat
open Go Go.RowKit Go.Maps
theorem kN {x:Nam} {w:World} {b o:Nat} (h:w.rangeAt b o (nC x)):w.rangeAt b o [.string x.1]:=cz (c2:=iC x.2) h
theorem jX {x:Inp} {w:World} {b o:Nat} (h:w.rangeAt b o (iC x)):w.rangeAt b o (pC x.1):=cz (c2:=bv x.2.1++[.bool x.2.2]) h
theorem om:(Tryz.prog.info? 87).map (·.size)=some zcN.size:=by kernel_rfl
theorem zA:(Tryz.prog.info? 83).map (·.size)=some zcP.size:=by kernel_rfl
end Go.Proofs.YtomnhnmciopiiaaGreat
end
section
namespace Go.Proofs.YtomnhnmciopiiaaGreat
open Go Go.RowKit Go.Maps
attribute [local irreducible] wpList
def uT (l:List Nam):Nat→ByteArray
 | 0=>⟨#[]⟩
 | j+1=>match l[j]? with
  | some x=>x.1
  | none=>⟨#[]⟩
theorem fU {l:List Nam} {j:Nat} {x:Nam} (h:l[j]?=some x):uT l (j+1)=x.1:=by
 show (match l[j]? with | some x=>x.1 | none=>⟨#[]⟩)=x.1
 rw [h]
theorem tJ {l:List Nam} {j:Nat} {x:Nam} (hj:0<(j:Int)) (h:l[j-1]?=some x):uT l j=x.1:=by
 obtain ⟨k,rfl⟩:∃ k,j=k+1:=⟨j-1,by omega⟩
 exact fU h
theorem ef (x:Nam) (b:ByteArray):hX x b=(bT x.1&&xaF b.toList x.1.toList&&(if x.2.2.2=true then decide (x.2.1=dW) else bT x.2.1.2&&decide (x.2.2.1=di))):=by
 unfold hX
 rw [ir]
theorem wA {s:ByteArray} (h:bT s=true):xaF (⟨#[]⟩:ByteArray).toList s.toList=true:=by
 have e:(⟨#[]⟩:ByteArray).toList=[]:=by
  rw [ByteArray.toList,ByteArray.toList.loop,if_neg (by decide)]
  rfl
 rw [e]
 unfold bT fk at h
 simp only [xaG] at h
 cases hs:s.toList with
 | nil=>rw [hs] at h;simp at h
 | cons a l=>rfl
theorem ch (x:Nam) (l:List Nam) (b:ByteArray):eD (x :: l) b=(hX x b&&eD l x.1):=by
 rfl
theorem zB (d:Drv):iM d=(bT d.1&&(!decide ((8:Int)<((d.2.1.length:Nat):Int))&&(!decide ((1000:Int)<((d.2.2.length:Nat):Int))&&eD d.2.1 ⟨#[]⟩))):=by
 unfold iM
 have h1:decide ((d.2.1.length:Int)≤8)=!decide ((8:Int)<((d.2.1.length:Nat):Int)):=by by_cases h:(8:Int)<((d.2.1.length:Nat):Int)<;>simp [h]<;>omega
 have h2:decide ((d.2.2.length:Int)≤1000)=!decide ((1000:Int)<((d.2.2.length:Nat):Int)):=by by_cases h:(1000:Int)<((d.2.2.length:Nat):Int)<;>simp [h]<;>omega
 rw [h1,h2]
 cases bT d.1<;>cases eD d.2.1 ⟨#[]⟩<;>simp
theorem sK (b:ByteArray):eD [] b=true:=rfl
theorem y7 (w:World) (d:Drv) (v1 v2:Value) (h:aK w w.heap.size d v1 v2) (b9:Bool) (hb:iM d=b9) :
  Calls Tryz.prog 87 #[.agg (dC d v1 v2).toArray] w fun e w'=>e=.returned (.bool b9)∧Below w.heap.size w w':=by
 have hnm:=h.name
 obtain ⟨A,cap,rfl,_,hcm,_,hA⟩:=ak h.ins
 obtain ⟨A2,cap2,rfl,_,hcm2,_,hA2⟩:=ak h.rcp
 simp only [maxLen] at hcm hcm2
 rw [zB] at hb
 have HEQ:=hb
 clear hb
 have H0:=Mem.start w
 go_enter Tryz.func87,Tryz.ntmps87
 refine sk fun _ K1=>rl ?_
 refine bx 26 (dC d (.slice A d.2.1.length cap) (.slice A2 d.2.2.length cap2)) fun w2 hn_=>?_
 have H3:=Mem.bh H0 hn_
 refine rn ?_
 refine nt (K1 _ _ (sk fun _ K4=>sk fun _ K5=>rl ?_))
 refine rp w.heap.size 0 ?_
 refine rv (xlc (range_cell (ga (Blk.range (Mem.blk H3 0 rfl)))) Tryz.underlying9) ?_
 obtain ⟨b6,hb6⟩:∃ b,bT (d.1)=b:=⟨_,rfl⟩
 refine cs (kV (d.1) hnm b6 hb6 w2) (rn ?_)
 cases b6
 ·refine rn ?_
  refine nt (K5 _ _ (ct (sk fun _ K9=>rl ?_)))
  refine nt (K9 _ _ (rt ?_))
  refine ⟨?_,Mem.below H3⟩
  have h:=HEQ
  simp only [xaZ,hb6] at h
  subst h
  rfl
 ·refine rn ?_
  refine rp w.heap.size 1 ?_
  refine rv (xlc (range_cell (cD (Blk.range (Mem.blk H3 0 rfl)))) Tryz.underlying23) ?_
  by_cases p10:8<((d.2.1.length:Nat):Int)
  ·refine rv (sB (decide_eq_true p10)) ?_
   refine nt (K5 _ _ (ct (sk fun _ K11=>rl ?_)))
   refine nt (K11 _ _ (rt ?_))
   refine ⟨?_,Mem.below H3⟩
   have h:=HEQ
   simp only [xaZ,xbp,decide_true,hb6,p10,Bool.not_true] at h
   subst h
   rfl
  ·refine rv (sB (decide_eq_false p10)) ?_
   refine rp w.heap.size 2 ?_
   refine rv (xlc (range_cell (iS (Blk.range (Mem.blk H3 0 rfl)))) Tryz.underlying24) ?_
   by_cases p12:1000<((d.2.2.length:Nat):Int)
   ·refine rv (sB (decide_eq_true p12)) ?_
    refine nt (K5 _ _ (ct (sk fun _ K13=>rl ?_)))
    refine nt (K13 _ _ (rt ?_))
    refine ⟨?_,Mem.below H3⟩
    have h:=HEQ
    simp only [xaZ,xbp,decide_true,decide_false,hb6,p10,p12,Bool.not_true,Bool.not_false] at h
    subst h
    rfl
   ·refine rv (sB (decide_eq_false p12)) ?_
    refine nt (K5 _ _ (cf (ks (K4 _ _ (sk fun _ K14=>sk fun _ K15=>rl ?_)))))
    refine nt (K15 _ _ (wp_block ?_))
    go_loopw [3] (fun x3 wr=>∃ j:Nat,x3=.int .i64 (j:Int)∧(j≤d.2.1.length)∧(eD (d.2.1.drop j) (uT d.2.1 j)=b9)∧Mem w wr [cC (w.heap.size) 26 (dC d (.slice A d.2.1.length cap) (.slice A2 d.2.2.length cap2)).toArray]) (fun x3 _=>d.2.1.length-(intOf x3).toNat)
    case atStart=>exact ⟨0,rfl,by omega,(by have h:=HEQ;simp only [xbe,decide_false,hb6,p10,p12,Bool.not_false] at h;exact h),H3⟩
    case round =>
     obtain ⟨wo16,rfl⟩:∃ wo16,wo16=wr:=⟨_,rfl⟩
     obtain ⟨j,rfl,hj,HEQ,H17⟩:=hrel
     refine sk fun _ K19=>sk fun _ K20=>rl ?_
     refine rp w.heap.size 1 ?_
     refine rv (xlc (range_cell (cD (Blk.range (Mem.blk H17 0 rfl)))) Tryz.underlying23) ?_
     by_cases p21:(j:Int)<((d.2.1.length:Nat):Int)
     ·refine rv (aA (decide_eq_true p21)) ?_
      refine nt (K20 _ _ (ct (ks (K19 _ _ (sk fun _ K22=>wp_block (sk fun _ K23=>rl ?_))))))
      refine rp w.heap.size 1 ?_
      refine rv (xlc (range_cell (cD (Blk.range (Mem.blk H17 0 rfl)))) Tryz.underlying23) ?_
      obtain ⟨b24,o25,rfl,hlt27,hE26⟩:=hA (by omega)
      obtain ⟨x28,hx29⟩:=gx (l:=d.2.1) (j:=j)
      have hd30:=ay hx29
      obtain ⟨cs,hr31,ha32⟩:=hE26 (j) x28 hx29
      obtain ⟨rfl,ok33⟩:=bw.1 ha32
      refine rv (dy (j) Tryz.underlying23 aY) ?_
      refine rv (xld (Mem.range H17 hr31 hlt27) Tryz.underlying87 (dD ok33)) ?_
      refine nz 87 zcN fun w34 hn_=>?_
      have H35:=Mem.bh H17 hn_
      refine rn ?_
      refine stb (Mem.blk H35 0 rfl) (iJ ok33) (dr om (iJ ok33)) (tw x28) fun w36 hk_ hg_=>?_
      have H37:=Mem.st H35 0 rfl hk_ hg_
      refine rn ?_
      refine nt (K23 _ _ (sk fun _ K38=>sk fun _ K39=>?_))
      obtain ⟨b40,hb40⟩:∃ b,bT (x28.1)=b:=⟨_,rfl⟩
      refine Fre.aV (X:=Bel) [] (by kernel_rfl) (by kernel_rfl) (by simp) (by simp) (by simp) ?_
      refine Fre.mvv (v:=.pointer (some ⟨wo16.heap.size,0,none⟩)) (fun _ _=>by kernel_rfl) ?_
      refine Fre.mvv (fun W9 hW9=>xlc (range_cell (kN (Blk.range (Mem.blk (Mem.call H37 hW9) 0 rfl)))) Tryz.underlying9) ?_
      refine Fre.mc (fun W9 hW9=>tY (kV (x28.1) ok33.1 b40 hb40 W9)) ?_
      refine Fre.rmd ?_
      cases b40
      ·refine Fre.rmd ?_
       intro w41 hx43
       dsimp only [Fre.ended,xas]
       have H42:=Mem.call H37 hx43
       refine ab (K39 _ _ (ct (sk fun _ K44=>rl ?_)))
       refine nt (K44 _ _ (rt ?_))
       refine ⟨?_,Mem.below H42⟩
       have h:=HEQ
       simp only [ch,ef,xaZ,hd30,hb40] at h
       subst h
       rfl
      ·refine Fre.rmd ?_
       by_cases p45:0<(j:Int)
       ·refine Fre.mvv (fun _ _=>sB (decide_eq_true p45)) ?_
        refine Fre.mvv (v:=.pointer (some ⟨w.heap.size,1,none⟩)) (fun _ _=>by kernel_rfl) ?_
        refine Fre.mvv (fun W9 hW9=>xlc (range_cell (cD (Blk.range (Mem.blk (Mem.call H37 hW9) 1 rfl)))) Tryz.underlying23) ?_
        refine Fre.mvv (fun _ _=>xr (((j-1:Nat):Int))) ?_
        obtain ⟨x46,hx47⟩:=gx (l:=d.2.1) (j:=j-1)
        have hd48:=ay hx47
        obtain ⟨cs,hr49,ha50⟩:=hE26 (j-1) x46 hx47
        obtain ⟨rfl,ok51⟩:=bw.1 ha50
        have hpv:=tJ (by omega) hx47
        refine Fre.mvv (fun _ _=>dy (j-1) Tryz.underlying23 aY) ?_
        refine Fre.mvv (v:=.pointer (some ⟨b24,o25+(j-1)*43,none⟩)) (fun _ _=>by kernel_rfl) ?_
        refine Fre.mvv (fun W9 hW9=>xlc (range_cell (kN (Mem.range (Mem.call H37 hW9) hr49 hlt27))) Tryz.underlying9) ?_
        refine Fre.mvv (v:=.pointer (some ⟨wo16.heap.size,0,none⟩)) (fun _ _=>by kernel_rfl) ?_
        refine Fre.mvv (fun W9 hW9=>xlc (range_cell (kN (Blk.range (Mem.blk (Mem.call H37 hW9) 0 rfl)))) Tryz.underlying9) ?_
        obtain ⟨b52,hb52⟩:∃ b,xaF (x46.1).toList (x28.1).toList=b:=⟨_,rfl⟩
        refine Fre.mvv (fun W9 _=>zW 9 9 (.tmp 47) (.tmp 49) rfl (x46.1) (x28.1) rfl rfl _ hb52 W9) ?_
        intro w53 hx55
        dsimp only [Fre.ended,xas]
        have H54:=Mem.call H37 hx55
        refine ab (K39 _ _ ?_)
        cases b52
        ·refine ct (sk fun _ K56=>rl ?_)
         refine nt (K56 _ _ (rt ?_))
         refine ⟨?_,Mem.below H54⟩
         have h:=HEQ
         simp only [ch,ef,xaZ,xbp,hd30,hb40,hpv,hb52] at h
         subst h
         rfl
        ·refine cf (ks (K38 _ _ (sk fun _ K57=>rl ?_)))
         refine rp wo16.heap.size 1 ?_
         refine rp wo16.heap.size 42 ?_
         obtain ⟨b58,hb58⟩:∃ b,x28.2.2.2=b:=⟨_,rfl⟩
         refine rv (v:=.bool b58) (by rw [← hb58];exact (exec_load_cell 4 (.tmp 54) rfl ⟨wo16.heap.size,42,none⟩ rfl _ _ w53 Tryz.underlying4 rfl (range_cell (iI ok33.2 (cS (Blk.range (Mem.blk H54 0 rfl))))))) ?_
         cases b58
         ·refine rn ?_
          refine rp wo16.heap.size 1 ?_
          refine rp wo16.heap.size 42 ?_
          refine rv (v:=.bool false) (by rw [← hb58];exact (exec_load_cell 4 (.tmp 65) rfl ⟨wo16.heap.size,42,none⟩ rfl _ _ w53 Tryz.underlying4 rfl (range_cell (iI ok33.2 (cS (Blk.range (Mem.blk H54 0 rfl))))))) ?_
          refine rp wo16.heap.size 1 ?_
          refine rp wo16.heap.size 1 ?_
          refine rp wo16.heap.size 21 ?_
          refine rv (xlc (range_cell (sa ok33.2.1 (jX (cS (Blk.range (Mem.blk H54 0 rfl)))))) Tryz.underlying9) ?_
          obtain ⟨b59,hb59⟩:∃ b,bT (x28.2.1.2)=b:=⟨_,rfl⟩
          refine cs (kV (x28.2.1.2) ok33.2.1.2 b59 hb59 w53) (rn ?_)
          cases b59
          ·refine rn ?_
           refine nt (K57 _ _ (ct (sk fun _ K62=>rl ?_)))
           refine nt (K62 _ _ (rt ?_))
           refine ⟨?_,Mem.below H54⟩
           have h:=HEQ
           simp only [ch,ef,xaZ,xbc,xbp,hd30,hb40,hpv,hb52,hb58,hb59,↓reduceIte,xa9] at h
           subst h
           rfl
          ·refine rn ?_
           refine rp wo16.heap.size 1 ?_
           refine rp wo16.heap.size 22 ?_
           refine rv (xld (lz ok33.2 (cS (Blk.range (Mem.blk H54 0 rfl)))) Tryz.underlying34 (cP ok33.2.2)) ?_
           refine rv (v:=.agg (bv di).toArray) (by kernel_rfl) ?_
           by_cases p63:x28.2.2.1=di
           ·refine rv (dK 34 34 (.tmp 78) (.tmp 79) rfl (bv x28.2.2.1).toArray (bv di).toArray rfl rfl (by kernel_rfl) _ w53 (by have h9:=cW (x28.2.2.1) (di) ok33.2.2 fp w53;rwa [show decide _=true from (decide_eq_true p63)] at h9)) ?_
            refine nt (K57 _ _ (cf ?_))
            refine wp_skip ?_
            refine al (ab (K22 _ _ (rl ?_)))
            refine rv (aL (((j+1:Nat):Int))) ?_
            refine wpList_nil ?_
            have H64:=Mem.pick H54 [1] (by decide) rfl
            refine ab ?_
            show _∧_
            go_roundw
            case rel=>exact ⟨(j+1),rfl,by omega,(by have h:=HEQ;simp only [ch,ef,xbe,xbc,decide_true,hd30,hb40,hpv,hb52,hb58,hb59,p63,↓reduceIte,xa9] at h;rw [fU hx29];exact h),H64⟩
            case measure=>simp [intOf];omega
           ·refine rv (dK 34 34 (.tmp 78) (.tmp 79) rfl (bv x28.2.2.1).toArray (bv di).toArray rfl rfl (by kernel_rfl) _ w53 (by have h9:=cW (x28.2.2.1) (di) ok33.2.2 fp w53;rwa [show decide _=false from (decide_eq_false p63)] at h9)) ?_
            refine nt (K57 _ _ (ct (sk fun _ K65=>rl ?_)))
            refine nt (K65 _ _ (rt ?_))
            refine ⟨?_,Mem.below H54⟩
            have h:=HEQ
            simp only [ch,ef,xaZ,xbc,xbp,decide_false,hd30,hb40,hpv,hb52,hb58,hb59,p63,↓reduceIte,xa9] at h
            subst h
            rfl
         ·refine rp wo16.heap.size 1 ?_
          refine rp wo16.heap.size 1 ?_
          refine rv (xld (jX (cS (Blk.range (Mem.blk H54 0 rfl)))) Tryz.underlying83 (cj ok33.2.1)) ?_
          refine rv (v:=.agg (pC dW).toArray) (by kernel_rfl) ?_
          by_cases p66:x28.2.1=dW
          ·refine rv (dK 83 83 (.tmp 59) (.tmp 60) rfl (pC x28.2.1).toArray (pC dW).toArray rfl rfl (by kernel_rfl) _ w53 (by have h9:=fg (x28.2.1) (dW) ok33.2.1 eN w53;rwa [show decide _=true from (decide_eq_true p66)] at h9)) ?_
           refine rp wo16.heap.size 1 ?_
           refine rp wo16.heap.size 42 ?_
           refine rv (v:=.bool true) (by rw [← hb58];exact (exec_load_cell 4 (.tmp 65) rfl ⟨wo16.heap.size,42,none⟩ rfl _ _ w53 Tryz.underlying4 rfl (range_cell (iI ok33.2 (cS (Blk.range (Mem.blk H54 0 rfl))))))) ?_
           refine nt (K57 _ _ (cf ?_))
           refine wp_skip ?_
           refine al (ab (K22 _ _ (rl ?_)))
           refine rv (aL (((j+1:Nat):Int))) ?_
           refine wpList_nil ?_
           have H67:=Mem.pick H54 [1] (by decide) rfl
           refine ab ?_
           show _∧_
           go_roundw
           case rel=>exact ⟨(j+1),rfl,by omega,(by have h:=HEQ;simp only [ch,ef,xbe,xbc,decide_true,hd30,hb40,hpv,hb52,hb58,p66,↓reduceIte] at h;rw [fU hx29];exact h),H67⟩
           case measure=>simp [intOf];omega
          ·refine rv (dK 83 83 (.tmp 59) (.tmp 60) rfl (pC x28.2.1).toArray (pC dW).toArray rfl rfl (by kernel_rfl) _ w53 (by have h9:=fg (x28.2.1) (dW) ok33.2.1 eN w53;rwa [show decide _=false from (decide_eq_false p66)] at h9)) ?_
           refine nt (K57 _ _ (ct (sk fun _ K68=>rl ?_)))
           refine nt (K68 _ _ (rt ?_))
           refine ⟨?_,Mem.below H54⟩
           have h:=HEQ
           simp only [ch,ef,xaZ,xbc,xbp,decide_false,hd30,hb40,hpv,hb52,hb58,p66,↓reduceIte] at h
           subst h
           rfl
       ·have hj0:j=0:=by omega
        have hpv:uT d.2.1 j=⟨#[]⟩:=by rw [hj0];rfl
        have hz:=wA hb40
        refine Fre.mvv (fun _ _=>sB (decide_eq_false p45)) ?_
        intro w69 hx71
        dsimp only [Fre.ended,xas]
        have H70:=Mem.call H37 hx71
        refine ab (K39 _ _ (cf (ks (K38 _ _ (sk fun _ K72=>rl ?_)))))
        refine rp wo16.heap.size 1 ?_
        refine rp wo16.heap.size 42 ?_
        obtain ⟨b73,hb73⟩:∃ b,x28.2.2.2=b:=⟨_,rfl⟩
        refine rv (v:=.bool b73) (by rw [← hb73];exact (exec_load_cell 4 (.tmp 54) rfl ⟨wo16.heap.size,42,none⟩ rfl _ _ w69 Tryz.underlying4 rfl (range_cell (iI ok33.2 (cS (Blk.range (Mem.blk H70 0 rfl))))))) ?_
        cases b73
        ·refine rn ?_
         refine rp wo16.heap.size 1 ?_
         refine rp wo16.heap.size 42 ?_
         refine rv (v:=.bool false) (by rw [← hb73];exact (exec_load_cell 4 (.tmp 65) rfl ⟨wo16.heap.size,42,none⟩ rfl _ _ w69 Tryz.underlying4 rfl (range_cell (iI ok33.2 (cS (Blk.range (Mem.blk H70 0 rfl))))))) ?_
         refine rp wo16.heap.size 1 ?_
         refine rp wo16.heap.size 1 ?_
         refine rp wo16.heap.size 21 ?_
         refine rv (xlc (range_cell (sa ok33.2.1 (jX (cS (Blk.range (Mem.blk H70 0 rfl)))))) Tryz.underlying9) ?_
         obtain ⟨b74,hb74⟩:∃ b,bT (x28.2.1.2)=b:=⟨_,rfl⟩
         refine cs (kV (x28.2.1.2) ok33.2.1.2 b74 hb74 w69) (rn ?_)
         cases b74
         ·refine rn ?_
          refine nt (K72 _ _ (ct (sk fun _ K77=>rl ?_)))
          refine nt (K77 _ _ (rt ?_))
          refine ⟨?_,Mem.below H70⟩
          have h:=HEQ
          simp only [ch,ef,xaZ,xbc,xbp,hd30,hb40,hz,hpv,hb73,hb74,↓reduceIte,xa9] at h
          subst h
          rfl
         ·refine rn ?_
          refine rp wo16.heap.size 1 ?_
          refine rp wo16.heap.size 22 ?_
          refine rv (xld (lz ok33.2 (cS (Blk.range (Mem.blk H70 0 rfl)))) Tryz.underlying34 (cP ok33.2.2)) ?_
          refine rv (v:=.agg (bv di).toArray) (by kernel_rfl) ?_
          by_cases p78:x28.2.2.1=di
          ·refine rv (dK 34 34 (.tmp 78) (.tmp 79) rfl (bv x28.2.2.1).toArray (bv di).toArray rfl rfl (by kernel_rfl) _ w69 (by have h9:=cW (x28.2.2.1) (di) ok33.2.2 fp w69;rwa [show decide _=true from (decide_eq_true p78)] at h9)) ?_
           refine nt (K72 _ _ (cf ?_))
           refine wp_skip ?_
           refine al (ab (K22 _ _ (rl ?_)))
           refine rv (aL (((j+1:Nat):Int))) ?_
           refine wpList_nil ?_
           have H79:=Mem.pick H70 [1] (by decide) rfl
           refine ab ?_
           show _∧_
           go_roundw
           case rel=>exact ⟨(j+1),rfl,by omega,(by have h:=HEQ;simp only [ch,ef,xbe,xbc,decide_true,hd30,hb40,hz,hpv,hb73,hb74,p78,↓reduceIte,xa9] at h;rw [fU hx29];exact h),H79⟩
           case measure=>simp [intOf];omega
          ·refine rv (dK 34 34 (.tmp 78) (.tmp 79) rfl (bv x28.2.2.1).toArray (bv di).toArray rfl rfl (by kernel_rfl) _ w69 (by have h9:=cW (x28.2.2.1) (di) ok33.2.2 fp w69;rwa [show decide _=false from (decide_eq_false p78)] at h9)) ?_
           refine nt (K72 _ _ (ct (sk fun _ K80=>rl ?_)))
           refine nt (K80 _ _ (rt ?_))
           refine ⟨?_,Mem.below H70⟩
           have h:=HEQ
           simp only [ch,ef,xaZ,xbc,xbp,decide_false,hd30,hb40,hz,hpv,hb73,hb74,p78,↓reduceIte,xa9] at h
           subst h
           rfl
        ·refine rp wo16.heap.size 1 ?_
         refine rp wo16.heap.size 1 ?_
         refine rv (xld (jX (cS (Blk.range (Mem.blk H70 0 rfl)))) Tryz.underlying83 (cj ok33.2.1)) ?_
         refine rv (v:=.agg (pC dW).toArray) (by kernel_rfl) ?_
         by_cases p81:x28.2.1=dW
         ·refine rv (dK 83 83 (.tmp 59) (.tmp 60) rfl (pC x28.2.1).toArray (pC dW).toArray rfl rfl (by kernel_rfl) _ w69 (by have h9:=fg (x28.2.1) (dW) ok33.2.1 eN w69;rwa [show decide _=true from (decide_eq_true p81)] at h9)) ?_
          refine rp wo16.heap.size 1 ?_
          refine rp wo16.heap.size 42 ?_
          refine rv (v:=.bool true) (by rw [← hb73];exact (exec_load_cell 4 (.tmp 65) rfl ⟨wo16.heap.size,42,none⟩ rfl _ _ w69 Tryz.underlying4 rfl (range_cell (iI ok33.2 (cS (Blk.range (Mem.blk H70 0 rfl))))))) ?_
          refine nt (K72 _ _ (cf ?_))
          refine wp_skip ?_
          refine al (ab (K22 _ _ (rl ?_)))
          refine rv (aL (((j+1:Nat):Int))) ?_
          refine wpList_nil ?_
          have H82:=Mem.pick H70 [1] (by decide) rfl
          refine ab ?_
          show _∧_
          go_roundw
          case rel=>exact ⟨(j+1),rfl,by omega,(by have h:=HEQ;simp only [ch,ef,xbe,xbc,decide_true,hd30,hb40,hz,hpv,hb73,p81,↓reduceIte] at h;rw [fU hx29];exact h),H82⟩
          case measure=>simp [intOf];omega
         ·refine rv (dK 83 83 (.tmp 59) (.tmp 60) rfl (pC x28.2.1).toArray (pC dW).toArray rfl rfl (by kernel_rfl) _ w69 (by have h9:=fg (x28.2.1) (dW) ok33.2.1 eN w69;rwa [show decide _=false from (decide_eq_false p81)] at h9)) ?_
          refine nt (K72 _ _ (ct (sk fun _ K83=>rl ?_)))
          refine nt (K83 _ _ (rt ?_))
          refine ⟨?_,Mem.below H70⟩
          have h:=HEQ
          simp only [ch,ef,xaZ,xbc,xbp,decide_false,hd30,hb40,hz,hpv,hb73,p81,↓reduceIte] at h
          subst h
          rfl
     ·have he84:=bJ (l:=d.2.1) (j:=j) (by omega)
      refine rv (aA (decide_eq_false p21)) ?_
      refine nt (K20 _ _ (cf (wp_exit (ai (ai (ax (ab (K14 _ _ (sk fun _ K85=>rl ?_)))))))))
      refine nt (K85 _ _ (rt ?_))
      refine ⟨?_,Mem.below H17⟩
      have h:=HEQ
      simp only [sK,he84] at h
      subst h
      rfl
end Go.Proofs.YtomnhnmciopiiaaGreat
end
section
namespace Go.Proofs.YtomnhnmciopiiaaGreat
open Go Go.RowKit Go.Maps
def mm (s:ByteArray):ByteArray:=s++⟨#[10]⟩
def dS (d:Drv):Nat→ByteArray
 | 0=>mm (⟨#[100,114,118,32]⟩++d.1)
 | j+1=>match d.2.1[j]? with
  | some x=>dS d j++mm (fj x)
  | none=>dS d j
theorem lJ {d:Drv} {j:Nat} {x:Nam} (h:d.2.1[j]?=some x):dS d (j+1)=dS d j++mm (fj x):=by
 rw [dS,h]
theorem ph:∀ (l:List (List UInt8)),l ≠ []→xby l [10]++[10]=l.flatMap fun s=>s++[10]
 | [],h=>absurd rfl h
 | [s],_=>by simp [xby]
 | s :: t :: l,_=>by
  have ih:=ph (t :: l) (by simp)
  rw [List.flatMap_cons,← ih]
  simp [xby]
theorem pE (d:Drv):∀ j,j≤d.2.1.length→(dS d j).data.toList=((⟨#[100,114,118,32]⟩++d.1:ByteArray) :: (d.2.1.take j).map fj).flatMap fun s=>s.data.toList++[10]
 | 0,_=>by simp [dS,mm,xbm]
 | j+1,h=>by
  obtain ⟨x,hx⟩:∃ x,d.2.1[j]?=some x:=⟨_,xaj (by omega)⟩
  rw [lJ hx,xbm,xbN,pE d j (by omega),xaz,hx]
  simp [mm,xbm]
theorem sw (d:Drv):eM d=dS d d.2.1.length++mm (⟨#[114,117,110,32]⟩++⟨(cH d.2.2).toArray⟩):=by
 apply ByteArray.ext
 apply Array.toList_inj.1
 have h:=pE d d.2.1.length (xai _)
 rw [xaB] at h
 rw [xbm,xbN,h]
 unfold eM
 rw [xbm,xbN]
 have hj:=ph ((cu d).map (·.data.toList)) (by simp [cu])
 refine hj.trans ?_
 simp [cu,mm,xbm,List.flatMap_map]
end Go.Proofs.YtomnhnmciopiiaaGreat
end
section
namespace Go.Proofs.YtomnhnmciopiiaaGreat
open Go Go.RowKit Go.Maps
attribute [local irreducible] wpList
theorem qt {h:Hsh} (hh:okH h) {S:ByteArray} (hS:S=⟨(aQ h).toArray⟩):S.size≤40:=by
 have h1:=dq h
 have h2:h.length=20:=hh
 rw [hS]
 show (aQ h).toArray.size≤_
 rw [xal]
 omega
theorem sm (l:List Int):(⟨(cH l).toArray⟩:ByteArray).size≤2*l.length+1:=by
 show (cH l).toArray.size≤_
 rw [xal]
 exact kh l
theorem wP (w:World) (l:List Int) (v:Value) (h:b5.At w w.heap.size [v] l) (hl:l.length≤1000000) (S:ByteArray) (hS:(⟨(cH l).toArray⟩:ByteArray)=S) :
  Calls Tryz.prog 90 #[v] w fun e w'=>e=.returned (.string S)∧Below w.heap.size w w':=hS▸se w l v h hl
theorem yU {d:Drv} {j:Nat} {x:Nam} (hx:d.2.1[j]?=some x) (hi:x.2.2.2=true) {S:ByteArray} (hS:S=⟨(aQ x.2.2.1).toArray⟩) :
  dS d j++⟨#[99,108,97,115,115,32]⟩++x.1++⟨#[32]⟩++S++⟨#[10]⟩=dS d (j+1):=by
 rw [lJ hx,mm,fj,if_pos hi,hS]
 simp only [xbJ]
theorem yV {d:Drv} {j:Nat} {x:Nam} (hx:d.2.1[j]?=some x) (hi:x.2.2.2=false) :
  dS d j++⟨#[115,114,99,32]⟩++x.1++⟨#[32]⟩++fS x.2.1++⟨#[10]⟩=dS d (j+1):=by
 rw [lJ hx,mm,fj,if_neg (by rw [hi];simp)]
 simp only [xbJ]
theorem wK {d:Drv} (h:d.1.size≤24):(dS d 0).size≤1000+200*0:=by
 rw [dS,mm]
 have e4:(⟨#[100,114,118,32]⟩:ByteArray).size=4:=rfl
 have e1:(⟨#[10]⟩:ByteArray).size=1:=rfl
 simp only [xaC,e4,e1]
 omega
theorem zk (w:World) (d:Drv) (v1 v2:Value) (h:aK w w.heap.size d v1 v2) :
  Calls Tryz.prog 57 #[.agg (dC d v1 v2).toArray] w fun e w'=>∃ v,e=.returned (.tuple #[v,.int .i64 (fF d)])∧(fF d=0→∃ g cap,v=.slice (some ⟨g,0,none⟩) (eM d).size cap∧pN w' g (eM d)∧(eM d).size≤cap∧w.heap.size≤g∧g<w'.heap.size)∧Below w.heap.size w w':=by
 have hnm:=h.name
 obtain ⟨A,cap,rfl,_,hcm,_,hA⟩:=ak h.ins
 obtain ⟨A2,cap2,rfl,_,hcm2,_,hA2⟩:=ak h.rcp
 simp only [maxLen] at hcm hcm2
 have H0:=Mem.start w
 go_enter Tryz.func57,Tryz.ntmps57
 refine sk fun _ K1=>rl ?_
 refine bx 26 (dC d (.slice A d.2.1.length cap) (.slice A2 d.2.2.length cap2)) fun w2 hn_=>?_
 have H3:=Mem.bh H0 hn_
 refine rn ?_
 refine nt (K1 _ _ (sk fun _ K4=>sk fun _ K5=>rl ?_))
 refine rv (xld (Blk.range (Mem.blk H3 0 rfl)) Tryz.underlying26 (bL d (.slice A d.2.1.length cap) (.slice A2 d.2.2.length cap2))) ?_
 obtain ⟨bc,hbc⟩:∃ b,iM d=b:=⟨_,rfl⟩
 refine ac (y7 w2 d _ _ (Mem.drv H3 h) bc hbc) ?_
 rintro e w6 ⟨rfl,hb8⟩
 refine ⟨_,rfl,rn ?_⟩
 have H7:=Mem.call H3 hb8
 cases bc
 ·refine rn ?_
  refine nt (K5 _ _ (ct (sk fun _ K9=>rl ?_)))
  refine nt (K9 _ _ ?_)
  refine wp_ret ?_
  simp only [Exit.then]
  refine bodyPost_ret (cB (r1:=.tmp 2) (r2:=.tmp 3) rfl ⟨rfl,rfl,trivial⟩) rfl ?_
  have hpe:fF d=2:=by unfold fF;rw [if_neg (by rw [hbc];simp)]
  rw [hpe]
  exact ⟨_,rfl,(fun h=>by cases h),Mem.below H7⟩
 ·obtain ⟨hn9,hl8,hr9⟩:=lj hbc
  have hln:=mS hbc
  have hn24:=du hn9
  refine rn ?_
  refine nt (K5 _ _ (cf (ks (K4 _ _ (sk fun _ K10=>rl ?_)))))
  refine rp w.heap.size 0 ?_
  refine rv (xlc (range_cell (ga (Blk.range (Mem.blk H7 0 rfl)))) Tryz.underlying9) ?_
  refine rv (kj ((⟨#[100,114,118,32]⟩:ByteArray)) (d.1) (by have e0:(⟨#[100,114,118,32]⟩:ByteArray).size=4:=rfl;simp only [e0];omega)) ?_
  refine rv (kj ((⟨#[100,114,118,32]⟩:ByteArray)++d.1) ((⟨#[10]⟩:ByteArray)) (by have e0:(⟨#[100,114,118,32]⟩:ByteArray).size=4:=rfl;have e1:(⟨#[10]⟩:ByteArray).size=1:=rfl;simp only [xaC,e0,e1];omega)) ?_
  refine nt (K10 _ _ (sk fun _ K11=>sk fun _ K12=>rl ?_))
  refine nt (K12 _ _ (wp_block ?_))
  go_loopw [4,5] (fun x4 x5 wr=>∃ j:Nat,x4=.string ((dS d j))∧x5=.int .i64 (j:Int)∧(j≤d.2.1.length)∧((dS d j).size≤1000+200*j)∧Mem w wr [cC (w.heap.size) 26 (dC d (.slice A d.2.1.length cap) (.slice A2 d.2.2.length cap2)).toArray]) (fun x4 x5 _=>d.2.1.length-(intOf x5).toNat)
  case atStart=>exact ⟨0,rfl,rfl,by omega,wK hn24,H7⟩
  case round =>
   obtain ⟨wo13,rfl⟩:∃ wo13,wo13=wr:=⟨_,rfl⟩
   obtain ⟨j,rfl,rfl,hj,hos,H14⟩:=hrel
   refine sk fun _ K16=>sk fun _ K17=>rl ?_
   refine rp w.heap.size 1 ?_
   refine rv (xlc (range_cell (cD (Blk.range (Mem.blk H14 0 rfl)))) Tryz.underlying23) ?_
   by_cases p18:(j:Int)<((d.2.1.length:Nat):Int)
   ·refine rv (aA (decide_eq_true p18)) ?_
    refine nt (K17 _ _ (ct (ks (K16 _ _ (sk fun _ K19=>wp_block (sk fun _ K20=>rl ?_))))))
    refine rp w.heap.size 1 ?_
    refine rv (xlc (range_cell (cD (Blk.range (Mem.blk H14 0 rfl)))) Tryz.underlying23) ?_
    obtain ⟨b21,o22,rfl,hlt24,hE23⟩:=hA (by omega)
    obtain ⟨x25,hx26⟩:=gx (l:=d.2.1) (j:=j)
    have hd27:=ay hx26
    obtain ⟨cs,hr28,ha29⟩:=hE23 (j) x25 hx26
    obtain ⟨rfl,ok30⟩:=bw.1 ha29
    have hx24:=(hln _ (xak hx26)).1
    refine rv (dy (j) Tryz.underlying23 aY) ?_
    refine rv (xld (Mem.range H14 hr28 hlt24) Tryz.underlying87 (dD ok30)) ?_
    refine nz 87 zcN fun w31 hn_=>?_
    have H32:=Mem.bh H14 hn_
    refine rn ?_
    refine stb (Mem.blk H32 0 rfl) (iJ ok30) (dr om (iJ ok30)) (tw x25) fun w33 hk_ hg_=>?_
    have H34:=Mem.st H32 0 rfl hk_ hg_
    refine rn ?_
    refine nt (K20 _ _ (sk fun _ K35=>rl ?_))
    refine rp wo13.heap.size 1 ?_
    refine rp wo13.heap.size 42 ?_
    obtain ⟨b36,hb36⟩:∃ b,x25.2.2.2=b:=⟨_,rfl⟩
    refine rv (v:=.bool b36) (by rw [← hb36];exact (exec_load_cell 4 (.tmp 29) rfl ⟨wo13.heap.size,42,none⟩ rfl _ _ w33 Tryz.underlying4 rfl (range_cell (iI ok30.2 (cS (Blk.range (Mem.blk H34 0 rfl))))))) ?_
    refine nt (K35 _ _ ?_)
    cases b36
    ·refine cf (sk fun _ K37=>rl ?_)
     refine rp wo13.heap.size 1 ?_
     refine rp wo13.heap.size 1 ?_
     refine rv (xld (jX (cS (Blk.range (Mem.blk H34 0 rfl)))) Tryz.underlying83 (cj ok30.2.1)) ?_
     have hp38:=(hln _ (xak hx26)).2 hb36
     have hzhp38:(fS x25.2.1).size≤65:=by have h1:=dq x25.2.1.1;have h2:x25.2.1.1.length=20:=ok30.2.1.1;have h3:=du hp38;rw [ka];omega
     refine ac (wX x25.2.1 ok30.2.1 hp38 w33) ?_
     rintro e w39 ⟨rfl,hb41⟩
     refine ⟨_,rfl,rn ?_⟩
     have H40:=Mem.call H34 hb41
     refine rn ?_
     refine nt (K37 _ _ (rl ?_))
     refine rv (kj ((dS d j)) ((⟨#[115,114,99,32]⟩:ByteArray)) (by have e0:(⟨#[115,114,99,32]⟩:ByteArray).size=4:=rfl;simp only [e0];omega)) ?_
     refine rp wo13.heap.size 0 ?_
     refine rv (xlc (range_cell (kN (Blk.range (Mem.blk H40 0 rfl)))) Tryz.underlying9) ?_
     refine rv (kj ((dS d j)++(⟨#[115,114,99,32]⟩:ByteArray)) (x25.1) (by have e0:(⟨#[115,114,99,32]⟩:ByteArray).size=4:=rfl;simp only [xaC,e0];omega)) ?_
     refine rv (kj ((dS d j)++(⟨#[115,114,99,32]⟩:ByteArray)++x25.1) ((⟨#[32]⟩:ByteArray)) (by have e0:(⟨#[115,114,99,32]⟩:ByteArray).size=4:=rfl;have e1:(⟨#[32]⟩:ByteArray).size=1:=rfl;simp only [xaC,e0,e1];omega)) ?_
     refine rv (kj ((dS d j)++(⟨#[115,114,99,32]⟩:ByteArray)++x25.1++(⟨#[32]⟩:ByteArray)) ((fS x25.2.1)) (by have e0:(⟨#[115,114,99,32]⟩:ByteArray).size=4:=rfl;have e1:(⟨#[32]⟩:ByteArray).size=1:=rfl;simp only [xaC,e0,e1];omega)) ?_
     refine rv (kj ((dS d j)++(⟨#[115,114,99,32]⟩:ByteArray)++x25.1++(⟨#[32]⟩:ByteArray)++(fS x25.2.1)) ((⟨#[10]⟩:ByteArray)) (by have e0:(⟨#[115,114,99,32]⟩:ByteArray).size=4:=rfl;have e1:(⟨#[32]⟩:ByteArray).size=1:=rfl;have e2:(⟨#[10]⟩:ByteArray).size=1:=rfl;simp only [xaC,e0,e1,e2];omega)) ?_
     refine wpList_nil ?_
     refine al (ab (K19 _ _ (rl ?_)))
     refine rv (aL (((j+1:Nat):Int))) ?_
     refine wpList_nil ?_
     have le6:(⟨#[99,108,97,115,115,32]⟩:ByteArray).size=6:=rfl
     have le4:(⟨#[115,114,99,32]⟩:ByteArray).size=4:=rfl
     have le1:(⟨#[32]⟩:ByteArray).size=1:=rfl
     have le1b:(⟨#[10]⟩:ByteArray).size=1:=rfl
     have hx24:=(hln _ (xak hx26)).1
     have ho42:=yV hx26 hb36
     have H43:=Mem.pick H40 [1] (by decide) rfl
     refine ab ?_
     show _∧_
     go_roundw
     case rel=>exact ⟨(j+1),(congrArg xaY ho42),rfl,by omega,by rw [← ho42];simp only [xaC,le4,le1,le1b];omega,H43⟩
     case measure=>simp [intOf];omega
    ·refine ct ?_
     obtain ⟨S44,hS44⟩:∃ S:ByteArray,S=⟨(aQ x25.2.2.1).toArray⟩:=⟨_,rfl⟩
     have hzS44:S44.size≤40:=qt ok30.2.2 hS44
     refine Fre.aV (X:=Bel) [] (by kernel_rfl) (by kernel_rfl) (by simp) (by simp) (by simp) ?_
     refine Fre.rmd ?_
     refine Fre.mvv (fun _ _=>kj ((dS d j)) ((⟨#[99,108,97,115,115,32]⟩:ByteArray)) (by have e0:(⟨#[99,108,97,115,115,32]⟩:ByteArray).size=6:=rfl;simp only [e0];omega)) ?_
     refine Fre.mvv (v:=.pointer (some ⟨wo13.heap.size,0,none⟩)) (fun _ _=>by kernel_rfl) ?_
     refine Fre.mvv (fun W9 hW9=>xlc (range_cell (kN (Blk.range (Mem.blk (Mem.call H34 hW9) 0 rfl)))) Tryz.underlying9) ?_
     refine Fre.mvv (fun _ _=>kj ((dS d j)++(⟨#[99,108,97,115,115,32]⟩:ByteArray)) (x25.1) (by have e0:(⟨#[99,108,97,115,115,32]⟩:ByteArray).size=6:=rfl;simp only [xaC,e0];omega)) ?_
     refine Fre.mvv (fun _ _=>kj ((dS d j)++(⟨#[99,108,97,115,115,32]⟩:ByteArray)++x25.1) ((⟨#[32]⟩:ByteArray)) (by have e0:(⟨#[99,108,97,115,115,32]⟩:ByteArray).size=6:=rfl;have e1:(⟨#[32]⟩:ByteArray).size=1:=rfl;simp only [xaC,e0,e1];omega)) ?_
     refine Fre.mvv (v:=.pointer (some ⟨wo13.heap.size,1,none⟩)) (fun _ _=>by kernel_rfl) ?_
     refine Fre.mvv (v:=.pointer (some ⟨wo13.heap.size,22,none⟩)) (fun _ _=>by kernel_rfl) ?_
     refine Fre.mvv (fun W9 hW9=>xld (lz ok30.2 (cS (Blk.range (Mem.blk (Mem.call H34 hW9) 0 rfl)))) Tryz.underlying34 (cP ok30.2.2)) ?_
     refine Fre.mc (fun W9 hW9=>oc x25.2.2.1 ok30.2.2 S44 hS44 W9) ?_
     refine Fre.rmd ?_
     refine Fre.mvv (fun _ _=>kj ((dS d j)++(⟨#[99,108,97,115,115,32]⟩:ByteArray)++x25.1++(⟨#[32]⟩:ByteArray)) (S44) (by have e0:(⟨#[99,108,97,115,115,32]⟩:ByteArray).size=6:=rfl;have e1:(⟨#[32]⟩:ByteArray).size=1:=rfl;simp only [xaC,e0,e1];omega)) ?_
     refine Fre.mvv (fun _ _=>kj ((dS d j)++(⟨#[99,108,97,115,115,32]⟩:ByteArray)++x25.1++(⟨#[32]⟩:ByteArray)++S44) ((⟨#[10]⟩:ByteArray)) (by have e0:(⟨#[99,108,97,115,115,32]⟩:ByteArray).size=6:=rfl;have e1:(⟨#[32]⟩:ByteArray).size=1:=rfl;have e2:(⟨#[10]⟩:ByteArray).size=1:=rfl;simp only [xaC,e0,e1,e2];omega)) ?_
     intro w45 hx47
     dsimp only [Fre.ended,xas]
     have H46:=Mem.call H34 hx47
     refine al (ab (K19 _ _ (rl ?_)))
     refine rv (aL (((j+1:Nat):Int))) ?_
     refine wpList_nil ?_
     have le6:(⟨#[99,108,97,115,115,32]⟩:ByteArray).size=6:=rfl
     have le4:(⟨#[115,114,99,32]⟩:ByteArray).size=4:=rfl
     have le1:(⟨#[32]⟩:ByteArray).size=1:=rfl
     have le1b:(⟨#[10]⟩:ByteArray).size=1:=rfl
     have hx24:=(hln _ (xak hx26)).1
     have ho48:=yU hx26 hb36 hS44
     have H49:=Mem.pick H46 [1] (by decide) rfl
     refine ab ?_
     show _∧_
     go_roundw
     case rel=>exact ⟨(j+1),(congrArg xaY ho48),rfl,by omega,by rw [← ho48];simp only [xaC,le6,le1,le1b];omega,H49⟩
     case measure=>simp [intOf];omega
   ·have he50:=bJ (l:=d.2.1) (j:=j) (by omega)
    refine rv (aA (decide_eq_false p18)) ?_
    refine nt (K17 _ _ (cf (wp_exit (ai (ai (ax (ab (K11 _ _ (sk fun _ K51=>rl ?_)))))))))
    refine rv (kj ((dS d j)) ((⟨#[114,117,110,32]⟩:ByteArray)) (by have e0:(⟨#[114,117,110,32]⟩:ByteArray).size=4:=rfl;simp only [e0];omega)) ?_
    refine rp w.heap.size 2 ?_
    refine rv (xlc (range_cell (iS (Blk.range (Mem.blk H14 0 rfl)))) Tryz.underlying24) ?_
    obtain ⟨S52,hS52⟩:∃ S:ByteArray,(⟨(cH (d.2.2)).toArray⟩:ByteArray)=S:=⟨_,rfl⟩
    have hzS52:S52.size≤2*(d.2.2).length+1:=hS52▸sm _
    refine ac (wP wo13 (d.2.2) _ (Mem.lay H14 h.rcp) (by omega) S52 hS52) ?_
    rintro e w53 ⟨rfl,hb55⟩
    refine ⟨_,rfl,rn ?_⟩
    have H54:=Mem.call H14 hb55
    refine rv (kj ((dS d j)++(⟨#[114,117,110,32]⟩:ByteArray)) (S52) (by have e0:(⟨#[114,117,110,32]⟩:ByteArray).size=4:=rfl;simp only [xaC,e0];omega)) ?_
    refine rv (kj ((dS d j)++(⟨#[114,117,110,32]⟩:ByteArray)++S52) ((⟨#[10]⟩:ByteArray)) (by have e0:(⟨#[114,117,110,32]⟩:ByteArray).size=4:=rfl;have e1:(⟨#[10]⟩:ByteArray).size=1:=rfl;simp only [xaC,e0,e1];omega)) ?_
    refine nt (K51 _ _ (sk fun _ K56=>sk fun _ K57=>rl ?_))
    refine rv (v:=.int .i64 ((((dS d j)++(⟨#[114,117,110,32]⟩:ByteArray)++S52++(⟨#[10]⟩:ByteArray)).size:Nat):Int)) (by kernel_rfl) ?_
    by_cases p58:2000<((((dS d j)++(⟨#[114,117,110,32]⟩:ByteArray)++S52++(⟨#[10]⟩:ByteArray)).size:Nat):Int)
    ·refine rv (sB (decide_eq_true p58)) ?_
     refine nt (K57 _ _ (ct (sk fun _ K59=>rl ?_)))
     refine nt (K59 _ _ ?_)
     refine wp_ret ?_
     simp only [Exit.then]
     refine bodyPost_ret (cB (r1:=.tmp 2) (r2:=.tmp 3) rfl ⟨rfl,rfl,trivial⟩) rfl ?_
     have hje:j=d.2.1.length:=by omega
     have ht9:(dS d j)++(⟨#[114,117,110,32]⟩:ByteArray)++S52++(⟨#[10]⟩:ByteArray)=eM d:=by rw [sw,mm,← hje];simp only [hS52,xbJ]
     have hsz:=p58
     rw [ht9] at hsz
     have hpe:fF d=3:=by unfold fF;rw [if_pos hbc,if_pos (by omega)]
     rw [hpe]
     exact ⟨_,rfl,(fun h=>by cases h),Mem.below H54⟩
    ·refine rv (sB (decide_eq_false p58)) ?_
     refine nt (K57 _ _ (cf (ks (K56 _ _ (sk fun _ K60=>rl ?_)))))
     refine js rfl 9 24 5 (.tmp 69) rfl Tryz.underlying9 Tryz.underlying24 Tryz.underlying5 ((dS d j)++(⟨#[114,117,110,32]⟩:ByteArray)++S52++(⟨#[10]⟩:ByteArray)) rfl ?_
     intro g63 c64 w61 ht65 hc66 hg67 hl68 hb69
     refine rn ?_
     have H62:=Mem.call H54 hb69
     refine rn ?_
     refine nt (K60 _ _ ?_)
     refine wp_ret ?_
     refine bodyPost_ret (cB (r1:=.tmp 2) (r2:=.tmp 3) rfl ⟨rfl,rfl,trivial⟩) rfl ?_
     have hje:j=d.2.1.length:=by omega
     have ht9:(dS d j)++(⟨#[114,117,110,32]⟩:ByteArray)++S52++(⟨#[10]⟩:ByteArray)=eM d:=by rw [sw,mm,← hje];simp only [hS52,xbJ]
     have hsz:=p58
     rw [ht9] at hsz
     rw [ht9] at ht65 hc66
     have hpe:fF d=0:=by unfold fF;rw [if_pos hbc,if_neg (by omega)]
     rw [hpe]
     exact ⟨_,rfl,fun _=>⟨g63,c64,congrArg (fun n=>xag (some ⟨g63,0,none⟩) n c64) (congrArg ByteArray.size ht9),ht65,hc66,xay (Mem.below H54).size hg67,hl68⟩,Mem.below H62⟩
end Go.Proofs.YtomnhnmciopiiaaGreat
end
section
namespace Go.Proofs.YtomnhnmciopiiaaGreat
open Go Go.RowKit Go.Maps
attribute [local irreducible] wpList
theorem BS (w:World) (d:Drv) (v1 v2:Value) (h:aK w w.heap.size d v1 v2) (e9:Int) (he:fF d=e9) :
  Calls Tryz.prog 57 #[.agg (dC d v1 v2).toArray] w fun e w'=>∃ v,e=.returned (.tuple #[v,.int .i64 e9])∧(e9=0→∃ g cap,v=.slice (some ⟨g,0,none⟩) (eM d).size cap∧pN w' g (eM d)∧(eM d).size≤cap∧w.heap.size≤g∧g<w'.heap.size)∧Below w.heap.size w w':=he▸zk w d v1 v2 h
theorem qY {l:List Hsh} (h:∀ z∈l,okH z) {c:Hsh} (hc:okH c):∀ z∈l++[c],okH z:=fun z hz=>by
 rcases xau.1 hz with hz | hz
 ·exact h z hz
 ·rw [xan.1 hz];exact hc
theorem fB {w:World} {d:Drv} {v1 v2:Value} (h:aK w w.heap.size d v1 v2):∀ c∈az d.2.1,okH c:=fun c hc=>by
 obtain ⟨x,hx,rfl⟩:=uy hc
 exact (h.Ca x hx).2.2
def inL {H:Type} [DecidableEq H] (kn:List H):List H→Bool
 | []=>true
 | c :: cs=>decide (c∈kn)&&inL kn cs
theorem Ae {H:Type} [DecidableEq H] (kn:List H):inL kn []=true:=rfl
theorem ym {H:Type} [DecidableEq H] (kn:List H) (c:H) (cs:List H):inL kn (c :: cs)=(decide (c∈kn)&&inL kn cs):=rfl
theorem uG {H:Type} [DecidableEq H] (kn:List H):∀ cs:List H,(cs.all fun c=>kn.contains c)=inL kn cs
 | []=>rfl
 | c :: cs=>by
  rw [List.all_cons,inL,uG kn cs,xbM]
theorem sg {H:Type} [DecidableEq H] (kn:List H) (x:Dr.It H) (l:List (Dr.It H)):Dr.cw kn (x :: l)=(x.ok&&(!decide (x.cls∈kn)&&(inL kn x.ins&&Dr.cw (kn++[x.cls]) l))):=by
 rw [Dr.cw,uG,xbM]
 simp only [Bool.and_assoc]
theorem lr (p:Prop) (i j:Decidable p):@decide p i=@decide p j:=by
 cases i<;>cases j<;>first | rfl | contradiction
theorem ke (kn:List Hsh) (x:Itm) (l:List Itm):Dr.cw kn ((x :: l).map itP)=(decide (fF x.2=0)&&(!decide (x.1∈kn)&&(inL kn (az x.2.2.1)&&Dr.cw (kn++[x.1]) (l.map itP)))):=by
 rw [List.map_cons,sg,lr (x.1∈kn) _ (@List.instDecidableMemOfLawfulBEq Hsh instBEqOfDecidableEq _ x.1 kn)]
 rfl
theorem pb (kn:List Hsh) (c:Hsh) (cs:List Hsh):inL kn (c :: cs)=(decide (c∈kn)&&inL kn cs):=by
 rw [ym,lr (c∈kn)]
theorem wS (kn:List Hsh):Dr.cw kn (([]:List Itm).map itP)=true:=rfl
theorem kf (w:World) (l:List Itm) (v:Value) (h:eJ.At w w.heap.size [v] l) (hl:∀ x∈l,x.2.2.1.length≤1000000) (hlen:l.length≤1000000) (b9:Bool) (hb:Dr.bR (l.map itP)=b9) :
  Calls Tryz.prog 36 #[v] w fun e w'=>e=.returned (.bool b9)∧Below w.heap.size w w':=by
 obtain ⟨A0,cap,rfl,_,hcm,_,hA⟩:=ak h
 simp only [maxLen] at hcm
 have H0:=Mem.start w
 go_enter Tryz.func36,Tryz.ntmps36
 refine sk fun _ K1=>rl ?_
 refine nt (K1 _ _ (sk fun _ K2=>rl ?_))
 refine nt (K2 _ _ (sk fun _ K3=>sk fun _ K4=>rl ?_))
 refine nt (K4 _ _ (wp_block ?_))
 have H0r:=Mem.dw H0 w.heap.size 34 20
 go_loopw [3,4] (fun x3 x4 wr=>∃ j:Nat,∃ kn:List Hsh,∃ A:Option Addr,∃ c:Nat,x3=.slice A kn.length c∧x4=.int .i64 (j:Int)∧(j≤l.length)∧(kn.length≤j)∧(∀ z∈kn,okH z)∧(Dr.cw kn ((l.drop j).map itP)=b9)∧Mem w wr [aq (w.heap.size) 34 20 (.slice A kn.length c) (kn).length ((kn).flatMap bv)]) (fun x3 x4 _=>l.length-(intOf x4).toNat)
 case atStart=>exact ⟨0,([]),none,0,rfl,rfl,by omega,(by simp),(fun _ h=>by cases h),hb,H0r⟩
 case round =>
  obtain ⟨wo5,rfl⟩:∃ wo5,wo5=wr:=⟨_,rfl⟩
  obtain ⟨j,kn,A,c,rfl,rfl,hj,hkl,hall,HEQ,H6⟩:=hrel
  refine sk fun _ K8=>sk fun _ K9=>rl ?_
  by_cases p10:(j:Int)<((l.length:Nat):Int)
  ·refine rv (aA (decide_eq_true p10)) ?_
   refine nt (K9 _ _ (ct (ks (K8 _ _ (sk fun _ K11=>wp_block (sk fun _ K12=>rl ?_))))))
   obtain ⟨b13,o14,rfl,hlt16,hE15⟩:=hA (by omega)
   obtain ⟨x17,hx18⟩:=gx (l:=l) (j:=j)
   have hd19:=ay hx18
   obtain ⟨cs,hr20,ha21⟩:=hE15 (j) x17 hx18
   obtain ⟨v22,v23,rfl,xo24,xd25⟩:=dx.1 ha21
   obtain ⟨A26,c27,rfl,hlc27,hmc27,_,hA28⟩:=ak xd25.ins
   obtain ⟨A29,c30,rfl,hlc30,hmc30,_,hA31⟩:=ak xd25.rcp
   simp only [maxLen] at hmc27 hmc30
   have hcs:(az x17.2.2.1).length≤1000000:=by have h1:=dZ x17.2.2.1 x17.2.2.1.length;rw [xaB] at h1;have h2:=hl _ (xak hx18);omega
   refine rv (dy (j) Tryz.underlying40 cY) ?_
   refine rp b13 (o14+j*23+20) ?_
   refine rv (xld (cg xo24 (Mem.range H6 hr20 hlt16)) Tryz.underlying26 (bL x17.2 (.slice A26 x17.2.2.1.length c27) (.slice A29 x17.2.2.2.length c30))) ?_
   obtain ⟨e33,he33⟩:∃ e,fF x17.2=e:=⟨_,rfl⟩
   refine ac (BS wo5 x17.2 _ _ (Mem.drv H6 xd25) e33 he33) ?_
   rintro e w35 ⟨v32,rfl,hg34,hb37⟩
   refine ⟨_,rfl,rn ?_⟩
   have H36:=Mem.call H6 hb37
   refine rn ?_
   refine nt (K12 _ _ (sk fun _ K38=>sk fun _ K39=>rl ?_))
   by_cases p40:e33=0
   ·refine rv (sC (decide_eq_true p40)) ?_
    refine rv (dy (j) Tryz.underlying40 cY) ?_
    refine rp b13 (o14+j*23) ?_
    refine rv (xld (cr (Mem.range H36 hr20 hlt16)) Tryz.underlying34 (cP xo24)) ?_
    obtain ⟨b41,hb41⟩:∃ b,decide (x17.1∈kn)=b:=⟨_,rfl⟩
    refine ac (fm w35 (kn) _ (ji (Mem.own H36 0 rfl) hall) x17.1 xo24 b41 hb41) ?_
    rintro e w42 ⟨rfl,hb44⟩
    refine ⟨_,rfl,rn ?_⟩
    have H43:=Mem.call H36 hb44
    cases b41
    ·refine rn ?_
     refine nt (K39 _ _ (cf (ks (K38 _ _ (sk fun _ K45=>rl ?_)))))
     refine rv (dy (j) Tryz.underlying40 cY) ?_
     refine rp b13 (o14+j*23+20) ?_
     refine rv (xld (cg xo24 (Mem.range H43 hr20 hlt16)) Tryz.underlying26 (bL x17.2 (.slice A26 x17.2.2.1.length c27) (.slice A29 x17.2.2.2.length c30))) ?_
     refine ac (eK w42 x17.2 _ _ (Mem.drv H43 xd25) (hl _ (xak hx18))) ?_
     rintro e w50 ⟨A46,c47,rfl,hm48⟩
     refine ⟨_,rfl,rn ?_⟩
     have H51:=Mem.seq H43 hm48
     refine rn ?_
     refine nt (K45 _ _ (sk fun _ K53=>sk fun _ K54=>rl ?_))
     refine nt (K54 _ _ (wp_block ?_))
     go_loopw [8] (fun x8 wr=>∃ k:Nat,x8=.int .i64 (k:Int)∧(k≤(az x17.2.2.1).length)∧((inL kn ((az x17.2.2.1).drop k)&&Dr.cw (kn++[x17.1]) ((l.drop (j+1)).map itP))=b9)∧Mem w wr [aq (w42.heap.size) 34 20 (.slice A46 (az x17.2.2.1).length c47) ((az x17.2.2.1)).length (((az x17.2.2.1)).flatMap bv),aq (w.heap.size) 34 20 (.slice A kn.length c) (kn).length ((kn).flatMap bv)]) (fun x8 _=>(az x17.2.2.1).length-(intOf x8).toNat)
     case atStart=>exact ⟨0,rfl,by omega,(by have h:=HEQ;simp only [ke,xbe,decide_true,hd19,he33,p40,hb41,Bool.not_false] at h;exact h),H51⟩
     case round =>
      obtain ⟨wo55,rfl⟩:∃ wo55,wo55=wr:=⟨_,rfl⟩
      obtain ⟨k,rfl,hk,HEQ2,H56⟩:=hrel
      refine sk fun _ K58=>sk fun _ K59=>rl ?_
      by_cases p60:(k:Int)<(((az x17.2.2.1).length:Nat):Int)
      ·refine rv (aA (decide_eq_true p60)) ?_
       refine nt (K59 _ _ (ct (ks (K58 _ _ (sk fun _ K61=>wp_block (sk fun _ K62=>rl ?_))))))
       obtain ⟨b63,rfl,hlt66⟩:=aE (Mem.own H56 0 rfl) (by omega)
       obtain ⟨x67,hx68⟩:=gx (l:=(az x17.2.2.1)) (j:=k)
       have hd69:=ay hx68
       have ok70:=(fB xd25) _ (xak hx68)
       refine rv (aT (k) Tryz.underlying27 cK) ?_
       refine rv (xld (dO (f:=bv) (by decide) (Mem.own H56 0 rfl) (fun z hz=>by rw [bvL];exact (fB xd25) z hz) hx68) Tryz.underlying34 (cP ok70)) ?_
       obtain ⟨b71,hb71⟩:∃ b,decide (x67∈kn)=b:=⟨_,rfl⟩
       refine ac (fm wo55 (kn) _ (ji (Mem.own H56 1 rfl) hall) x67 ok70 b71 hb71) ?_
       rintro e w72 ⟨rfl,hb74⟩
       refine ⟨_,rfl,rn ?_⟩
       have H73:=Mem.call H56 hb74
       cases b71
       ·refine rn ?_
        refine nt (K62 _ _ (ct (sk fun _ K75=>rl ?_)))
        refine nt (K75 _ _ (rt ?_))
        refine ⟨?_,Mem.below H73⟩
        have h:=HEQ2
        simp only [pb,xaZ,hd69,hb71] at h
        subst h
        rfl
       ·refine rn ?_
        refine nt (K62 _ _ (cf ?_))
        refine wp_skip ?_
        refine al (ab (K61 _ _ (rl ?_)))
        refine rv (aL (((k+1:Nat):Int))) ?_
        refine wpList_nil ?_
        refine ab ?_
        show _∧_
        go_roundw
        case rel=>exact ⟨(k+1),rfl,by omega,(by have h:=HEQ2;simp only [pb,xbe,hd69,hb71] at h;exact h),H73⟩
        case measure=>simp [intOf];omega
      ·have he76:=bJ (l:=(az x17.2.2.1)) (j:=k) (by omega)
       refine rv (aA (decide_eq_false p60)) ?_
       refine nt (K59 _ _ (cf (wp_exit (ai (ai (ax (ab (K53 _ _ (rl ?_)))))))))
       refine rv (dy (j) Tryz.underlying40 cY) ?_
       refine rp b13 (o14+j*23) ?_
       refine rv (xld (cr (Mem.range H56 hr20 hlt16)) Tryz.underlying34 (cP xo24)) ?_
       refine aG rfl 27 (.tmp 59) rfl 34 20 (.agg zcH) (.agg (bv x17.1).toArray) rfl Tryz.underlying27 cK (by decide) (by decide) (fun w=>by kernel_rfl) (by rw [Value.cells,xal,bvL];exact xo24) ?_
       intro w77 hn
       have H78:=Mem.bh H56 hn
       clear hn
       refine rn ?_
       obtain ⟨inm34,iq34,ir34,is34,it34⟩:=info_parts dM
       refine aD rfl _ _ 27 rfl (w.heap.size) 34 _ _ 20 20 Tryz.underlying27 iq34 ir34 is34 it34 rfl (by decide) (.slice A kn.length c) ((kn).length) ((kn).flatMap bv) (Mem.own H78 2 rfl) ((some ⟨wo55.heap.size,0,none⟩)) (1) (1) (bv x17.1) (bl (n:=20) (m:=1) (Mem.blk H78 0 rfl) (by rw [bvL];exact xo24) (bv1 _)) ?hmt79 ?hbt79 ?hzt79 rfl rfl ?_
       case hmt79=>simp only [maxLen];omega
       case hbt79=>omega
       case hzt79=>exact (Mem.below H78).size
       intro u82 w80 ow85 gr86 hp87
       refine rn ?_
       have ow85:w80.ownsRow (w.heap.size) 34 20 u82 (kn++[x17.1]).length ((kn++[x17.1]).flatMap bv):=by first | simpa using ow85 | (simp at ow85 ⊢;exact ow85)
       obtain ⟨A83,c84,rfl⟩:=aI ow85
       have H81:=Mem.app H78 2 rfl ow85 gr86 hp87
       clear ow85 gr86 hp87
       refine rn ?_
       refine wpList_nil ?_
       refine al (ab (K11 _ _ (rl ?_)))
       refine rv (aL (((j+1:Nat):Int))) ?_
       refine wpList_nil ?_
       have H88:=Mem.pick H81 [2] (by decide) rfl
       refine ab ?_
       show _∧_
       go_roundw
       case rel=>exact ⟨(j+1),((kn++[x17.1])),A83,c84,rfl,rfl,by omega,(by simp only [xap,xa0];omega),(qY hall xo24),(by have h:=HEQ2;simp only [Ae,xbe,he76] at h;exact h),H88⟩
       case measure=>simp [intOf];omega
    ·refine rn ?_
     refine nt (K39 _ _ (ct (sk fun _ K89=>rl ?_)))
     refine nt (K89 _ _ (rt ?_))
     refine ⟨?_,Mem.below H43⟩
     have h:=HEQ
     simp only [ke,xbe,xaZ,decide_true,hd19,he33,p40,hb41,Bool.not_true] at h
     subst h
     rfl
   ·refine rv (sC (decide_eq_false p40)) ?_
    refine nt (K39 _ _ (ct (sk fun _ K90=>rl ?_)))
    refine nt (K90 _ _ (rt ?_))
    refine ⟨?_,Mem.below H36⟩
    have h:=HEQ
    simp only [ke,xaZ,decide_false,hd19,he33,p40] at h
    subst h
    rfl
  ·have he91:=bJ (l:=l) (j:=j) (by omega)
   refine rv (aA (decide_eq_false p10)) ?_
   refine nt (K9 _ _ (cf (wp_exit (ai (ai (ax (ab (K3 _ _ (sk fun _ K92=>rl ?_)))))))))
   refine nt (K92 _ _ (rt ?_))
   refine ⟨?_,Mem.below H6⟩
   have h:=HEQ
   simp only [wS,he91] at h
   subst h
   rfl
end Go.Proofs.YtomnhnmciopiiaaGreat
end
section
namespace Go.Proofs.YtomnhnmciopiiaaGreat
open Go Go.RowKit Go.Maps
theorem AH {w:World} {B B' s n:Nat} {t:TypeId} {u:Value} {xs:List Value} (h:w.ownsRow B t s u n xs) (hB:B'≤B):w.ownsRow B' t s u n xs:=by
 obtain ⟨h1,h2⟩:=h
 refine ⟨h1,?_⟩
 rcases h2 with h2 | ⟨g,cap,cur,e,hg,h3⟩
 ·exact .inl h2
 ·exact .inr ⟨g,cap,cur,e,xay hB hg,h3⟩
theorem yF {P:Program} {f:FuncId} {args:Array Value} {w W:World} {n s:Nat} {t:TypeId} {xs:List Value} (h:Calls P f args W fun e w'=>∃ A cap,e=.returned (.slice A n cap)∧Mem W w' [aq W.heap.size t s (.slice A n cap) n xs]) (hx:Bel w W) :
  Calls P f args W fun e w'=>∃ u,e=.returned u∧Fre.Ext Bel W w'∧xu w (fun u=>aq w.heap.size t s u n xs) u w':=by
 refine h.mono ?_
 rintro e w' ⟨A,cap,rfl,hm⟩
 exact ⟨_,rfl,hm.below,AH (Mem.own hm 0 rfl) hx.size,fun b hf=>⟨xay hx.size (hm.from_ 0 rfl hf).1,(hm.from_ 0 rfl hf).2⟩⟩
theorem sz {H:Type} [DecidableEq H] (x:Dr.It H) (l:List (Dr.It H)) (c:H):Dr.cy (x :: l) c=if c∈x.ins then x.cls :: Dr.cy l c else Dr.cy l c:=by
 unfold Dr.cy
 rw [List.filter_cons]
 by_cases h:c∈x.ins
 ·rw [if_pos h,if_pos (by rw [xbM];exact decide_eq_true h),List.map_cons]
 ·rw [if_neg h,if_neg (by rw [xbM,decide_eq_false h];simp)]
end Go.Proofs.YtomnhnmciopiiaaGreat
end
section
namespace Go.Proofs.YtomnhnmciopiiaaGreat
open Go Go.RowKit Go.Maps
def mtB (j:Nat):List UInt8:=[35,1,0,0,47,xaX j,0,0]
theorem rb {ρ:Operand→Value} {o:Oper} (src dst:TypeId) (x:Operand) (ho:o.op=.convert src dst x) (g:Nat) (hx:ρ x=.slice (some ⟨g,0,none⟩) 8 8) (l:List UInt8) (hl:l.length=8) (hs:Tryz.prog.underlying src=some (.slice 5)) (hd:Tryz.prog.underlying dst=some .string) (w:World) (hb:Blk w g 5 (bv l).toArray) :
  (execOp ρ o).run Tryz.prog w=.ok (.value (.string ⟨l.toArray⟩)) w:=by
 have h:=run_convert_bytes_back (P:=Tryz.prog) w src dst 5 ⟨g,0,none⟩ 8 l hs Tryz.underlying5 hd fun j hj=>by
  rw [Addr.add_mid,Nat.zero_add,hb.cell]
  simp [bv,hj]
 rw [hl] at h
 unfold execOp
 simp only [ho,hx,xaK,h,xaA,xaN]
theorem qy (j:Nat) (hj:j<12) (w:World):Calls Tryz.prog 125 #[.int .i64 1,.int .i64 (j:Int)] w fun e w'=>e=.returned (.string ⟨(mtB j).toArray⟩)∧Below w.heap.size w w':=by
 have h8:xbf .u8 (j:Int)=(j:Int):=zy _ (by omega) (by omega)
 have j0:(0:Int)≤(j:Int):=by omega
 have j9:(j:Int)<12:=by omega
 have q1:(j:Int) / 256=0:=by omega
 have q2:(j:Int) / 65536=0:=by omega
 have e8:((xaX j).toNat:Int)=(j:Int):=by rw [UInt8.toNat_ofNat'];omega
 obtain ⟨w2,hw2⟩:∃ w2,w2=w.alloc (.cells #[.int .u8 35,.int .u8 1,.int .u8 0,.int .u8 0,.int .u8 47,.int .u8 (j:Int),.int .u8 0,.int .u8 0] 5):=⟨_,rfl⟩
 have hb2:Below w.heap.size w w2:=by rw [hw2];exact (xaq _ w).alloc (xai _) _
 have hk2:Blk w2 w.heap.size 5 (bv (mtB j)).toArray:=by
  rw [hw2,show (bv (mtB j)).toArray=#[.int .u8 35,.int .u8 1,.int .u8 0,.int .u8 0,.int .u8 47,.int .u8 ((xaX j).toNat:Int),.int .u8 0,.int .u8 0] from rfl,e8]
  exact Blk.new _ _ _
 have H2:=ah (xae hb2 hk2)
 have HW:=ah hw2
 clear hb2 hk2 hw2 e8
 go_enter Tryz.func125,Tryz.ntmps125
 go_wp2_with ((with_reducible refine ag 22 ?_);refine aa rfl (.string ⟨(mtB j).toArray⟩) w2 (by rw [← HW.out];exact rb 24 9 (.tmp 21) rfl w.heap.size rfl (mtB j) rfl Tryz.underlying24 Tryz.underlying9 w2 H2.out.2) ?_)
 go_ret
 exact ⟨rfl,H2.out.1⟩
theorem Aw (j:Nat):(⟨(mtB j).toArray⟩:ByteArray).size≤maxLen:=of_decide_eq_true (by kernel_rfl)
theorem Mem.make {w0 w w':World} {L:List Ent} {t:TypeId} {s n:Nat} {c:Nat} {xs:List Value} (h:Mem w0 w L) (ho:w'.ownsRow w0.heap.size t s (.slice (some ⟨w.heap.size,0,none⟩) n c) n xs) (hg:w.grownBy w' none):Mem w0 w' (aq w0.heap.size t s (.slice (some ⟨w.heap.size,0,none⟩) n c) n xs :: L) :=
 h.new ((xaq _ w).grown hg (xai _) (fun _ hb=>by cases hb)) (cM _ _ _ _ _ _) ho fun b hf=>by
  have e:some w.heap.size=some b:=hf
  injection e with e
  subst e
  exact ⟨xai _,(World.ownsRow.lt ho _ rfl).2⟩
theorem kQ {w:World} {B s n cap:Nat} {A:Option Addr} {t:TypeId} {xs:List Value} (h:w.ownsRow B t s (.slice A n cap) n xs):n≤cap∧cap≤maxLen:=by
 obtain ⟨_,h2⟩:=h
 rcases h2 with ⟨h2,_⟩ | ⟨g,c,cur,e,_,_,h3,h4,_⟩
 ·injection h2 with _ e2 e3
  subst e2 e3
  exact ⟨xai _,Nat.zero_le _⟩
 ·injection e with _ _ e3
  subst e3
  exact ⟨h3,h4⟩
theorem fK {P:Program} {ρ:Operand→Value} {o:Oper} (t e:TypeId) (x y:Operand) (ho:o.op=.slice t x none (some y) none) (A:Option Addr) (len cap n:Nat) (hx:ρ x=.slice A len cap) (hy:ρ y=.int .i64 (n:Int)) (hn:n≤cap) {s:Nat} (ht:P.underlying t=some (.slice e)) (hs:(P.info? e).map (·.size)=some s) (W:World) :
  (execOp ρ o).run P W=.ok (.value (.slice A n cap)) W:=by
 refine ie t x none (some y) none ho _ (fun w=>?_) W
 have e2:P.elem t=e:=by simp [Program.elem,ht]
 rw [hx,Option.map_some,hy,Option.map_none,run_sliceAt_slice w t _ _ _ _ (by rw [e2];exact ht)]
 have h:=run_slice_h (P:=P) w t A len cap (by rw [e2];exact ht) .i64 (n:Int) (by omega) (by omega)
 rw [h,e2]
 cases hi:P.info? e with
 | none=>simp [hi] at hs
 | some i =>
  have e0:A.map (fun a=>a.add 0)=A:=by cases A<;>simp [Addr.add]
  simp [sizeOf,typeInfo,hi,sliced,e0]
theorem kK {α:Type} {l:List α} {m:Nat→α} {j:Nat} {x:α} (h:(l++(xaf 12).map m)[j]?=some x) (hj:l.length≤j):x=m (j-l.length):=by
 have hlt:=(xah.1 h).1
 simp at hlt
 rw [List.getElem?_append_right hj,xaD,List.getElem?_range (by omega)] at h
 exact (xao h).symm
theorem rq {α:Type} {l r:List α} {j:Nat} {x y:α} (h:(l++r)[j]?=some x) (hy:l[j]?=some y):x=y:=by
 rw [List.getElem?_append_left (xah.1 hy).1,hy] at h
 exact (xao h).symm
theorem nJ {α:Type} (m:Nat→α) (j:Nat):(xaf j).map m++[m j]=(xaf (j+1)).map m:=by
 rw [List.range_succ,List.map_append]
 rfl
end Go.Proofs.YtomnhnmciopiiaaGreat
end
section
namespace Go.Proofs.YtomnhnmciopiiaaGreat
open Go Go.RowKit
section
variable {P:Program} {w:World} {ops:Array Oper} {rest:List Oper} {o:Oper} {a:Act} {Q:Exit→Act→World→Prop}
def qU (w w':World) (v v':Value) (n m:Nat):Prop :=
 (∃ g cap,v=.slice (some ⟨g,0,none⟩) n cap∧v'=.slice (some ⟨g,0,none⟩) (n+m) cap)∨(v'.ownBlock=some w.heap.size∧Below w.heap.size w w')
theorem wZ (base:Nat) (t ty e:TypeId) (i:TypeInfo) (z:Value) (size bytes:Nat) (ht:P.underlying t=some (.slice e)) (hi:P.info? e=some i) (hz:i.zero=some z)
  (hsize:i.size=size) (hby:i.bytes=bytes) (hzs:z.cells.size=size) (hsz:0<size) (v:Value) (n:Nat) (xs:List Value) (hown:w.ownsRow base e size v n xs)
  (A:Option Addr) (m c:Nat) (news:List Value) (hs:fY w size A m c news) (hm:0<m) (h63:n+m≤maxLen) (hbytes:(n+m)*bytes≤140737488355328) (hbase:base≤w.heap.size) :
  ∃ v' w',(Builtin.append_ #[t,t] ty #[v,.slice A m c]).run P w=.ok v' w'∧w'.ownsRow base e size v' (n+m) (xs++news)∧w.grownBy w' v.ownBlock∧qU w w' v v' n m:=by
 obtain ⟨v',w',hr,h2,h3,_,_⟩:=si (P:=P) (w:=w) base t ty e i z size bytes ht hi hz hsize hby hzs hsz v n xs hown A m c news hs h63 hbytes hbase
 refine ⟨v',w',hr,h2,h3,?_⟩
 rcases A with _ | ad
 ·have:=(hs.none_ rfl).1;omega
 have hsmall:n+m≤9223372036854775807:=by simp only [maxLen] at h63;omega
 have hl:news.length=m*i.size:=by rw [hs.len,hsize]
 have hxl:xs.length=n*i.size:=by rw [hsize];exact hown.1
 rcases aR hown with ⟨rfl,rfl,rfl⟩ | ⟨g,cap,cur,rfl,hbg,hnc,hcm,hg,hcs,htake,_⟩
 ·have h:=run_append_nil (P:=P) w t ty e i z ht hi hz ad m c news hl (hs.cells ad rfl) hm (by omega) (by rw [hby];have hb:=hbytes;simp only [Nat.zero_add] at hb;omega)
  rw [hr] at h
  injection h with h4 h5
  subst h4 h5
  exact .inr ⟨rfl,((xaq _ _).drew).alloc (xai _) _⟩
 ·by_cases hroom:n+m≤cap
  ·have hlt:n*i.size+news.length≤cur.size:=by
    rw [hl,hsize,hcs,← Nat.add_mul]
    exact xa8 _ hroom
   have h:=run_append_room (P:=P) w t ty e i ht hi g n cap cur hg ad m c news hl (hs.cells ad rfl) hs.one hroom hlt
   rw [hr] at h
   injection h with h4 h5
   subst h4
   exact .inl ⟨g,cap,rfl,rfl⟩
  ·have holds:∀ j u,xs[j]?=some u→w.cell? ((⟨g,0,none⟩:Addr).add j)=some u:=hown.cells (g:=g) rfl
   have h:=run_append_grow (P:=P) w t ty e i z ht hi hz ⟨g,0,none⟩ n cap xs hxl holds ad m c news hl (hs.cells ad rfl) (by omega) (by omega) (growslice_fits (by omega) (by rw [hby];exact hbytes))
   rw [hr] at h
   injection h with h4 h5
   subst h4 h5
   exact .inr ⟨rfl,((xaq _ _).drew).alloc (xai _) _⟩
theorem cZ (hgd:o.guard=none) (s x:Operand) (t:TypeId)
  (ho:o.op=.call { callee:=.builtin .append,args:=#[s,x],argTypes:=#[t,t] })
  (base:Nat) (e:TypeId) (i:TypeInfo) (z:Value) (size bytes:Nat) (ht:P.underlying t=some (.slice e)) (hi:P.info? e=some i) (hz:i.zero=some z)
  (hsize:i.size=size) (hby:i.bytes=bytes) (hzs:z.cells.size=size) (hsz:0<size) (v:Value) (n:Nat) (xs:List Value) (hown:w.ownsRow base e size v n xs)
  (A:Option Addr) (m c:Nat) (news:List Value) (hsrc:fY w size A m c news) (hm:0<m) (h63:n+m≤maxLen) (hbytes:(n+m)*bytes≤140737488355328) (hbase:base≤w.heap.size)
  (hs:a.eval s=v) (hx:a.eval x=.slice A m c)
  (h:∀ v' w',w'.ownsRow base e size v' (n+m) (xs++news)→w.grownBy w' v.ownBlock→qU w w' v v' n m→wpList P ops Q rest (a.put o.dst v') w') :
  wpList P ops Q (o :: rest) a w:=by
 refine wpList_plain hgd fun K hK=>?_
 obtain ⟨v',w',hr,h2,h3,h4⟩:=wZ (P:=P) (w:=w) base t o.type e i z size bytes ht hi hz hsize hby hzs hsz v n xs hown A m c news hsrc hm h63 hbytes hbase
 unfold Oper.wp execOp
 simp only [ho,resolve,invoke,builtin,xaK,xaN,xaA,List.map_toArray,List.map_cons,List.map_nil,hs,hx,hr]
 exact hK _ _ (h v' w' h2 h3 h4)
end
structure PS where
 u:Value
 n:Nat
 xs:List Value
 v:Value
 m:Nat
 ys:List Value
def PS.self (u:Value) (n:Nat) (xs:List Value):PS:=⟨u,n,xs,u,n,xs⟩
def au (B:Nat) (t:TypeId) (s:Nat) (p:PS):Ent :=
 ⟨fun b=>p.u.ownBlock=some b∨p.v.ownBlock=some b,fun w=>w.ownsRow B t s p.u p.n p.xs∧w.ownsRow B t s p.v p.m p.ys∧∀ b,p.u.ownBlock=some b→p.v.ownBlock=some b→p.n≤p.m∧p.ys.take (p.n*s)=p.xs∧∃ cap,p.u=.slice (some ⟨b,0,none⟩) p.n cap∧p.v=.slice (some ⟨b,0,none⟩) p.m cap⟩
theorem gX (B:Nat) (t:TypeId) (s:Nat) (p:PS):(au B t s p).Ok:=fun _ _ h hk =>
 ⟨an h.1 fun g hg hl=>hk g (.inl hg) hl,an h.2.1 fun g hg hl=>hk g (.inr hg) hl,h.2.2⟩
theorem gY {B:Nat} {t:TypeId} {s:Nat} {u:Value} {n:Nat} {xs:List Value} {w:World} (h:w.ownsRow B t s u n xs):(au B t s (.self u n xs)).P w :=
 ⟨h,h,fun b h1 _=>by
  rcases aR h with ⟨e,_⟩ | ⟨g,cap,cur,e,_⟩
  ·rw [show (PS.self u n xs).u=u from rfl,e] at h1;cases h1
  ·have e2:(PS.self u n xs).u=u:=rfl
   rw [e2,e] at h1
   injection h1 with h1
   subst h1
   exact ⟨xai _,List.take_of_length_le (Nat.le_of_eq h.1),cap,e,e⟩⟩
theorem vG {w w':World} {B s n g:Nat} {t:TypeId} {u v:Value} {xs:List Value} (h:w.ownsRow B t s u n xs) (hg:w.grownBy w' v.ownBlock) (hn:∀ b,u.ownBlock=some b→v.ownBlock ≠ some b):w'.ownsRow B t s u n xs :=
 an h fun g hu hl=>hg.block g hl fun e=>hn g hu e.symm
theorem sb {B:Nat} {t:TypeId} {s:Nat} {p:PS} {w w':World} (h:(au B t s p).P w) {v':Value} {k:Nat} {news:List Value} (ho:w'.ownsRow B t s v' (p.m+k) (p.ys++news)) (hg:w.grownBy w' p.v.ownBlock) (hr:qU w w' p.v v' p.m k) :
  (au B t s ⟨p.u,p.n,p.xs,v',p.m+k,p.ys++news⟩).P w'∧∀ b,(au B t s ⟨p.u,p.n,p.xs,v',p.m+k,p.ys++news⟩).F b→(au B t s p).F b∨(w.heap.size≤b∧b<w'.heap.size):=by
 obtain ⟨h1,h2,h3⟩:=h
 rcases hr with ⟨g,cap,e1,e2⟩ | ⟨e1,hb⟩
 ·have hvb:p.v.ownBlock=some g:=by rw [e1];rfl
  have hvb':v'.ownBlock=some g:=by rw [e2];rfl
  refine ⟨⟨?_,ho,fun b hu hv=>?_⟩,fun b hf=>?_⟩
  ·by_cases hs:p.u.ownBlock=some g
   ·obtain ⟨hle,ht,cap',eu,ev⟩:=h3 g hs hvb
    rw [e1] at ev
    injection ev with _ _ ec
    subst ec
    have h4:=yY (e2▸ho) (k:=p.n) (by omega)
    have h5:(p.ys++news).take (p.n*s)=p.xs:=by
     rw [List.take_append_of_le_length (by rw [h2.1];exact xa8 _ hle)]
     exact ht
    rw [h5] at h4
    rw [show (PS.mk p.u p.n p.xs v' (p.m+k) (p.ys++news)).u=p.u from rfl,eu]
    exact h4
   ·exact vG (g:=g) h1 hg fun b hu hv=>by
     rw [hvb] at hv
     injection hv with hv
     subst hv
     exact hs hu
  ·have hbg:b=g:=by
    have hv:v'.ownBlock=some b:=hv
    rw [hvb'] at hv
    injection hv with hv
    exact hv.symm
   subst hbg
   obtain ⟨hle,ht,cap',eu,ev⟩:=h3 b hu hvb
   rw [e1] at ev
   injection ev with _ _ ec
   subst ec
   refine ⟨by show p.n≤p.m+k;omega,?_,cap,eu,e2⟩
   show (p.ys++news).take (p.n*s)=p.xs
   rw [List.take_append_of_le_length (by rw [h2.1];exact xa8 _ hle)]
   exact ht
  ·rcases hf with hf | hf
   ·exact .inl (.inl hf)
   ·have hf:v'.ownBlock=some b:=hf
    exact .inl (.inr (by rw [hvb];rw [hvb'] at hf;exact hf))
 ·refine ⟨⟨an h1 fun g hu hl=>hb.block g hl,ho,fun b hu hv=>?_⟩,fun b hf=>?_⟩
  ·exfalso
   have h5:=(aB h1 hu).2
   have hv:v'.ownBlock=some b:=hv
   rw [e1] at hv
   injection hv with hv
   omega
  ·rcases hf with hf | hf
   ·exact .inl (.inl hf)
   ·have hf:v'.ownBlock=some b:=hf
    have h6:=(aB ho hf).2
    rw [e1] at hf
    injection hf with hf
    exact .inr ⟨by omega,h6⟩
section
variable {w0 w w':World} {L:List Ent}
theorem Mem.sT {α:Type} {g:α→Ent} {st:Nat→α} {m k:Nat} {y:α} (h:Mem w0 w (Ent.all (xaf m) (fun i=>g (st i)) :: L)) (hk:k<m) {row:Option Nat} (hg:w.grownBy w' row) (hrow:∀ b,row=some b→(g (st k)).F b) (hok:∀ z,(g z).Ok) (hp:(g y).P w') (hF:∀ b,(g y).F b→(g (st k)).F b∨(w.heap.size≤b∧b<w'.heap.size)) :
  Mem w0 w' (Ent.all (xaf m) (fun i=>g (if i=k then y else st i)) :: L):=by
 have hP:=h.get (e:=Ent.all (xaf m) (fun i=>g (st i))) 0 rfl
 have hkm:k∈xaf m:=xbb.2 hk
 have hfar:∀ i,i<m→i ≠ k→Far (g (st i)).F (g (st k)).F:=fun i hi hne=>by
  have h1:=xaV.1 hP.2
  rcases Nat.lt_or_ge i k with hlt | hge
  ·have:=h1 i k (by simpa using hi) (by simpa using hk) hlt
   simpa using this
  ·have:=h1 k i (by simpa using hk) (by simpa using hi) (by omega)
   have h2:Far (g (st k)).F (g (st i)).F:=by simpa using this
   exact h2.symm
 have hlow:∀ i,i<m→∀ b,(g (st i)).F b→b<w.heap.size:=fun i hi b hb=>(h.lo (Ent.all (xaf m) (fun i=>g (st i))) (by simp) b ⟨i,xbb.2 hi,hb⟩).2
 refine h.upd (e:=Ent.all (xaf m) (fun i=>g (st i))) (e':=Ent.all (xaf m) (fun i=>g (if i=k then y else st i))) 0 rfl hg (fun b hb=>⟨k,hkm,hrow b hb⟩) (Ent.mL fun i _=>hok _) ⟨fun i hi=>?_,?_⟩ fun b ⟨i,hi,hf⟩=>?_
 ·have hi:=xbb.1 hi
  by_cases e:i=k
  ·simp only [if_pos e];exact hp
  ·simp only [if_neg e]
   exact hok _ w w' (hP.1 i (xbb.2 hi)) fun b hf hl=>hg.block b hl fun e2=>hfar i hi e b hf (hrow b e2.symm)
 ·refine xaV.2 fun a c ha hc hac=>?_
  simp only [List.length_range] at ha hc
  simp only [List.getElem_range]
  have key:∀ i,i<m→i ≠ k→Far (g y).F (g (st i)).F:=fun i hi hne b h1 h2=>by
   rcases hF b h1 with h3 | h3
   ·exact hfar i hi hne b h2 h3
   ·have:=hlow i hi b h2;omega
  by_cases e1:a=k
  ·rw [if_pos e1,if_neg (by omega)]
   exact key c hc (by omega)
  ·rw [if_neg e1]
   by_cases e2:c=k
   ·rw [if_pos e2]
    exact (key a ha e1).symm
   ·rw [if_neg e2]
    have:=xaV.1 hP.2 a c (by simpa using ha) (by simpa using hc) hac
    simpa using this
 ·have hi:=xbb.1 hi
  by_cases e:i=k
  ·simp only [if_pos e] at hf
   rcases hF b hf with h3 | h3
   ·exact .inl ⟨k,hkm,h3⟩
   ·exact .inr h3
  ·simp only [if_neg e] at hf
   exact .inl ⟨i,xbb.2 hi,hf⟩
theorem Mem.kE {α:Type} {g:α→Ent} {st:Nat→α} {m k:Nat} (h:Mem w0 w L) (i:Nat) (hi:L[i]?=some (Ent.all (xaf m) (fun i=>g (st i)))) (hk:k<m):(g (st k)).P w :=
 (h.get i hi).1 k (xbb.2 hk)
theorem Ent.all_congr {α:Type} {l:List α} {f f':α→Ent} (he:∀ x∈l,f x=f' x):Ent.all l f=Ent.all l f':=by
 unfold Ent.all
 congr 1
 ·funext b
  exact propext (exists_congr fun x=>and_congr_right fun hx=>by rw [he x hx])
 ·funext w
  refine propext (and_congr (forall_congr' fun x=>forall_congr' fun hx=>by rw [he x hx]) ⟨fun hp=>?_,fun hp=>?_⟩)
  ·exact hp.imp_of_mem fun {a b} ha hb hf=>by rw [← he a ha,← he b hb];exact hf
  ·exact hp.imp_of_mem fun {a b} ha hb hf=>by rw [he a ha,he b hb];exact hf
theorem Mem.bA {α:Type} {g:α→Ent} {st st':Nat→α} {m:Nat} (h:Mem w0 w (Ent.all (xaf m) (fun i=>g (st i)) :: L)) (he:∀ i,i<m→st i=st' i):Mem w0 w (Ent.all (xaf m) (fun i=>g (st' i)) :: L):=by
 rw [← Ent.all_congr (f:=fun i=>g (st i)) (f':=fun i=>g (st' i)) fun i hi=>by show g (st i)=g (st' i);rw [he i (xbb.1 hi)]]
 exact h
def kU (L:List Ent):Ent:=⟨fun b=>∃ e∈L,e.F b,fun w=>∀ e∈L,e.P w⟩
theorem y8 (h:∀ e∈L,e.Ok):(kU L).Ok:=fun w w' hp hk e he=>h e he w w' (hp e he) fun b hf hl=>hk b ⟨e,he,hf⟩ hl
theorem Mem.pack (K:List Ent) (h:Mem w0 w (K++L)):Mem w0 w (K++[kU L])∧(∀ e∈L,e.Ok)∧L.Pairwise fun x y=>Far x.F y.F:=by
 have hp:=xa7.1 h.far
 have hok:∀ e∈L,e.Ok:=fun e he=>h.ok e (List.mem_append_right _ he)
 refine ⟨⟨h.below,fun e he=>?_,fun e he=>?_,fun e he b hf=>?_,xa7.2 ⟨hp.1,by simp,fun x hx y hy b h1 h2=>?_⟩⟩,hok,hp.2.1⟩
 ·rcases xau.1 he with he | he
  ·exact h.ok e (xa1 _ he)
  ·rw [xan.1 he];exact y8 hok
 ·rcases xau.1 he with he | he
  ·exact h.holds e (xa1 _ he)
  ·rw [xan.1 he];exact fun x hx=>h.holds x (List.mem_append_right _ hx)
 ·rcases xau.1 he with he | he
  ·exact h.lo e (xa1 _ he) b hf
  ·rw [xan.1 he] at hf
   obtain ⟨x,hx,hf⟩:=hf
   exact h.lo x (List.mem_append_right _ hx) b hf
 ·rw [xan.1 hy] at h2
  obtain ⟨e,he,h2⟩:=h2
  exact hp.2.2 x hx e he b h1 h2
theorem Mem.unpack (K:List Ent) (h:Mem w0 w (K++[kU L])) (hok:∀ e∈L,e.Ok) (hfar:L.Pairwise fun x y=>Far x.F y.F):Mem w0 w (K++L):=by
 have hp:=xa7.1 h.far
 have hr:=h.holds (kU L) (by simp)
 refine ⟨h.below,fun e he=>?_,fun e he=>?_,fun e he b hf=>?_,xa7.2 ⟨hp.1,hfar,fun x hx y hy b h1 h2=>hp.2.2 x hx (kU L) (by simp) b h1 ⟨y,hy,h2⟩⟩⟩
 ·rcases xau.1 he with he | he
  ·exact h.ok e (xa1 _ he)
  ·exact hok e he
 ·rcases xau.1 he with he | he
  ·exact h.holds e (xa1 _ he)
  ·exact hr e he
 ·rcases xau.1 he with he | he
  ·exact h.lo e (xa1 _ he) b hf
  ·exact h.lo (kU L) (by simp) b ⟨e,he,hf⟩
end
end Go.Proofs.YtomnhnmciopiiaaGreat
end
section
namespace Go.Proofs.YtomnhnmciopiiaaGreat
open Go Go.RowKit Go.Maps
attribute [local irreducible] wpList
def mtG (k i:Nat):List UInt8:=[35,xaX k,xaX (k / 256),xaX (k / 65536),47,xaX i,xaX (i / 256),xaX (i / 65536)]
theorem nP (k i:Nat):(⟨(mtG k i).toArray⟩:ByteArray).size≤maxLen:=of_decide_eq_true (by kernel_rfl)
theorem my {P:Program} {ρ:Operand→Value} {o:Oper} (t r:TypeId) (x y:Operand) (ho:o.op=.binOp .shr t x y r) (a q d:Nat) (hx:ρ x=.int .i64 (a:Int)) (hy:ρ y=.int .u64 (q:Int)) (hq:q<64) (hd:d=2 ^ q) (W:World):(execOp ρ o).run P W=.ok (.value (.int .i64 ((a / d:Nat):Int))) W:=by
 subst hd
 unfold execOp
 simp [ho,hx,hy,go_sem,eqGuard,binOp]
theorem gI {ρ:Operand→Value} {o:Oper} (x:Operand) (ho:o.op=.convert 3 5 x) (a:Nat) (hx:ρ x=.int .i64 (a:Int)) (W:World):(execOp ρ o).run Tryz.prog W=.ok (.value (.int .u8 ((xaX a).toNat:Int))) W:=by
 unfold execOp
 simp [ho,hx,go_sem,convert,xbf,IntKind.signed,IntKind.bits]
theorem gE (k i:Nat) (w:World):Calls Tryz.prog 125 #[.int .i64 (k:Int),.int .i64 (i:Int)] w fun e w'=>e=.returned (.string ⟨(mtG k i).toArray⟩)∧Below w.heap.size w w':=by
 have H0:=Mem.start w
 go_enter Tryz.func125,Tryz.ntmps125
 refine sk fun _ K1=>rl ?_
 refine nt (K1 _ _ (sk fun _ K2=>rl ?_))
 refine rv (gI (.tmp 5) rfl k rfl w) ?_
 refine rv (my 3 139 (.tmp 7) (.const (.int .u64 8)) rfl k 8 256 rfl rfl (by decide) rfl w) ?_
 refine rv (gI (.tmp 8) rfl (k / 256) rfl w) ?_
 refine rv (my 3 139 (.tmp 10) (.const (.int .u64 16)) rfl k 16 65536 rfl rfl (by decide) rfl w) ?_
 refine rv (gI (.tmp 11) rfl (k / 65536) rfl w) ?_
 refine rv (gI (.tmp 13) rfl i rfl w) ?_
 refine rv (my 3 139 (.tmp 15) (.const (.int .u64 8)) rfl i 8 256 rfl rfl (by decide) rfl w) ?_
 refine rv (gI (.tmp 16) rfl (i / 256) rfl w) ?_
 refine rv (my 3 139 (.tmp 18) (.const (.int .u64 16)) rfl i 16 65536 rfl rfl (by decide) rfl w) ?_
 refine rv (gI (.tmp 19) rfl (i / 65536) rfl w) ?_
 obtain ⟨w8,hw8⟩:∃ w8,w8=w.alloc (.cells (bv (mtG k i)).toArray 5):=⟨_,rfl⟩
 have hn8:hI w w8 5 (bv (mtG k i)).toArray:=hw8▸cF _ _ _
 have H8:=Mem.bh H0 hn8
 refine rvw (v:=.slice (some ⟨w.heap.size,0,none⟩) 8 8) (w':=w8) (by rw [hw8];kernel_rfl) ?_
 refine rn ?_
 refine rv (rb 24 9 (.tmp 21) rfl w.heap.size rfl (mtG k i) rfl Tryz.underlying24 Tryz.underlying9 w8 (Mem.blk H8 0 rfl)) ?_
 refine nt (K2 _ _ (rt ?_))
 exact ⟨rfl,Mem.below H8⟩
def aM (k i:Nat):Nam:=(⟨(mtG k i).toArray⟩,(di,⟨#[]⟩),di,false)
theorem a8 (k i:Nat):okN (aM k i):=⟨nP k i,eN,fp⟩
theorem e6 (k i:Nat) (w:World):Calls Tryz.prog 82 #[.int .i64 (k:Int),.int .i64 (i:Int)] w fun e w'=>e=.returned (.agg (nC (aM k i)).toArray)∧Below w.heap.size w w':=by
 have H0:=Mem.start w
 go_enter Tryz.func82,Tryz.ntmps82
 refine sk fun _ K1=>rl ?_
 refine nz 87 zcN fun w2 hn_=>?_
 have H3:=Mem.bh H0 hn_
 refine rn ?_
 refine nt (K1 _ _ (sk fun _ K4=>rl ?_))
 refine ac (gE k i w2) ?_
 rintro e w5 ⟨rfl,hb7⟩
 refine ⟨_,rfl,rn ?_⟩
 have H6:=Mem.call H3 hb7
 refine rv (v:=.agg (nC (aM k i)).toArray) (by kernel_rfl) ?_
 refine stb (Mem.blk H6 0 rfl) (iJ (a8 k i)) (dr om (iJ (a8 k i))) (tw (aM k i)) fun w8 hk_ hg_=>?_
 have H9:=Mem.st H6 0 rfl hk_ hg_
 refine rn ?_
 refine nt (K4 _ _ ?_)
 refine wp_ret ?_
 refine bodyPost_ret (fl (r1:=.cell 4 87) rfl ⟨⟨_,rfl,im (Blk.range (Mem.blk H9 0 rfl)) Tryz.underlying87 rfl (dD (a8 k i))⟩,trivial⟩) rfl ?_
 exact ⟨rfl,Mem.below H9⟩
def aP (k i:Nat):Drv:=(⟨(mtG k i).toArray⟩,[],[])
theorem rQ (w:World) (B:Nat) (k i:Nat):aK w B (aP k i) (.slice none 0 0) (.slice none 0 0) :=
 ⟨nP k i,⟨none,0,rfl,xai _,Nat.zero_le _,(fun _=>rfl),fun h=>absurd h (Nat.lt_irrefl 0)⟩,⟨none,0,rfl,xai _,Nat.zero_le _,(fun _=>rfl),fun h=>absurd h (Nat.lt_irrefl 0)⟩⟩
theorem e5 (k i:Nat) (w:World):Calls Tryz.prog 151 #[.int .i64 (k:Int),.int .i64 (i:Int)] w fun e w'=>e=.returned (.agg (dC (aP k i) (.slice none 0 0) (.slice none 0 0)).toArray)∧Below w.heap.size w w':=by
 have H0:=Mem.start w
 go_enter Tryz.func151,Tryz.ntmps151
 refine sk fun _ K1=>rl ?_
 refine nz 26 zcD fun w2 hn_=>?_
 have H3:=Mem.bh H0 hn_
 refine rn ?_
 refine nt (K1 _ _ (sk fun _ K4=>rl ?_))
 refine ac (gE k i w2) ?_
 rintro e w5 ⟨rfl,hb7⟩
 refine ⟨_,rfl,rn ?_⟩
 have H6:=Mem.call H3 hb7
 refine rv (v:=.agg (dC (aP k i) (.slice none 0 0) (.slice none 0 0)).toArray) (by kernel_rfl) ?_
 refine stb (Mem.blk H6 0 rfl) (dF (aP k i) (.slice none 0 0) (.slice none 0 0)) (dr fX (dF (aP k i) (.slice none 0 0) (.slice none 0 0))) (lq (aP k i) rfl rfl) fun w8 hk_ hg_=>?_
 have H9:=Mem.st H6 0 rfl hk_ hg_
 refine rn ?_
 refine nt (K4 _ _ ?_)
 refine wp_ret ?_
 refine bodyPost_ret (fl (r1:=.cell 4 26) rfl ⟨⟨_,rfl,im (Blk.range (Mem.blk H9 0 rfl)) Tryz.underlying26 rfl (bL (aP k i) (.slice none 0 0) (.slice none 0 0))⟩,trivial⟩) rfl ?_
 exact ⟨rfl,Mem.below H9⟩
end Go.Proofs.YtomnhnmciopiiaaGreat
end
section
namespace Go.Proofs.YtomnhnmciopiiaaGreat
open Go Go.RowKit Go.Maps
attribute [local irreducible] wpList
def mkN (k i:Nat):Nat:=1000003*(k+7)+i
def mgB (k i:Nat):UInt8:=xaX (mkN k i*11400714819323198485 % 18446744073709551616 / 72057594037927936)
def bC (b:UInt8):List Value:=[.int .u8 (b.toNat:Int)]
theorem xS {ρ:Operand→Value} {o:Oper} (x:Operand) (ho:o.op=.convert 3 188 x) (a:Nat) (hx:ρ x=.int .i64 (a:Int)) (ha:a<9223372036854775808) (W:World):(execOp ρ o).run Tryz.prog W=.ok (.value (.int .u64 (a:Int))) W:=by
 unfold execOp
 simp [ho,hx,go_sem,convert,xbf,IntKind.signed,IntKind.bits]
 omega
theorem zY {P:Program} {ρ:Operand→Value} {o:Oper} (t r:TypeId) (x y:Operand) (ho:o.op=.binOp .mul t x y r) (a b:Nat) (hx:ρ x=.int .u64 (a:Int)) (hy:ρ y=.int .u64 (b:Int)) (W:World):(execOp ρ o).run P W=.ok (.value (.int .u64 ((a*b % 18446744073709551616:Nat):Int))) W:=by
 unfold execOp
 simp [ho,hx,hy,go_sem,eqGuard,binOp,xbf,IntKind.signed,IntKind.bits]
theorem z1 {P:Program} {ρ:Operand→Value} {o:Oper} (t r:TypeId) (x y:Operand) (ho:o.op=.binOp .shr t x y r) (a q d:Nat) (hx:ρ x=.int .u64 (a:Int)) (hy:ρ y=.int .u64 (q:Int)) (hq:q<64) (hd:d=2 ^ q) (W:World):(execOp ρ o).run P W=.ok (.value (.int .u64 ((a / d:Nat):Int))) W:=by
 subst hd
 unfold execOp
 simp [ho,hx,hy,go_sem,eqGuard,binOp]
theorem xR {ρ:Operand→Value} {o:Oper} (x:Operand) (ho:o.op=.convert 188 5 x) (a:Nat) (hx:ρ x=.int .u64 (a:Int)) (W:World):(execOp ρ o).run Tryz.prog W=.ok (.value (.int .u8 ((xaX a).toNat:Int))) W:=by
 unfold execOp
 simp [ho,hx,go_sem,convert,xbf,IntKind.signed,IntKind.bits]
theorem wj (k i:Nat) (hk:k≤2000000) (hi:i≤2000000) (w:World):Calls Tryz.prog 126 #[.int .i64 (k:Int),.int .i64 (i:Int)] w fun e w'=>e=.returned (.int .i64 ((mkN k i:Nat):Int))∧Below w.heap.size w w':=by
 have H0:=Mem.start w
 go_enter Tryz.func126,Tryz.ntmps126
 refine sk fun _ K1=>rl ?_
 refine nt (K1 _ _ (sk fun _ K2=>rl ?_))
 refine rv (aL (((k+7:Nat):Int))) ?_
 refine rv (xV 3 3 (.const (.int .i64 1000003)) (.tmp 6) rfl .i64 (1000003) (((k+7:Nat):Int)) (1000003*((k+7:Nat):Int)) rfl rfl (by first | (rw [xaS _ (by omega)];done) | (rw [xaS _ (by omega)];omega) | (rw [xaS _ (by omega)];push_cast;omega)) w) ?_
 refine rv (aL (1000003*((k+7:Nat):Int)+(i:Int))) ?_
 refine nt (K2 _ _ (rt ?_))
 exact ⟨by rw [show ((mkN k i:Nat):Int)=1000003*((k+7:Nat):Int)+(i:Int) by unfold mkN;omega];rfl,Mem.below H0⟩
theorem gq (k i:Nat) (hk:k≤2000000) (hi:i≤2000000) (w:World):Calls Tryz.prog 83 #[.int .i64 (k:Int),.int .i64 (i:Int)] w fun e w'=>e=.returned (.int .u8 ((mgB k i).toNat:Int))∧Below w.heap.size w w':=by
 have H0:=Mem.start w
 go_enter Tryz.func83,Tryz.ntmps83
 refine sk fun _ K1=>rl ?_
 refine nt (K1 _ _ (sk fun _ K2=>rl ?_))
 refine ac (wj k i hk hi w) ?_
 rintro e w3 ⟨rfl,hb5⟩
 refine ⟨_,rfl,rn ?_⟩
 have H4:=Mem.call H0 hb5
 refine rv (xS (.tmp 7) rfl (mkN k i) rfl (by unfold mkN;omega) w3) ?_
 refine rv (zY 188 188 (.tmp 8) (.const (.int .u64 11400714819323198485)) rfl (mkN k i) 11400714819323198485 rfl rfl w3) ?_
 refine rv (z1 188 139 (.tmp 9) (.const (.int .u64 56)) rfl (mkN k i*11400714819323198485 % 18446744073709551616) 56 72057594037927936 rfl rfl (by decide) (by decide) w3) ?_
 refine rv (xR (.tmp 10) rfl (mkN k i*11400714819323198485 % 18446744073709551616 / 72057594037927936) rfl w3) ?_
 refine nt (K2 _ _ (rt ?_))
 exact ⟨rfl,Mem.below H4⟩
end Go.Proofs.YtomnhnmciopiiaaGreat
end
section
namespace Go.Proofs.YtomnhnmciopiiaaGreat
open Go Go.RowKit Go.Maps
attribute [local irreducible] wpList
def dc (j:Nat):Nam:=(⟨(mtB j).toArray⟩,(di,⟨#[]⟩),di,false)
theorem eH (j:Nat):okN (dc j):=⟨Aw j,eN,fp⟩
theorem lE (j:Nat) (hj:j<12) (w:World):Calls Tryz.prog 82 #[.int .i64 1,.int .i64 (j:Int)] w fun e w'=>e=.returned (.agg (nC (dc j)).toArray)∧Below w.heap.size w w':=by
 have H0:=Mem.start w
 go_enter Tryz.func82,Tryz.ntmps82
 refine sk fun _ K1=>rl ?_
 refine nz 87 zcN fun w2 hn_=>?_
 have H3:=Mem.bh H0 hn_
 refine rn ?_
 refine nt (K1 _ _ (sk fun _ K4=>rl ?_))
 refine ac (qy j hj w2) ?_
 rintro e w5 ⟨rfl,hb7⟩
 refine ⟨_,rfl,rn ?_⟩
 have H6:=Mem.call H3 hb7
 refine rv (v:=.agg (nC (dc j)).toArray) (by kernel_rfl) ?_
 refine stb (Mem.blk H6 0 rfl) (iJ (eH j)) (dr om (iJ (eH j))) (tw (dc j)) fun w8 hk_ hg_=>?_
 have H9:=Mem.st H6 0 rfl hk_ hg_
 refine rn ?_
 refine nt (K4 _ _ ?_)
 refine wp_ret ?_
 refine bodyPost_ret (fl (r1:=.cell 4 87) rfl ⟨⟨_,rfl,im (Blk.range (Mem.blk H9 0 rfl)) Tryz.underlying87 rfl (dD (eH j))⟩,trivial⟩) rfl ?_
 exact ⟨rfl,Mem.below H9⟩
def fi (B:Nat) (A:Option Addr) (cap:Nat) (l:List Nam):Ent:=aq B 87 43 (.slice A (l++(xaf 12).map dc).length cap) (l++(xaf 12).map dc).length ((l++(xaf 12).map dc).flatMap nC)
theorem nD (w:World) (l:List Nam) (v:Value) (h:dv.At w w.heap.size [v] l) (hl:l.length≤1000000) :
  Calls Tryz.prog 52 #[v] w fun e w'=>∃ A cap,e=.returned (.slice A l.length cap)∧Mem w w' [fi w.heap.size A cap l]:=by
 obtain ⟨A0,cap,rfl,_,hcm,_,hA⟩:=ak h
 simp only [maxLen] at hcm
 unfold fi
 have H0:=Mem.start w
 go_enter Tryz.func52,Tryz.ntmps52
 refine sk fun _ K1=>rl ?_
 refine nt (K1 _ _ (sk fun _ K2=>rl ?_))
 refine rv (aL (((l.length+12:Nat):Int))) ?_
 obtain ⟨inm87,iq87,ir87,is87,it87⟩:=info_parts lA
 refine wpList_make_own _ rfl _ _ 23 rfl w.heap.size 87 _ _ 43 Tryz.underlying23 iq87 ir87 is87 _ _ _ (l.length+12) rfl rfl rfl (by rw [it87];omega) (by simp only [maxLen];omega) (Mem.below H0).size ?_
 intro w3 ow gr
 refine rn ?_
 have H4:=Mem.make H0 ow gr
 clear ow gr
 refine rn ?_
 refine nt (K2 _ _ (sk fun _ K6=>rl ?_))
 refine aD rfl _ _ 23 rfl (w.heap.size) 87 _ _ 43 80 Tryz.underlying23 iq87 ir87 is87 it87 rfl (by decide) (.slice (some ⟨w.heap.size,0,none⟩) 0 (l.length+12)) (0) ([]) (Mem.own H4 0 rfl) (A0) (l.length) (cap) ((l).flatMap nC) (jD (L:=lF) (f:=nC) (by decide) (fun h=>(bw.1 h).1) fQ (Mem.lay H4 h)).2 ?hmt7 ?hbt7 ?hzt7 rfl rfl ?_
 case hmt7=>simp only [maxLen];omega
 case hbt7=>omega
 case hzt7=>exact (Mem.below H4).size
 intro u10 w8 ow13 gr14 hp15
 refine rn ?_
 have ow13:w8.ownsRow (w.heap.size) 87 43 u10 (l).length ((l).flatMap nC):=by first | simpa using ow13 | (simp at ow13 ⊢;exact ow13)
 obtain ⟨A11,c12,rfl⟩:=aI ow13
 have H9:=Mem.app H4 0 rfl ow13 gr14 hp15
 clear ow13 gr14 hp15
 refine rn ?_
 refine nt (K6 _ _ (sk fun _ K16=>sk fun _ K17=>rl ?_))
 refine nt (K17 _ _ (wp_block ?_))
 go_loopw [3,4] (fun x3 x4 wr=>∃ j:Nat,∃ kn:List Nam,∃ A9:Option Addr,∃ c9:Nat,x3=.slice A9 kn.length c9∧x4=.int .i64 (j:Int)∧(j≤12)∧(kn=l++(xaf j).map dc)∧Mem w wr [aq (w.heap.size) 87 43 (.slice A9 kn.length c9) (kn).length ((kn).flatMap nC)]) (fun x3 x4 _=>12-(intOf x4).toNat)
 case atStart=>exact ⟨0,((l)),A11,c12,rfl,rfl,by omega,(by simp),H9⟩
 case round =>
  obtain ⟨wo18,rfl⟩:∃ wo18,wo18=wr:=⟨_,rfl⟩
  obtain ⟨j,kn,A9,c9,rfl,rfl,hj,hkn,H19⟩:=hrel
  have hln:kn.length=l.length+j:=by rw [hkn];simp
  refine sk fun _ K21=>sk fun _ K22=>rl ?_
  by_cases p23:(j:Int)<12
  ·refine rv (aA (decide_eq_true p23)) ?_
   refine nt (K22 _ _ (ct (ks (K21 _ _ (sk fun _ K24=>wp_block (rl ?_))))))
   refine ac (lE j (by omega) wo18) ?_
   rintro e w25 ⟨rfl,hb27⟩
   refine ⟨_,rfl,rn ?_⟩
   have H26:=Mem.call H19 hb27
   refine aG rfl 23 (.tmp 18) rfl 87 43 (.agg zcN) (.agg (nC (dc j)).toArray) rfl Tryz.underlying23 aY (by decide) (by decide) (fun w=>by kernel_rfl) (by rw [Value.cells,xal];exact da (eH _)) ?_
   intro w28 hn
   have H29:=Mem.bh H26 hn
   clear hn
   refine rn ?_
   refine aD rfl _ _ 23 rfl (w.heap.size) 87 _ _ 43 80 Tryz.underlying23 iq87 ir87 is87 it87 rfl (by decide) (.slice A9 kn.length c9) ((kn).length) ((kn).flatMap nC) (Mem.own H29 1 rfl) ((some ⟨w25.heap.size,0,none⟩)) (1) (1) (nC (dc j)) (bl (n:=43) (m:=1) (Mem.blk H29 0 rfl) (da (eH _)) (fQ (dc j))) ?hmt30 ?hbt30 ?hzt30 rfl rfl ?_
   case hmt30=>simp only [maxLen];omega
   case hbt30=>omega
   case hzt30=>exact (Mem.below H29).size
   intro u33 w31 ow36 gr37 hp38
   refine rn ?_
   have ow36:w31.ownsRow (w.heap.size) 87 43 u33 (kn++[(dc j)]).length ((kn++[(dc j)]).flatMap nC):=by first | simpa using ow36 | (simp at ow36 ⊢;exact ow36)
   obtain ⟨A34,c35,rfl⟩:=aI ow36
   have H32:=Mem.app H29 1 rfl ow36 gr37 hp38
   clear ow36 gr37 hp38
   refine rn ?_
   refine wpList_nil ?_
   refine al (ab (K24 _ _ (rl ?_)))
   refine rv (aL (((j+1:Nat):Int))) ?_
   refine wpList_nil ?_
   have H39:=Mem.pick H32 [1] (by decide) rfl
   refine ab ?_
   show _∧_
   go_roundw
   case rel=>exact ⟨(j+1),((kn++[(dc j)])),A34,c35,rfl,rfl,by omega,(by rw [hkn,List.append_assoc,nJ]),H39⟩
   case measure=>simp [intOf];omega
  ·refine rv (aA (decide_eq_false p23)) ?_
   refine nt (K22 _ _ (cf (wp_exit (ai (ai (ax (ab (K16 _ _ (sk fun _ K40=>rl ?_)))))))))
   obtain ⟨b41,rfl,hlt44⟩:=aE (Mem.own H19 0 rfl) (by omega)
   refine rv (fK 23 87 (.tmp 21) (.tmp 23) rfl (some ⟨b41,0,none⟩) (kn.length) c9 (l.length) rfl rfl (by have h9:=kQ (Mem.own H19 0 rfl);(try simp only [xap,xat,List.length_range] at h9);omega) Tryz.underlying23 aY wo18) ?_
   refine nt (K40 _ _ (rt ?_))
   have hje:j=12:=by omega
   subst hje hkn
   exact ⟨_,_,rfl,H19⟩
theorem ny (w:World) (l:List Nam) (v:Value) (h:dv.At w w.heap.size [v] l) (hall:∀ x∈l++(xaf 12).map dc,okN x) (hl:l.length≤1000000) (B:Nat) (A9:Option Addr) (c9:Nat) (ho:(fi B A9 c9 l).P w) :
  Calls Tryz.prog 68 #[.slice A9 l.length c9,v] w fun e w'=>e=.returned (.bool true)∧Below w.heap.size w w':=by
 have ho:w.ownsRow B 87 43 (.slice A9 (l++(xaf 12).map dc).length c9) (l++(xaf 12).map dc).length ((l++(xaf 12).map dc).flatMap nC):=ho
 have hln:(l++(xaf 12).map dc).length=l.length+12:=by simp
 obtain ⟨g,rfl,hg9⟩:=aE ho (by omega)
 have hc9:=(kQ ho).1
 rw [hln] at hc9
 have ho9:=ho
 rw [hln] at ho9
 rw [← hln] at ho9
 have hlen9:∀ x∈l++(xaf 12).map dc,(nC x).length=43:=fun x hx=>da (hall x hx)
 obtain ⟨A0,cap,rfl,_,hcm,_,hA⟩:=ak h
 simp only [maxLen] at hcm
 have H0:=Mem.start w
 go_enter Tryz.func68,Tryz.ntmps68
 refine sk fun _ K1=>rl ?_
 refine nt (K1 _ _ (sk fun _ K2=>sk fun _ K3=>rl ?_))
 refine rv (sC (decide_eq_true rfl)) ?_
 refine nt (K3 _ _ (cf (ks (K2 _ _ (sk fun _ K4=>rl ?_)))))
 refine rv (aL (((l.length+12:Nat):Int))) ?_
 refine rv (fK 23 87 (.tmp 12) (.tmp 15) rfl (some ⟨g,0,none⟩) (l.length) c9 (l.length+12) rfl rfl hc9 Tryz.underlying23 aY w) ?_
 refine nt (K4 _ _ (sk fun _ K5=>sk fun _ K6=>rl ?_))
 refine nt (K6 _ _ (wp_block ?_))
 go_loopw [6] (fun x6 wr=>∃ j:Nat,x6=.int .i64 (j:Int)∧(j≤l.length+12)∧Mem w wr []) (fun x6 _=>l.length+12-(intOf x6).toNat)
 case atStart=>exact ⟨0,rfl,by omega,H0⟩
 case round =>
  obtain ⟨wo7,rfl⟩:∃ wo7,wo7=wr:=⟨_,rfl⟩
  obtain ⟨j,rfl,hj,H8⟩:=hrel
  refine sk fun _ K10=>sk fun _ K11=>rl ?_
  by_cases p12:(j:Int)<((l.length+12:Nat):Int)
  ·refine rv (aA (decide_eq_true p12)) ?_
   refine nt (K11 _ _ (ct (ks (K10 _ _ (sk fun _ K13=>wp_block (sk fun _ K14=>?_))))))
   refine Fre.aV (X:=Bel) [] (by kernel_rfl) (by kernel_rfl) (by simp) (by simp) (by simp) ?_
   refine Fre.rmd ?_
   by_cases p15:(j:Int)<((l.length:Nat):Int)
   ·refine Fre.mvv (fun _ _=>aA (decide_eq_true p15)) ?_
    obtain ⟨x16,hx17⟩:=gx (l:=(l++(xaf 12).map dc)) (j:=j)
    have hd18:=ay hx17
    have ok19:=hall _ (xak hx17)
    refine Fre.mvv (fun _ _=>aT (j) Tryz.underlying23 aY) ?_
    refine Fre.mvv (fun W9 hW9=>xld (Mem.range (Mem.call H8 hW9) (dO (f:=nC) (by decide) ho9 hlen9 hx17) hg9) Tryz.underlying87 (dD ok19)) ?_
    obtain ⟨b20,o21,rfl,hlt23,hE22⟩:=hA (by omega)
    obtain ⟨x24,hx25⟩:=gx (l:=l) (j:=j)
    have hd26:=ay hx25
    obtain ⟨cs,hr27,ha28⟩:=hE22 (j) x24 hx25
    obtain ⟨rfl,ok29⟩:=bw.1 ha28
    have hxy9:=rq hx17 hx25
    refine Fre.mvv (fun _ _=>dy (j) Tryz.underlying23 aY) ?_
    refine Fre.mvv (fun W9 hW9=>xld (Mem.range (Mem.call H8 hW9) hr27 hlt23) Tryz.underlying87 (dD ok29)) ?_
    refine Fre.mvv (fun W9 _=>bX 87 87 (.tmp 31) (.tmp 35) rfl (nC x16).toArray (nC x24).toArray rfl rfl (by kernel_rfl) _ W9 (by have h9:=iT (x16) (x24) ok19 ok29 W9;rwa [show decide _=true from (decide_eq_true hxy9)] at h9)) ?_
    by_cases p30:((l.length:Nat):Int)≤(j:Int)
    ·refine Fre.mvv (fun _ _=>sA (decide_eq_true p30)) ?_
     refine Fre.mvv (fun _ _=>aT (j) Tryz.underlying23 aY) ?_
     refine Fre.mvv (fun W9 hW9=>xld (Mem.range (Mem.call H8 hW9) (dO (f:=nC) (by decide) ho9 hlen9 hx17) hg9) Tryz.underlying87 (dD ok19)) ?_
     refine Fre.mvv (fun _ _=>xr (((j-l.length:Nat):Int))) ?_
     have hmk9:=kK hx17 (by omega)
     refine Fre.mc (fun W9 hW9=>lE (j-l.length) (by omega) W9) ?_
     refine Fre.rmd ?_
     refine Fre.mvv (fun W9 _=>bX 87 87 (.tmp 48) (.tmp 53) rfl (nC x16).toArray (nC (dc (j-l.length))).toArray rfl rfl (by kernel_rfl) _ W9 (by have h9:=iT (x16) ((dc (j-l.length))) ok19 (eH _) W9;rwa [show decide _=true from (decide_eq_true hmk9)] at h9)) ?_
     intro w31 hx33
     dsimp only [Fre.ended,xas]
     have H32:=Mem.call H8 hx33
     refine ab (K14 _ _ (cf ?_))
     refine wp_skip ?_
     refine al (ab (K13 _ _ (rl ?_)))
     refine rv (aL (((j+1:Nat):Int))) ?_
     refine wpList_nil ?_
     refine ab ?_
     show _∧_
     go_roundw
     case rel=>exact ⟨(j+1),rfl,by omega,H32⟩
     case measure=>simp [intOf];omega
    ·refine Fre.mvv (fun _ _=>sA (decide_eq_false p30)) ?_
     intro w34 hx36
     dsimp only [Fre.ended,xas]
     have H35:=Mem.call H8 hx36
     refine ab (K14 _ _ (cf ?_))
     refine wp_skip ?_
     refine al (ab (K13 _ _ (rl ?_)))
     refine rv (aL (((j+1:Nat):Int))) ?_
     refine wpList_nil ?_
     refine ab ?_
     show _∧_
     go_roundw
     case rel=>exact ⟨(j+1),rfl,by omega,H35⟩
     case measure=>simp [intOf];omega
   ·have he37:=bJ (l:=l) (j:=j) (by omega)
    refine Fre.mvv (fun _ _=>aA (decide_eq_false p15)) ?_
    by_cases p38:((l.length:Nat):Int)≤(j:Int)
    ·refine Fre.mvv (fun _ _=>sA (decide_eq_true p38)) ?_
     obtain ⟨x39,hx40⟩:=gx (l:=(l++(xaf 12).map dc)) (j:=j)
     have hd41:=ay hx40
     have ok42:=hall _ (xak hx40)
     refine Fre.mvv (fun _ _=>aT (j) Tryz.underlying23 aY) ?_
     refine Fre.mvv (fun W9 hW9=>xld (Mem.range (Mem.call H8 hW9) (dO (f:=nC) (by decide) ho9 hlen9 hx40) hg9) Tryz.underlying87 (dD ok42)) ?_
     refine Fre.mvv (fun _ _=>xr (((j-l.length:Nat):Int))) ?_
     have hmk9:=kK hx40 (by omega)
     refine Fre.mc (fun W9 hW9=>lE (j-l.length) (by omega) W9) ?_
     refine Fre.rmd ?_
     refine Fre.mvv (fun W9 _=>bX 87 87 (.tmp 48) (.tmp 53) rfl (nC x39).toArray (nC (dc (j-l.length))).toArray rfl rfl (by kernel_rfl) _ W9 (by have h9:=iT (x39) ((dc (j-l.length))) ok42 (eH _) W9;rwa [show decide _=true from (decide_eq_true hmk9)] at h9)) ?_
     intro w43 hx45
     dsimp only [Fre.ended,xas]
     have H44:=Mem.call H8 hx45
     refine ab (K14 _ _ (cf ?_))
     refine wp_skip ?_
     refine al (ab (K13 _ _ (rl ?_)))
     refine rv (aL (((j+1:Nat):Int))) ?_
     refine wpList_nil ?_
     refine ab ?_
     show _∧_
     go_roundw
     case rel=>exact ⟨(j+1),rfl,by omega,H44⟩
     case measure=>simp [intOf];omega
    ·refine Fre.mvv (fun _ _=>sA (decide_eq_false p38)) ?_
     intro w46 hx48
     dsimp only [Fre.ended,xas]
     have H47:=Mem.call H8 hx48
     refine ab (K14 _ _ (cf ?_))
     refine wp_skip ?_
     refine al (ab (K13 _ _ (rl ?_)))
     refine rv (aL (((j+1:Nat):Int))) ?_
     refine wpList_nil ?_
     refine ab ?_
     show _∧_
     go_roundw
     case rel=>exact ⟨(j+1),rfl,by omega,H47⟩
     case measure=>simp [intOf];omega
  ·refine rv (aA (decide_eq_false p12)) ?_
   refine nt (K11 _ _ (cf (wp_exit (ai (ai (ax (ab (K5 _ _ (sk fun _ K49=>rl ?_)))))))))
   refine nt (K49 _ _ (rt ?_))
   exact ⟨rfl,Mem.below H8⟩
end Go.Proofs.YtomnhnmciopiiaaGreat
end
