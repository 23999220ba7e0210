/- spencelaw18.DrvSmall is true, and leaves all as it was. No condition. -/
import Derived.Test.YtomnhnmciopiiaaGreatMMS14
import Derived.Test.YtomnhnmciopiiaaGreatRows
set_option maxRecDepth 100000
set_option linter.unusedVariables false
set_option linter.unusedSimpArgs false
set_option maxHeartbeats 40000000
open Go.Act renaming put → xad
open Go.IntWalk renaming i64_in → xaS
open Go.IntKind renaming wrap → xbf
open List renaming length_append → xap, length_cons → xaE, length_map → xat, mem_cons → xax, mem_singleton → xan, not_mem_nil → xaP, replicate → xar, setIfInBounds_toArray → xaa, set_cons_succ → xab, set_cons_zero → xac, size_toArray → xal
open Nat renaming le_of_ble_eq_true → xaL, le_refl → xai, le_trans → xay
open Go.Value renaming slice → xag
section
namespace Go.Proofs.YtomnhnmciopiiaaGreat
open Go Go.RowKit Go.Maps
attribute [local irreducible] wpList
theorem p7 (w:World):Calls Tryz.prog 6 #[] w fun e w'=>e=.returned (.bool true)∧Below w.heap.size w w':=by
 have H0:=Mem.start w
 go_enter Tryz.func6,Tryz.ntmps6
 refine sk fun _ K1=>rl ?_
 refine nt (K1 _ _ (sk fun _ K2=>sk fun _ K3=>rl ?_))
 refine nt (K3 _ _ (wp_block ?_))
 go_loopw [1] (fun x1 wr=>∃ m:Nat,x1=.int .i64 (m:Int)∧(m≤4096)∧Mem w wr []) (fun x1 _=>4096-(intOf x1).toNat)
 case atStart=>exact ⟨0,rfl,by omega,H0⟩
 case round =>
  obtain ⟨wo4,rfl⟩:∃ wo4,wo4=wr:=⟨_,rfl⟩
  obtain ⟨m,rfl,hm,H5⟩:=hrel
  refine sk fun _ K7=>sk fun _ K8=>rl ?_
  by_cases p9:(m:Int)<4096
  ·refine rv (aA (decide_eq_true p9)) ?_
   refine nt (K8 _ _ (ct (ks (K7 _ _ (sk fun _ K10=>wp_block (sk fun _ K11=>rl ?_))))))
   refine nt (K11 _ _ (sk fun _ K12=>sk fun _ K13=>rl ?_))
   refine nt (K13 _ _ (wp_block ?_))
   have H14:=Mem.dw H5 w.heap.size 59 23
   have H15:=Mem.pS H14 (odV w.heap.size)
   have H16:=Mem.pick H15 [1,0] (by decide) rfl
   go_loopw [2,3,4] (fun x2 x3 x4 wr=>∃ i:Nat,∃ k:Nat,∃ os:List b4,∃ A9:Option Addr,∃ c9:Nat,x2=.slice A9 os.length c9∧x3=.int .i64 (k:Int)∧x4=.int .i64 (i:Int)∧(i≤4)∧(k≤4096)∧(os.length=i)∧Mem w wr [aq (w.heap.size) 59 23 (.slice A9 os.length c9) (os).length ((os).flatMap tV),Ent.all os (odV w.heap.size)]) (fun x2 x3 x4 _=>4-(intOf x4).toNat)
   case atStart=>exact ⟨0,m,([]),none,0,rfl,rfl,rfl,by omega,by omega,rfl,H16⟩
   case round =>
    obtain ⟨wo17,rfl⟩:∃ wo17,wo17=wr:=⟨_,rfl⟩
    obtain ⟨i,k,os,A9,c9,rfl,rfl,rfl,hi,hk,hos,H18⟩:=hrel
    refine sk fun _ K20=>sk fun _ K21=>rl ?_
    by_cases p22:(i:Int)<4
    ·refine rv (aA (decide_eq_true p22)) ?_
     refine nt (K21 _ _ (ct (ks (K20 _ _ (sk fun _ K23=>wp_block (sk fun _ K24=>rl ?_))))))
     refine nt (K24 _ _ (sk fun _ K25=>sk fun _ K26=>rl ?_))
     refine nt (K26 _ _ (wp_block ?_))
     have H27:=Mem.dw H18 w.heap.size 3 1
     go_loopw [5,6] (fun x5 x6 wr=>∃ j:Nat,∃ ns:List Nat,∃ A5:Option Addr,∃ c5:Nat,x5=.slice A5 ns.length c5∧x6=.int .i64 (j:Int)∧(j≤3)∧(ns.length≤j)∧(∀ m∈ns,m≤5)∧Mem w wr [aq (w.heap.size) 3 1 (.slice A5 ns.length c5) (ns).length ((ns).flatMap nb),aq (w.heap.size) 59 23 (.slice A9 os.length c9) (os).length ((os).flatMap tV),Ent.all os (odV w.heap.size)]) (fun x5 x6 _=>3-(intOf x6).toNat)
     case atStart=>exact ⟨0,([]),none,0,rfl,rfl,by omega,xai _,(fun _ h=>by cases h),H27⟩
     case round =>
      obtain ⟨wo28,rfl⟩:∃ wo28,wo28=wr:=⟨_,rfl⟩
      obtain ⟨j,ns,A5,c5,rfl,rfl,hj,hnl,hns,H29⟩:=hrel
      refine sk fun _ K31=>sk fun _ K32=>rl ?_
      by_cases p33:(j:Int)<3
      ·refine rv (aA (decide_eq_true p33)) ?_
       refine nt (K32 _ _ (ct (ks (K31 _ _ (sk fun _ K34=>wp_block (sk fun _ K35=>rl ?_))))))
       obtain ⟨m36,hm36⟩:∃ m:Int,Int.fdiv ((k:Int)) (2 ^ min (Int.toNat ((j:Int))) 64)=m:=⟨_,rfl⟩
       refine rv (v:=.int .i64 (m36)) (by rw [← hm36];exact zZ 3 3 (.tmp 22) (.tmp 23) rfl ((k:Int)) ((j:Int)) rfl rfl (by omega) wo28) ?_
       obtain ⟨m37,hm37⟩:∃ m:Int,xbf .i64 (BitVec.ofInt 64 (m36) &&& BitVec.ofInt 64 (1)).toNat=m:=⟨_,rfl⟩
       refine rv (v:=.int .i64 (m37)) (by rw [← hm37];exact zV 3 3 (.tmp 24) (.const (.int .i64 1)) rfl (m36) (1) rfl rfl wo28) ?_
       by_cases p38:m37=1
       ·refine rv (gG (decide_eq_true p38)) ?_
        refine nt (K35 _ _ (ct (rl ?_)))
        refine rv (aL (((i+j:Nat):Int))) ?_
        refine rv (gb 3 3 (.tmp 30) (.const (.int .i64 5)) rfl (i+j) 5 rfl rfl (by decide) wo28) ?_
        refine aG rfl 79 (.tmp 31) rfl 3 1 (.int .i64 0) (.int .i64 (((i+j) % 5:Nat):Int)) rfl Tryz.underlying79 (by kernel_rfl) (by decide) (by decide) (fun w=>by kernel_rfl) rfl ?_
        intro w39 hn
        have H40:=Mem.bh H29 hn
        clear hn
        refine rn ?_
        obtain ⟨inm3,iq3,ir3,is3,it3⟩:=info_parts pd
        refine aD rfl _ _ 79 rfl (w.heap.size) 3 _ _ 1 8 Tryz.underlying79 iq3 ir3 is3 it3 rfl (by decide) (.slice A5 ns.length c5) ((ns).length) ((ns).flatMap nb) (Mem.own H40 1 rfl) ((some ⟨wo28.heap.size,0,none⟩)) (1) (1) ([.int .i64 (((i+j) % 5:Nat):Int)]) (bl (n:=1) (m:=1) (Mem.blk H40 0 rfl) rfl (fun u hu=>by rw [xan.1 hu];rfl)) ?hmt41 ?hbt41 ?hzt41 rfl rfl ?_
        case hmt41=>simp only [maxLen];omega
        case hbt41=>omega
        case hzt41=>exact (Mem.below H40).size
        intro u44 w42 ow47 gr48 hp49
        refine rn ?_
        have ow47:w42.ownsRow (w.heap.size) 3 1 u44 (ns++[(i+j) % 5]).length ((ns++[(i+j) % 5]).flatMap nb):=by first | simpa using ow47 | simpa [tV] using ow47 | (simp at ow47 ⊢;exact ow47)
        obtain ⟨A45,c46,rfl⟩:=aI ow47
        have H43:=Mem.app H40 1 rfl ow47 gr48 hp49
        clear ow47 gr48 hp49
        refine rn ?_
        refine wpList_nil ?_
        refine al (ab (K34 _ _ (rl ?_)))
        refine rv (aL (((j+1:Nat):Int))) ?_
        refine wpList_nil ?_
        have H50:=Mem.pick H43 [1,2,3] (by decide) rfl
        refine ab ?_
        show _∧_
        go_roundw
        case rel=>exact ⟨(j+1),((ns++[(i+j) % 5])),A45,c46,rfl,rfl,by omega,(by first | omega | (rw [xap];simp only [xaE,List.length_nil];omega)),(by first | exact hns | exact lC (P:=fun m=>m≤5) hns (by omega)),H50⟩
        case measure=>simp [intOf];omega
       ·refine rv (gG (decide_eq_false p38)) ?_
        refine nt (K35 _ _ (cf ?_))
        refine wp_skip ?_
        refine al (ab (K34 _ _ (rl ?_)))
        refine rv (aL (((j+1:Nat):Int))) ?_
        refine wpList_nil ?_
        refine ab ?_
        show _∧_
        go_roundw
        case rel=>exact ⟨(j+1),ns,A5,c5,rfl,rfl,by omega,(by first | omega | (rw [xap];simp only [xaE,List.length_nil];omega)),(by first | exact hns | exact lC (P:=fun m=>m≤5) hns (by omega)),H29⟩
        case measure=>simp [intOf];omega
      ·refine rv (aA (decide_eq_false p33)) ?_
       refine nt (K32 _ _ (cf (wp_exit (ai (ai (ax (ab (K25 _ _ (sk fun _ K51=>rl ?_)))))))))
       refine rv (gb 3 3 (.tmp 36) (.const (.int .i64 7)) rfl m 7 rfl rfl (by decide) wo28) ?_
       refine rv (ic 3 3 (.tmp 37) (.const (.int .i64 6)) rfl (m % 7) 6 rfl rfl (by decide) (by omega) wo28) ?_
       refine rv (aL (((i+(m % 7) / 6:Nat):Int))) ?_
       refine ac (qo wo28 (i+(m % 7) / 6) (by omega) ns (fun m hm=>xay (hns m hm) (by decide)) (by omega) A5 _ c5 rfl (yM (Mem.own H29 0 rfl))) ?_
       rintro e w56 ⟨u52,rfl,q53,hm54⟩
       refine ⟨_,rfl,rn ?_⟩
       have H57:=Mem.seq H29 hm54
       refine aG rfl 22 (.tmp 41) rfl 59 23 (.agg zcT) (.agg (tC (aw (i+(m % 7) / 6) ns) u52 (.slice none 0 0)).toArray) rfl Tryz.underlying22 cI (by decide) (by decide) (fun w=>by kernel_rfl) (by rw [Value.cells,xal];exact dh (x:=(aw (i+(m % 7) / 6) ns)) (dL (i+(m % 7) / 6))) ?_
       intro w59 hn
       have H60:=Mem.bh H57 hn
       clear hn
       refine rn ?_
       obtain ⟨inm59,iq59,ir59,is59,it59⟩:=info_parts pf
       refine aD rfl _ _ 22 rfl (w.heap.size) 59 _ _ 23 88 Tryz.underlying22 iq59 ir59 is59 it59 rfl (by decide) (.slice A9 os.length c9) ((os).length) ((os).flatMap tV) (Mem.own H60 3 rfl) ((some ⟨w56.heap.size,0,none⟩)) (1) (1) (tC (aw (i+(m % 7) / 6) ns) u52 (.slice none 0 0)) (bl (n:=23) (m:=1) (Mem.blk H60 0 rfl) (dh (x:=(aw (i+(m % 7) / 6) ns)) (dL (i+(m % 7) / 6))) (iD (aw (i+(m % 7) / 6) ns) q53 rfl)) ?hmt61 ?hbt61 ?hzt61 rfl rfl ?_
       case hmt61=>simp only [maxLen];omega
       case hbt61=>omega
       case hzt61=>exact (Mem.below H60).size
       intro u64 w62 ow67 gr68 hp69
       refine rn ?_
       have ow67:w62.ownsRow (w.heap.size) 59 23 u64 (os++[((aw (i+(m % 7) / 6) ns),u52,xag none 0 0)]).length ((os++[((aw (i+(m % 7) / 6) ns),u52,xag none 0 0)]).flatMap tV):=by first | simpa using ow67 | simpa [tV] using ow67 | (simp at ow67 ⊢;exact ow67)
       obtain ⟨A65,c66,rfl⟩:=aI ow67
       have H63:=Mem.app H60 3 rfl ow67 gr68 hp69
       clear ow67 gr68 hp69
       refine rn ?_
       refine nt (K51 _ _ (rl ?_))
       refine rv (ic 3 3 (.tmp 44) (.const (.int .i64 8)) rfl k 8 rfl rfl (by decide) (by omega) w62) ?_
       refine wpList_nil ?_
       refine al (ab (K23 _ _ (rl ?_)))
       refine rv (aL (((i+1:Nat):Int))) ?_
       refine wpList_nil ?_
       have H70:=Mem.B8 (Mem.pick H63 [1,4,3] (by decide) rfl)
       have H71:=Mem.push (x:=((aw (i+(m % 7) / 6) ns),u52,xag none 0 0)) (f:=odV w.heap.size) H70 (j6 _ _)
       have H72:=Mem.pick H71 [1,0] (by decide) rfl
       refine ab ?_
       show _∧_
       go_roundw
       case rel=>exact ⟨(i+1),(k / 8),((os++[((aw (i+(m % 7) / 6) ns),u52,xag none 0 0)])),A65,c66,rfl,rfl,rfl,by omega,by omega,(by rw [xap,hos];rfl),H72⟩
       case measure=>simp [intOf];omega
    ·refine rv (aA (decide_eq_false p22)) ?_
     refine nt (K21 _ _ (cf (wp_exit (ai (ai (ax (ab (K12 _ _ (sk fun _ K73=>?_)))))))))
     obtain ⟨b74,rfl,hlt77⟩:=aE (Mem.own H18 0 rfl) (by omega)
     have HS78:=Mem.pick H18 [0] (by decide) rfl
     refine gN 21 rfl (by kernel_rfl) (fun d _ _ _ _ h=>by cases d<;>exact h) (by kernel_rfl) HS78 ?_
     intro w79 hb82 HS81
     have H80:=Mem.call H18 hb82
     clear HS78
     refine ao 0 1 _ (.slice (some ⟨b74,0,none⟩) os.length c9) rfl (by kernel_rfl) (fun W9 hW9=>(aO (.tmp 2) rfl _ rfl W9)) HS81 ?_
     simp only [xaa,xad,xac,xab]
     refine ao 1 3 _ (.int .i64 (m:Int)) rfl (by kernel_rfl) (fun W9 hW9=>(aO (.tmp 1) rfl _ rfl W9)) HS81 ?_
     simp only [xaa,xad,xac,xab]
     refine ao 2 7 _ (.int .i64 ((m % 4:Nat):Int)) rfl (by kernel_rfl) (fun W9 hW9=>(gb 3 3 (.tmp 47) (.const (.int .i64 4)) rfl m 4 rfl rfl (by decide) W9)) HS81 ?_
     simp only [xaa,xad,xac,xab]
     refine ao 3 15 _ (.int .i64 ((1+m % 4:Nat):Int)) rfl (by kernel_rfl) (fun W9 hW9=>(xQ 3 3 (.const (.int .i64 1)) (.tmp 48) rfl .i64 (1) (((m % 4:Nat):Int)) (((1+m % 4:Nat):Int)) rfl rfl (by first | (rw [xaS _ (by omega)];done) | (rw [xaS _ (by omega)];omega) | (rw [xaS _ (by omega)];push_cast;omega)) W9)) HS81 ?_
     simp only [xaa,xad,xac,xab]
     refine ao 4 31 _ (.slice (some ⟨b74,0,none⟩) (1+m % 4) c9) rfl (by kernel_rfl) (fun W9 hW9=>(fK 22 59 (.tmp 46) (.tmp 49) rfl (some ⟨b74,0,none⟩) (os.length) c9 (1+m % 4) rfl rfl (by have h9:=kQ (Mem.own hW9 0 rfl);(try simp only [xap,xat,List.length_range] at h9);omega) Tryz.underlying22 cI W9)) HS81 ?_
     simp only [xaa,xad,xac,xab]
     refine ao 5 63 _ (.int .i64 (m:Int)) rfl (by kernel_rfl) (fun W9 hW9=>(aO (.tmp 1) rfl _ rfl W9)) HS81 ?_
     simp only [xaa,xad,xac,xab]
     refine ao 6 127 _ (.int .i64 ((m % 5:Nat):Int)) rfl (by kernel_rfl) (fun W9 hW9=>(gb 3 3 (.tmp 51) (.const (.int .i64 5)) rfl m 5 rfl rfl (by decide) W9)) HS81 ?_
     simp only [xaa,xad,xac,xab]
     refine b7 7 255 _ rfl (by kernel_rfl) _ _ (by kernel_rfl) (cX w79 (m % 5) (by omega)) ?_
     rintro e w83 ⟨rfl,hb86⟩
     have H84:=Mem.call H80 hb86
     have HS85:=Mem.pick H84 [0] (by decide) rfl
     clear HS81
     refine ⟨_,rfl,HS85,?_⟩
     simp only [xaa,xad,xac,xab]
     refine b7 8 511 _ rfl (by kernel_rfl) _ _ (by kernel_rfl) (mI w83 (Mem.own H84 0 rfl) (fun p hp=>⟨w.heap.size,(Mem.get (e:=Ent.all os (odV w.heap.size)) H84 1 rfl).1 p hp⟩) rfl (1+m % 4) (by omega) (m % 5)) ?_
     rintro e w87 ⟨rfl,hb90⟩
     have H88:=Mem.call H84 hb90
     have HS89:=Mem.pick H88 [0] (by decide) rfl
     clear HS85
     refine ⟨_,rfl,HS89,?_⟩
     simp only [xaa,xad,xac,xab]
     refine ao 9 1023 _ (.bool false) rfl (by kernel_rfl) (fun W9 hW9=>(by kernel_rfl)) HS89 ?_
     simp only [xaa,xad,xac,xab]
     refine ao 10 2047 _ (.bool false) rfl (by kernel_rfl) (fun W9 hW9=>(aO (.tmp 55) rfl _ rfl W9)) HS89 ?_
     simp only [xaa,xad,xac,xab]
     refine ao 11 4095 _ (.int .i64 (m:Int)) rfl (by kernel_rfl) (fun W9 hW9=>(aO (.tmp 1) rfl _ rfl W9)) HS89 ?_
     simp only [xaa,xad,xac,xab]
     refine ao 12 8191 _ (.int .i64 ((m % 3:Nat):Int)) rfl (by kernel_rfl) (fun W9 hW9=>(gb 3 3 (.tmp 57) (.const (.int .i64 3)) rfl m 3 rfl rfl (by decide) W9)) HS89 ?_
     simp only [xaa,xad,xac,xab]
     by_cases p91:((m % 3:Nat):Int)=0
     ·refine ao 13 16383 _ (.bool true) rfl (by kernel_rfl) (fun W9 hW9=>(sQ 3 3 (.tmp 58) (.const (.int .i64 0)) rfl .i64 (((m % 3:Nat):Int)) (0) rfl rfl _ (decide_eq_true p91) W9)) HS89 ?_
      simp only [xaa,xad,xac,xab]
      refine ao 14 32767 _ (.bool true) rfl (by kernel_rfl) (fun W9 hW9=>(aO (.tmp 59) rfl _ rfl W9)) HS89 ?_
      simp only [xaa,xad,xac,xab]
      refine ao 15 65535 _ (.slice (some ⟨b74,0,none⟩) os.length c9) rfl (by kernel_rfl) (fun W9 hW9=>(aO (.tmp 2) rfl _ rfl W9)) HS89 ?_
      simp only [xaa,xad,xac,xab]
      refine b7 16 131071 _ rfl (by kernel_rfl) _ _ (by kernel_rfl) (cX w87 3 (by omega)) ?_
      rintro e w92 ⟨rfl,hb95⟩
      have H93:=Mem.call H88 hb95
      have HS94:=Mem.pick H93 [0] (by decide) rfl
      clear HS89
      refine ⟨_,rfl,HS94,?_⟩
      simp only [xaa,xad,xac,xab]
      refine b7 17 262143 _ rfl (by kernel_rfl) _ _ (by kernel_rfl) (mI w92 (Mem.own H93 0 rfl) (fun p hp=>⟨w.heap.size,(Mem.get (e:=Ent.all os (odV w.heap.size)) H93 1 rfl).1 p hp⟩) rfl os.length (by omega) 3) ?_
      rintro e w96 ⟨rfl,hb99⟩
      have H97:=Mem.call H93 hb99
      have HS98:=Mem.pick H97 [0] (by decide) rfl
      clear HS94
      refine ⟨_,rfl,HS98,?_⟩
      simp only [xaa,xad,xac,xab]
      refine ao 18 524287 _ (.bool false) rfl (by kernel_rfl) (fun W9 hW9=>(by kernel_rfl)) HS98 ?_
      simp only [xaa,xad,xac,xab]
      refine ao 19 1048575 _ (.bool false) rfl (by kernel_rfl) (fun W9 hW9=>(dG (.tmp 60) (.tmp 64) (.const (.bool false)) rfl true rfl _ rfl W9)) HS98 ?_
      simp only [xaa,xad,xac,xab]
      refine ao 20 2097151 _ (.bool false) rfl (by kernel_rfl) (fun W9 hW9=>(dG (.tmp 56) (.const (.bool true)) (.tmp 65) rfl false rfl _ rfl W9)) HS98 ?_
      simp only [xaa,xad,xac,xab]
      refine ij (by kernel_rfl) ?_
      refine ab (K73 _ _ (cf ?_))
      refine wp_skip ?_
      refine al (ab (K10 _ _ (rl ?_)))
      refine rv (aL (((m+1:Nat):Int))) ?_
      refine wpList_nil ?_
      have H100:=Mem.pick H97 [] (by decide) rfl
      refine ab ?_
      show _∧_
      go_roundw
      case rel=>exact ⟨(m+1),rfl,by omega,H100⟩
      case measure=>simp [intOf];omega
     ·refine ao 13 16383 _ (.bool false) rfl (by kernel_rfl) (fun W9 hW9=>(sQ 3 3 (.tmp 58) (.const (.int .i64 0)) rfl .i64 (((m % 3:Nat):Int)) (0) rfl rfl _ (decide_eq_false p91) W9)) HS89 ?_
      simp only [xaa,xad,xac,xab]
      refine ao 14 32767 _ (.bool false) rfl (by kernel_rfl) (fun W9 hW9=>(aO (.tmp 59) rfl _ rfl W9)) HS89 ?_
      simp only [xaa,xad,xac,xab]
      refine mz 15 65535 _ rfl (by kernel_rfl) HS89 ?_
      simp only [xaa,xad,xac,xab]
      refine mz 16 131071 _ rfl (by kernel_rfl) HS89 ?_
      simp only [xaa,xad,xac,xab]
      refine mz 17 262143 _ rfl (by kernel_rfl) HS89 ?_
      simp only [xaa,xad,xac,xab]
      refine mz 18 524287 _ rfl (by kernel_rfl) HS89 ?_
      simp only [xaa,xad,xac,xab]
      refine ao 19 1048575 _ (.bool false) rfl (by kernel_rfl) (fun W9 hW9=>(dG (.tmp 60) (.tmp 64) (.const (.bool false)) rfl false rfl _ rfl W9)) HS89 ?_
      simp only [xaa,xad,xac,xab]
      refine ao 20 2097151 _ (.bool false) rfl (by kernel_rfl) (fun W9 hW9=>(dG (.tmp 56) (.const (.bool true)) (.tmp 65) rfl false rfl _ rfl W9)) HS89 ?_
      simp only [xaa,xad,xac,xab]
      refine ij (by kernel_rfl) ?_
      refine ab (K73 _ _ (cf ?_))
      refine wp_skip ?_
      refine al (ab (K10 _ _ (rl ?_)))
      refine rv (aL (((m+1:Nat):Int))) ?_
      refine wpList_nil ?_
      have H101:=Mem.pick H88 [] (by decide) rfl
      refine ab ?_
      show _∧_
      go_roundw
      case rel=>exact ⟨(m+1),rfl,by omega,H101⟩
      case measure=>simp [intOf];omega
  ·refine rv (aA (decide_eq_false p9)) ?_
   refine nt (K8 _ _ (cf (wp_exit (ai (ai (ax (ab (K2 _ _ (sk fun _ K102=>sk fun _ K103=>rl ?_)))))))))
   refine nt (K103 _ _ (wp_block ?_))
   go_loopw [7] (fun x7 wr=>∃ n:Nat,x7=.int .i64 (n:Int)∧(n≤64)∧Mem w wr []) (fun x7 _=>64-(intOf x7).toNat)
   case atStart=>exact ⟨0,rfl,by omega,H5⟩
   case round =>
    obtain ⟨wo104,rfl⟩:∃ wo104,wo104=wr:=⟨_,rfl⟩
    obtain ⟨n,rfl,hn,H105⟩:=hrel
    refine sk fun _ K107=>sk fun _ K108=>rl ?_
    by_cases p109:(n:Int)<64
    ·refine rv (aA (decide_eq_true p109)) ?_
     refine nt (K108 _ _ (ct (ks (K107 _ _ (sk fun _ K110=>wp_block (sk fun _ K111=>rl ?_))))))
     refine ac (qo wo104 1 (by omega) ([]:List Nat) (fun _ h=>by cases h) (by decide) none _ 0 rfl (fun h=>absurd h (by decide))) ?_
     rintro e w116 ⟨u112,rfl,q113,hm114⟩
     refine ⟨_,rfl,rn ?_⟩
     have H117:=Mem.seq H105 hm114
     refine ez rfl 2 3 #[.int .i64 1,.int .i64 1] (by kernel_rfl) ?_
     intro w119 hn
     have H120:=Mem.bh H117 hn
     clear hn
     refine rn ?_
     refine ac (qo w119 2 (by omega) [1,1] (by decide) (by decide) (some ⟨w116.heap.size,0,none⟩) _ 2 rfl (jC [1,1] (Mem.blk H120 0 rfl))) ?_
     rintro e w125 ⟨u121,rfl,q122,hm123⟩
     refine ⟨_,rfl,rn ?_⟩
     have H126:=Mem.seq H120 hm123
     obtain ⟨b128,c129,rfl⟩:∃ b c,u121=xag (some ⟨b,0,none⟩) 2 c:=cN (Mem.get (e:=odV w119.heap.size ((aw 2 [1,1]),u121,xag none 0 0)) H126 0 rfl).2.gF (by show 0<2;decide)
     refine ez rfl 2 3 #[.int .i64 2,.int .i64 1] (by kernel_rfl) ?_
     intro w130 hn
     have H131:=Mem.bh H126 hn
     clear hn
     refine rn ?_
     refine ac (qo w130 3 (by omega) [2,1] (by decide) (by decide) (some ⟨w125.heap.size,0,none⟩) _ 2 rfl (jC [2,1] (Mem.blk H131 0 rfl))) ?_
     rintro e w136 ⟨u132,rfl,q133,hm134⟩
     refine ⟨_,rfl,rn ?_⟩
     have H137:=Mem.seq H131 hm134
     obtain ⟨b139,c140,rfl⟩:∃ b c,u132=xag (some ⟨b,0,none⟩) 2 c:=cN (Mem.get (e:=odV w130.heap.size ((aw 3 [2,1]),u132,xag none 0 0)) H137 0 rfl).2.gF (by show 0<2;decide)
     refine ez rfl 3 59 (([((aw 1 ([]:List Nat)),u112,xag none 0 0),((aw 2 [1,1]),(xag (some ⟨b128,0,none⟩) 2 c129),xag none 0 0),((aw 3 [2,1]),(xag (some ⟨b139,0,none⟩) 2 c140),xag none 0 0)]:List b4).flatMap tV).toArray (by kernel_rfl) ?_
     intro w143 hn
     have H144:=Mem.bh H137 hn
     clear hn
     refine rn ?_
     have H145:=Mem.jt H144 0 rfl (f:=tV) (l:=([((aw 1 ([]:List Nat)),u112,xag none 0 0),((aw 2 [1,1]),(xag (some ⟨b128,0,none⟩) 2 c129),xag none 0 0),((aw 3 [2,1]),(xag (some ⟨b139,0,none⟩) 2 c140),xag none 0 0)]:List b4)) (B:=w.heap.size) (t:=59) (s:=23) (cap:=3) rfl rfl rfl (by decide)
     have H146:=Mem.pick H145 [0,5,3,1] (by decide) rfl
     refine rn ?_
     refine nt (K111 _ _ ?_)
     refine wp_seq_k (fun K147 hK147=>?_)
     have hcK147:∀ zz77 zz78 zz79 zz80 zz81 zz82 zz83 zz84 zz85 zz86 zz87 zz88 zz89 zz90 zz91 zz92 zz93 zz94 zz95 zz96 zz97 zz98 zz99 zz100 zz101 zz102 zz103 zz104 zz105 zz106 zz107 zz108 zz109 zz110 zz111 zz112 zz113 zz114 zz115 zz116 zz117 zz118 zz119 zz120 zz121 zz122 zz123 zz124 zz125 zz126 zz127 zz128 zz129 zz130 zz131 zz132 zz133 zz134 zz135 zz136 zz137 zz138 zz139 zz140 zz141 zz142 wcK147,(∃ (B1 B2 B3:Nat) (p1 p2 p3:b4),Mem w wcK147 [aq w.heap.size 59 23 (.slice (some ⟨w136.heap.size,0,none⟩) 3 3) 3 (([p1,p2,p3]:List b4).flatMap tV),odV B1 p1,odV B2 p2,odV B3 p3])→K147 { tmps:=#[u0,.int .i64 (m:Int),u2,u3,u4,u5,u6,.int .i64 (n:Int),.slice (some ⟨w136.heap.size,0,none⟩) 3 3,.int .i64 (m:Int),.bool false,u11,u12,u13,u14,u15,u16,u17,u18,u19,u20,u21,u22,u23,u24,u25,u26,u27,u28,u29,u30,u31,u32,u33,u34,u35,u36,u37,u38,u39,u40,u41,u42,u43,u44,u45,u46,u47,u48,u49,u50,u51,u52,u53,u54,u55,u56,u57,u58,u59,u60,u61,u62,u63,u64,u65,u66,.int .i64 (n:Int),.bool true,u69,u70,.agg (tC (aw 1 ([]:List Nat)) u112 (.slice none 0 0)).toArray,.slice (some ⟨w116.heap.size,0,none⟩) 2 2,.agg (tC (aw 2 [1,1]) (.slice (some ⟨b128,0,none⟩) 2 c129) (.slice none 0 0)).toArray,.slice (some ⟨w125.heap.size,0,none⟩) 2 2,.agg (tC (aw 3 [2,1]) (.slice (some ⟨b139,0,none⟩) 2 c140) (.slice none 0 0)).toArray,.slice (some ⟨w136.heap.size,0,none⟩) 3 3,zz77,zz78,zz79,zz80,zz81,zz82,zz83,zz84,zz85,zz86,zz87,zz88,zz89,zz90,zz91,zz92,zz93,zz94,zz95,zz96,zz97,zz98,zz99,zz100,zz101,zz102,zz103,zz104,zz105,zz106,zz107,zz108,zz109,zz110,zz111,zz112,zz113,zz114,zz115,zz116,zz117,zz118,zz119,zz120,zz121,zz122,zz123,zz124,zz125,zz126,zz127,zz128,zz129,zz130,zz131,zz132,zz133,zz134,zz135,zz136,zz137,zz138,zz139,zz140,zz141,zz142,u143,u144,u145,u146,u147,u148,u149,u150,u151,u152,u153,u154,undef,undef,undef,undef,undef],defers:=[] } wcK147:=by
      intro zz77 zz78 zz79 zz80 zz81 zz82 zz83 zz84 zz85 zz86 zz87 zz88 zz89 zz90 zz91 zz92 zz93 zz94 zz95 zz96 zz97 zz98 zz99 zz100 zz101 zz102 zz103 zz104 zz105 zz106 zz107 zz108 zz109 zz110 zz111 zz112 zz113 zz114 zz115 zz116 zz117 zz118 zz119 zz120 zz121 zz122 zz123 zz124 zz125 zz126 zz127 zz128 zz129 zz130 zz131 zz132 zz133 zz134 zz135 zz136 zz137 zz138 zz139 zz140 zz141 zz142 wcK147 hcut
      obtain ⟨B1,B2,B3,p1,p2,p3,H148⟩:=hcut
      have he3:∀ (W:World) (hm:Mem w W [aq w.heap.size 59 23 (.slice (some ⟨w136.heap.size,0,none⟩) 3 3) 3 (([p1,p2,p3]:List b4).flatMap tV),odV B1 p1,odV B2 p2,odV B3 p3]) (m:Nat),Calls Tryz.prog 5 #[.slice (some ⟨w136.heap.size,0,none⟩) 3 3,.agg (bv (aN m)).toArray] W fun e w'=>e=.returned (.bool true)∧Below W.heap.size W w':=fun W hm m=>mI W (os:=[p1,p2,p3]) (Mem.own hm 0 rfl) (fun p hp=>by simp only [xax,xaP,or_false] at hp;rcases hp with rfl | rfl | rfl;exact ⟨_,Mem.get (e:=odV B1 p) hm 1 rfl⟩;exact ⟨_,Mem.get (e:=odV B2 p) hm 2 rfl⟩;exact ⟨_,Mem.get (e:=odV B3 p) hm 3 rfl⟩) rfl 3 (xai _) m
      refine hK147 _ _ ?_
      refine sk fun _ K149=>rl ?_
      refine rv (ic 3 3 (.tmp 144) (.const (.int .i64 16)) rfl n 16 rfl rfl (by decide) (by omega) wcK147) ?_
      refine ac (cX wcK147 (n / 16) (by omega)) ?_
      rintro e w150 ⟨rfl,hb152⟩
      refine ⟨_,rfl,rn ?_⟩
      have H151:=Mem.call H148 hb152
      refine ac (he3 w150 H151 (n / 16)) ?_
      rintro e w153 ⟨rfl,hb155⟩
      refine ⟨_,rfl,rn ?_⟩
      have H154:=Mem.call H151 hb155
      refine rn ?_
      refine ac (cX w153 3 (by omega)) ?_
      rintro e w156 ⟨rfl,hb158⟩
      refine ⟨_,rfl,rn ?_⟩
      have H157:=Mem.call H154 hb158
      refine ac (he3 w156 H157 3) ?_
      rintro e w159 ⟨rfl,hb161⟩
      refine ⟨_,rfl,rn ?_⟩
      have H160:=Mem.call H157 hb161
      refine rn ?_
      refine nt (K149 _ _ (cf ?_))
      refine wp_skip ?_
      refine al (ab (K110 _ _ (rl ?_)))
      refine rv (aL (((n+1:Nat):Int))) ?_
      refine wpList_nil ?_
      have H162:=Mem.pick H160 [] (by decide) rfl
      refine ab ?_
      show _∧_
      go_roundw
      case rel=>exact ⟨(n+1),rfl,by omega,H162⟩
      case measure=>simp [intOf];omega
     refine sk fun _ K163=>rl ?_
     refine rv (gb 3 3 (.tmp 77) (.const (.int .i64 8)) rfl n 8 rfl rfl (by decide) w143) ?_
     refine nt (K163 _ _ (wp_block (sk fun _ K164=>rl ?_)))
     by_cases p165:((n % 8:Nat):Int)=0
     ·refine rv (gG (decide_eq_true p165)) ?_
      refine nt (K164 _ _ (ct (rl ?_)))
      refine rv (ic 3 3 (.tmp 82) (.const (.int .i64 8)) rfl n 8 rfl rfl (by decide) (by omega) w143) ?_
      refine rv (gb 3 3 (.tmp 83) (.const (.int .i64 3)) rfl (n / 8) 3 rfl rfl (by decide) w143) ?_
      have hk166:n / 8 % 3=0∨n / 8 % 3=1∨n / 8 % 3=2:=by omega
      rcases hk166 with hk166 | hk166 | hk166
      ·rw [hk166]
       refine rp w136.heap.size 0 ?_
       refine rp w136.heap.size 20 ?_
       refine rp w136.heap.size 20 ?_
       refine dA rfl 9 (.tmp 87) (.const (.string ⟨#[]⟩)) rfl (Mem.own H146 0 rfl) (xaL rfl) (by kernel_rfl) (.string ⟨#[]⟩) rfl rfl rfl ?_
       intro w167 ow168 gr169
       refine rn ?_
       have H170:=Mem.upd (e':=aq w.heap.size 59 23 (.slice (some ⟨w136.heap.size,0,none⟩) 3 3) 3 (([(((aw 1 []).1,((⟨#[]⟩:ByteArray),(aw 1 []).2.2.1,([]:List Int))),u112,xag none 0 0),((aw 2 [1,1]),xag (some ⟨b128,0,none⟩) 2 c129,xag none 0 0),((aw 3 [2,1]),xag (some ⟨b139,0,none⟩) 2 c140,xag none 0 0)]:List b4).flatMap tV)) H146 0 rfl gr169 (fun b e=>e) (cM _ _ _ _ _ _) ow168 (fun b h=>.inl h)
       have H171:=qC (nm':=⟨#[]⟩) H170 1 rfl (by decide)
       refine wpList_nil ?_
       refine al ?_
       exact ab (hcK147 _ _ _ _ _ _ _ _ _ _ _ _ _ _ _ _ _ _ _ _ _ _ _ _ _ _ _ _ _ _ _ _ _ _ _ _ _ _ _ _ _ _ _ _ _ _ _ _ _ _ _ _ _ _ _ _ _ _ _ _ _ _ _ _ _ _ w167 ⟨wo104.heap.size,w119.heap.size,w130.heap.size,(((aw 1 []).1,((⟨#[]⟩:ByteArray),(aw 1 []).2.2.1,([]:List Int))),u112,xag none 0 0),((aw 2 [1,1]),xag (some ⟨b128,0,none⟩) 2 c129,xag none 0 0),((aw 3 [2,1]),xag (some ⟨b139,0,none⟩) 2 c140,xag none 0 0),(Mem.pick H171 [0,1,2,3] (by decide) rfl)⟩)
      ·rw [hk166]
       refine rp w136.heap.size 23 ?_
       refine rp w136.heap.size 43 ?_
       refine rp w136.heap.size 43 ?_
       refine dA rfl 9 (.tmp 87) (.const (.string ⟨#[]⟩)) rfl (Mem.own H146 0 rfl) (xaL rfl) (by kernel_rfl) (.string ⟨#[]⟩) rfl rfl rfl ?_
       intro w172 ow173 gr174
       refine rn ?_
       have H175:=Mem.upd (e':=aq w.heap.size 59 23 (.slice (some ⟨w136.heap.size,0,none⟩) 3 3) 3 (([((aw 1 ([]:List Nat)),u112,xag none 0 0),(((aw 2 [1,1]).1,((⟨#[]⟩:ByteArray),(aw 2 [1,1]).2.2.1,([]:List Int))),xag (some ⟨b128,0,none⟩) 2 c129,xag none 0 0),((aw 3 [2,1]),xag (some ⟨b139,0,none⟩) 2 c140,xag none 0 0)]:List b4).flatMap tV)) H146 0 rfl gr174 (fun b e=>e) (cM _ _ _ _ _ _) ow173 (fun b h=>.inl h)
       have H176:=qC (nm':=⟨#[]⟩) H175 2 rfl (by decide)
       refine wpList_nil ?_
       refine al ?_
       exact ab (hcK147 _ _ _ _ _ _ _ _ _ _ _ _ _ _ _ _ _ _ _ _ _ _ _ _ _ _ _ _ _ _ _ _ _ _ _ _ _ _ _ _ _ _ _ _ _ _ _ _ _ _ _ _ _ _ _ _ _ _ _ _ _ _ _ _ _ _ w172 ⟨wo104.heap.size,w119.heap.size,w130.heap.size,((aw 1 ([]:List Nat)),u112,xag none 0 0),(((aw 2 [1,1]).1,((⟨#[]⟩:ByteArray),(aw 2 [1,1]).2.2.1,([]:List Int))),xag (some ⟨b128,0,none⟩) 2 c129,xag none 0 0),((aw 3 [2,1]),xag (some ⟨b139,0,none⟩) 2 c140,xag none 0 0),(Mem.pick H176 [0,1,2,3] (by decide) rfl)⟩)
      ·rw [hk166]
       refine rp w136.heap.size 46 ?_
       refine rp w136.heap.size 66 ?_
       refine rp w136.heap.size 66 ?_
       refine dA rfl 9 (.tmp 87) (.const (.string ⟨#[]⟩)) rfl (Mem.own H146 0 rfl) (xaL rfl) (by kernel_rfl) (.string ⟨#[]⟩) rfl rfl rfl ?_
       intro w177 ow178 gr179
       refine rn ?_
       have H180:=Mem.upd (e':=aq w.heap.size 59 23 (.slice (some ⟨w136.heap.size,0,none⟩) 3 3) 3 (([((aw 1 ([]:List Nat)),u112,xag none 0 0),((aw 2 [1,1]),xag (some ⟨b128,0,none⟩) 2 c129,xag none 0 0),(((aw 3 [2,1]).1,((⟨#[]⟩:ByteArray),(aw 3 [2,1]).2.2.1,([]:List Int))),xag (some ⟨b139,0,none⟩) 2 c140,xag none 0 0)]:List b4).flatMap tV)) H146 0 rfl gr179 (fun b e=>e) (cM _ _ _ _ _ _) ow178 (fun b h=>.inl h)
       have H181:=qC (nm':=⟨#[]⟩) H180 3 rfl (by decide)
       refine wpList_nil ?_
       refine al ?_
       exact ab (hcK147 _ _ _ _ _ _ _ _ _ _ _ _ _ _ _ _ _ _ _ _ _ _ _ _ _ _ _ _ _ _ _ _ _ _ _ _ _ _ _ _ _ _ _ _ _ _ _ _ _ _ _ _ _ _ _ _ _ _ _ _ _ _ _ _ _ _ w177 ⟨wo104.heap.size,w119.heap.size,w130.heap.size,((aw 1 ([]:List Nat)),u112,xag none 0 0),((aw 2 [1,1]),xag (some ⟨b128,0,none⟩) 2 c129,xag none 0 0),(((aw 3 [2,1]).1,((⟨#[]⟩:ByteArray),(aw 3 [2,1]).2.2.1,([]:List Int))),xag (some ⟨b139,0,none⟩) 2 c140,xag none 0 0),(Mem.pick H181 [0,1,2,3] (by decide) rfl)⟩)
     ·refine rv (gG (decide_eq_false p165)) ?_
      refine nt (K164 _ _ (cf (sk fun _ K182=>rl ?_)))
      by_cases p183:((n % 8:Nat):Int)=1
      ·refine rv (gG (decide_eq_true p183)) ?_
       refine nt (K182 _ _ (ct (rl ?_)))
       refine rv (ic 3 3 (.tmp 91) (.const (.int .i64 8)) rfl n 8 rfl rfl (by decide) (by omega) w143) ?_
       refine rv (gb 3 3 (.tmp 92) (.const (.int .i64 3)) rfl (n / 8) 3 rfl rfl (by decide) w143) ?_
       refine rv (ic 3 3 (.tmp 94) (.const (.int .i64 16)) rfl n 16 rfl rfl (by decide) (by omega) w143) ?_
       refine ac (cX w143 (n / 16) (by omega)) ?_
       rintro e w184 ⟨rfl,hb186⟩
       refine ⟨_,rfl,rn ?_⟩
       have H185:=Mem.call H146 hb186
       have hk187:n / 8 % 3=0∨n / 8 % 3=1∨n / 8 % 3=2:=by omega
       rcases hk187 with hk187 | hk187 | hk187
       ·rw [hk187]
        refine rp w136.heap.size 0 ?_
        refine rp w136.heap.size 0 ?_
        refine fW rfl 34 (.tmp 98) (.tmp 96) rfl (Mem.own H185 0 rfl) (bv (aN (n / 16))) (xaL rfl) (by kernel_rfl) (Bk (aN (n / 16))) rfl rfl ?_
        intro w188 ow189 gr190
        refine rn ?_
        have H191:=Mem.upd (e':=aq w.heap.size 59 23 (.slice (some ⟨w136.heap.size,0,none⟩) 3 3) 3 (([((aN (n / 16),(aw 1 []).2),u112,xag none 0 0),((aw 2 [1,1]),xag (some ⟨b128,0,none⟩) 2 c129,xag none 0 0),((aw 3 [2,1]),xag (some ⟨b139,0,none⟩) 2 c140,xag none 0 0)]:List b4).flatMap tV)) H185 0 rfl gr190 (fun b e=>e) (cM _ _ _ _ _ _) ow189 (fun b h=>.inl h)
        have H192:=tE (c':=aN (n / 16)) H191 1 rfl (dL _)
        refine wpList_nil ?_
        refine al ?_
        exact ab (hcK147 _ _ _ _ _ _ _ _ _ _ _ _ _ _ _ _ _ _ _ _ _ _ _ _ _ _ _ _ _ _ _ _ _ _ _ _ _ _ _ _ _ _ _ _ _ _ _ _ _ _ _ _ _ _ _ _ _ _ _ _ _ _ _ _ _ _ w188 ⟨wo104.heap.size,w119.heap.size,w130.heap.size,((aN (n / 16),(aw 1 []).2),u112,xag none 0 0),((aw 2 [1,1]),xag (some ⟨b128,0,none⟩) 2 c129,xag none 0 0),((aw 3 [2,1]),xag (some ⟨b139,0,none⟩) 2 c140,xag none 0 0),(Mem.pick H192 [0,1,2,3] (by decide) rfl)⟩)
       ·rw [hk187]
        refine rp w136.heap.size 23 ?_
        refine rp w136.heap.size 23 ?_
        refine fW rfl 34 (.tmp 98) (.tmp 96) rfl (Mem.own H185 0 rfl) (bv (aN (n / 16))) (xaL rfl) (by kernel_rfl) (Bk (aN (n / 16))) rfl rfl ?_
        intro w193 ow194 gr195
        refine rn ?_
        have H196:=Mem.upd (e':=aq w.heap.size 59 23 (.slice (some ⟨w136.heap.size,0,none⟩) 3 3) 3 (([((aw 1 ([]:List Nat)),u112,xag none 0 0),((aN (n / 16),(aw 2 [1,1]).2),xag (some ⟨b128,0,none⟩) 2 c129,xag none 0 0),((aw 3 [2,1]),xag (some ⟨b139,0,none⟩) 2 c140,xag none 0 0)]:List b4).flatMap tV)) H185 0 rfl gr195 (fun b e=>e) (cM _ _ _ _ _ _) ow194 (fun b h=>.inl h)
        have H197:=tE (c':=aN (n / 16)) H196 2 rfl (dL _)
        refine wpList_nil ?_
        refine al ?_
        exact ab (hcK147 _ _ _ _ _ _ _ _ _ _ _ _ _ _ _ _ _ _ _ _ _ _ _ _ _ _ _ _ _ _ _ _ _ _ _ _ _ _ _ _ _ _ _ _ _ _ _ _ _ _ _ _ _ _ _ _ _ _ _ _ _ _ _ _ _ _ w193 ⟨wo104.heap.size,w119.heap.size,w130.heap.size,((aw 1 ([]:List Nat)),u112,xag none 0 0),((aN (n / 16),(aw 2 [1,1]).2),xag (some ⟨b128,0,none⟩) 2 c129,xag none 0 0),((aw 3 [2,1]),xag (some ⟨b139,0,none⟩) 2 c140,xag none 0 0),(Mem.pick H197 [0,1,2,3] (by decide) rfl)⟩)
       ·rw [hk187]
        refine rp w136.heap.size 46 ?_
        refine rp w136.heap.size 46 ?_
        refine fW rfl 34 (.tmp 98) (.tmp 96) rfl (Mem.own H185 0 rfl) (bv (aN (n / 16))) (xaL rfl) (by kernel_rfl) (Bk (aN (n / 16))) rfl rfl ?_
        intro w198 ow199 gr200
        refine rn ?_
        have H201:=Mem.upd (e':=aq w.heap.size 59 23 (.slice (some ⟨w136.heap.size,0,none⟩) 3 3) 3 (([((aw 1 ([]:List Nat)),u112,xag none 0 0),((aw 2 [1,1]),xag (some ⟨b128,0,none⟩) 2 c129,xag none 0 0),((aN (n / 16),(aw 3 [2,1]).2),xag (some ⟨b139,0,none⟩) 2 c140,xag none 0 0)]:List b4).flatMap tV)) H185 0 rfl gr200 (fun b e=>e) (cM _ _ _ _ _ _) ow199 (fun b h=>.inl h)
        have H202:=tE (c':=aN (n / 16)) H201 3 rfl (dL _)
        refine wpList_nil ?_
        refine al ?_
        exact ab (hcK147 _ _ _ _ _ _ _ _ _ _ _ _ _ _ _ _ _ _ _ _ _ _ _ _ _ _ _ _ _ _ _ _ _ _ _ _ _ _ _ _ _ _ _ _ _ _ _ _ _ _ _ _ _ _ _ _ _ _ _ _ _ _ _ _ _ _ w198 ⟨wo104.heap.size,w119.heap.size,w130.heap.size,((aw 1 ([]:List Nat)),u112,xag none 0 0),((aw 2 [1,1]),xag (some ⟨b128,0,none⟩) 2 c129,xag none 0 0),((aN (n / 16),(aw 3 [2,1]).2),xag (some ⟨b139,0,none⟩) 2 c140,xag none 0 0),(Mem.pick H202 [0,1,2,3] (by decide) rfl)⟩)
      ·refine rv (gG (decide_eq_false p183)) ?_
       refine nt (K182 _ _ (cf (sk fun _ K203=>rl ?_)))
       by_cases p204:((n % 8:Nat):Int)=2
       ·refine rv (gG (decide_eq_true p204)) ?_
        refine nt (K203 _ _ (ct (rl ?_)))
        refine rp w136.heap.size 23 ?_
        refine rp w136.heap.size 43 ?_
        refine rp w136.heap.size 44 ?_
        refine rv (xlc (lL (Mem.own H146 0 rfl) 44 _ rfl) Tryz.underlying23) ?_
        refine rp b128 0 ?_
        refine rp b128 0 ?_
        have hi9:True:=trivial
        refine dA rfl 9 (.tmp 107) (.const (.string ⟨#[98]⟩)) rfl (Mem.get (e:=odV w119.heap.size ((aw 2 [1,1]),xag (some ⟨b128,0,none⟩) 2 c129,xag none 0 0)) H146 2 rfl).2.gF (xaL rfl) (by kernel_rfl) (.string ⟨#[98]⟩) rfl rfl rfl ?_
        intro w205 ow206 gr207
        refine rn ?_
        have H208:Mem w w205 ([aq w.heap.size 59 23 (.slice (some ⟨w136.heap.size,0,none⟩) 3 3) 3 (([((aw 1 ([]:List Nat)),u112,xag none 0 0),((aw 2 [1,1]),xag (some ⟨b128,0,none⟩) 2 c129,xag none 0 0),((aw 3 [2,1]),xag (some ⟨b139,0,none⟩) 2 c140,xag none 0 0)]:List b4).flatMap tV),odV wo104.heap.size ((aw 1 ([]:List Nat)),u112,xag none 0 0),odV w119.heap.size (((aw 2 [1,1]).1,((aw 2 [1,1]).2.1,[((⟨#[98]⟩:ByteArray),(eO 0 1).2),eO 1 1],([]:List Int))),xag (some ⟨b128,0,none⟩) 2 c129,xag none 0 0),odV w130.heap.size ((aw 3 [2,1]),xag (some ⟨b139,0,none⟩) 2 c140,xag none 0 0)]):=tF (ins':=[((⟨#[98]⟩:ByteArray),(eO 0 1).2),eO 1 1]) H146 2 rfl ow206 gr207 (by intro x hx;simp only [xax,xaP,or_false] at hx;rcases hx with rfl | rfl<;>refine ⟨⟨?_,⟨?_,?_⟩,?_⟩,?_,?_⟩<;>first | exact dL _ | exact (xaL rfl) | rfl) rfl
        refine wpList_nil ?_
        refine al ?_
        exact ab (hcK147 _ _ _ _ _ _ _ _ _ _ _ _ _ _ _ _ _ _ _ _ _ _ _ _ _ _ _ _ _ _ _ _ _ _ _ _ _ _ _ _ _ _ _ _ _ _ _ _ _ _ _ _ _ _ _ _ _ _ _ _ _ _ _ _ _ _ w205 ⟨wo104.heap.size,w119.heap.size,w130.heap.size,((aw 1 ([]:List Nat)),u112,xag none 0 0),(((aw 2 [1,1]).1,((aw 2 [1,1]).2.1,[((⟨#[98]⟩:ByteArray),(eO 0 1).2),eO 1 1],([]:List Int))),xag (some ⟨b128,0,none⟩) 2 c129,xag none 0 0),((aw 3 [2,1]),xag (some ⟨b139,0,none⟩) 2 c140,xag none 0 0),(Mem.pick H208 [0,1,2,3] (by decide) rfl)⟩)
       ·refine rv (gG (decide_eq_false p204)) ?_
        refine nt (K203 _ _ (cf (sk fun _ K209=>rl ?_)))
        by_cases p210:((n % 8:Nat):Int)=3
        ·refine rv (gG (decide_eq_true p210)) ?_
         refine nt (K209 _ _ (ct (rl ?_)))
         refine rv (aL (((900+n:Nat):Int))) ?_
         obtain ⟨inm5,iq5,ir5,is5,it5⟩:=info_parts Af
         refine wpList_make_full _ rfl _ _ 24 rfl w.heap.size 5 _ _ 1 Tryz.underlying24 iq5 ir5 is5 _ _ _ _ (900+n) rfl rfl rfl rfl (by rw [it5];omega) (by simp only [maxLen];omega) (Mem.below H146).size ?_
         intro w211 ow gr
         refine rn ?_
         rw [wg] at ow
         have H212:=Mem.make H146 ow gr
         clear ow gr
         refine rp w136.heap.size 46 ?_
         refine rp w136.heap.size 66 ?_
         refine rp w136.heap.size 68 ?_
         refine dA rfl 24 (.tmp 116) (.tmp 113) rfl (Mem.own H212 1 rfl) (xaL rfl) (by kernel_rfl) (.slice (some ⟨w143.heap.size,0,none⟩) (900+n) (900+n)) rfl rfl rfl ?_
         intro w213 ow214 gr215
         refine rn ?_
         have H216:=Mem.upd (e':=aq w.heap.size 59 23 (.slice (some ⟨w136.heap.size,0,none⟩) 3 3) 3 (([((aw 1 ([]:List Nat)),u112,xag none 0 0),((aw 2 [1,1]),xag (some ⟨b128,0,none⟩) 2 c129,xag none 0 0),(((aw 3 [2,1]).1,((aw 3 [2,1]).2.1,(aw 3 [2,1]).2.2.1,xar (900+n) (0:Int))),xag (some ⟨b139,0,none⟩) 2 c140,xag (some ⟨w143.heap.size,0,none⟩) (900+n) (900+n))]:List b4).flatMap tV)) H212 1 rfl gr215 (fun b e=>e) (cM _ _ _ _ _ _) ow214 (fun b h=>.inl h)
         have H218:=BM (Mem.pick H216 [0,4,1,2,3] (by decide) rfl) (by omega)
         refine wpList_nil ?_
         refine al ?_
         exact ab (hcK147 _ _ _ _ _ _ _ _ _ _ _ _ _ _ _ _ _ _ _ _ _ _ _ _ _ _ _ _ _ _ _ _ _ _ _ _ _ _ _ _ _ _ _ _ _ _ _ _ _ _ _ _ _ _ _ _ _ _ _ _ _ _ _ _ _ _ w213 ⟨wo104.heap.size,w119.heap.size,w.heap.size,((aw 1 ([]:List Nat)),u112,xag none 0 0),((aw 2 [1,1]),xag (some ⟨b128,0,none⟩) 2 c129,xag none 0 0),(((aw 3 [2,1]).1,((aw 3 [2,1]).2.1,(aw 3 [2,1]).2.2.1,xar (900+n) (0:Int))),xag (some ⟨b139,0,none⟩) 2 c140,xag (some ⟨w143.heap.size,0,none⟩) (900+n) (900+n)),(Mem.pick H218 [1,2,3,0] (by decide) rfl)⟩)
        ·refine rv (gG (decide_eq_false p210)) ?_
         refine nt (K209 _ _ (cf (sk fun _ K220=>rl ?_)))
         by_cases p221:((n % 8:Nat):Int)=4
         ·refine rv (gG (decide_eq_true p221)) ?_
          refine nt (K220 _ _ (ct (sk fun _ K222=>?_)))
          have HS223:=Mem.pick H146 [0] (by decide) rfl
          refine gN 12 rfl (by kernel_rfl) (fun d _ _ _ _ h=>by cases d<;>exact h) (by kernel_rfl) HS223 ?_
          intro w224 hb227 HS226
          have H225:=Mem.call H146 hb227
          clear HS223
          refine ao 0 1 _ (.slice (some ⟨w136.heap.size,0,none⟩) 3 3) rfl (by kernel_rfl) (fun W9 hW9=>(aO (.tmp 8) rfl _ rfl W9)) HS226 ?_
          simp only [xaa,xad,xac,xab]
          refine ao 1 3 _ (.pointer (some ⟨w136.heap.size,46,none⟩)) rfl (by kernel_rfl) (fun W9 hW9=>(by kernel_rfl)) HS226 ?_
          simp only [xaa,xad,xac,xab]
          refine ao 2 7 _ (.pointer (some ⟨w136.heap.size,66,none⟩)) rfl (by kernel_rfl) (fun W9 hW9=>(by kernel_rfl)) HS226 ?_
          simp only [xaa,xad,xac,xab]
          refine ao 3 15 _ (.pointer (some ⟨w136.heap.size,67,none⟩)) rfl (by kernel_rfl) (fun W9 hW9=>(by kernel_rfl)) HS226 ?_
          simp only [xaa,xad,xac,xab]
          refine ao 4 31 _ (.slice (some ⟨b139,0,none⟩) 2 c140) rfl (by kernel_rfl) (fun W9 hW9=>(exec_load_cell 23 (.tmp 122) rfl ⟨w136.heap.size,67,none⟩ rfl _ _ W9 Tryz.underlying23 rfl (lL (Mem.own hW9 0 rfl) 67 _ rfl))) HS226 ?_
          simp only [xaa,xad,xac,xab]
          refine ao 5 63 _ (.int .i64 (n:Int)) rfl (by kernel_rfl) (fun W9 hW9=>(aO (.tmp 7) rfl _ rfl W9)) HS226 ?_
          simp only [xaa,xad,xac,xab]
          refine b7 6 127 _ rfl (by kernel_rfl) _ _ (by kernel_rfl) (cX w224 n (by omega)) ?_
          rintro e w228 ⟨rfl,hb231⟩
          have H229:=Mem.call H225 hb231
          have HS230:=Mem.pick H229 [0] (by decide) rfl
          clear HS226
          refine ⟨_,rfl,HS230,?_⟩
          simp only [xaa,xad,xac,xab]
          refine ao 7 255 _ (.agg (pC (aN n,(⟨#[115]⟩:ByteArray))).toArray) rfl (by kernel_rfl) (fun W9 hW9=>(by refine Eq.trans (ep 83 (.tmp 125) (.const (.string ⟨#[115]⟩)) rfl (n1:=20) (n2:=1) (z:=.agg zcP) rfl rfl Tryz.underlying83 (fun w=>by kernel_rfl) (by kernel_rfl) (fun w=>by kernel_rfl) (by kernel_rfl) (by kernel_rfl) W9) ?_;kernel_rfl)) HS230 ?_
          simp only [xaa,xad,xac,xab]
          refine ao 8 511 _ (.agg (iC (((aN n,(⟨#[115]⟩:ByteArray)),(xar 20 0:Hsh),false):Inp)).toArray) rfl (by kernel_rfl) (fun W9 hW9=>(iU 85 _ rfl (z:=.agg zcI) (places:=#[(0,21),(21,20),(41,1)]) Tryz.underlying85 (fun w=>by kernel_rfl) (fun w=>by kernel_rfl) [(0,.agg (pC (aN n,(⟨#[115]⟩:ByteArray))).toArray)] (by kernel_rfl) (by kernel_rfl) W9)) HS230 ?_
          simp only [xaa,xad,xac,xab]
          refine ao 9 1023 _ (.pointer (some ⟨b139,0,none⟩)) rfl (by kernel_rfl) (fun W9 hW9=>(by kernel_rfl)) HS230 ?_
          simp only [xaa,xad,xac,xab]
          refine ao 10 2047 _ (.pointer (some ⟨b139,1,none⟩)) rfl (by kernel_rfl) (fun W9 hW9=>(by kernel_rfl)) HS230 ?_
          simp only [xaa,xad,xac,xab]
          refine nu 11 4095 _ rfl (by kernel_rfl) 85 (.tmp 129) (.tmp 127) rfl (Mem.get (e:=odV w130.heap.size ((aw 3 [2,1]),xag (some ⟨b139,0,none⟩) 2 c140,xag none 0 0)) H229 3 rfl).2.gF (iC (((aN n,(⟨#[115]⟩:ByteArray)),(xar 20 0:Hsh),false):Inp)) (xaL rfl) (by kernel_rfl) (by kernel_rfl) rfl rfl ?_
          intro w232 ow233 gr234
          have H235:Mem w w232 ([aq w.heap.size 59 23 (.slice (some ⟨w136.heap.size,0,none⟩) 3 3) 3 (([((aw 1 ([]:List Nat)),u112,xag none 0 0),((aw 2 [1,1]),xag (some ⟨b128,0,none⟩) 2 c129,xag none 0 0),((aw 3 [2,1]),xag (some ⟨b139,0,none⟩) 2 c140,xag none 0 0)]:List b4).flatMap tV),odV wo104.heap.size ((aw 1 ([]:List Nat)),u112,xag none 0 0),odV w119.heap.size ((aw 2 [1,1]),xag (some ⟨b128,0,none⟩) 2 c129,xag none 0 0),odV w130.heap.size (((aw 3 [2,1]).1,((aw 3 [2,1]).2.1,[((eO 0 2).1,(((aN n,(⟨#[115]⟩:ByteArray)),(xar 20 0:Hsh),false):Inp)),eO 1 1],([]:List Int))),xag (some ⟨b139,0,none⟩) 2 c140,xag none 0 0)]):=tF (ins':=[((eO 0 2).1,(((aN n,(⟨#[115]⟩:ByteArray)),(xar 20 0:Hsh),false):Inp)),eO 1 1]) H229 3 rfl ow233 gr234 (by intro x hx;simp only [xax,xaP,or_false] at hx;rcases hx with rfl | rfl<;>refine ⟨⟨?_,⟨?_,?_⟩,?_⟩,?_,?_⟩<;>first | exact dL _ | exact (xaL rfl) | rfl) rfl
          refine ⟨Mem.pick H235 [0] (by decide) rfl,?_⟩
          have HS236:=Mem.pick H235 [0] (by decide) rfl
          clear HS230
          simp only [xad]
          refine ij (by kernel_rfl) ?_
          refine ab (K222 _ _ ?_)
          have HS237:=Mem.pick H235 [0] (by decide) rfl
          refine gN 14 rfl (by kernel_rfl) (fun d _ _ _ _ h=>by cases d<;>exact h) (by kernel_rfl) HS237 ?_
          intro w238 hb241 HS240
          have H239:=Mem.call H235 hb241
          clear HS237
          refine ao 0 1 _ (.slice (some ⟨w136.heap.size,0,none⟩) 3 3) rfl (by kernel_rfl) (fun W9 hW9=>(aO (.tmp 8) rfl _ rfl W9)) HS240 ?_
          simp only [xaa,xad,xac,xab]
          refine ao 1 3 _ (.pointer (some ⟨w136.heap.size,46,none⟩)) rfl (by kernel_rfl) (fun W9 hW9=>(by kernel_rfl)) HS240 ?_
          simp only [xaa,xad,xac,xab]
          refine ao 2 7 _ (.pointer (some ⟨w136.heap.size,66,none⟩)) rfl (by kernel_rfl) (fun W9 hW9=>(by kernel_rfl)) HS240 ?_
          simp only [xaa,xad,xac,xab]
          refine ao 3 15 _ (.pointer (some ⟨w136.heap.size,67,none⟩)) rfl (by kernel_rfl) (fun W9 hW9=>(by kernel_rfl)) HS240 ?_
          simp only [xaa,xad,xac,xab]
          refine ao 4 31 _ (.slice (some ⟨b139,0,none⟩) 2 c140) rfl (by kernel_rfl) (fun W9 hW9=>(exec_load_cell 23 (.tmp 133) rfl ⟨w136.heap.size,67,none⟩ rfl _ _ W9 Tryz.underlying23 rfl (lL (Mem.own hW9 0 rfl) 67 _ rfl))) HS240 ?_
          simp only [xaa,xad,xac,xab]
          refine ao 5 63 _ (.int .i64 (n:Int)) rfl (by kernel_rfl) (fun W9 hW9=>(aO (.tmp 7) rfl _ rfl W9)) HS240 ?_
          simp only [xaa,xad,xac,xab]
          refine ao 6 127 _ (.int .i64 ((n / 16:Nat):Int)) rfl (by kernel_rfl) (fun W9 hW9=>(ic 3 3 (.tmp 135) (.const (.int .i64 16)) rfl n 16 rfl rfl (by decide) (by omega) W9)) HS240 ?_
          simp only [xaa,xad,xac,xab]
          refine ao 7 255 _ (.int .i64 (((n / 16)*16:Nat):Int)) rfl (by kernel_rfl) (fun W9 hW9=>(xV 3 3 (.tmp 136) (.const (.int .i64 16)) rfl .i64 (((n / 16:Nat):Int)) (16) ((((n / 16)*16:Nat):Int)) rfl rfl (by first | (rw [xaS _ (by omega)];done) | (rw [xaS _ (by omega)];omega) | (rw [xaS _ (by omega)];push_cast;omega)) W9)) HS240 ?_
          simp only [xaa,xad,xac,xab]
          refine b7 8 511 _ rfl (by kernel_rfl) _ _ (by kernel_rfl) (cX w238 ((n / 16)*16) (by omega)) ?_
          rintro e w242 ⟨rfl,hb245⟩
          have H243:=Mem.call H239 hb245
          have HS244:=Mem.pick H243 [0] (by decide) rfl
          clear HS240
          refine ⟨_,rfl,HS244,?_⟩
          simp only [xaa,xad,xac,xab]
          refine ao 9 1023 _ (.agg (pC (aN ((n / 16)*16),(⟨#[115]⟩:ByteArray))).toArray) rfl (by kernel_rfl) (fun W9 hW9=>(by refine Eq.trans (ep 83 (.tmp 138) (.const (.string ⟨#[115]⟩)) rfl (n1:=20) (n2:=1) (z:=.agg zcP) rfl rfl Tryz.underlying83 (fun w=>by kernel_rfl) (by kernel_rfl) (fun w=>by kernel_rfl) (by kernel_rfl) (by kernel_rfl) W9) ?_;kernel_rfl)) HS244 ?_
          simp only [xaa,xad,xac,xab]
          refine ao 10 2047 _ (.agg (iC (((aN (((n / 16)*16)),(⟨#[115]⟩:ByteArray)),(xar 20 0:Hsh),false):Inp)).toArray) rfl (by kernel_rfl) (fun W9 hW9=>(iU 85 _ rfl (z:=.agg zcI) (places:=#[(0,21),(21,20),(41,1)]) Tryz.underlying85 (fun w=>by kernel_rfl) (fun w=>by kernel_rfl) [(0,.agg (pC (aN ((n / 16)*16),(⟨#[115]⟩:ByteArray))).toArray)] (by kernel_rfl) (by kernel_rfl) W9)) HS244 ?_
          simp only [xaa,xad,xac,xab]
          refine ao 11 4095 _ (.pointer (some ⟨b139,43,none⟩)) rfl (by kernel_rfl) (fun W9 hW9=>(by kernel_rfl)) HS244 ?_
          simp only [xaa,xad,xac,xab]
          refine ao 12 8191 _ (.pointer (some ⟨b139,44,none⟩)) rfl (by kernel_rfl) (fun W9 hW9=>(by kernel_rfl)) HS244 ?_
          simp only [xaa,xad,xac,xab]
          refine nu 13 16383 _ rfl (by kernel_rfl) 85 (.tmp 142) (.tmp 140) rfl (Mem.get (e:=odV w130.heap.size (((aw 3 [2,1]).1,((aw 3 [2,1]).2.1,[((eO 0 2).1,(((aN n,(⟨#[115]⟩:ByteArray)),(xar 20 0:Hsh),false):Inp)),eO 1 1],([]:List Int))),xag (some ⟨b139,0,none⟩) 2 c140,xag none 0 0)) H243 3 rfl).2.gF (iC (((aN (((n / 16)*16)),(⟨#[115]⟩:ByteArray)),(xar 20 0:Hsh),false):Inp)) (xaL rfl) (by kernel_rfl) (by kernel_rfl) rfl rfl ?_
          intro w246 ow247 gr248
          have H249:Mem w w246 ([aq w.heap.size 59 23 (.slice (some ⟨w136.heap.size,0,none⟩) 3 3) 3 (([((aw 1 ([]:List Nat)),u112,xag none 0 0),((aw 2 [1,1]),xag (some ⟨b128,0,none⟩) 2 c129,xag none 0 0),(((aw 3 [2,1]).1,((aw 3 [2,1]).2.1,[((eO 0 2).1,(((aN n,(⟨#[115]⟩:ByteArray)),(xar 20 0:Hsh),false):Inp)),eO 1 1],([]:List Int))),xag (some ⟨b139,0,none⟩) 2 c140,xag none 0 0)]:List b4).flatMap tV),odV wo104.heap.size ((aw 1 ([]:List Nat)),u112,xag none 0 0),odV w119.heap.size ((aw 2 [1,1]),xag (some ⟨b128,0,none⟩) 2 c129,xag none 0 0),odV w130.heap.size (((aw 3 [2,1]).1,((aw 3 [2,1]).2.1,[((eO 0 2).1,(((aN n,(⟨#[115]⟩:ByteArray)),(xar 20 0:Hsh),false):Inp)),((eO 1 1).1,(((aN (((n / 16)*16)),(⟨#[115]⟩:ByteArray)),(xar 20 0:Hsh),false):Inp))],([]:List Int))),xag (some ⟨b139,0,none⟩) 2 c140,xag none 0 0)]):=tF (ins':=[((eO 0 2).1,(((aN n,(⟨#[115]⟩:ByteArray)),(xar 20 0:Hsh),false):Inp)),((eO 1 1).1,(((aN (((n / 16)*16)),(⟨#[115]⟩:ByteArray)),(xar 20 0:Hsh),false):Inp))]) H243 3 rfl ow247 gr248 (by intro x hx;simp only [xax,xaP,or_false] at hx;rcases hx with rfl | rfl<;>refine ⟨⟨?_,⟨?_,?_⟩,?_⟩,?_,?_⟩<;>first | exact dL _ | exact (xaL rfl) | rfl) rfl
          refine ⟨Mem.pick H249 [0] (by decide) rfl,?_⟩
          have HS250:=Mem.pick H249 [0] (by decide) rfl
          clear HS244
          simp only [xad]
          refine ij (by kernel_rfl) ?_
          refine al ?_
          exact ab (hcK147 _ _ _ _ _ _ _ _ _ _ _ _ _ _ _ _ _ _ _ _ _ _ _ _ _ _ _ _ _ _ _ _ _ _ _ _ _ _ _ _ _ _ _ _ _ _ _ _ _ _ _ _ _ _ _ _ _ _ _ _ _ _ _ _ _ _ w246 ⟨wo104.heap.size,w119.heap.size,w130.heap.size,((aw 1 ([]:List Nat)),u112,xag none 0 0),((aw 2 [1,1]),xag (some ⟨b128,0,none⟩) 2 c129,xag none 0 0),(((aw 3 [2,1]).1,((aw 3 [2,1]).2.1,[((eO 0 2).1,(((aN n,(⟨#[115]⟩:ByteArray)),(xar 20 0:Hsh),false):Inp)),((eO 1 1).1,(((aN (((n / 16)*16)),(⟨#[115]⟩:ByteArray)),(xar 20 0:Hsh),false):Inp))],([]:List Int))),xag (some ⟨b139,0,none⟩) 2 c140,xag none 0 0),(Mem.pick H249 [0,1,2,3] (by decide) rfl)⟩)
         ·refine rv (gG (decide_eq_false p221)) ?_
          refine nt (K220 _ _ (cf ?_))
          refine wp_skip ?_
          refine al ?_
          exact ab (hcK147 _ _ _ _ _ _ _ _ _ _ _ _ _ _ _ _ _ _ _ _ _ _ _ _ _ _ _ _ _ _ _ _ _ _ _ _ _ _ _ _ _ _ _ _ _ _ _ _ _ _ _ _ _ _ _ _ _ _ _ _ _ _ _ _ _ _ w143 ⟨wo104.heap.size,w119.heap.size,w130.heap.size,((aw 1 ([]:List Nat)),u112,xag none 0 0),((aw 2 [1,1]),xag (some ⟨b128,0,none⟩) 2 c129,xag none 0 0),((aw 3 [2,1]),xag (some ⟨b139,0,none⟩) 2 c140,xag none 0 0),(Mem.pick H146 [0,1,2,3] (by decide) rfl)⟩)
    ·refine rv (aA (decide_eq_false p109)) ?_
     refine nt (K108 _ _ (cf (wp_exit (ai (ai (ax (ab (K102 _ _ (sk fun _ K251=>rl ?_)))))))))
     refine ac (cX wo104 0 (by omega)) ?_
     rintro e w252 ⟨rfl,hb254⟩
     refine ⟨_,rfl,rn ?_⟩
     have H253:=Mem.call H105 hb254
     refine ac (xj w252 0) ?_
     rintro e w255 ⟨rfl,hb257⟩
     refine ⟨_,rfl,rn ?_⟩
     have H256:=Mem.call H253 hb257
     refine rn ?_
     refine ac (pY w255) ?_
     rintro e w258 ⟨rfl,hb260⟩
     refine ⟨_,rfl,rn ?_⟩
     have H259:=Mem.call H256 hb260
     refine rn ?_
     refine nt (K251 _ _ (rt ?_))
     exact ⟨rfl,Mem.below H259⟩
end Go.Proofs.YtomnhnmciopiiaaGreat
end
section
namespace Go.Proofs.YtomnhnmciopiiaaGreat
open Go Go.ChangeShapes Go.WideShapes Go.ChangeAt Go.RowKit
theorem ml (os:Os) (started:os.Started) (H:Type) (enc:TypeId×Value→H) :
  ReturnsInHanded {} Tryz.checked os 6 .any (Rows.drvSmallSpec.pre6 enc Tryz.prog Tryz.f6 Rows.drvSmallRow.domain false) (Rows.drvSmallSpec.post enc Tryz.prog Tryz.f6 false true false false):=by
 refine returnsInHanded_of_change_sized (C:=Tryz.checked) Tryz.Cb started (by kernel_rfl) Tryz.func6
  (ChangeSpec.witness6 (enc:=enc) (C:=Tryz.checked) false ⟨#[],#[],[]⟩ 8 (by kernel_rfl) (by kernel_rfl) (by kernel_rfl) (by kernel_rfl)) ?_
 intro W base args ds gs before _ hW _ _ _
 have hW':=hW
 obtain ⟨p,q,hA0,hV,rfl,hfz,hnd⟩:=hW
 have hA:DataW.TrodAll enc Tryz.prog W 0 (fun _=>true) true Tryz.f6.params.toList args.toList ds p:=hA0
 rw [Tryz.params6] at hA
 obtain ⟨rfl,rfl,rfl⟩:=trodAll_none hA
 obtain ⟨rfl,rfl⟩:=trodVars_none hV
 have fin:∀ e W',e=Ending.returned (.bool true)∧Below W.heap.size W W'→∃ v,e=.returned v∧Rows.drvSmallSpec.post enc Tryz.prog Tryz.f6 false true false false W #[] v W':=by
  rintro e W' ⟨rfl,hb⟩
  exact ⟨_,rfl,Ak laidOut hW' rfl rfl (by kernel_rfl) Tryz.underlying4 (by kernel_rfl) hb⟩
 exact (p7 W).mono fin
theorem drvSmall_holds:Rows.DrvSmallSaid :=
 OpenClaim.holds_of_wide 6 Tryz.f6 rfl rfl rfl rfl rfl rfl rfl ⟨rfl,rfl,rfl,rfl,rfl⟩ rfl rfl rfl rfl rfl (by kernel_rfl) Tryz.func6 (by kernel_rfl)
  (of_decide_eq_true (by kernel_rfl)) (by unfold Func.isWrapper;first | (rw [if_pos (by decide +kernel)];kernel_rfl) | (rw [if_neg (by decide +kernel)];exact ⟨rfl,rfl⟩))
  (fun os started H enc _=>ml os started H enc)
#print axioms drvSmall_holds
end Go.Proofs.YtomnhnmciopiiaaGreat
end
