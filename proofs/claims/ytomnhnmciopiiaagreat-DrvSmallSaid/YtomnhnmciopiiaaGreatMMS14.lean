/- Part 14 of the texts of one proof. -/
import Derived.Test.YtomnhnmciopiiaaGreatMMS13
set_option maxRecDepth 100000
set_option linter.unusedVariables false
set_option linter.unusedSimpArgs false
set_option maxHeartbeats 40000000
open Go.Act renaming put → xad
open Array renaming getElem?_toList → xaM
open Go.RowKit.Below renaming mono → xam
open List renaming length_map → xat, length_take → xaJ, mem_map → xav, mem_of_getElem? → xak, replicate → xar, replicate_succ → xcr, setIfInBounds_toArray → xaa, set_cons_succ → xab, set_cons_zero → xac
open Nat renaming le_refl → xai, le_trans → xay
open Option.some renaming inj → xao
open Go.Value renaming slice → xag
open Go.World renaming ownsRow_nil → xaW
section
namespace Go.Proofs.YtomnhnmciopiiaaGreat
open Go Go.RowKit Go.Maps
attribute [local irreducible] wpList
theorem ug {w:World} {B:Nat} {d:Drv} {v1 v2:Value} (h:aK w B d v1 v2) {ps:List Pth} (hp:bV (eB d.2.1)=ps):(∀ p∈ps,okP p)∧ps.length≤d.2.1.length:=by
 subst hp
 exact ⟨fun p hp=>uh (mE h.ins) p ((er _ _).1 hp),xay (iq _) (qS _)⟩
theorem sL {w:World} {B:Nat} {d:Drv} {v1 v2:Value} (h:aK w B d v1 v2) {cs:List Hsh} (hp:az d.2.1=cs):(∀ p∈cs,okH p)∧cs.length≤d.2.1.length:=by
 subst hp
 exact ⟨ll (mE h.ins),zL _⟩
theorem p8 (w:World) (l:List Itm) (A:Option Addr) (cap:Nat) (h:bB.At w w.heap.size [.slice A l.length cap] l) (hlight:∀ x∈l,iN x.2) (c:Hsh) (hc:okH c) :
  Calls Tryz.prog 5 #[.slice A l.length cap,.agg (bv c).toArray] w fun e w'=>e=.returned (.bool true)∧Below w.heap.size w w':=by
 have H0:=Mem.start w
 go_enter Tryz.func5,Tryz.ntmps5
 refine sk fun _ K1=>rl ?_
 refine bx 34 (bv c) fun w2 hn_=>?_
 have H3:=Mem.bh H0 hn_
 refine rn ?_
 refine nt (K1 _ _ (sk fun _ K4=>sk fun _ K5=>rl ?_))
 obtain ⟨bg,hbg⟩:∃ b,gB l=b:=⟨_,rfl⟩
 refine ac (z6 w2 l A cap (Mem.lay H3 h) hlight bg hbg) ?_
 rintro e w6 ⟨rfl,hb8⟩
 refine ⟨_,rfl,rn ?_⟩
 have H7:=Mem.call H3 hb8
 cases bg
 ·have hsm:=ru hbg
  have hn:l.length≤1000000:=by have:=hsm.1;omega
  have hl:∀ x∈l,x.2.2.1.length≤1000000∧x.2.2.2.length≤1000000:=fun x hx=>(by have h1:=hsm.2 x hx;omega)
  have hl1:∀ x∈l,x.2.2.1.length≤1000000:=fun x hx=>(hl x hx).1
  have hok:=Ag h
  obtain ⟨d,hd⟩:∃ d,findD l c=d:=⟨_,rfl⟩
  have hdl:=vx hl hd
  obtain ⟨bf,hbf⟩:∃ b,(db l c).isSome=b:=⟨_,rfl⟩
  obtain ⟨br,hbr⟩:∃ b,Dr.bR (l.map itP)=b:=⟨_,rfl⟩
  obtain ⟨us,hus⟩:∃ u,Dr.cy (l.map itP) c=u:=⟨_,rfl⟩
  obtain ⟨ns,hns⟩:∃ u,cA l c=u:=⟨_,rfl⟩
  obtain ⟨ne,hne⟩:∃ u,dE l c=u:=⟨_,rfl⟩
  obtain ⟨dp,hdp⟩:∃ u,dI l c=u:=⟨_,rfl⟩
  have hnso:(∀ z∈ns,okH z)∧ns.length≤1000000:=by rw [← hns];exact ⟨wD hok c,xay (tB c) hn⟩
  have huso:(∀ z∈us,okH z)∧us.length≤1000000:=by rw [← hus];exact ⟨xk hok c,xay (pL _ _) (by rw [xat];exact hn)⟩
  refine nt (K5 _ _ (cf (ks (K4 _ _ (sk fun _ K9=>rl ?_)))))
  refine ac (Aq w6 l _ (Mem.lay H7 h) hl hn) ?_
  rintro e w10 ⟨os,A3,c3,rfl,hb12,hin⟩
  refine ⟨_,rfl,rn ?_⟩
  have H11:=Mem.call H7 hb12
  have hbel:=Mem.below H11
  have h:=Mem.lay H11 h
  have hb_s3:=Mem.blk H11 0 rfl
  obtain ⟨g_s3,hg_s3⟩:∃ g,g=w.heap.size:=⟨_,rfl⟩
  rw [← hg_s3] at hb_s3 ⊢
  have H13:=Mem.start w10
  refine rn ?_
  refine ac (AL w10 l _ (Mem.lay H13 h) hn) ?_
  rintro e w14 ⟨u,rfl,hb16,hr⟩
  refine ⟨_,rfl,rn ?_⟩
  have H15:=Mem.call H13 hb16
  have h:=Mem.lay H15 h
  have hb_s3:=Blk.below hb_s3 (Mem.below H15) (Blk.lt hb_s3)
  have hin:=InP.below hin (Mem.below H15)
  have hbel:=hbel.trans (xam (Mem.below H15) hbel.size)
  have H17:=Mem.start w14
  have h_0:=h
  have hin_0:=hin
  have hr_0:=hr
  have hbel_0:=hbel
  refine rn ?_
  refine nt (K9 _ _ (sk fun _ K18=>rl ?_))
  refine rv (xld (Mem.range H17 (Blk.range hb_s3) (Blk.lt hb_s3)) Tryz.underlying34 (cP hc)) ?_
  refine ac (ye w14 l _ (Mem.lay H17 hin.at_) c hc hl d hd bf hbf) ?_
  rintro e w20 ⟨u1_19,u2_19,rfl,hm_19⟩
  refine ⟨_,rfl,rn ?_⟩
  have H21:=Mem.seq H17 hm_19
  have hx_19:=bz.at_ (hm_19.holds _ (.head _)) (xai _)
  change aK _ _ d u1_19 u2_19 at hx_19
  obtain ⟨q1_19,q2_19⟩:=hx_19.iy
  have h:=Mem.lay H21 h
  have hb_s3:=Blk.below hb_s3 (Mem.below H21) (Blk.lt hb_s3)
  have hin:=InP.below hin (Mem.below H21)
  have hbel:=hbel.trans (xam (Mem.below H21) hbel.size)
  have hr:=Mem.lay H21 hr
  have H23:=Mem.start w20
  refine rn ?_
  refine nz 26 zcD fun w24 hn_=>?_
  have H25:=Mem.bh H23 hn_
  refine rn ?_
  refine stb (Mem.blk H25 0 rfl) (dF d u1_19 u2_19) (dr fX (dF d u1_19 u2_19)) (lq d q1_19 q2_19) fun w26 hk_ hg_=>?_
  have H27:=Mem.st H25 0 rfl hk_ hg_
  refine rn ?_
  refine nt (K18 _ _ (sk fun _ K28=>rl ?_))
  refine rv (xld (Mem.range H27 (Blk.range hb_s3) (Blk.lt hb_s3)) Tryz.underlying34 (cP hc)) ?_
  refine ac (ye w26 l _ (Mem.lay H27 hin.at_) c hc hl d hd bf hbf) ?_
  rintro e w30 ⟨u1_29,u2_29,rfl,hm_29⟩
  refine ⟨_,rfl,rn ?_⟩
  have H31:=Mem.seq H27 hm_29
  have hx_29:=bz.at_ (hm_29.holds _ (.head _)) (xai _)
  change aK _ _ d u1_29 u2_29 at hx_29
  obtain ⟨q1_29,q2_29⟩:=hx_29.iy
  have h:=Mem.lay H31 h
  have hb_s3:=Blk.below hb_s3 (Mem.below H31) (Blk.lt hb_s3)
  have hin:=InP.below hin (Mem.below H31)
  have hbel:=hbel.trans (xam (Mem.below H31) hbel.size)
  have hr:=Mem.lay H31 hr
  have hx_19:=Mem.drv H31 hx_19
  have hb_s7:=Mem.blk H31 1 rfl
  obtain ⟨g_s7,hg_s7⟩:∃ g,g=w20.heap.size:=⟨_,rfl⟩
  rw [← hg_s7] at hb_s7 ⊢
  have H33:=Mem.start w30
  refine rn ?_
  refine nz 26 zcD fun w34 hn_=>?_
  have H35:=Mem.bh H33 hn_
  refine rn ?_
  refine stb (Mem.blk H35 0 rfl) (dF d u1_29 u2_29) (dr fX (dF d u1_29 u2_29)) (lq d q1_29 q2_29) fun w36 hk_ hg_=>?_
  have H37:=Mem.st H35 0 rfl hk_ hg_
  refine rn ?_
  refine nt (K28 _ _ (sk fun _ K38=>rl ?_))
  refine rv (xld (Mem.range H37 (Blk.range hb_s3) (Blk.lt hb_s3)) Tryz.underlying34 (cP hc)) ?_
  refine ac (wQ w36 l _ (Mem.lay H37 hr) c hc d hd bf hbf) ?_
  rintro e w40 ⟨u1_39,u2_39,rfl,hx_39,hb_39⟩
  refine ⟨_,rfl,rn ?_⟩
  have H41:=Mem.call H37 hb_39
  have hx_39:=Mem.drv ((Mem.start w36).call hb_39) hx_39
  obtain ⟨q1_39,q2_39⟩:=hx_39.iy
  have h:=Mem.lay H41 h
  have hb_s3:=Blk.below hb_s3 (Mem.below H41) (Blk.lt hb_s3)
  have hin:=InP.below hin (Mem.below H41)
  have hbel:=hbel.trans (xam (Mem.below H41) hbel.size)
  have hr:=Mem.lay H41 hr
  have hx_19:=Mem.drv H41 hx_19
  have hb_s7:=Blk.below hb_s7 (Mem.below H41) (Blk.lt hb_s7)
  have hx_29:=Mem.drv H41 hx_29
  have hb_s9:=Mem.blk H41 0 rfl
  obtain ⟨g_s9,hg_s9⟩:∃ g,g=w30.heap.size:=⟨_,rfl⟩
  rw [← hg_s9] at hb_s9 ⊢
  have H43:=Mem.start w40
  refine rn ?_
  refine nz 26 zcD fun w44 hn_=>?_
  have H45:=Mem.bh H43 hn_
  refine rn ?_
  refine stb (Mem.blk H45 0 rfl) (dF d u1_39 u2_39) (dr fX (dF d u1_39 u2_39)) (lq d q1_39 q2_39) fun w46 hk_ hg_=>?_
  have H47:=Mem.st H45 0 rfl hk_ hg_
  refine rn ?_
  refine nt (K38 _ _ (sk fun _ K48=>rl ?_))
  refine rv (xld (Mem.range H47 (Blk.range hb_s3) (Blk.lt hb_s3)) Tryz.underlying34 (cP hc)) ?_
  refine ac (AA w46 l A3 c3 (Mem.lay H47 hin.at_) hl1 hn c hc ns hns ne hne) ?_
  rintro e w50 ⟨A_49,c_49,rfl,hm_49⟩
  refine ⟨_,rfl,rn ?_⟩
  have H51:=Mem.seq H47 hm_49
  have ho_49:=hm_49.own 0 rfl
  have h:=Mem.lay H51 h
  have hb_s3:=Blk.below hb_s3 (Mem.below H51) (Blk.lt hb_s3)
  have hin:=InP.below hin (Mem.below H51)
  have hbel:=hbel.trans (xam (Mem.below H51) hbel.size)
  have hr:=Mem.lay H51 hr
  have hx_19:=Mem.drv H51 hx_19
  have hb_s7:=Blk.below hb_s7 (Mem.below H51) (Blk.lt hb_s7)
  have hx_29:=Mem.drv H51 hx_29
  have hb_s9:=Blk.below hb_s9 (Mem.below H51) (Blk.lt hb_s9)
  have hx_39:=Mem.drv H51 hx_39
  have hb_s11:=Mem.blk H51 1 rfl
  obtain ⟨g_s11,hg_s11⟩:∃ g,g=w40.heap.size:=⟨_,rfl⟩
  rw [← hg_s11] at hb_s11 ⊢
  have H53:=Mem.start w50
  refine rn ?_
  refine nt (K48 _ _ (sk fun _ K54=>rl ?_))
  refine rv (xld (Mem.range H53 (Blk.range hb_s3) (Blk.lt hb_s3)) Tryz.underlying34 (cP hc)) ?_
  refine ac (ze w50 l _ (Mem.lay H53 hr) hl1 hn c hc ns hns ne hne) ?_
  rintro e w56 ⟨A_55,c_55,rfl,hm_55⟩
  refine ⟨_,rfl,rn ?_⟩
  have H57:=Mem.seq H53 hm_55
  have ho_55:=hm_55.own 0 rfl
  have h:=Mem.lay H57 h
  have hb_s3:=Blk.below hb_s3 (Mem.below H57) (Blk.lt hb_s3)
  have hin:=InP.below hin (Mem.below H57)
  have hbel:=hbel.trans (xam (Mem.below H57) hbel.size)
  have hr:=Mem.lay H57 hr
  have hx_19:=Mem.drv H57 hx_19
  have hb_s7:=Blk.below hb_s7 (Mem.below H57) (Blk.lt hb_s7)
  have hx_29:=Mem.drv H57 hx_29
  have hb_s9:=Blk.below hb_s9 (Mem.below H57) (Blk.lt hb_s9)
  have hx_39:=Mem.drv H57 hx_39
  have hb_s11:=Blk.below hb_s11 (Mem.below H57) (Blk.lt hb_s11)
  have ho_49:=an ho_49 fun g _ hl=>(Mem.below H57).block g hl
  have H59:=Mem.start w56
  refine rn ?_
  refine nt (K54 _ _ (sk fun _ K60=>sk fun _ K61=>?_))
  have HS62:=Mem.pick H59 [] (by decide) rfl
  refine gN 46 rfl (by kernel_rfl) (fun d _ _ _ _ h=>by cases d<;>exact h) (by kernel_rfl) HS62 ?_
  intro w63 hb66 HS65
  have H64:=Mem.call H59 hb66
  clear HS62
  refine ao 0 1 _ (.slice A3 l.length c3) rfl (by kernel_rfl) (fun W9 hW9=>(aO (.tmp 5) rfl _ rfl W9)) HS65 ?_
  simp only [xaa,xad,xac,xab]
  refine ao 2 5 _ (u) rfl (by kernel_rfl) (fun W9 hW9=>(aO (.tmp 6) rfl _ rfl W9)) HS65 ?_
  simp only [xaa,xad,xac,xab]
  refine b7 1 7 _ rfl (by kernel_rfl) _ _ (by kernel_rfl) (AM w63 l A3 c3 (Mem.lay H64 hin.at_) hl1 br hbr) ?_
  rintro e w67 ⟨rfl,hb70⟩
  have H68:=Mem.call H64 hb70
  have HS69:=Mem.pick H68 [] (by decide) rfl
  clear HS65
  refine ⟨_,rfl,HS69,?_⟩
  simp only [xaa,xad,xac,xab]
  refine b7 3 15 _ rfl (by kernel_rfl) _ _ (by kernel_rfl) (kf w67 l _ (Mem.lay H68 hr) hl1 hn br hbr) ?_
  rintro e w71 ⟨rfl,hb74⟩
  have H72:=Mem.call H68 hb74
  have HS73:=Mem.pick H72 [] (by decide) rfl
  clear HS69
  refine ⟨_,rfl,HS73,?_⟩
  simp only [xaa,xad,xac,xab]
  refine ao 4 31 _ (.bool false) rfl (by kernel_rfl) (fun W9 hW9=>(xW 4 4 (.tmp 58) (.tmp 60) rfl br rfl rfl W9)) HS73 ?_
  simp only [xaa,xad,xac,xab]
  refine ao 5 63 _ (.bool false) rfl (by kernel_rfl) (fun W9 hW9=>(aO (.tmp 61) rfl _ rfl W9)) HS73 ?_
  simp only [xaa,xad,xac,xab]
  refine ao 6 127 _ (.bool bf) rfl (by kernel_rfl) (fun W9 hW9=>(aO (.tmp 8) rfl _ rfl W9)) HS73 ?_
  simp only [xaa,xad,xac,xab]
  refine ao 7 255 _ (.bool bf) rfl (by kernel_rfl) (fun W9 hW9=>(aO (.tmp 12) rfl _ rfl W9)) HS73 ?_
  simp only [xaa,xad,xac,xab]
  refine ao 8 511 _ (.bool false) rfl (by kernel_rfl) (fun W9 hW9=>(xW 4 4 (.tmp 63) (.tmp 64) rfl bf rfl rfl W9)) HS73 ?_
  simp only [xaa,xad,xac,xab]
  refine ao 9 1023 _ (.bool false) rfl (by kernel_rfl) (fun W9 hW9=>(dG (.tmp 62) (.const (.bool true)) (.tmp 65) rfl false rfl _ rfl W9)) HS73 ?_
  simp only [xaa,xad,xac,xab]
  refine ao 10 2047 _ (.bool false) rfl (by kernel_rfl) (fun W9 hW9=>(aO (.tmp 66) rfl _ rfl W9)) HS73 ?_
  simp only [xaa,xad,xac,xab]
  refine ao 11 4095 _ (.agg (dC d u1_19 u2_19).toArray) rfl (by kernel_rfl) (fun W9 hW9=>(aj 26 (.tmp 7) rfl g_s7 (0) rfl (dC d u1_19 u2_19) _ W9 (Mem.range hW9 (Blk.range hb_s7) (Blk.lt hb_s7)) Tryz.underlying26 rfl (bL d u1_19 u2_19))) HS73 ?_
  simp only [xaa,xad,xac,xab]
  refine ao 12 8191 _ (.agg (dC d u1_39 u2_39).toArray) rfl (by kernel_rfl) (fun W9 hW9=>(aj 26 (.tmp 11) rfl g_s11 (0) rfl (dC d u1_39 u2_39) _ W9 (Mem.range hW9 (Blk.range hb_s11) (Blk.lt hb_s11)) Tryz.underlying26 rfl (bL d u1_39 u2_39))) HS73 ?_
  simp only [xaa,xad,xac,xab]
  refine b7 13 16383 _ rfl (by kernel_rfl) _ _ (by kernel_rfl) (AQ w71 d d _ _ _ _ (Mem.drv H72 hx_19) (Mem.drv H72 hx_39) true (decide_eq_true rfl)) ?_
  rintro e w75 ⟨rfl,hb78⟩
  have H76:=Mem.call H72 hb78
  have HS77:=Mem.pick H76 [] (by decide) rfl
  clear HS73
  refine ⟨_,rfl,HS77,?_⟩
  simp only [xaa,xad,xac,xab]
  refine ao 14 32767 _ (.bool false) rfl (by kernel_rfl) (fun W9 hW9=>(by kernel_rfl)) HS77 ?_
  simp only [xaa,xad,xac,xab]
  refine ao 15 65535 _ (.bool false) rfl (by kernel_rfl) (fun W9 hW9=>(dG (.tmp 67) (.const (.bool true)) (.tmp 71) rfl false rfl _ rfl W9)) HS77 ?_
  simp only [xaa,xad,xac,xab]
  refine ao 16 131071 _ (.bool false) rfl (by kernel_rfl) (fun W9 hW9=>(aO (.tmp 72) rfl _ rfl W9)) HS77 ?_
  simp only [xaa,xad,xac,xab]
  refine ao 17 262143 _ (.int .i64 (ne)) rfl (by kernel_rfl) (fun W9 hW9=>(aO (.tmp 14) rfl _ rfl W9)) HS77 ?_
  simp only [xaa,xad,xac,xab]
  refine ao 18 524287 _ (.int .i64 (ne)) rfl (by kernel_rfl) (fun W9 hW9=>(aO (.tmp 16) rfl _ rfl W9)) HS77 ?_
  simp only [xaa,xad,xac,xab]
  refine ao 19 1048575 _ (.bool false) rfl (by kernel_rfl) (fun W9 hW9=>(sR 35 35 (.tmp 74) (.tmp 75) rfl .i64 (ne) (ne) rfl rfl _ (decide_eq_true rfl) W9)) HS77 ?_
  simp only [xaa,xad,xac,xab]
  refine ao 20 2097151 _ (.bool false) rfl (by kernel_rfl) (fun W9 hW9=>(dG (.tmp 73) (.const (.bool true)) (.tmp 76) rfl false rfl _ rfl W9)) HS77 ?_
  simp only [xaa,xad,xac,xab]
  refine ao 21 4194303 _ (.bool false) rfl (by kernel_rfl) (fun W9 hW9=>(aO (.tmp 77) rfl _ rfl W9)) HS77 ?_
  simp only [xaa,xad,xac,xab]
  refine ao 22 8388607 _ (.slice A_49 ns.length c_49) rfl (by kernel_rfl) (fun W9 hW9=>(aO (.tmp 13) rfl _ rfl W9)) HS77 ?_
  simp only [xaa,xad,xac,xab]
  refine ao 23 16777215 _ (.slice A_55 ns.length c_55) rfl (by kernel_rfl) (fun W9 hW9=>(aO (.tmp 15) rfl _ rfl W9)) HS77 ?_
  simp only [xaa,xad,xac,xab]
  refine b7 24 33554431 _ rfl (by kernel_rfl) _ _ (by kernel_rfl) (kg w75 _ _ ns _ _ (an ho_49 fun g _ hl=>(Mem.below H76).block g hl) (an ho_55 fun g _ hl=>(Mem.below H76).block g hl) hnso.1 hnso.2) ?_
  rintro e w79 ⟨rfl,hb82⟩
  have H80:=Mem.call H76 hb82
  have HS81:=Mem.pick H80 [] (by decide) rfl
  clear HS77
  refine ⟨_,rfl,HS81,?_⟩
  simp only [xaa,xad,xac,xab]
  refine ao 25 67108863 _ (.bool false) rfl (by kernel_rfl) (fun W9 hW9=>(by kernel_rfl)) HS81 ?_
  simp only [xaa,xad,xac,xab]
  refine ao 26 134217727 _ (.bool false) rfl (by kernel_rfl) (fun W9 hW9=>(dG (.tmp 78) (.const (.bool true)) (.tmp 82) rfl false rfl _ rfl W9)) HS81 ?_
  simp only [xaa,xad,xac,xab]
  refine ao 27 268435455 _ (.bool false) rfl (by kernel_rfl) (fun W9 hW9=>(aO (.tmp 83) rfl _ rfl W9)) HS81 ?_
  simp only [xaa,xad,xac,xab]
  refine ao 28 536870911 _ (.slice A3 l.length c3) rfl (by kernel_rfl) (fun W9 hW9=>(aO (.tmp 5) rfl _ rfl W9)) HS81 ?_
  simp only [xaa,xad,xac,xab]
  refine ao 29 1073741823 _ (.agg (bv c).toArray) rfl (by kernel_rfl) (fun W9 hW9=>(aj 34 (.tmp 3) rfl g_s3 (0) rfl (bv c) _ W9 (Mem.range hW9 (Blk.range hb_s3) (Blk.lt hb_s3)) Tryz.underlying34 rfl (cP hc))) HS81 ?_
  simp only [xaa,xad,xac,xab]
  refine ao 31 3221225471 _ (u) rfl (by kernel_rfl) (fun W9 hW9=>(aO (.tmp 6) rfl _ rfl W9)) HS81 ?_
  simp only [xaa,xad,xac,xab]
  refine ao 32 7516192767 _ (.agg (bv c).toArray) rfl (by kernel_rfl) (fun W9 hW9=>(aj 34 (.tmp 3) rfl g_s3 (0) rfl (bv c) _ W9 (Mem.range hW9 (Blk.range hb_s3) (Blk.lt hb_s3)) Tryz.underlying34 rfl (cP hc))) HS81 ?_
  simp only [xaa,xad,xac,xab]
  refine b7 30 8589934591 _ rfl (by kernel_rfl) _ _ (by kernel_rfl) (zP w79 l A3 c3 (Mem.lay H80 hin.at_) hl1 hn c hc dp hdp) ?_
  rintro e w83 ⟨rfl,hb86⟩
  have H84:=Mem.call H80 hb86
  have HS85:=Mem.pick H84 [] (by decide) rfl
  clear HS81
  refine ⟨_,rfl,HS85,?_⟩
  simp only [xaa,xad,xac,xab]
  refine b7 33 17179869183 _ rfl (by kernel_rfl) _ _ (by kernel_rfl) (tM w83 l _ (Mem.lay H84 hr) hl1 hn c hc dp hdp) ?_
  rintro e w87 ⟨rfl,hb90⟩
  have H88:=Mem.call H84 hb90
  have HS89:=Mem.pick H88 [] (by decide) rfl
  clear HS85
  refine ⟨_,rfl,HS89,?_⟩
  simp only [xaa,xad,xac,xab]
  refine ao 34 34359738367 _ (.bool false) rfl (by kernel_rfl) (fun W9 hW9=>(sR 3 3 (.tmp 87) (.tmp 90) rfl .i64 ((dp:Int)) ((dp:Int)) rfl rfl _ (decide_eq_true rfl) W9)) HS89 ?_
  simp only [xaa,xad,xac,xab]
  refine ao 35 68719476735 _ (.bool false) rfl (by kernel_rfl) (fun W9 hW9=>(dG (.tmp 84) (.const (.bool true)) (.tmp 91) rfl false rfl _ rfl W9)) HS89 ?_
  simp only [xaa,xad,xac,xab]
  refine ao 36 137438953471 _ (.bool false) rfl (by kernel_rfl) (fun W9 hW9=>(aO (.tmp 92) rfl _ rfl W9)) HS89 ?_
  simp only [xaa,xad,xac,xab]
  refine ao 37 274877906943 _ (.slice A3 l.length c3) rfl (by kernel_rfl) (fun W9 hW9=>(aO (.tmp 5) rfl _ rfl W9)) HS89 ?_
  simp only [xaa,xad,xac,xab]
  refine ao 38 549755813887 _ (.agg (bv c).toArray) rfl (by kernel_rfl) (fun W9 hW9=>(aj 34 (.tmp 3) rfl g_s3 (0) rfl (bv c) _ W9 (Mem.range hW9 (Blk.range hb_s3) (Blk.lt hb_s3)) Tryz.underlying34 rfl (cP hc))) HS89 ?_
  simp only [xaa,xad,xac,xab]
  refine ao 40 1649267441663 _ (u) rfl (by kernel_rfl) (fun W9 hW9=>(aO (.tmp 6) rfl _ rfl W9)) HS89 ?_
  simp only [xaa,xad,xac,xab]
  refine ao 41 3848290697215 _ (.agg (bv c).toArray) rfl (by kernel_rfl) (fun W9 hW9=>(aj 34 (.tmp 3) rfl g_s3 (0) rfl (bv c) _ W9 (Mem.range hW9 (Blk.range hb_s3) (Blk.lt hb_s3)) Tryz.underlying34 rfl (cP hc))) HS89 ?_
  simp only [xaa,xad,xac,xab]
  refine b7 39 4398046511103 _ rfl (by kernel_rfl) _ _ (by kernel_rfl) (AW w87 l A3 c3 (Mem.lay H88 hin.at_) hl1 hn c hc us hus) ?_
  rintro e w92 ⟨A_91,c_91,rfl,hm_91⟩
  have H93:=Mem.seq H88 hm_91
  have HS94:=Mem.pick H93 [] (by decide) rfl
  clear HS89
  refine ⟨_,rfl,HS94,?_⟩
  simp only [xaa,xad,xac,xab]
  refine b7 42 8796093022207 _ rfl (by kernel_rfl) _ _ (by kernel_rfl) (tT w92 l _ (Mem.lay H93 hr) hl1 hn c hc us hus) ?_
  rintro e w97 ⟨A_96,c_96,rfl,hm_96⟩
  have H98:=Mem.seq H93 hm_96
  have HS99:=Mem.pick H98 [] (by decide) rfl
  clear HS94
  refine ⟨_,rfl,HS99,?_⟩
  simp only [xaa,xad,xac,xab]
  refine b7 43 17592186044415 _ rfl (by kernel_rfl) _ _ (by kernel_rfl) (kg w97 _ _ us _ _ (Mem.own H98 1 rfl) (Mem.own H98 0 rfl) huso.1 huso.2) ?_
  rintro e w101 ⟨rfl,hb104⟩
  have H102:=Mem.call H98 hb104
  have HS103:=Mem.pick H102 [] (by decide) rfl
  clear HS99
  refine ⟨_,rfl,HS103,?_⟩
  simp only [xaa,xad,xac,xab]
  refine ao 44 35184372088831 _ (.bool false) rfl (by kernel_rfl) (fun W9 hW9=>(by kernel_rfl)) HS103 ?_
  simp only [xaa,xad,xac,xab]
  refine ao 45 70368744177663 _ (.bool false) rfl (by kernel_rfl) (fun W9 hW9=>(dG (.tmp 93) (.const (.bool true)) (.tmp 101) rfl false rfl _ rfl W9)) HS103 ?_
  simp only [xaa,xad,xac,xab]
  refine ij (by kernel_rfl) ?_
  refine ab (K61 _ _ (cf (ks (K60 _ _ (sk fun _ K105=>sk fun _ K106=>rl ?_)))))
  refine nt (K106 _ _ (wp_block ?_))
  have h:=Mem.lay H102 h
  have hb_s3:=Blk.below hb_s3 (Mem.below H102) (Blk.lt hb_s3)
  have hin:=InP.below hin (Mem.below H102)
  have hbel:=hbel.trans (xam (Mem.below H102) hbel.size)
  have hr:=Mem.lay H102 hr
  have hx_19:=Mem.drv H102 hx_19
  have hb_s7:=Blk.below hb_s7 (Mem.below H102) (Blk.lt hb_s7)
  have hx_29:=Mem.drv H102 hx_29
  have hb_s9:=Blk.below hb_s9 (Mem.below H102) (Blk.lt hb_s9)
  have hx_39:=Mem.drv H102 hx_39
  have hb_s11:=Blk.below hb_s11 (Mem.below H102) (Blk.lt hb_s11)
  have ho_49:=an ho_49 fun g _ hl=>(Mem.below H102).block g hl
  have ho_55:=an ho_55 fun g _ hl=>(Mem.below H102).block g hl
  have H107:=Mem.start w101
  obtain ⟨_,_,ekk,ht108,hmht108,_,hA⟩:=ak h
  injection ekk with ek1 _ ek3
  subst ek1 ek3
  simp only [maxLen] at hmht108
  obtain ⟨_,_,ekk,ht109,hmht109,_,hA3⟩:=ak hin.at_
  injection ekk with ek1 _ ek3
  subst ek1 ek3
  simp only [maxLen] at hmht109
  go_loopw [17] (fun x17 wr=>∃ i:Nat,x17=.int .i64 (i:Int)∧(i≤l.length)∧Mem w101 wr []) (fun x17 _=>l.length-(intOf x17).toNat)
  case atStart=>exact ⟨0,rfl,by omega,H107⟩
  case round =>
   obtain ⟨wo110,rfl⟩:∃ wo110,wo110=wr:=⟨_,rfl⟩
   obtain ⟨i,rfl,hi,H111⟩:=hrel
   refine sk fun _ K113=>sk fun _ K114=>rl ?_
   by_cases p115:(i:Int)<((l.length:Nat):Int)
   ·refine rv (aA (decide_eq_true p115)) ?_
    refine nt (K114 _ _ (ct (ks (K113 _ _ (sk fun _ K116=>wp_block (sk fun _ K117=>?_))))))
    have HS118:=Mem.pick H111 [] (by decide) rfl
    refine gN 14 rfl (by kernel_rfl) (fun d _ _ _ _ h=>by cases d<;>exact h) (by kernel_rfl) HS118 ?_
    intro w119 hb122 HS121
    have H120:=Mem.call H111 hb122
    clear HS118
    refine ao 0 1 _ (.slice A3 l.length c3) rfl (by kernel_rfl) (fun W9 hW9=>(aO (.tmp 5) rfl _ rfl W9)) HS121 ?_
    simp only [xaa,xad,xac,xab]
    refine ao 1 3 _ (.int .i64 (i:Int)) rfl (by kernel_rfl) (fun W9 hW9=>(aO (.tmp 17) rfl _ rfl W9)) HS121 ?_
    simp only [xaa,xad,xac,xab]
    obtain ⟨b123,o124,rfl,hlt126,hE125⟩:=hA3 (by omega)
    obtain ⟨x127,hx128⟩:=gx (l:=l) (j:=i)
    have hd129:=ay hx128
    obtain ⟨cs,hr130,ha131⟩:=hE125 (i) x127 hx128
    obtain ⟨v132,v133,rfl,xo134,xd135⟩:=bP.1 ha131
    obtain ⟨A136,c137,rfl,hlc137,hmc137,_,hA138⟩:=ak xd135.ins
    obtain ⟨A139,c140,rfl,hlc140,hmc140,_,hA141⟩:=ak xd135.rcp
    simp only [maxLen] at hmc137 hmc140
    refine ao 2 7 _ (.pointer (some ⟨b123,o124+i*23,none⟩)) rfl (by kernel_rfl) (fun W9 hW9=>(aU 22 59 (.tmp 109) (.tmp 110) rfl b123 o124 (l.length) c3 (i) rfl rfl (by omega) 23 Tryz.underlying22 cI W9)) HS121 ?_
    simp only [xaa,xad,xac,xab]
    refine ao 3 15 _ (.pointer (some ⟨b123,o124+i*23+20,none⟩)) rfl (by kernel_rfl) (fun W9 hW9=>(by kernel_rfl)) HS121 ?_
    simp only [xaa,xad,xac,xab]
    refine ao 4 31 _ (.agg (dC x127.2 (.slice A136 x127.2.2.1.length c137) (.slice A139 x127.2.2.2.length c140)).toArray) rfl (by kernel_rfl) (fun W9 hW9=>(aj 26 (.tmp 112) rfl b123 (o124+i*23+20) rfl (dC x127.2 (.slice A136 x127.2.2.1.length c137) (.slice A139 x127.2.2.2.length c140)) _ W9 (cg xo134 (Mem.range hW9 hr130 hlt126)) Tryz.underlying26 rfl (bL x127.2 (.slice A136 x127.2.2.1.length c137) (.slice A139 x127.2.2.2.length c140)))) HS121 ?_
    simp only [xaa,xad,xac,xab]
    refine ao 6 95 _ (.slice (some ⟨b123,o124,none⟩) l.length c3) rfl (by kernel_rfl) (fun W9 hW9=>(aO (.tmp 5) rfl _ rfl W9)) HS121 ?_
    simp only [xaa,xad,xac,xab]
    refine ao 7 223 _ (.int .i64 (i:Int)) rfl (by kernel_rfl) (fun W9 hW9=>(aO (.tmp 17) rfl _ rfl W9)) HS121 ?_
    simp only [xaa,xad,xac,xab]
    refine ao 8 479 _ (.pointer (some ⟨b123,o124+i*23,none⟩)) rfl (by kernel_rfl) (fun W9 hW9=>(aU 22 59 (.tmp 115) (.tmp 116) rfl b123 o124 (l.length) c3 (i) rfl rfl (by omega) 23 Tryz.underlying22 cI W9)) HS121 ?_
    simp only [xaa,xad,xac,xab]
    refine ao 9 991 _ (.pointer (some ⟨b123,o124+i*23+20,none⟩)) rfl (by kernel_rfl) (fun W9 hW9=>(by kernel_rfl)) HS121 ?_
    simp only [xaa,xad,xac,xab]
    refine ao 10 2015 _ (.agg (dC x127.2 (.slice A136 x127.2.2.1.length c137) (.slice A139 x127.2.2.2.length c140)).toArray) rfl (by kernel_rfl) (fun W9 hW9=>(aj 26 (.tmp 118) rfl b123 (o124+i*23+20) rfl (dC x127.2 (.slice A136 x127.2.2.1.length c137) (.slice A139 x127.2.2.2.length c140)) _ W9 (cg xo134 (Mem.range hW9 hr130 hlt126)) Tryz.underlying26 rfl (bL x127.2 (.slice A136 x127.2.2.1.length c137) (.slice A139 x127.2.2.2.length c140)))) HS121 ?_
    simp only [xaa,xad,xac,xab]
    obtain ⟨ps,hps⟩:∃ p,bV (eB x127.2.2.1)=p:=⟨_,rfl⟩
    obtain ⟨cs9,hcs9⟩:∃ p,az x127.2.2.1=p:=⟨_,rfl⟩
    have hld:=(hl _ (xak hx128)).1
    have hpso:=ug xd135 hps
    have hcso:=sL xd135 hcs9
    have hpsn:ps.length≤1000000:=xay hpso.2 hld
    have hcsn:cs9.length≤1000000:=xay hcso.2 hld
    refine b7 5 2047 _ rfl (by kernel_rfl) _ _ (by kernel_rfl) (pK w119 x127.2 _ _ (Mem.drv H120 xd135) hld ps hps) ?_
    rintro e w143 ⟨B_142,A_142,c_142,rfl,hm_142⟩
    have H144:=Mem.seq H120 hm_142
    have HS145:=Mem.pick H144 [] (by decide) rfl
    clear HS121
    refine ⟨_,rfl,HS145,?_⟩
    simp only [xaa,xad,xac,xab]
    refine b7 11 4095 _ rfl (by kernel_rfl) _ _ (by kernel_rfl) (pK w143 x127.2 _ _ (Mem.drv H144 xd135) hld ps hps) ?_
    rintro e w148 ⟨B_147,A_147,c_147,rfl,hm_147⟩
    have H149:=Mem.seq H144 hm_147
    have HS150:=Mem.pick H149 [] (by decide) rfl
    clear HS145
    refine ⟨_,rfl,HS150,?_⟩
    simp only [xaa,xad,xac,xab]
    refine ao 12 8191 _ (.slice A_142 ps.length c_142) rfl (by kernel_rfl) (fun W9 hW9=>(lv (.tmp 114) rfl _ rfl W9)) HS150 ?_
    simp only [xaa,xad,xac,xab]
    refine ao 13 16383 _ (.slice A_147 ps.length c_147) rfl (by kernel_rfl) (fun W9 hW9=>(lv (.tmp 120) rfl _ rfl W9)) HS150 ?_
    simp only [xaa,xad,xac,xab]
    refine ij (by kernel_rfl) ?_
    refine ab (K117 _ _ (sk fun _ K152=>?_))
    have HS153:=Mem.pick H149 [] (by decide) rfl
    refine gN 32 rfl (by kernel_rfl) (fun d _ _ _ _ h=>by cases d<;>exact h) (by kernel_rfl) HS153 ?_
    intro w154 hb157 HS156
    have H155:=Mem.call H149 hb157
    clear HS153
    refine ao 0 1 _ (.slice A_142 ps.length c_142) rfl (by kernel_rfl) (fun W9 hW9=>(aO (.tmp 18) rfl _ rfl W9)) HS156 ?_
    simp only [xaa,xad,xac,xab]
    refine ao 1 3 _ (.slice A l.length cap) rfl (by kernel_rfl) (fun W9 hW9=>(aO (.tmp 0) rfl _ rfl W9)) HS156 ?_
    simp only [xaa,xad,xac,xab]
    refine ao 2 7 _ (.int .i64 (i:Int)) rfl (by kernel_rfl) (fun W9 hW9=>(aO (.tmp 17) rfl _ rfl W9)) HS156 ?_
    simp only [xaa,xad,xac,xab]
    obtain ⟨b158,o159,rfl,hlt161,hE160⟩:=hA (by omega)
    obtain ⟨x162,hx163⟩:=gx (l:=l) (j:=i)
    have hd164:=ay hx163
    obtain ⟨cs,hr165,ha166⟩:=hE160 (i) x162 hx163
    obtain ⟨v167,v168,rfl,xo169,xd170⟩:=bP.1 ha166
    obtain ⟨A171,c172,rfl,hlc172,hmc172,_,hA173⟩:=ak xd170.ins
    obtain ⟨A174,c175,rfl,hlc175,hmc175,_,hA176⟩:=ak xd170.rcp
    simp only [maxLen] at hmc172 hmc175
    refine ao 3 15 _ (.pointer (some ⟨b158,o159+i*23,none⟩)) rfl (by kernel_rfl) (fun W9 hW9=>(aU 22 59 (.tmp 122) (.tmp 123) rfl b158 o159 (l.length) cap (i) rfl rfl (by omega) 23 Tryz.underlying22 cI W9)) HS156 ?_
    simp only [xaa,xad,xac,xab]
    refine ao 4 31 _ (.pointer (some ⟨b158,o159+i*23+20,none⟩)) rfl (by kernel_rfl) (fun W9 hW9=>(by kernel_rfl)) HS156 ?_
    simp only [xaa,xad,xac,xab]
    refine ao 5 63 _ (.agg (dC x162.2 (.slice A171 x162.2.2.1.length c172) (.slice A174 x162.2.2.2.length c175)).toArray) rfl (by kernel_rfl) (fun W9 hW9=>(aj 26 (.tmp 125) rfl b158 (o159+i*23+20) rfl (dC x162.2 (.slice A171 x162.2.2.1.length c172) (.slice A174 x162.2.2.2.length c175)) _ W9 (cg xo169 (Mem.range hW9 hr165 hlt161)) Tryz.underlying26 rfl (bL x162.2 (.slice A171 x162.2.2.1.length c172) (.slice A174 x162.2.2.2.length c175)))) HS156 ?_
    simp only [xaa,xad,xac,xab]
    have h12:x162=x127:=xao (hx163.symm.trans hx128)
    refine b7 6 127 _ rfl (by kernel_rfl) _ _ (by kernel_rfl) (tR w154 x162.2 _ _ (Mem.drv H155 xd170) (by rw [h12];exact hld) ps (by rw [h12];exact hps)) ?_
    rintro e w178 ⟨B_177,A_177,c_177,rfl,hm_177⟩
    have H179:=Mem.seq H155 hm_177
    have HS180:=Mem.pick H179 [] (by decide) rfl
    clear HS156
    refine ⟨_,rfl,HS180,?_⟩
    simp only [xaa,xad,xac,xab]
    refine b7 7 255 _ rfl (by kernel_rfl) _ _ (by kernel_rfl) (tX w178 _ _ ps _ _ (Mem.own H179 2 rfl) (Mem.own H179 0 rfl) hpso.1 hpsn) ?_
    rintro e w182 ⟨rfl,hb185⟩
    have H183:=Mem.call H179 hb185
    have HS184:=Mem.pick H183 [] (by decide) rfl
    clear HS180
    refine ⟨_,rfl,HS184,?_⟩
    simp only [xaa,xad,xac,xab]
    refine ao 8 511 _ (.bool false) rfl (by kernel_rfl) (fun W9 hW9=>(by kernel_rfl)) HS184 ?_
    simp only [xaa,xad,xac,xab]
    refine ao 9 1023 _ (.bool false) rfl (by kernel_rfl) (fun W9 hW9=>(aO (.tmp 129) rfl _ rfl W9)) HS184 ?_
    simp only [xaa,xad,xac,xab]
    refine ao 10 2047 _ (.slice (some ⟨b123,o124,none⟩) l.length c3) rfl (by kernel_rfl) (fun W9 hW9=>(aO (.tmp 5) rfl _ rfl W9)) HS184 ?_
    simp only [xaa,xad,xac,xab]
    refine ao 11 4095 _ (.int .i64 (i:Int)) rfl (by kernel_rfl) (fun W9 hW9=>(aO (.tmp 17) rfl _ rfl W9)) HS184 ?_
    simp only [xaa,xad,xac,xab]
    refine ao 12 8191 _ (.pointer (some ⟨b123,o124+i*23,none⟩)) rfl (by kernel_rfl) (fun W9 hW9=>(aU 22 59 (.tmp 131) (.tmp 132) rfl b123 o124 (l.length) c3 (i) rfl rfl (by omega) 23 Tryz.underlying22 cI W9)) HS184 ?_
    simp only [xaa,xad,xac,xab]
    refine ao 13 16383 _ (.pointer (some ⟨b123,o124+i*23+20,none⟩)) rfl (by kernel_rfl) (fun W9 hW9=>(by kernel_rfl)) HS184 ?_
    simp only [xaa,xad,xac,xab]
    refine ao 14 32767 _ (.agg (dC x127.2 (.slice A136 x127.2.2.1.length c137) (.slice A139 x127.2.2.2.length c140)).toArray) rfl (by kernel_rfl) (fun W9 hW9=>(aj 26 (.tmp 134) rfl b123 (o124+i*23+20) rfl (dC x127.2 (.slice A136 x127.2.2.1.length c137) (.slice A139 x127.2.2.2.length c140)) _ W9 (cg xo134 (Mem.range hW9 hr130 hlt126)) Tryz.underlying26 rfl (bL x127.2 (.slice A136 x127.2.2.1.length c137) (.slice A139 x127.2.2.2.length c140)))) HS184 ?_
    simp only [xaa,xad,xac,xab]
    refine ao 16 98303 _ (.slice (some ⟨b158,o159,none⟩) l.length cap) rfl (by kernel_rfl) (fun W9 hW9=>(aO (.tmp 0) rfl _ rfl W9)) HS184 ?_
    simp only [xaa,xad,xac,xab]
    refine ao 17 229375 _ (.int .i64 (i:Int)) rfl (by kernel_rfl) (fun W9 hW9=>(aO (.tmp 17) rfl _ rfl W9)) HS184 ?_
    simp only [xaa,xad,xac,xab]
    refine ao 18 491519 _ (.pointer (some ⟨b158,o159+i*23,none⟩)) rfl (by kernel_rfl) (fun W9 hW9=>(aU 22 59 (.tmp 137) (.tmp 138) rfl b158 o159 (l.length) cap (i) rfl rfl (by omega) 23 Tryz.underlying22 cI W9)) HS184 ?_
    simp only [xaa,xad,xac,xab]
    refine ao 19 1015807 _ (.pointer (some ⟨b158,o159+i*23+20,none⟩)) rfl (by kernel_rfl) (fun W9 hW9=>(by kernel_rfl)) HS184 ?_
    simp only [xaa,xad,xac,xab]
    refine ao 20 2064383 _ (.agg (dC x162.2 (.slice A171 x162.2.2.1.length c172) (.slice A174 x162.2.2.2.length c175)).toArray) rfl (by kernel_rfl) (fun W9 hW9=>(aj 26 (.tmp 140) rfl b158 (o159+i*23+20) rfl (dC x162.2 (.slice A171 x162.2.2.1.length c172) (.slice A174 x162.2.2.2.length c175)) _ W9 (cg xo169 (Mem.range hW9 hr165 hlt161)) Tryz.underlying26 rfl (bL x162.2 (.slice A171 x162.2.2.1.length c172) (.slice A174 x162.2.2.2.length c175)))) HS184 ?_
    simp only [xaa,xad,xac,xab]
    refine b7 15 2097151 _ rfl (by kernel_rfl) _ _ (by kernel_rfl) (vl w182 x127.2 _ _ (Mem.drv H183 xd135) hld cs9 hcs9) ?_
    rintro e w187 ⟨A_186,c_186,rfl,hm_186⟩
    have H188:=Mem.seq H183 hm_186
    have HS189:=Mem.pick H188 [] (by decide) rfl
    clear HS184
    refine ⟨_,rfl,HS189,?_⟩
    simp only [xaa,xad,xac,xab]
    refine b7 21 4194303 _ rfl (by kernel_rfl) _ _ (by kernel_rfl) (tL w187 x162.2 _ _ (Mem.drv H188 xd170) (by rw [h12];exact hld) cs9 (by rw [h12];exact hcs9)) ?_
    rintro e w192 ⟨A_191,c_191,rfl,hm_191⟩
    have H193:=Mem.seq H188 hm_191
    have HS194:=Mem.pick H193 [] (by decide) rfl
    clear HS189
    refine ⟨_,rfl,HS194,?_⟩
    simp only [xaa,xad,xac,xab]
    refine b7 22 8388607 _ rfl (by kernel_rfl) _ _ (by kernel_rfl) (kg w192 _ _ cs9 _ _ (Mem.own H193 1 rfl) (Mem.own H193 0 rfl) hcso.1 hcsn) ?_
    rintro e w196 ⟨rfl,hb199⟩
    have H197:=Mem.call H193 hb199
    have HS198:=Mem.pick H197 [] (by decide) rfl
    clear HS194
    refine ⟨_,rfl,HS198,?_⟩
    simp only [xaa,xad,xac,xab]
    refine ao 23 16777215 _ (.bool false) rfl (by kernel_rfl) (fun W9 hW9=>(by kernel_rfl)) HS198 ?_
    simp only [xaa,xad,xac,xab]
    refine ao 24 33554431 _ (.bool false) rfl (by kernel_rfl) (fun W9 hW9=>(dG (.tmp 130) (.const (.bool true)) (.tmp 144) rfl false rfl _ rfl W9)) HS198 ?_
    simp only [xaa,xad,xac,xab]
    refine ao 25 67108863 _ (.bool false) rfl (by kernel_rfl) (fun W9 hW9=>(aO (.tmp 145) rfl _ rfl W9)) HS198 ?_
    simp only [xaa,xad,xac,xab]
    refine ao 26 134217727 _ (.slice A_142 ps.length c_142) rfl (by kernel_rfl) (fun W9 hW9=>(aO (.tmp 18) rfl _ rfl W9)) HS198 ?_
    simp only [xaa,xad,xac,xab]
    refine ao 27 268435455 _ (.slice A_147 ps.length c_147) rfl (by kernel_rfl) (fun W9 hW9=>(aO (.tmp 19) rfl _ rfl W9)) HS198 ?_
    simp only [xaa,xad,xac,xab]
    obtain ⟨w200,hw8⟩:∃ w8,w8=w196.alloc (.cells #[xag A_142 ps.length c_142,xag A_147 ps.length c_147] 72):=⟨_,rfl⟩
    have hn8:hI w196 w200 72 #[xag A_142 ps.length c_142,xag A_147 ps.length c_147]:=hw8▸cF _ _ _
    have H201:=Mem.bh H197 hn8
    have H202:=Mem.jt H201 0 rfl (f:=vb) (l:=[xag A_142 ps.length c_142,xag A_147 ps.length c_147]) (B:=w101.heap.size) (t:=72) (s:=1) (cap:=2) rfl rfl rfl (by decide)
    have HS203:=Mem.pick H202 [] (by decide) rfl
    clear HS198
    refine z7 28 536870911 _ (.slice (some ⟨w196.heap.size,0,none⟩) 2 2) w200 rfl (by kernel_rfl) (by rw [hw8];kernel_rfl) HS203 ?_
    clear hw8 hn8
    simp only [xaa,xad,xac,xab]
    refine b7 29 1073741823 _ rfl (by kernel_rfl) _ _ (by kernel_rfl) (vg w101 w200 [] ps.length ps.length _ _ _ _ _ _ _ _ _ _ hpsn hpsn (Mem.pick H202 [0,5,4] (by decide) rfl)) ?_
    rintro e w205 ⟨rfl,hm204⟩
    have H206:=hm204
    have HS207:=Mem.pick H206 [] (by decide) rfl
    clear HS203
    refine ⟨_,rfl,HS207,?_⟩
    simp only [xaa,xad,xac,xab]
    refine ao 30 2147483647 _ (.bool false) rfl (by kernel_rfl) (fun W9 hW9=>(by kernel_rfl)) HS207 ?_
    simp only [xaa,xad,xac,xab]
    refine ao 31 4294967295 _ (.bool false) rfl (by kernel_rfl) (fun W9 hW9=>(dG (.tmp 146) (.const (.bool true)) (.tmp 151) rfl false rfl _ rfl W9)) HS207 ?_
    simp only [xaa,xad,xac,xab]
    refine ij (by kernel_rfl) ?_
    refine ab (K152 _ _ (cf ?_))
    refine wp_skip ?_
    refine al (ab (K116 _ _ (rl ?_)))
    refine rv (aL (((i+1:Nat):Int))) ?_
    refine wpList_nil ?_
    refine ab ?_
    show _∧_
    go_roundw
    case rel=>exact ⟨(i+1),rfl,by omega,H206⟩
    case measure=>simp [intOf];omega
   ·have he209:=bJ (l:=l) (j:=i) (by omega)
    refine rv (aA (decide_eq_false p115)) ?_
    refine nt (K114 _ _ (cf (wp_exit (ai (ai (ax (ab (K105 _ _ (sk fun _ K210=>rl ?_)))))))))
    refine ac (uJ wo110 l os A3 c3 (InP.below hin (Mem.below H111)) _ (Mem.lay H111 h) hl hn) ?_
    rintro e w211 ⟨rfl,hb213⟩
    refine ⟨_,rfl,rn ?_⟩
    have H212:=Mem.call H111 hb213
    refine rn ?_
    refine rv (xld (Mem.range H212 (Blk.range hb_s7) (Blk.lt hb_s7)) Tryz.underlying26 (bL d u1_19 u2_19)) ?_
    refine lf (by kernel_rfl) 53 (.tmp 157) rfl 26 3 (.agg zcD) (.agg (dC d u1_19 u2_19).toArray) rfl Tryz.underlying53 (by kernel_rfl) (by decide) (by decide) (fun w=>by kernel_rfl) rfl ?_
    intro w214 hn
    have H215:=Mem.bh H212 hn
    clear hn
    refine rn ?_
    have H216:=Mem.jt H215 0 rfl (f:=dV9) (l:=[((c,d),u1_19,u2_19)]) (B:=w101.heap.size) (t:=26) (s:=3) (cap:=1) rfl rfl rfl (by decide)
    refine rv (xld (Mem.range H216 (Blk.range hb_s9) (Blk.lt hb_s9)) Tryz.underlying26 (bL d u1_29 u2_29)) ?_
    refine lf (by kernel_rfl) 53 (.tmp 159) rfl 26 3 (.agg zcD) (.agg (dC d u1_29 u2_29).toArray) rfl Tryz.underlying53 (by kernel_rfl) (by decide) (by decide) (fun w=>by kernel_rfl) rfl ?_
    intro w217 hn
    have H218:=Mem.bh H216 hn
    clear hn
    refine rn ?_
    have H219:=Mem.jt H218 0 rfl (f:=dV9) (l:=[((c,d),u1_29,u2_29)]) (B:=w101.heap.size) (t:=26) (s:=3) (cap:=1) rfl rfl rfl (by decide)
    obtain ⟨w220,hw8⟩:∃ w8,w8=w217.alloc (.cells #[xag (some ⟨w211.heap.size,0,none⟩) 1 1,xag (some ⟨w214.heap.size,0,none⟩) 1 1] 53):=⟨_,rfl⟩
    have hn8:hI w217 w220 53 #[xag (some ⟨w211.heap.size,0,none⟩) 1 1,xag (some ⟨w214.heap.size,0,none⟩) 1 1]:=hw8▸cF _ _ _
    have H221:=Mem.bh H219 hn8
    have H222:=Mem.jt H221 0 rfl (f:=vb) (l:=[xag (some ⟨w211.heap.size,0,none⟩) 1 1,xag (some ⟨w214.heap.size,0,none⟩) 1 1]) (B:=w101.heap.size) (t:=53) (s:=1) (cap:=2) rfl rfl rfl (by decide)
    refine aC (by kernel_rfl) (.slice (some ⟨w217.heap.size,0,none⟩) 2 2) w220 (by rw [hw8];kernel_rfl) ?_
    clear hw8 hn8
    refine rn ?_
    have HJ223:=(Mem.seq (Mem.seq (Mem.seq (Mem.seq (Mem.seq (Mem.seq H21 H31) H41) H51) H57) H102) H222)
    refine ac (pU w14 w220 ((c,d),u1_19,u2_19) ((c,d),u1_29,u2_29) _ _ _ _ _ _ _ _ (Mem.pick HJ223 [0,2,1,11,9] (by decide) rfl) hdl hdl) ?_
    rintro e w225 ⟨rfl,hm224⟩
    refine ⟨_,rfl,rn ?_⟩
    have H226:=hm224
    have h:=Mem.lay H226 h_0
    have hin:=InP.below hin_0 (Mem.below H226)
    have hr:=Mem.lay H226 hr_0
    have hbel:=hbel_0.trans (xam (Mem.below H226) hbel_0.size)
    have H228:=Mem.start w225
    refine rn ?_
    refine ac (uJ w225 l os A3 c3 (InP.below hin (Mem.below H228)) _ (Mem.lay H228 h) hl hn) ?_
    rintro e w229 ⟨rfl,hb231⟩
    refine ⟨_,rfl,rn ?_⟩
    have H230:=Mem.call H228 hb231
    refine rn ?_
    refine ac (pY w229) ?_
    rintro e w232 ⟨rfl,hb234⟩
    refine ⟨_,rfl,rn ?_⟩
    have H233:=Mem.call H230 hb234
    refine rn ?_
    refine nt (K210 _ _ (rt ?_))
    exact ⟨rfl,hbel.trans (xam (Mem.below H233) hbel.size)⟩
 ·refine nt (K5 _ _ (ct (sk fun _ K235=>rl ?_)))
  refine ac (pY w6) ?_
  rintro e w236 ⟨rfl,hb238⟩
  refine ⟨_,rfl,rn ?_⟩
  have H237:=Mem.call H7 hb238
  refine rn ?_
  refine nt (K235 _ _ (rt ?_))
  exact ⟨rfl,Mem.below H237⟩
end Go.Proofs.YtomnhnmciopiiaaGreat
end
section
namespace Go.Proofs.YtomnhnmciopiiaaGreat
open Go Go.RowKit Go.Maps
def odV (B:Nat) (p:b4):Ent:=⟨fun b=>p.2.1.ownBlock=some b∨p.2.2.ownBlock=some b,fun w=>(okH p.1.1∧iN p.1.2)∧bz w B p.1.2 p.2.1 p.2.2⟩
theorem j6 (B:Nat) (p:b4):(odV B p).Ok:=fun _ _ h hk=>⟨h.1,h.2.name,h.2.okn,h.2.okb,an h.2.gF fun g hg hl=>hk g (.inl hg) hl,an h.2.iL fun g hg hl=>hk g (.inr hg) hl⟩
theorem B9 {w:World} {B:Nat} {p:b4} (h:(odV B p).P w) {b:Nat} (hf:(odV B p).F b):B≤b∧b<w.heap.size:=by
 rcases hf with hf | hf
 ·exact aB h.2.gF hf
 ·exact aB h.2.iL hf
theorem zG {α:Type} {t:TypeId} {L:Lay α} {w:World} {N cap n:Nat} {A:Option Addr} {l:List α} (h:(Lay.slice t L).At w N [.slice A n cap] l) (hn:n=l.length) (k:Nat) (hk:k≤n):(Lay.slice t L).At w N [.slice A k cap] (l.take k):=by
 subst hn
 have e:k=(l.take k).length:=by rw [xaJ];omega
 have h2:(Lay.slice t L).At w N [.slice A (l.take k++l.drop k).length cap] (l.take k++l.drop k):=by rw [List.take_append_drop];exact h
 have h3:=mO h2
 rwa [← e] at h3
theorem BN {w:World} {B:Nat} {A:Option Addr} {n c:Nat} {os:List b4} (ho:w.ownsRow B 59 23 (.slice A n c) os.length (os.flatMap tV)) (he:∀ p∈os,∃ B2,(odV B2 p).P w):bB.At w w.heap.size [.slice A n c] (os.map (·.1))∧∀ x∈os.map (·.1),iN x.2 :=
 ⟨j8 (L:=jY) (f:=tV) (pr:=(·.1)) (by decide) ho _ (xai _) fun p hp=>(he p hp).elim fun _ h=>bP.2 ⟨p.2.1,p.2.2,rfl,h.1.1,h.2.at_ (xai _)⟩,fun x hx=>by
  obtain ⟨p,hp,rfl⟩:=xav.1 hx
  exact (he p hp).elim fun _ h=>h.1.2⟩
theorem mI (w:World) {B:Nat} {A:Option Addr} {n c:Nat} {os:List b4} (ho:w.ownsRow B 59 23 (.slice A n c) os.length (os.flatMap tV)) (he:∀ p∈os,∃ B2,(odV B2 p).P w) (hn:n=os.length) (k:Nat) (hk:k≤n) (m:Nat) :
  Calls Tryz.prog 5 #[.slice A k c,.agg (bv (aN m)).toArray] w fun e w'=>e=.returned (.bool true)∧Below w.heap.size w w':=by
 have h:=BN ho he
 have e:k=((os.map (·.1)).take k).length:=by rw [xaJ,xat];omega
 have h2:=zG h.1 (by rw [xat];exact hn) k hk
 have h3:bB.At w w.heap.size [.slice A ((os.map (·.1)).take k).length c] ((os.map (·.1)).take k):=by rw [← e];exact h2
 have h4:=p8 w _ A c h3 (fun x hx=>h.2 x (List.mem_of_mem_take hx)) (aN m) (dL m)
 rwa [← e] at h4
theorem xj (w:World) (m:Nat):Calls Tryz.prog 5 #[.slice none 0 0,.agg (bv (aN m)).toArray] w fun e w'=>e=.returned (.bool true)∧Below w.heap.size w w' :=
 mI w (B:=w.heap.size) (os:=[]) (xaW _ _ _ _) (fun _ h=>by cases h) rfl 0 (xai _) m
theorem rE (n:Nat) (ns:List Nat) (h:ns.length≤100):iN (aw n ns).2 :=
 ⟨(by show 1≤140737488355328;decide),(by show (nds ns).length≤_;rw [uQ];omega),Nat.zero_le _,fun x hx=>by
  obtain ⟨p,_,rfl⟩:=xav.1 hx
  exact ⟨(by show 1≤140737488355328;decide),Nat.zero_le _⟩⟩
theorem qo (w:World) (n:Nat) (hn:n≤1000000000) (ns:List Nat) (hns:∀ m∈ns,m≤1000000000) (hl:ns.length≤100) (A:Option Addr) (k cap:Nat) (hk:k=ns.length)
  (hA:0<ns.length→∃ b,A=some ⟨b,0,none⟩∧b<w.heap.size∧∀ (j m:Nat),ns[j]?=some m→w.cell? ⟨b,j,none⟩=some (.int .i64 (m:Int))) :
  Calls Tryz.prog 50 #[.int .i64 (n:Int),.slice A k cap] w fun e w'=>∃ u,e=.returned (.agg (tC (aw n ns) u (.slice none 0 0)).toArray)∧u.oneCell'=true∧Mem w w' [odV w.heap.size (aw n ns,u,.slice none 0 0)]:=by
 subst hk
 refine (ja w n hn ns hns hl A cap hA).mono fun e w' ⟨u,h1,h2,h3⟩=>⟨u,h1,(h2.at_ (xai _)).iy.1,?_⟩
 have hp:(odV w.heap.size (aw n ns,u,.slice none 0 0)).P w':=⟨⟨dL n,rE n ns hl⟩,h2⟩
 exact (Mem.start w).new h3 (j6 _ _) hp fun b hf=>B9 hp hf
theorem yM {w:World} {B c:Nat} {A:Option Addr} {ns:List Nat} (ho:w.ownsRow B 3 1 (.slice A ns.length c) ns.length (ns.flatMap nb)):0<ns.length→∃ b,A=some ⟨b,0,none⟩∧b<w.heap.size∧∀ (j m:Nat),ns[j]?=some m→w.cell? ⟨b,j,none⟩=some (.int .i64 (m:Int)):=fun h0=>by
 obtain ⟨g,rfl,hg⟩:=aE ho h0
 refine ⟨g,rfl,hg,fun j m hj=>?_⟩
 have h:=dO (f:=nb) (by decide) ho (fun _ _=>rfl) hj
 have h2:=range_cell h
 rwa [Nat.mul_one] at h2
theorem lL {w:World} {B s n c g:Nat} {t:TypeId} {xs:List Value} (h:w.ownsRow B t s (.slice (some ⟨g,0,none⟩) n c) n xs) (i:Nat) (v:Value) (hv:xs[i]?=some v):w.cell? ⟨g,i,none⟩=some v:=by
 rcases aR h with ⟨h',_⟩ | ⟨g',cap',cur,h',_,_,_,hb,_,ht,_⟩
 ·cases h'
 ·injection h' with e1 e2 e3
  injection e1 with e1
  injection e1 with e1
  subst e1
  rw [hb.cell,← xaM]
  rw [← ht,List.getElem?_take] at hv
  split at hv
  ·exact hv
  ·cases hv
theorem Mem.B8 {w0 w:World} {L:List Ent} {B:Nat} {p:b4} (h:Mem w0 w (odV B p :: L)):Mem w0 w (odV w0.heap.size p :: L):=by
 have hp:=h.get (e:=odV B p) 0 rfl
 exact h.kT 0 rfl (j6 _ _) ⟨hp.1,hp.2.name,hp.2.okn,hp.2.okb,bn hp.2.gF fun g hg=>(h.from_ (e:=odV B p) 0 rfl (.inl hg)).1,bn hp.2.iL fun g hg=>(h.from_ (e:=odV B p) 0 rfl (.inr hg)).1⟩ fun b hf=>hf
theorem tF {w0 w w':World} {L:List Ent} {B b cp:Nat} {c:Hsh} {nm:ByteArray} {ins ins':List Nam} (h:Mem w0 w L) (i:Nat) (hi:L[i]?=some (odV B ((c,(nm,ins,[])),.slice (some ⟨b,0,none⟩) 2 cp,.slice none 0 0))) (ho:w'.ownsRow B 87 43 (.slice (some ⟨b,0,none⟩) 2 cp) 2 (ins'.flatMap nC)) (hg:w.grownBy w' (some b)) (hok:∀ x∈ins',okN x∧x.1.size≤100∧x.2.1.2.size≤100) (hl:ins'.length=2) :
  Mem w0 w' (L.set i (odV B ((c,(nm,ins',[])),.slice (some ⟨b,0,none⟩) 2 cp,.slice none 0 0))):=by
 have hp:=h.get i hi
 refine h.upd i hi hg (fun b' e=>.inl e) (j6 _ _) ⟨⟨hp.1.1,hp.1.2.name,(by show ins'.length≤_;omega),Nat.zero_le _,fun x hx=>⟨(by have:=(hok x hx).2.1;omega),(by have:=(hok x hx).2.2;omega)⟩⟩,hp.2.name,fun x hx=>(hok x hx).1,(fun x hx=>by cases hx),(by rw [hl];exact ho),xaW _ _ _ _⟩ fun b' hf=>.inl hf
theorem qC {w0 w:World} {L:List Ent} {B:Nat} {c:Hsh} {nm nm':ByteArray} {ins:List Nam} {rc:List Int} {u1 u2:Value} (h:Mem w0 w L) (i:Nat) (hi:L[i]?=some (odV B ((c,(nm,ins,rc)),u1,u2))) (hn:nm'.size≤100):Mem w0 w (L.set i (odV B ((c,(nm',ins,rc)),u1,u2))):=by
 have hp:=h.get i hi
 exact h.kT i hi (j6 _ _) ⟨⟨hp.1.1,xay hn (by decide),hp.1.2.ins,hp.1.2.rcp,hp.1.2.each⟩,xay hn (by decide),hp.2.okn,hp.2.okb,hp.2.gF,hp.2.iL⟩ fun b hf=>hf
theorem tE {w0 w:World} {L:List Ent} {B:Nat} {c c':Hsh} {d:Drv} {u1 u2:Value} (h:Mem w0 w L) (i:Nat) (hi:L[i]?=some (odV B ((c,d),u1,u2))) (hc:okH c'):Mem w0 w (L.set i (odV B ((c',d),u1,u2))):=by
 have hp:=h.get i hi
 exact h.kT i hi (j6 _ _) ⟨⟨hc,hp.1.2⟩,hp.2⟩ fun b hf=>hf
theorem BM {w0 w:World} {L:List Ent} {B n:Nat} {c:Hsh} {nm:ByteArray} {ins:List Nam} {u1 u2:Value} (h:Mem w0 w (aq w0.heap.size 5 1 u2 n ((xar n (0:Int)).flatMap ib) :: odV B ((c,(nm,ins,[])),u1,.slice none 0 0) :: L)) (hn:n≤100000):Mem w0 w (odV w0.heap.size ((c,(nm,ins,xar n 0)),u1,u2) :: L):=by
 have hp:=h.get (e:=odV B ((c,(nm,ins,[])),u1,.slice none 0 0)) 1 rfl
 have ho:=h.own 0 rfl
 exact h.join.kT 0 rfl (j6 _ _) ⟨⟨hp.1.1,hp.1.2.name,hp.1.2.ins,(by show (xar n (0:Int)).length≤_;rw [List.length_replicate];omega),hp.1.2.each⟩,hp.2.name,hp.2.okn,(fun x hx=>by rw [List.eq_of_mem_replicate hx];rfl),bn hp.2.gF fun g hg=>(h.from_ (e:=odV B ((c,(nm,ins,[])),u1,.slice none 0 0)) 1 rfl (.inl hg)).1,(by show w.ownsRow _ _ _ _ (xar n (0:Int)).length _;rw [List.length_replicate];exact ho)⟩ fun b hf=>by
  rcases hf with hf | hf
  ·exact .inr (.inl hf)
  ·exact .inl hf
theorem wg (n:Nat):(madeCells (Value.int .u8 0).cells (n*1)).toList=(xar n (0:Int)).flatMap ib:=by
 have e:(xar n (0:Int)).flatMap ib=xar n (Value.int .u8 0):=by
  induction n with
  | zero=>rfl
  | succ n ih=>rw [xcr,List.flatMap_cons,ih,xcr];rfl
 rw [e,Nat.mul_one]
 show (madeCells #[.int .u8 0] n).toList=_
 apply List.ext_getElem
 ·simp [madeCells]
 ·intro i h1 h2
  simp [madeCells,Nat.mod_one]
end Go.Proofs.YtomnhnmciopiiaaGreat
end
