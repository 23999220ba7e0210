/- Part 16 of the texts of one proof. -/
import Derived.Test.YtomnhnmciopiiaaGreatMMT15
import Derived.Test.YtomnhnmciopiiaaGreatRows
set_option maxRecDepth 100000
set_option linter.unusedVariables false
set_option linter.unusedSimpArgs false
set_option maxHeartbeats 40000000
open Go.Act renaming put → xae
open Array renaming getElem?_eq_some_iff → xa2
open Go.RowKit.Below renaming mono → xar, refl → xao
open Bool renaming true_and → xa8
open List renaming drop → xaE, drop_succ_cons → xay, drop_zero → xaK, getElem?_cons_zero → xa3, length_append → xak, length_map → xap, length_take → xaN, mem_append → xax, mem_cons → xaD, mem_map → xaA, mem_map_of_mem → xbj, mem_of_getElem? → xaj, mem_singleton → xan, not_mem_nil → xaS, replicate → xaz, setIfInBounds_toArray → xaa, set_cons_succ → xac, set_cons_zero → xab, size_toArray → xal, take_length → xaG, take_succ_cons → xau, take_zero → xaC
open Nat renaming le_of_ble_eq_true → xaW, le_refl → xag, le_trans → xaH
open Option.some renaming inj → xam
open Prod.mk renaming injEq → xbG
open Go.Value renaming cells → xaU, slice → xas
section
namespace Go.Proofs.YtomnhnmciopiiaaGreat
open Go Go.RowKit Go.Maps
def sa:ByteArray:=⟨#[97]⟩
def sb:ByteArray:=⟨#[98]⟩
def sc:ByteArray:=⟨#[99]⟩
def mW:Hsh:=1 :: xaz 19 0
theorem D3:okH mW:=rfl
def L0:List Itm:=[]
theorem zB (w:World) (B:Nat):aH.At w B [.slice none 0 0] L0:=⟨none,0,rfl,xag _,Nat.zero_le _,(fun _=>rfl),fun h=>absurd h (by simp [L0])⟩
theorem uF (w:World) (B:Nat):cT.At w B [.slice none 0 0] []:=⟨none,0,rfl,xag _,Nat.zero_le _,(fun _=>rfl),fun h=>absurd h (by simp)⟩
theorem uG {w:World} {r:Nat} {h:Hsh} (hb:Blk w r 34 (bv h).toArray) (hh:okH h):cT.At w w.heap.size [.slice (some ⟨r,0,none⟩) 1 1] [h]:=by
 refine ⟨_,1,rfl,xag _,by show 1≤maxLen;decide,(fun h=>by cases h),fun _=>⟨r,0,rfl,hb.lt,fun j x hj=>?_⟩⟩
 cases j with
 | zero =>
  simp only [xa3,Option.some.injEq] at hj
  subst hj
  exact ⟨bv h,by simpa using hb.range,rfl,hh⟩
 | succ j=>simp at hj
theorem pO {w0 w:World} {B:Nat} {u:Value} {ls:List bI} {l:List Itm} (h:Mem w0 w (gE B u ls)) (hok:∀ x∈l,okH x.1) (hl:ls.map (·.1)=l):aH.At w w.heap.size [u] l:=by
 subst hl
 exact oC h (fun p hp=>hok _ (xaA.2 ⟨p,hp,rfl⟩)) (xag _)
theorem oH (w:World) (s:ByteArray) (hso:s.size≤maxLen) (hs:List Hsh) (v:Value) (h:cT.At w w.heap.size [v] hs) (hl9:hs.length≤100) :
  Calls Tryz.prog 26 #[.string s,v] w fun e w'=>∃ u,e=.returned (.agg (dC (bM s hs) u (.slice none 0 0)).toArray)∧u.oneCell'=true∧Mem w w' [lq w.heap.size (bM s hs) u (.slice none 0 0)]:=by
 obtain ⟨A,cap,rfl,_⟩:=aj h
 exact zV w s hso hs A cap h hl9
theorem hI (s:ByteArray) (hs:List Hsh) (h:hs.length≤100):(bM s hs).2.1.length≤1000000∧(bM s hs).2.2.length≤1000000:=⟨by show (qa hs).length≤_;rw [u0];omega,by show 0≤1000000;omega⟩
theorem oW (w:World) (l:List Itm) (v:Value) (d:Drv) (v1 v2:Value) (h:aH.At w w.heap.size [v] l) (hl:∀ x∈l,x.2.2.1.length≤1000000∧x.2.2.2.length≤1000000) (hn:l.length≤1000000) (hd:au w w.heap.size d v1 v2) (hdl:d.2.1.length≤1000000∧d.2.2.length≤1000000) (c:Hsh) (hc:bA d=c) (nl:List Itm) (hr:dq bA l d=(nl,c,0)) (k:Nat) (hk:nl.length=k) :
  Calls Tryz.prog 14 #[v,.agg (dC d v1 v2).toArray] w fun e w'=>∃ A cap ls,e=.returned (.tuple #[.slice A k cap,.agg (bv c).toArray,.int .i64 0])∧ls.map (·.1)=nl∧Mem w w' (gE w.heap.size (.slice A k cap) ls):=by
 obtain ⟨A,cap,rfl,_⟩:=aj h
 refine (yi w l A cap d v1 v2 h hl hn hd hdl c hc nl hr).mono ?_
 rintro e w' ⟨u,ls,rfl,hls,hm⟩
 obtain ⟨A1,c1,rfl⟩:=aI (hm.own 0 rfl)
 have e9:ls.length=k:=by rw [← hk,← hls,xap]
 rw [e9] at hm ⊢
 exact ⟨A1,c1,ls,rfl,hls,hm⟩
theorem Bi (w:World) (l:List Itm) (v:Value) (d:Drv) (v1 v2:Value) (h:aH.At w w.heap.size [v] l) (hl:∀ x∈l,x.2.2.1.length≤1000000∧x.2.2.2.length≤1000000) (hn:l.length≤1000000) (hd:au w w.heap.size d v1 v2) (hdl:d.2.1.length≤1000000∧d.2.2.length≤1000000) (nl:List Itm) (c2:Hsh) (k:Int) (hk:k ≠ 0) (hr:dq bA l d=(nl,c2,k)) :
  Calls Tryz.prog 14 #[v,.agg (dC d v1 v2).toArray] w fun e w'=>e=.returned (.tuple #[.slice none 0 0,.agg (bv aW).toArray,.int .i64 k])∧Below w.heap.size w w':=by
 obtain ⟨A,cap,rfl,_⟩:=aj h
 exact add_not w l A cap d v1 v2 h hl hn hd hdl _ rfl nl c2 k hk hr
theorem vZ (w:World) (hA hB:Hsh) (hohA:okH hA) (hohB:okH hB) (L1 L2:List Itm) (hhA:bA (bM sa [])=hA) (hhB:bA (bM sb [hA])=hB) (hk1:L1.length=1) (hk2:L2.length=2) (hl1:∀ x∈L1,x.2.2.1.length≤1000000∧x.2.2.2.length≤1000000) (hl2:∀ x∈L2,x.2.2.1.length≤1000000∧x.2.2.2.length≤1000000) (hho1:∀ x∈L1,okH x.1) (hho2:∀ x∈L2,okH x.1)
  (ha1:dq bA L0 (bM sa [])=(L1,hA,0)) (ha2:dq bA L1 (bM sb [hA])=(L2,hB,0)) (ha3:dq bA L2 (bM sa [])=(L2,hA,0)) (ha4:dq bA L2 (bM sc [mW])=([],aW,5)) (hnz:¬ hA=aW) :
  Calls Tryz.prog 9 #[] w fun e w'=>e=.returned (.bool true)∧Below w.heap.size w w':=by
 have HHhA:=ab hhA
 have HHhB:=ab hhB
 have HKL1:=ab hk1
 have HKL2:=ab hk2
 have HLL0:=ab (show ∀ x∈L0,x.2.2.1.length≤1000000∧x.2.2.2.length≤1000000 from fun x hx=>by cases hx)
 have HLL1:=ab hl1
 have HLL2:=ab hl2
 have HNL0:=ab (show L0.length≤2 by decide)
 have HNL1:=ab (show L1.length≤2 by omega)
 have HNL2:=ab (show L2.length≤2 by omega)
 have HOL1:=ab hho1
 have HOL2:=ab hho2
 have HA1:=ab ha1
 have HA2:=ab ha2
 have HA3:=ab ha3
 have HA4:=ab ha4
 have HNZ:=ab hnz
 clear hhA hhB hk1 hk2 hl1 hl2 hho1 hho2 ha1 ha2 ha3 ha4 hnz
 have H0:=ab (Mem.start w)
 go_enter Tryz.func9,Tryz.ntmps9
 go_wp2_with fail
 refine (oH w sa (by decide) [] (.slice none 0 0) (uF _ _) (xaW rfl)).mono ?_
 rintro e w1 ⟨p,rfl,hp1,hm⟩
 dsimp only
 have H1:=ab (Mem.seq H0.out hm)
 clear hm
 go_wp2_with fail
 refine (oW w1 L0 (.slice none 0 0) (bM sa []) p (.slice none 0 0) (zB _ _) HLL0.out (by have:=HNL0.out;omega) (aG.at_ (show aG w1 _ (bM sa []) p (.slice none 0 0) from Mem.get (e:=lq _ (bM sa []) p (.slice none 0 0)) H1.out 0 rfl) (xag _)) (hI _ _ (xaW rfl)) hA HHhA.out L1 HA1.out 1 HKL1.out).mono ?_
 rintro e w2 ⟨A1,q1,ls1,rfl,hls,hm⟩
 dsimp only
 have H2:=ab (Mem.seq H1.out (fi hm (xag _)))
 have HS1:=ab hls
 clear hm hls
 go_wp2_with (first | ((with_reducible refine ae 2 ?_);(refine aC rfl 34 zcH (by kernel_rfl) ?_);intro w3 hn;have H3:=ab (Mem.aM H2.out hn);clear hn;simp only [xae,xaa,xab,xac]) | ((with_reducible refine aV 2 17 ?_);(with_reducible refine ak rfl 34 (.tmp 2) (.tmp 17) rfl w2.heap.size zcH (bv hA).toArray 34 (Mem.blk H3.out 0 rfl) ?_ ?_ ?_ ?_ ?_ ?_);(exact (bB hohA));(exact bP cK (bB hohA));(exact (fa hA));rfl;rfl;intro w4 hk hg;have H4:=ab (Mem.st H3.out 0 rfl hk hg);clear hk hg;simp only [xae]) | ((with_reducible refine ae 21 ?_);(refine aa rfl (.agg (bv hA).toArray) w4 (ai 34 (.tmp 2) rfl w2.heap.size (0) rfl (bv hA) _ w4 (Blk.range (Mem.blk H4.out 0 rfl)) Tryz.underlying34 rfl (bN hohA)) ?_)) | ((with_reducible refine ae 22 ?_);(refine aO rfl 27 (.tmp 21) rfl 34 20 (.agg zcH) (.agg (bv hA).toArray) rfl Tryz.underlying27 cr (by decide) (by decide) (fun w=>by kernel_rfl) (by rw [xaU,xal,bvL];exact hohA) ?_);intro w5 hn;have H5:=ab (Mem.aM H4.out hn);clear hn;simp only [xae,xaa,xab,xac]))
 refine (oH w5 sb (by decide) [hA] (.slice (some ⟨w4.heap.size,0,none⟩) 1 1) (uG (Mem.blk H5.out 0 rfl) hohA) (xaW rfl)).mono ?_
 rintro e w6 ⟨p,rfl,hp1,hm⟩
 dsimp only
 have H6:=ab (Mem.seq H5.out hm)
 clear hm
 go_wp2_with fail
 refine (oW w6 L1 (.slice A1 1 q1) (bM sb [hA]) p (.slice none 0 0) (pO (Mem.pick H6.out [3,4] (by decide) rfl) HOL1.out HS1.out) HLL1.out (by have:=HNL1.out;omega) (aG.at_ (show aG w6 _ (bM sb [hA]) p (.slice none 0 0) from Mem.get (e:=lq _ (bM sb [hA]) p (.slice none 0 0)) H6.out 0 rfl) (xag _)) (hI _ _ (xaW rfl)) hB HHhB.out L2 HA2.out 2 HKL2.out).mono ?_
 rintro e w7 ⟨A2,q2,ls2,rfl,hls,hm⟩
 dsimp only
 have H7:=ab (Mem.seq H6.out (fi hm (xag _)))
 have HS2:=ab hls
 clear hm hls
 go_wp2_with (first | ((with_reducible refine ae 5 ?_);(refine aC rfl 34 zcH (by kernel_rfl) ?_);intro w8 hn;have H8:=ab (Mem.aM H7.out hn);clear hn;simp only [xae,xaa,xab,xac]) | ((with_reducible refine aV 5 26 ?_);(with_reducible refine ak rfl 34 (.tmp 5) (.tmp 26) rfl w7.heap.size zcH (bv hB).toArray 34 (Mem.blk H8.out 0 rfl) ?_ ?_ ?_ ?_ ?_ ?_);(exact (bB hohB));(exact bP cK (bB hohB));(exact (fa hB));rfl;rfl;intro w9 hk hg;have H9:=ab (Mem.st H8.out 0 rfl hk hg);clear hk hg;simp only [xae]))
 refine (oH w9 sa (by decide) [] (.slice none 0 0) (uF _ _) (xaW rfl)).mono ?_
 rintro e w10 ⟨p,rfl,hp1,hm⟩
 dsimp only
 have H10:=ab (Mem.seq H9.out hm)
 clear hm
 go_wp2_with fail
 refine (oW w10 L2 (.slice A2 2 q2) (bM sa []) p (.slice none 0 0) (pO (Mem.pick H10.out [2,3] (by decide) rfl) HOL2.out HS2.out) HLL2.out (by have:=HNL2.out;omega) (aG.at_ (show aG w10 _ (bM sa []) p (.slice none 0 0) from Mem.get (e:=lq _ (bM sa []) p (.slice none 0 0)) H10.out 0 rfl) (xag _)) (hI _ _ (xaW rfl)) hA HHhA.out L2 HA3.out 2 HKL2.out).mono ?_
 rintro e w11 ⟨A3,q3,ls3,rfl,hls,hm⟩
 dsimp only
 have H11:=ab (Mem.seq H10.out (fi hm (xag _)))
 have HS3:=ab hls
 clear hm hls
 go_wp2_with (first | ((with_reducible refine ae 8 ?_);(refine aC rfl 34 zcH (by kernel_rfl) ?_);intro w12 hn;have H12:=ab (Mem.aM H11.out hn);clear hn;simp only [xae,xaa,xab,xac]) | ((with_reducible refine aV 8 33 ?_);(with_reducible refine ak rfl 34 (.tmp 8) (.tmp 33) rfl w11.heap.size zcH (bv hA).toArray 34 (Mem.blk H12.out 0 rfl) ?_ ?_ ?_ ?_ ?_ ?_);(exact (bB hohA));(exact bP cK (bB hohA));(exact (fa hA));rfl;rfl;intro w13 hk hg;have H13:=ab (Mem.st H12.out 0 rfl hk hg);clear hk hg;simp only [xae]) | ((with_reducible refine ae 37 ?_);(refine aa rfl (.agg (bv mW).toArray) w13 (by kernel_rfl) ?_)) | ((with_reducible refine ae 38 ?_);(refine aO rfl 27 (.tmp 37) rfl 34 20 (.agg zcH) (.agg (bv mW).toArray) rfl Tryz.underlying27 cr (by decide) (by decide) (fun w=>by kernel_rfl) rfl ?_);intro w14 hn;have H14:=ab (Mem.aM H13.out hn);clear hn;simp only [xae,xaa,xab,xac]))
 refine (oH w14 sc (by decide) [mW] (.slice (some ⟨w13.heap.size,0,none⟩) 1 1) (uG (Mem.blk H14.out 0 rfl) D3) (xaW rfl)).mono ?_
 rintro e w15 ⟨p,rfl,hp1,hm⟩
 dsimp only
 have H15:=ab (Mem.seq H14.out hm)
 clear hm
 go_wp2_with fail
 refine (Bi w15 L2 (.slice A3 2 q3) (bM sc [mW]) p (.slice none 0 0) (pO (Mem.pick H15.out [3,4] (by decide) rfl) HOL2.out HS3.out) HLL2.out (by have:=HNL2.out;omega) (aG.at_ (show aG w15 _ (bM sc [mW]) p (.slice none 0 0) from Mem.get (e:=lq _ (bM sc [mW]) p (.slice none 0 0)) H15.out 0 rfl) (xag _)) (hI _ _ (xaW rfl)) [] aW 5 (by decide) HA4.out).mono ?_
 rintro e w16 ⟨rfl,hb⟩
 dsimp only
 have H16:=ab (Mem.call H15.out hb)
 clear hb
 go_wp2_with (first | ((with_reducible refine ae 11 ?_);(refine aC rfl 34 zcH (by kernel_rfl) ?_);intro w17 hn;have H17:=ab (Mem.aM H16.out hn);clear hn;simp only [xae,xaa,xab,xac]) | ((with_reducible refine aV 11 42 ?_);(with_reducible refine ak rfl 34 (.tmp 11) (.tmp 42) rfl w16.heap.size zcH (bv aW).toArray 34 (Mem.blk H17.out 0 rfl) ?_ ?_ ?_ ?_ ?_ ?_);(exact (bB aX));(exact bP cK (bB aX));(exact (fa aW));rfl;rfl;intro w18 hk hg;have H18:=ab (Mem.st H17.out 0 rfl hk hg);clear hk hg;simp only [xae]) | ((with_reducible refine ae 66 ?_);(refine ay (by kernel_rfl) (.agg (bv hA).toArray) w18 (ai 34 (.tmp 8) rfl w11.heap.size (0) rfl (bv hA) _ w18 (Blk.range (Mem.blk H18.out 3 rfl)) Tryz.underlying34 rfl (bN hohA)) ?_)) | ((with_reducible refine ae 67 ?_);(refine ay (by kernel_rfl) (.agg (bv hA).toArray) w18 (ai 34 (.tmp 2) rfl w2.heap.size (0) rfl (bv hA) _ w18 (Blk.range (Mem.blk H18.out 12 rfl)) Tryz.underlying34 rfl (bN hohA)) ?_)) | ((with_reducible refine ae 68 ?_);(refine ay (by kernel_rfl) (.bool true) w18 (dG 34 34 (.tmp 66) (.tmp 67) rfl (bv hA).toArray (bv hA).toArray rfl rfl (by kernel_rfl) true w18 (by have h9:=dc hA hA hohA hohA w18;rwa [decide_eq_true rfl] at h9)) ?_)) | ((with_reducible refine ae 71 ?_);(refine ay (by kernel_rfl) (.agg (bv hA).toArray) w18 (ai 34 (.tmp 2) rfl w2.heap.size (0) rfl (bv hA) _ w18 (Blk.range (Mem.blk H18.out 12 rfl)) Tryz.underlying34 rfl (bN hohA)) ?_)) | ((with_reducible refine ae 72 ?_);(refine ay (by kernel_rfl) (.agg (bv aW).toArray) w18 (by kernel_rfl) ?_)) | ((with_reducible refine ae 73 ?_);(refine ay (by kernel_rfl) (.bool true) w18 (dA 34 34 (.tmp 71) (.tmp 72) rfl (bv hA).toArray (bv aW).toArray rfl rfl (by kernel_rfl) false w18 (by have h9:=dc hA aW hohA aX w18;rwa [decide_eq_false HNZ.out] at h9)) ?_)))
 go_ret
 exact ⟨rfl,Mem.below H18.out⟩
end Go.Proofs.YtomnhnmciopiiaaGreat
end
section
namespace Go.Proofs.YtomnhnmciopiiaaGreat
open Go Go.RowKit Go.Maps
def jR:Hsh:=[23,197,100,132,137,255,108,122,148,161,155,83,156,98,81,89,242,161,54,252]
def uH:Hsh:=[161,49,249,6,154,191,53,254,224,104,197,73,25,195,248,148,218,251,191,21]
theorem D6:bA (bM sa [])=jR:=by decide +kernel
theorem D7:bA (bM sb [jR])=uH:=by decide +kernel
theorem Gi:bF (bM sa [])=0:=by decide +kernel
theorem GO:bF (bM sb [jR])=0:=by decide +kernel
theorem Hj:bF (bM sc [mW])=0:=by decide +kernel
def itA:Itm:=(jR,bM sa [])
def itB:Itm:=(uH,bM sb [jR])
theorem G5:dq bA L0 (bM sa [])=([itA],jR,0):=oV (hof:=bA) (l:=L0) rfl Gi (fun c hc=>by cases hc) D6 rfl
theorem GV:dp bA [itA]=true:=by
 have h:=vJ (hof:=bA) (l:=[]) (d:=bM sa []) rfl Gi (fun c hc=>by cases hc) rfl
 rw [D6] at h
 exact h
theorem Fc:aY [itA] uH=none:=by decide +kernel
theorem GF:aA (bM sb [jR]).2.1=[jR]:=by decide +kernel
theorem G6:dq bA [itA] (bM sb [jR])=([itA,itB],uH,0):=oV (hof:=bA) GV GO (fun c hc=>by
 rw [GF] at hc
 rw [xan.1 hc]
 decide +kernel) D7 Fc
theorem GW:dp bA [itA,itB]=true:=by
 have h:=vJ (hof:=bA) (l:=[itA]) (d:=bM sb [jR]) GV GO (fun c hc=>by
  rw [GF] at hc
  rw [xan.1 hc]
  exact mU.1 (by decide +kernel)) (by rw [D7];exact Fc)
 rw [D7] at h
 exact h
theorem GB:dq bA [itA,itB] (bM sa [])=([itA,itB],jR,0):=tR (hof:=bA) GW Gi (fun c hc=>by cases hc) D6 (x:=itA) (by kernel_rfl) rfl
theorem Ha:aA (bM sc [mW]).2.1=[mW]:=by decide +kernel
theorem jB:dq bA [itA,itB] (bM sc [mW])=([],aW,5):=AZ (hof:=bA) GW Hj (c:=mW) (by rw [Ha];exact xan.2 rfl) (by decide +kernel)
theorem iH (w:World):Calls Tryz.prog 9 #[] w fun e w'=>e=.returned (.bool true)∧Below w.heap.size w w':=by
 refine vZ w jR uH rfl rfl [itA] [itA,itB] D6 D7 rfl rfl ?_ ?_ ?_ ?_ G5 G6 GB jB (by decide +kernel)
 ·intro x hx
  rw [xan.1 hx]
  exact ⟨by decide +kernel,by decide +kernel⟩
 ·intro x hx
  simp only [xaD,xaS,or_false] at hx
  rcases hx with rfl | rfl<;>exact ⟨by decide +kernel,by decide +kernel⟩
 ·intro x hx
  rw [xan.1 hx]
  rfl
 ·intro x hx
  simp only [xaD,xaS,or_false] at hx
  rcases hx with rfl | rfl<;>rfl
end Go.Proofs.YtomnhnmciopiiaaGreat
end
section
namespace Go.Proofs.YtomnhnmciopiiaaGreat
open Go Go.RowKit Go.Maps
theorem Hf (w:World) (d:Drv) (v1 v2:Value) (hd:au w w.heap.size d v1 v2) :
  Calls Tryz.prog 12 #[.agg (dC d v1 v2).toArray] w fun e w'=>e=.returned (.tuple #[.agg (bv (hoE d)).toArray,.int .i64 (bF d)])∧Below w.heap.size w w':=by
 by_cases hp:bF d=0
 ·have e:hoE d=bA d:=if_pos hp
  rw [e,hp]
  exact Gd w d v1 v2 hd _ rfl hp
 ·have e:hoE d=aW:=if_neg hp
  rw [e]
  exact Gc w d v1 v2 hd hp
theorem mM {hof:Drv→Hsh} {l:List Itm} {d:Drv} {nl:List Itm} {c:Hsh} {k:Int} (ha:dq hof l d=(nl,c,k)) (hk:k ≠ 0):nl=[]∧c=aW:=by
 unfold dq at ha
 split at ha
 ·split at ha
  ·split at ha
   ·split at ha
    ·split at ha
     ·simp only [xbG] at ha;exact absurd ha.2.2.symm hk
     ·simp only [xbG] at ha;exact ⟨ha.1.symm,ha.2.1.symm⟩
    ·simp only [xbG] at ha;exact absurd ha.2.2.symm hk
   ·simp only [xbG] at ha;exact ⟨ha.1.symm,ha.2.1.symm⟩
  ·simp only [xbG] at ha;exact ⟨ha.1.symm,ha.2.1.symm⟩
 ·simp only [xbG] at ha;exact ⟨ha.1.symm,ha.2.1.symm⟩
theorem tQ {hof:Drv→Hsh} {l:List Itm} {d:Drv} {nl:List Itm} {c:Hsh} {k:Int} {P:Itm→Prop} (ha:dq hof l d=(nl,c,k)) (hl:∀ x∈l,P x) (hd:P (hof d,d)):(∀ x∈nl,P x)∧nl.length≤l.length+1:=by
 by_cases hk:k=0
 ·subst hk
  obtain ⟨_,_,_,_,h4⟩:=vW ha
  rcases h4 with ⟨y,_,_,rfl⟩ | ⟨_,rfl⟩
  ·exact ⟨hl,Nat.le_succ _⟩
  ·refine ⟨fun x hx=>?_,by simp⟩
   rcases xax.1 hx with hx | hx
   ·exact hl x hx
   ·rw [xan.1 hx];exact hd
 ·obtain ⟨rfl,_⟩:=mM ha hk
  exact ⟨(fun x hx=>by cases hx),Nat.zero_le _⟩
theorem rX (w w':World) (hb:Below w.heap.size w w'):Mem w w' (gE w.heap.size (.slice none 0 0) []):=(((Mem.start w).call hb).sz _).dE _ _ _
theorem zC {w w':World} {B:Nat} {u:Value} {ls:List bI} (h:Mem w w' (gE B u ls)):∃ A c,u=.slice A ls.length c:=aI (h.own 0 rfl)
theorem Fb (w:World) (l:List Itm) (A:Option Addr) (cap:Nat) (d:Drv) (v1 v2:Value) (h:aH.At w w.heap.size [.slice A l.length cap] l) (hl:∀ x∈l,x.2.2.1.length≤1000000∧x.2.2.2.length≤1000000) (hn9:l.length≤1000000) (hd:au w w.heap.size d v1 v2) (hdl:d.2.1.length≤1000000∧d.2.2.length≤1000000) (nl:List Itm) (cR:Hsh) (eR:Int) (hr:dq bA l d=(nl,cR,eR)) :
  Calls Tryz.prog 14 #[.slice A l.length cap,.agg (dC d v1 v2).toArray] w fun e w'=>∃ A' c',∃ ls:List bI,e=.returned (.tuple #[.slice A' ls.length c',.agg (bv cR).toArray,.int .i64 eR])∧ls.map (·.1)=nl∧Mem w w' (gE w.heap.size (.slice A' ls.length c') ls):=by
 by_cases hk:eR=0
 ·subst hk
  have hc:cR=bA d:=(vW hr).2.2.2.1
  refine (yi w l A cap d v1 v2 h hl hn9 hd hdl cR hc.symm nl hr).mono fun e w' ⟨u,ls,h1,h2,h3⟩=>?_
  obtain ⟨A',c',rfl⟩:=zC h3
  exact ⟨A',c',ls,h1,h2,h3⟩
 ·obtain ⟨rfl,rfl⟩:=mM hr hk
  exact (add_not w l A cap d v1 v2 h hl hn9 hd hdl (bA d) rfl [] aW eR hk hr).mono fun e w' ⟨h1,h2⟩=>⟨none,0,[],h1,rfl,rX w w' h2⟩
theorem FD (w:World) (l:List Itm) (A:Option Addr) (cap:Nat) (h:aH.At w w.heap.size [.slice A l.length cap] l) (hl:∀ x∈l,x.2.2.1.length≤1000000∧x.2.2.2.length≤1000000) (hn:l.length≤1000000) (aL:List Hsh) (K:Option Addr) (kc:Nat) (hk:cT.At w w.heap.size [.slice K aL.length kc] aL) (hkn:aL.length≤1000000)
  (dropL:List Itm) (hdL:(if dp bA l=true then fc l aL else [])=dropL) (dropE:Int) (hdE:(if dp bA l=true then (0:Int) else 2)=dropE) :
  Calls Tryz.prog 17 #[.slice A l.length cap,.slice K aL.length kc] w fun e w'=>∃ A' c',∃ ls:List bI,e=.returned (.tuple #[.slice A' ls.length c',.int .i64 dropE])∧ls.map (·.1)=dropL∧Mem w w' (gE w.heap.size (.slice A' ls.length c') ls):=by
 cases ht:dp bA l with
 | true =>
  have e1:fc l aL=dropL:=hdL.symm.trans (by rw [ht];rfl) |> Eq.symm
  have e2:dropE=0:=hdE.symm.trans (by rw [ht];rfl)
  subst e1 e2
  refine (BH w l A cap h hl hn aL K kc hk hkn ht).mono fun e w' ⟨A',c',ls,h1,h2,h3⟩=>?_
  have hlen:(fc l aL).length=ls.length:=by rw [← h2,xap]
  rw [hlen] at h1 h3
  exact ⟨A',c',ls,h1,h2,h3⟩
 | false =>
  have e1:dropL=[]:=hdL.symm.trans (by rw [ht];rfl)
  have e2:dropE=2:=hdE.symm.trans (by rw [ht];rfl)
  subst e1 e2
  exact (DU w l A cap h hl _ ht).mono fun e w' ⟨h1,h2⟩=>⟨none,0,[],h1,rfl,rX w w' h2⟩
theorem uo {l:List Itm} {aL:List Hsh} {dropL:List Itm} (hdL:(if dp bA l=true then fc l aL else [])=dropL) {P:Itm→Prop} (hl:∀ x∈l,P x):(∀ x∈dropL,P x)∧dropL.length≤l.length:=by
 cases ht:dp bA l with
 | true =>
  have e1:dropL=fc l aL:=hdL.symm.trans (by rw [ht];rfl)
  subst e1
  exact ⟨fun x hx=>hl x (List.mem_filter.1 hx).1,List.length_filter_le _ _⟩
 | false =>
  have e1:dropL=[]:=hdL.symm.trans (by rw [ht];rfl)
  subst e1
  exact ⟨(fun x hx=>by cases hx),Nat.zero_le _⟩
theorem qx {w0 w:World} {L:List Ent} {B:Nat} {u:Value} {ls:List bI} (m:Mem w0 w L) (ho:w.ownsRow B 98 23 u ls.length (ls.flatMap tV)) (hlo:∀ p∈ls,okH p.1.1∧au w0 w0.heap.size p.1.2 p.2.1 p.2.2):eg.At w w.heap.size [u] (ls.map (·.1)) :=
 jK (L:=tw) (f:=tV) (pr:=(·.1)) (by decide) ho _ (xag _) fun p hp=>eN.2 ⟨p.2.1,p.2.2,rfl,(hlo p hp).1,m.drv (hlo p hp).2⟩
theorem uO {w:World} {B C:Nat} {u:Value} {ls:List bI} (ho:w.ownsRow B 59 23 u ls.length (ls.flatMap tV)) (hle:∀ p∈ls,okH p.1.1∧bY w C p.1.2 p.2.1 p.2.2):aH.At w w.heap.size [u] (ls.map (·.1)) :=
 jK (L:=ka) (f:=tV) (pr:=(·.1)) (by decide) ho _ (xag _) fun p hp=>cF.2 ⟨p.2.1,p.2.2,rfl,(hle p hp).1,(hle p hp).2.at_ (xag _)⟩
end Go.Proofs.YtomnhnmciopiiaaGreat
end
section
namespace Go.Proofs.YtomnhnmciopiiaaGreat.Fre
open Go Go.RowKit
section
variable {P:Program} {ops:Array Oper} {L:dZ} {w0:World} {rest:List Oper} {o:Oper} {a:Act} {Q:Act→Prop} {X:World→World→Prop}
end
end Go.Proofs.YtomnhnmciopiiaaGreat.Fre
namespace Go.Proofs.YtomnhnmciopiiaaGreat
open Go Go.RowKit Go.Maps
def Fp (B:Nat) (u:Value) (W:World):Prop:=∃ g:Nat,u=.pointer (some ⟨g,0,none⟩)∧B≤g∧Blk W g 26 zcD
theorem Ev (B:Nat):Fre.df Bel (Fp B):=⟨fun _ _ _ ⟨g,h1,h0,h2⟩ hx=>⟨g,h1,h0,h2.below hx h2.lt⟩⟩
theorem CE {ρ:Operand→Value} {o:Oper} (ho:o.op=.alloc 26) (B:Nat) {W:World} (hB:B≤W.heap.size):∃ u' w',(execOp ρ o).run Tryz.prog W=.ok (.value u') w'∧Fre.Ext Bel W w'∧Fp B u' w':=by
 have hb:Below W.heap.size W (W.alloc (.cells zcD 26)):=(xao _ W).alloc (xag _) _
 refine ⟨.pointer (some ⟨W.heap.size,0,none⟩),_,?_,hb,W.heap.size,rfl,hB,Blk.new _ _ _⟩
 unfold execOp
 rw [ho]
 kernel_rfl
theorem bY.stored {W W':World} {B g:Nat} {d:Drv} {u1 u2:Value} {cs:Array Value} (h:bY W B d u1 u2) (hb:Blk W g 26 cs) (hg:W.grownBy W' (some g)):bY W' B d u1 u2:=by
 refine h.aL fun b hf hl=>hg.block b hl fun e=>?_
 have e:=xam e
 subst e
 obtain ⟨A,c,rfl,h1⟩:=h.AD
 obtain ⟨A2,c2,rfl,h2⟩:=h.AE
 rcases hf with hf | hf
 ·exact ef h1 hb (by decide) ((iX ..).trans hf)
 ·exact ef h2 hb (by decide) ((iX ..).trans hf)
structure InP (W:World) (l:List Itm) (os:List bI) (A:Option Addr) (c:Nat):Prop where
 at_:aH.At W W.heap.size [.slice A l.length c] l
 eq:os.map (·.1)=l
 row:∃ B,W.ownsRow B 59 23 (.slice A os.length c) os.length (os.flatMap tV)
 each:∃ B,∀ p∈os,okH p.1.1∧bY W B p.1.2 p.2.1 p.2.2
def InU (l:List Itm) (u:Value) (W:World):Prop:=∃ os A c,u=.slice A l.length c∧InP W l os A c
theorem InP.below {W W':World} {l:List Itm} {os:List bI} {A:Option Addr} {c:Nat} (h:InP W l os A c) (hb:Below W.heap.size W W'):InP W' l os A c:=by
 obtain ⟨B,hr⟩:=h.row
 obtain ⟨B2,he⟩:=h.each
 exact ⟨Mem.lay ((Mem.start W).call hb) h.at_,h.eq,⟨B,ao hr fun g _ hl=>hb.block g hl⟩,B2,fun p hp=>⟨(he p hp).1,(he p hp).2.ja hb⟩⟩
theorem FZ (l:List Itm):Fre.df Bel (InU l):=⟨fun _ _ _ ⟨os,A,c,h1,h2⟩ hx=>⟨os,A,c,h1,h2.below hx⟩⟩
def G3 (l:List Itm) (u:Value) (W:World):Prop:=eg.At W W.heap.size [u] l
theorem GJ (w:World) (l:List Itm) (v:Value) (h:aH.At w w.heap.size [v] l) (hl:∀ x∈l,x.2.2.1.length≤1000000∧x.2.2.2.length≤1000000) (hn:l.length≤1000000) :
  Calls Tryz.prog 10 #[v] w fun e w'=>∃ u,e=.returned u∧Below w.heap.size w w'∧InU l u w':=by
 refine (xk w l v h hl hn).mono fun e w' ⟨u,os,h1,h2,h3,h4⟩=>⟨u,h1,h4.below,?_⟩
 obtain ⟨A,c,rfl⟩:=aI (h4.own 0 rfl)
 have hlen:l.length=os.length:=by rw [← h2,xap]
 have hle:∀ p∈os,okH p.1.1∧bY w' w.heap.size p.1.2 p.2.1 p.2.2:=fun p hp=>⟨h3 p hp,(h4.get (e:=Ent.all os (ldV w.heap.size)) 1 rfl).1 p hp⟩
 refine ⟨os,A,c,by rw [hlen],?_,h2,⟨_,h4.own 0 rfl⟩,_,hle⟩
 rw [hlen]
 have h9:=uO (h4.own 0 rfl) hle
 rw [h2] at h9
 exact h9
theorem Fj (w:World) (l:List Itm) (v:Value) (h:aH.At w w.heap.size [v] l) (hn:l.length≤1000000) :
  Calls Tryz.prog 16 #[v] w fun e w'=>∃ u,e=.returned u∧Below w.heap.size w w'∧G3 l u w':=by
 refine (xL w l v h hn).mono fun e w' ⟨u,os,h1,h2,h3,h4⟩=>⟨u,h1,h4.below,?_⟩
 have h9:=qx h4 (h4.own 0 rfl) h3
 rw [h2] at h9
 exact h9
theorem InP.stored {W W':World} {l:List Itm} {os:List bI} {A:Option Addr} {c g:Nat} {cs:Array Value} (h:InP W l os A c) (hb:Blk W g 26 cs) (hg:W.grownBy W' (some g)):InP W' l os A c:=by
 obtain ⟨B,hr⟩:=h.row
 obtain ⟨B2,he⟩:=h.each
 have hr':=ao hr fun b hf hl=>hg.block b hl fun e=>by
  have e:=xam e
  subst e
  exact ef hr hb (by decide) hf
 have he':∀ p∈os,okH p.1.1∧bY W' B2 p.1.2 p.2.1 p.2.2:=fun p hp=>⟨(he p hp).1,(he p hp).2.stored hb hg⟩
 have hlen:l.length=os.length:=by rw [← h.eq,xap]
 have h9:=uO hr' he'
 rw [h.eq,← hlen] at h9
 exact ⟨h9,h.eq,⟨B,hr'⟩,B2,he'⟩
theorem D2 (w:World) (l:List Itm) (A:Option Addr) (cap:Nat) (h:aH.At w w.heap.size [.slice A l.length cap] l) (hl:∀ x∈l,iU x.2) (b:Bool) (hb:decide (1500<ll (fun x:Itm=>eo 1500 x.2) 1500 0 l)=b) :
  Calls Tryz.prog 7 #[.slice A l.length cap] w fun e w'=>e=.returned (.bool b)∧Below w.heap.size w w':=hb▸uD w l A cap h hl
end Go.Proofs.YtomnhnmciopiiaaGreat
end
section
namespace Go.Proofs.YtomnhnmciopiiaaGreat
open Go Go.RowKit Go.Maps
attribute [local irreducible] wpList
theorem Gk (w:World) (l:List Itm) (A0:Option Addr) (n9 cap:Nat) (h:eg.At w w.heap.size [.slice A0 n9 cap] l) (ls0:List bI) (hls0:ls0.map (·.1)=l) (hlo0:∀ p∈ls0,okH p.1.1∧au w w.heap.size p.1.2 p.2.1 p.2.2) (hsrc0:eZ w 23 A0 ls0.length cap (ls0.flatMap tV)) (hl:∀ x∈l,x.2.2.1.length≤1000000∧x.2.2.2.length≤1000000) (hlen:l.length≤1000000) (d:Drv) (v1 v2:Value) (hd:au w w.heap.size d v1 v2) (hdl:d.2.1.length≤1000000) (nl:List Itm) (cR:Hsh) (eR:Int) (hr:dq bA l d=(nl,cR,eR)) :
  Calls Tryz.prog 15 #[.slice A0 n9 cap,.agg (dC d v1 v2).toArray] w fun e w'=>∃ A cap,∃ ls:List bI,e=.returned (.tuple #[.slice A ls.length cap,.agg (bv cR).toArray,.int .i64 eR])∧ls.map (·.1)=nl∧(∀ p∈ls,okH p.1.1∧au w w.heap.size p.1.2 p.2.1 p.2.2)∧(∀ p∈ls,p∈ls0∨(p.1.2=d∧p.2.1=v1∧p.2.2=v2))∧Mem w w' [ax w.heap.size 98 23 (.slice A ls.length cap) ls.length (ls.flatMap tV)]:=by
 obtain ⟨ho1,ho2⟩:=hd.dK
 obtain ⟨A9,c99,e9,_,hcm,_,hA⟩:=aj h
 injection e9 with e91 e92 e93
 subst e91 e92 e93
 have hll:ls0.length=l.length:=by rw [← hls0,xap]
 rw [hll] at hsrc0
 simp only [maxLen] at hcm
 have H0:=Mem.start w
 go_enter Tryz.func15,Tryz.ntmps15
 refine sk fun _ K1=>rl ?_
 refine bx 26 (dC d v1 v2) fun w2 hn_=>?_
 have H3:=Mem.aM H0 hn_
 refine rn ?_
 refine nz 34 zcH fun w4 hn_=>?_
 have H5:=Mem.aM H3 hn_
 refine rn ?_
 refine nt (K1 _ _ (sk fun _ K6=>sk fun _ K7=>rl ?_))
 obtain ⟨bt,hbt⟩:∃ b,dp bA l=b:=⟨_,rfl⟩
 refine ac (lH w4 l _ (Mem.lay H5 h) (fun x hx=>(hl x hx).1) hlen bt hbt) ?_
 rintro e w8 ⟨rfl,hb10⟩
 refine ⟨_,rfl,rn ?_⟩
 have H9:=Mem.call H5 hb10
 cases bt
 ·refine rn ?_
  refine nt (K7 _ _ (ct (sk fun _ K11=>rl ?_)))
  refine rv (v:=.agg (bv aW).toArray) (by kernel_rfl) ?_
  refine stb (Mem.blk H9 0 rfl) (bB aX) (bP cK (bB aX)) (fa aW) fun w12 hk_ hg_=>?_
  have H13:=Mem.st H9 0 rfl hk_ hg_
  refine rn ?_
  refine nt (K11 _ _ ?_)
  refine wp_ret ?_
  simp only [Exit.then]
  refine bodyPost_ret (dw (r1:=.tmp 4) (r2:=.cell 5 34) (r3:=.tmp 6) rfl ⟨rfl,⟨_,rfl,dP (Blk.range (Mem.blk H13 0 rfl)) Tryz.underlying34 rfl (bN aX)⟩,rfl,trivial⟩) rfl ?_
  have hz:=hr.symm.trans (Bh hbt)
  injection hz with hz1 hz2
  injection hz2 with hz2 hz3
  subst hz1 hz2 hz3
  exact ⟨_,_,[],rfl,rfl,(fun _ h=>by cases h),(fun _ h=>by cases h),Mem.pick (Mem.dE H13 _ _ _) [0] (by decide) rfl⟩
 ·refine rn ?_
  refine nt (K7 _ _ (cf (ks (K6 _ _ (sk fun _ K14=>rl ?_)))))
  refine rv (xld (Blk.range (Mem.blk H9 1 rfl)) Tryz.underlying26 (aS d v1 v2)) ?_
  obtain ⟨e9,he9⟩:∃ e,bF d=e:=⟨_,rfl⟩
  obtain ⟨c9,hc9⟩:∃ c,hoE d=c:=⟨_,rfl⟩
  have oc9:okH c9:=hc9▸sU _
  refine ac (C5 w8 d _ _ (Mem.drv H9 hd) c9 hc9 e9 he9) ?_
  rintro e w15 ⟨rfl,hb17⟩
  refine ⟨_,rfl,rn ?_⟩
  have H16:=Mem.call H9 hb17
  refine rn ?_
  refine nz 34 zcH fun w18 hn_=>?_
  have H19:=Mem.aM H16 hn_
  refine rn ?_
  refine stb (Mem.blk H19 0 rfl) (bB oc9) (bP cK (bB oc9)) (fa c9) fun w20 hk_ hg_=>?_
  have H21:=Mem.st H19 0 rfl hk_ hg_
  refine rn ?_
  refine nt (K14 _ _ (sk fun _ K22=>sk fun _ K23=>rl ?_))
  by_cases p24:e9=0
  ·have hp0:=he9.trans p24
   have hcc:=D5 hc9 hp0
   refine rv (mK (decide_eq_true p24)) ?_
   refine nt (K23 _ _ (cf (ks (K22 _ _ (sk fun _ K25=>rl ?_)))))
   refine rv (xld (Blk.range (Mem.blk H21 2 rfl)) Tryz.underlying26 (aS d v1 v2)) ?_
   refine ac (jL w20 d _ _ (Mem.drv H21 hd) hdl) ?_
   rintro e w30 ⟨A26,c27,rfl,hm28⟩
   refine ⟨_,rfl,rn ?_⟩
   have H31:=Mem.seq H21 hm28
   refine rn ?_
   refine nt (K25 _ _ (sk fun _ K33=>sk fun _ K34=>rl ?_))
   refine nt (K34 _ _ (wp_block ?_))
   obtain ⟨ba,hba⟩:∃ b,((aA d.2.1).all fun c=>(aY l c).isSome)=b:=⟨_,rfl⟩
   have hcs:(aA d.2.1).length≤1000000:=by have h1:=im d.2.1 d.2.1.length;rw [xaG] at h1;omega
   go_loopw [10] (fun x10 wr=>∃ k:Nat,x10=.int .i64 (k:Int)∧(k≤(aA d.2.1).length)∧((((aA d.2.1).drop k).all fun c=>(aY l c).isSome)=((aA d.2.1).all fun c=>(aY l c).isSome))∧Mem w wr [ax (w20.heap.size) 34 20 (.slice A26 (aA d.2.1).length c27) ((aA d.2.1)).length (((aA d.2.1)).flatMap bv),bh (w15.heap.size) 34 (bv c9).toArray,bh (w2.heap.size) 34 zcH,bh (w.heap.size) 26 (dC d v1 v2).toArray]) (fun x10 _=>(aA d.2.1).length-(intOf x10).toNat)
   case atStart=>exact ⟨0,rfl,by omega,rfl,H31⟩
   case round =>
    obtain ⟨wo35,rfl⟩:∃ wo35,wo35=wr:=⟨_,rfl⟩
    obtain ⟨k,rfl,hk,HEQ,H36⟩:=hrel
    refine sk fun _ K38=>sk fun _ K39=>rl ?_
    by_cases p40:(k:Int)<(((aA d.2.1).length:Nat):Int)
    ·refine rv (aK (decide_eq_true p40)) ?_
     refine nt (K39 _ _ (ct (ks (K38 _ _ (sk fun _ K41=>wp_block (sk fun _ K42=>rl ?_))))))
     obtain ⟨b43,rfl,hlt46⟩:=aR (Mem.own H36 0 rfl) (by omega)
     obtain ⟨x47,hx48⟩:=gx (l:=(aA d.2.1)) (j:=k)
     have hd49:=aD hx48
     have ok50:=(gU hd) _ (xaj hx48)
     refine rv (bT (k) Tryz.underlying27 cr) ?_
     refine rv (xld (dQ (f:=bv) (by decide) (Mem.own H36 0 rfl) (fun z hz=>by rw [bvL];exact (gU hd) z hz) hx48) Tryz.underlying34 (bN ok50)) ?_
     obtain ⟨bc,hbc⟩:∃ b,(aY l x47).isSome=b:=⟨_,rfl⟩
     obtain ⟨d53,hd53⟩:∃ d,findD l x47=d:=⟨_,rfl⟩
     refine ac (tz wo35 w.heap.size (Mem.below H36).size l _ (oD H36 h) x47 ok50 d53 hd53 bc hbc) ?_
     rintro e w54 ⟨u51,u52,rfl,xd53,hb56⟩
     refine ⟨_,rfl,rn ?_⟩
     have H55:=Mem.call H36 hb56
     have xd53:=Mem.DV (w2:=w) H36 xd53
     refine rn ?_
     refine nz 26 zcD fun w57 hn_=>?_
     have H58:=Mem.aM H55 hn_
     refine rn ?_
     refine stb (Mem.blk H58 0 rfl) (dS d53 u51 u52) (bP gq (dS d53 u51 u52)) (lp d53 (au.dK xd53).1 (au.dK xd53).2) fun w59 hk_ hg_=>?_
     have H60:=Mem.st H58 0 rfl hk_ hg_
     refine rn ?_
     refine nt (K42 _ _ (sk fun _ K61=>rl ?_))
     refine rv GZ ?_
     refine nt (K61 _ _ ?_)
     cases bc
     ·refine ct (sk fun _ K62=>rl ?_)
      refine rv (v:=.agg (bv aW).toArray) (by kernel_rfl) ?_
      refine stb (Mem.blk H60 3 rfl) (bB aX) (bP cK (bB aX)) (fa aW) fun w63 hk_ hg_=>?_
      have H64:=Mem.st H60 3 rfl hk_ hg_
      refine rn ?_
      refine nt (K62 _ _ ?_)
      refine wp_ret ?_
      simp only [Exit.then,Exit.inBlock]
      refine bodyPost_ret (dw (r1:=.tmp 4) (r2:=.cell 5 34) (r3:=.tmp 6) rfl ⟨rfl,⟨_,rfl,dP (Blk.range (Mem.blk H64 3 rfl)) Tryz.underlying34 rfl (bN aX)⟩,rfl,trivial⟩) rfl ?_
      have hno:((aA d.2.1).all fun c=>(aY l c).isSome)=false:=HEQ.symm.trans (rz hx48 false hbc)
      have hz:=hr.symm.trans (yV hbt hp0 hno)
      injection hz with hz1 hz2
      injection hz2 with hz2 hz3
      subst hz1 hz2 hz3
      exact ⟨_,_,[],rfl,rfl,(fun _ h=>by cases h),(fun _ h=>by cases h),Mem.pick (Mem.dE H64 _ _ _) [0] (by decide) rfl⟩
     ·refine cf ?_
      refine wp_skip ?_
      refine ar (ah (K41 _ _ (rl ?_)))
      refine rv (bp (((k+1:Nat):Int))) ?_
      refine wpList_nil ?_
      have H65:=Mem.pick H60 [1,2,3,4] (by decide) rfl
      refine ah ?_
      show _∧_
      go_roundw
      case rel=>exact ⟨(k+1),rfl,by omega,(by have h:=HEQ;rw [rz hx48 true hbc,xa8] at h;exact h),H65⟩
      case measure=>simp [intOf];omega
    ·have he66:=bE (l:=(aA d.2.1)) (j:=k) (by omega)
     refine rv (aK (decide_eq_false p40)) ?_
     refine nt (K39 _ _ (cf (wp_exit (an (an (aB (ah (K33 _ _ (sk fun _ K67=>rl ?_)))))))))
     refine vP rfl 98 (by kernel_rfl) ?_
     intro w69 hn
     have H70:=Mem.aM H36 hn
     clear hn
     refine rn ?_
     have H71:=Mem.sG H70 0 rfl (f:=tV) (l:=([]:List bI)) (B:=w.heap.size) (t:=98) (s:=23) (cap:=0) rfl (by simp) rfl (by decide)
     refine rn ?_
     obtain ⟨inm98,iq98,ir98,is98,it98⟩:=info_parts kN
     refine aE rfl _ _ 40 rfl (w.heap.size) 98 _ _ 23 88 Tryz.underlying40 iq98 ir98 is98 it98 rfl (by decide) (.slice (some ⟨wo35.heap.size,0,none⟩) 0 0) (0) ([]) (Mem.own H71 0 rfl) (A0) (l.length) (cap) ((ls0).flatMap tV) (eZ.below hsrc0 (Mem.below H71)) ?hmt72 ?hbt72 ?hzt72 rfl rfl ?_
     case hmt72=>simp only [maxLen];omega
     case hbt72=>omega
     case hzt72=>exact (Mem.below H71).size
     intro u75 w73 ow78 gr79 hp80
     refine rn ?_
     have ow78:w73.ownsRow (w.heap.size) 98 23 u75 (ls0).length ((ls0).flatMap tV):=by first | simpa using ow78 | simpa [hll] using ow78 | (simp at ow78 ⊢;exact ow78)
     obtain ⟨A76,c77,rfl⟩:=aI ow78
     have H74:=Mem.app H71 0 rfl ow78 gr79 hp80
     clear ow78 gr79 hp80
     refine rn ?_
     refine nt (K67 _ _ (sk fun _ K81=>rl ?_))
     refine rv (xld (Blk.range (Mem.blk H74 2 rfl)) Tryz.underlying34 (bN oc9)) ?_
     obtain ⟨bf,hbf⟩:∃ b,(aY l c9).isSome=b:=⟨_,rfl⟩
     obtain ⟨d9,hd9⟩:∃ d,findD l c9=d:=⟨_,rfl⟩
     refine ac (tz w73 w.heap.size (Mem.below H74).size l _ (oD H74 h) c9 oc9 d9 hd9 bf hbf) ?_
     rintro e w84 ⟨u82,u83,rfl,xd9,hb86⟩
     refine ⟨_,rfl,rn ?_⟩
     have H85:=Mem.call H74 hb86
     have xd9:=Mem.DV (w2:=w) H74 xd9
     refine rn ?_
     refine nz 26 zcD fun w87 hn_=>?_
     have H88:=Mem.aM H85 hn_
     refine rn ?_
     refine stb (Mem.blk H88 0 rfl) (dS d9 u82 u83) (bP gq (dS d9 u82 u83)) (lp d9 (au.dK xd9).1 (au.dK xd9).2) fun w89 hk_ hg_=>?_
     have H90:=Mem.st H88 0 rfl hk_ hg_
     refine rn ?_
     refine nt (K81 _ _ (sk fun _ K91=>sk fun _ K92=>rl ?_))
     cases bf
     ·have hall9:((aA d.2.1).all fun c=>(aY l c).isSome)=true:=by have h:=HEQ;rw [bE (by omega)] at h;exact h.symm
      have hbf9:=hbf
      rw [← hcc] at hbf9
      refine rn ?_
      refine nt (K92 _ _ (cf (ks (K91 _ _ (sk fun _ K93=>sk fun _ K94=>rl ?_)))))
      refine nt (K94 _ _ (ct (rl ?_)))
      refine rv (xld (Blk.range (Mem.blk H90 3 rfl)) Tryz.underlying34 (bN oc9)) ?_
      refine rv (xld (Blk.range (Mem.blk H90 5 rfl)) Tryz.underlying26 (aS d v1 v2)) ?_
      refine rv (mS (.tmp 69) (.tmp 70) rfl oc9 rfl rfl w89) ?_
      refine aO rfl 40 (.tmp 71) rfl 98 23 (.agg zcT) (.agg (tC (c9,d) v1 v2).toArray) rfl Tryz.underlying40 dM (by decide) (by decide) (fun w=>by kernel_rfl) (by rw [xaU,xal];exact cl (x:=(c9,d)) oc9) ?_
      intro w95 hn
      have H96:=Mem.aM H90 hn
      clear hn
      refine rn ?_
      refine aE rfl _ _ 40 rfl (w.heap.size) 98 _ _ 23 88 Tryz.underlying40 iq98 ir98 is98 it98 rfl (by decide) (.slice A76 (ls0).length c77) (((ls0)).length) (((ls0)).flatMap tV) (Mem.own H96 2 rfl) ((some ⟨w89.heap.size,0,none⟩)) (1) (1) (tC (c9,d) v1 v2) (bU (n:=23) (m:=1) (Mem.blk H96 0 rfl) (cl (x:=(c9,d)) oc9) (yL (c9,d) ho1 ho2)) ?hmt97 ?hbt97 ?hzt97 rfl rfl ?_
      case hmt97=>simp only [maxLen];omega
      case hbt97=>omega
      case hzt97=>exact (Mem.below H96).size
      intro u100 w98 ow103 gr104 hp105
      refine rn ?_
      have ow103:w98.ownsRow (w.heap.size) 98 23 u100 ((ls0)++[((c9,d),v1,v2)]).length (((ls0)++[((c9,d),v1,v2)]).flatMap tV):=by first | simpa using ow103 | simpa [hll] using ow103 | (simp at ow103 ⊢;exact ow103)
      obtain ⟨A101,c102,rfl⟩:=aI ow103
      have H99:=Mem.app H96 2 rfl ow103 gr104 hp105
      clear ow103 gr104 hp105
      refine rn ?_
      refine nt (K93 _ _ (sk fun _ K106=>?_))
      refine Fre.b4 (X:=Bel) 3 [] (by kernel_rfl) (by kernel_rfl) (by simp) (by simp) (by simp) ?_
      simp only [xau,xaC,xay,xaK]
      refine Fre.rmd ?_
      refine Fre.mvv (fun W9 hW9=>xld (Blk.range (Mem.blk (Mem.call H99 hW9) 4 rfl)) Tryz.underlying34 (bN oc9)) ?_
      intro w107 hx109
      dsimp only [Fre.ended,xaE]
      have H108:=Mem.call H99 hx109
      refine stb (Mem.blk H108 5 rfl) (bB oc9) (bP cK (bB oc9)) (fa c9) fun w110 hk_ hg_=>?_
      have H111:=Mem.st H108 5 rfl hk_ hg_
      refine rn ?_
      refine nt (K106 _ _ ?_)
      refine wp_ret ?_
      refine bodyPost_ret (dw (r1:=.tmp 4) (r2:=.cell 5 34) (r3:=.tmp 6) rfl ⟨rfl,⟨_,rfl,dP (Blk.range (Mem.blk H111 5 rfl)) Tryz.underlying34 rfl (bN oc9)⟩,rfl,trivial⟩) rfl ?_
      have hz:=hr.symm.trans (Bg hbt hp0 hall9 hbf9)
      injection hz with hz1 hz2
      injection hz2 with hz2 hz3
      rw [hcc] at hz2 hz1
      subst hz1 hz3
      rw [hz2]
      exact ⟨_,_,((ls0)++[((c9,d),v1,v2)]),rfl,(by rw [List.map_append,hls0];rfl),mF hlo0 ⟨oc9,hd⟩,(fun p hp=>(xax.1 hp).imp id fun h9=>by rw [xan.1 h9];exact ⟨rfl,rfl,rfl⟩),(Mem.pick H111 [2] (by decide) rfl)⟩
     ·have hall9:((aA d.2.1).all fun c=>(aY l c).isSome)=true:=by have h:=HEQ;rw [bE (by omega)] at h;exact h.symm
      have hbf9:=hbf
      rw [← hcc] at hbf9
      refine rv (xld (Blk.range (Mem.blk H90 0 rfl)) Tryz.underlying26 (aS d9 u82 u83)) ?_
      refine rv (xld (Blk.range (Mem.blk H90 5 rfl)) Tryz.underlying26 (aS d v1 v2)) ?_
      obtain ⟨bs,hbs⟩:∃ b,decide (a8 d9=a8 d)=b:=⟨_,rfl⟩
      refine ac (EK w89 d9 _ _ (Mem.drv H90 xd9) (Dk hbt hbf hd9) d _ _ (Mem.drv H90 hd) hp0 bs hbs) ?_
      rintro e w112 ⟨rfl,hb114⟩
      refine ⟨_,rfl,rn ?_⟩
      have H113:=Mem.call H90 hb114
      cases bs
      ·refine rn ?_
       refine nt (K92 _ _ (ct (sk fun _ K115=>rl ?_)))
       refine rv (v:=.agg (bv aW).toArray) (by kernel_rfl) ?_
       refine stb (Mem.blk H113 4 rfl) (bB aX) (bP cK (bB aX)) (fa aW) fun w116 hk_ hg_=>?_
       have H117:=Mem.st H113 4 rfl hk_ hg_
       refine rn ?_
       refine nt (K115 _ _ ?_)
       refine wp_ret ?_
       simp only [Exit.then]
       refine bodyPost_ret (dw (r1:=.tmp 4) (r2:=.cell 5 34) (r3:=.tmp 6) rfl ⟨rfl,⟨_,rfl,dP (Blk.range (Mem.blk H117 4 rfl)) Tryz.underlying34 rfl (bN aX)⟩,rfl,trivial⟩) rfl ?_
       have hz:=hr.symm.trans (tS hbt hp0 hall9 hbf9 (by rw [hcc];exact hd9) false hbs)
       injection hz with hz1 hz2
       injection hz2 with hz2 hz3
       subst hz1 hz2 hz3
       exact ⟨_,_,[],rfl,rfl,(fun _ h=>by cases h),(fun _ h=>by cases h),Mem.pick (Mem.dE H117 _ _ _) [0] (by decide) rfl⟩
      ·refine rn ?_
       refine nt (K92 _ _ (cf (ks (K91 _ _ (sk fun _ K118=>sk fun _ K119=>rl ?_)))))
       refine nt (K119 _ _ (cf (ks (K118 _ _ (sk fun _ K120=>?_)))))
       refine Fre.b4 (X:=Bel) 3 [] (by kernel_rfl) (by kernel_rfl) (by simp) (by simp) (by simp) ?_
       simp only [xau,xaC,xay,xaK]
       refine Fre.rmd ?_
       refine Fre.mvv (fun W9 hW9=>xld (Blk.range (Mem.blk (Mem.call H113 hW9) 3 rfl)) Tryz.underlying34 (bN oc9)) ?_
       intro w121 hx123
       dsimp only [Fre.ended,xaE]
       have H122:=Mem.call H113 hx123
       refine stb (Mem.blk H122 4 rfl) (bB oc9) (bP cK (bB oc9)) (fa c9) fun w124 hk_ hg_=>?_
       have H125:=Mem.st H122 4 rfl hk_ hg_
       refine rn ?_
       refine nt (K120 _ _ ?_)
       refine wp_ret ?_
       refine bodyPost_ret (dw (r1:=.tmp 4) (r2:=.cell 5 34) (r3:=.tmp 6) rfl ⟨rfl,⟨_,rfl,dP (Blk.range (Mem.blk H125 4 rfl)) Tryz.underlying34 rfl (bN oc9)⟩,rfl,trivial⟩) rfl ?_
       have hz:=hr.symm.trans (tS hbt hp0 hall9 hbf9 (by rw [hcc];exact hd9) true hbs)
       rw [if_pos rfl] at hz
       injection hz with hz1 hz2
       injection hz2 with hz2 hz3
       rw [hcc] at hz2
       subst hz1 hz3
       rw [hz2]
       exact ⟨_,_,(ls0),rfl,hls0,hlo0,(fun p hp=>.inl hp),(Mem.pick H125 [1] (by decide) rfl)⟩
  ·have hne9:=p24
   refine rv (mK (decide_eq_false p24)) ?_
   refine nt (K23 _ _ (ct (sk fun _ K126=>rl ?_)))
   refine rv (v:=.agg (bv aW).toArray) (by kernel_rfl) ?_
   refine stb (Mem.blk H21 1 rfl) (bB aX) (bP cK (bB aX)) (fa aW) fun w127 hk_ hg_=>?_
   have H128:=Mem.st H21 1 rfl hk_ hg_
   refine rn ?_
   refine nt (K126 _ _ ?_)
   refine wp_ret ?_
   simp only [Exit.then]
   refine bodyPost_ret (dw (r1:=.tmp 4) (r2:=.cell 5 34) (r3:=.tmp 6) rfl ⟨rfl,⟨_,rfl,dP (Blk.range (Mem.blk H128 1 rfl)) Tryz.underlying34 rfl (bN aX)⟩,rfl,trivial⟩) rfl ?_
   have hne8:¬ bF d=0:=by rw [he9];exact hne9
   have hz:=hr.symm.trans (Be hbt hne8)
   injection hz with hz1 hz2
   injection hz2 with hz2 hz3
   rw [he9] at hz3
   subst hz1 hz2 hz3
   exact ⟨_,_,[],rfl,rfl,(fun _ h=>by cases h),(fun _ h=>by cases h),Mem.pick (Mem.dE H128 _ _ _) [0] (by decide) rfl⟩
end Go.Proofs.YtomnhnmciopiiaaGreat
end
section
namespace Go.Proofs.YtomnhnmciopiiaaGreat
open Go Go.RowKit Go.Maps
attribute [local irreducible] wpList
theorem CZ (wb w:World) (R:Ent) (hm0:Mem wb w [R]) (l:List Itm) (v:Value) (h:aH.At wb wb.heap.size [v] l) (hn:l.length≤1000000) :
  Calls Tryz.prog 16 #[v] w fun e w'=>∃ (u:Value) (os:List bI),e=.returned u∧os.map (·.1)=l∧(∀ p∈os,okH p.1.1∧au wb wb.heap.size p.1.2 p.2.1 p.2.2)∧Mem wb w' [ax wb.heap.size 98 23 u os.length (os.flatMap tV),R]:=by
 obtain ⟨A,c,rfl,_,hcm,_,hA⟩:=aj h
 simp only [maxLen] at hcm
 go_enter Tryz.func16,Tryz.ntmps16
 refine sk fun _ K1=>rl ?_
 refine nt (K1 _ _ (sk fun _ K2=>rl ?_))
 refine nt (K2 _ _ (sk fun _ K3=>sk fun _ K4=>rl ?_))
 refine nt (K4 _ _ (wp_block ?_))
 have H5:=Mem.dE hm0 wb.heap.size 98 23
 go_loopw [3,4] (fun x3 x4 wr=>∃ k:Nat,∃ os:List bI,∃ A9:Option Addr,∃ c9:Nat,x3=.slice A9 os.length c9∧x4=.int .i64 (k:Int)∧(k≤l.length)∧(os.map (·.1)=l.take k)∧(∀ p∈os,okH p.1.1∧au wb wb.heap.size p.1.2 p.2.1 p.2.2)∧Mem wb wr [ax (wb.heap.size) 98 23 (.slice A9 os.length c9) (os).length ((os).flatMap tV),R]) (fun x3 x4 _=>l.length-(intOf x4).toNat)
 case atStart=>exact ⟨0,([]),none,0,rfl,rfl,by omega,(by rfl),(fun _ h=>by cases h),H5⟩
 case round =>
  obtain ⟨wo6,rfl⟩:∃ wo6,wo6=wr:=⟨_,rfl⟩
  obtain ⟨k,os,A9,c9,rfl,rfl,hk,hos,hlo,H7⟩:=hrel
  have hol:os.length=k:=by have h9:=congrArg List.length hos;rw [xap,xaN] at h9;omega
  refine sk fun _ K9=>sk fun _ K10=>rl ?_
  by_cases p11:(k:Int)<((l.length:Nat):Int)
  ·refine rv (aK (decide_eq_true p11)) ?_
   refine nt (K10 _ _ (ct (ks (K9 _ _ (sk fun _ K12=>wp_block ?_)))))
   obtain ⟨b13,o14,rfl,hlt16,hE15⟩:=hA (by omega)
   obtain ⟨x17,hx18⟩:=gx (l:=l) (j:=k)
   have hd19:=aD hx18
   obtain ⟨cs,hr20,ha21⟩:=hE15 (k) x17 hx18
   obtain ⟨v22,v23,rfl,xo24,xd25⟩:=cF.1 ha21
   obtain ⟨A26,c27,rfl,hlc27,hmc27,_,hA28⟩:=aj xd25.ins
   obtain ⟨A29,c30,rfl,hlc30,hmc30,_,hA31⟩:=aj xd25.rcp
   simp only [maxLen] at hmc27 hmc30
   refine Fre.b4 (X:=Bel) 13 [(23,yf wo6.heap.size x17 (.slice A26 x17.2.2.1.length c27) (.slice A29 x17.2.2.2.length c30))] (by kernel_rfl) (by kernel_rfl) (by intro p hp;simp only [xaD,xaS,or_false] at hp;subst hp;exact (vD _ _ _ _)) (by simp) (by simp) ?_
   simp only [xau,xaC,xay,xaK]
   refine Fre.rmd ?_
   refine Fre.mvv (fun _ _=>fw (k) Tryz.underlying22 cJ) ?_
   refine Fre.mvv (v:=.pointer (some ⟨b13,o14+k*23,none⟩)) (fun _ _=>by kernel_rfl) ?_
   refine Fre.mvv (fun W9 hW9=>xld (cz (Mem.range (Mem.call H7 hW9) hr20 hlt16)) Tryz.underlying34 (bN xo24)) ?_
   refine Fre.mvv (fun _ _=>fw (k) Tryz.underlying22 cJ) ?_
   refine Fre.mvv (v:=.pointer (some ⟨b13,o14+k*23+20,none⟩)) (fun _ _=>by kernel_rfl) ?_
   refine Fre.mvv (fun W9 hW9=>xld (de xo24 (Mem.range (Mem.call H7 hW9) hr20 hlt16)) Tryz.underlying26 (aS x17.2 (.slice A26 x17.2.2.1.length c27) (.slice A29 x17.2.2.2.length c30))) ?_
   refine Fre.mvv (fun W9 _=>mS (.tmp 16) (.tmp 21) rfl (c:=x17.1) (d:=x17.2) xo24 rfl rfl W9) ?_
   refine Fre.gI 23 _ (by kernel_rfl) (by kernel_rfl) rfl rfl (fun W9 hW9=>sq (.tmp 22) rfl _ xo24 rfl (Below.size hW9)) ?_
   refine Fre.rmd ?_
   intro w32 hx34
   dsimp only [Fre.ended,xaE]
   rintro u9 ⟨r9,rfl,hr9,hk9⟩
   simp only [xae,xaa,xab,xac]
   have H33:=Mem.call H7 hx34
   obtain ⟨inm98,iq98,ir98,is98,it98⟩:=info_parts kN
   refine aE rfl _ _ 40 rfl (wb.heap.size) 98 _ _ 23 88 Tryz.underlying40 iq98 ir98 is98 it98 rfl (by decide) (.slice A9 os.length c9) ((os).length) ((os).flatMap tV) (Mem.own H33 0 rfl) ((some ⟨r9,0,none⟩)) (1) (1) (([(x17,(xas A26 x17.2.2.1.length c27),(xas A29 x17.2.2.2.length c30))]).flatMap tV) (qC (f:=tV) (p:=(x17,(xas A26 x17.2.2.1.length c27),(xas A29 x17.2.2.2.length c30))) (bU (n:=23) (m:=1) hk9 (cl xo24) (yL x17 rfl rfl))) ?hmt35 ?hbt35 ?hzt35 rfl rfl ?_
   case hmt35=>simp only [maxLen];omega
   case hbt35=>omega
   case hzt35=>exact (Mem.below H33).size
   intro u38 w36 ow41 gr42 hp43
   refine rn ?_
   have ow41:w36.ownsRow (wb.heap.size) 98 23 u38 (os++[(x17,(xas A26 x17.2.2.1.length c27),(xas A29 x17.2.2.2.length c30))]).length ((os++[(x17,(xas A26 x17.2.2.1.length c27),(xas A29 x17.2.2.2.length c30))]).flatMap tV):=by first | simpa using ow41 | simpa [tV] using ow41 | (simp at ow41 ⊢;exact ow41)
   obtain ⟨A39,c40,rfl⟩:=aI ow41
   have H37:=Mem.app H33 0 rfl ow41 gr42 hp43
   clear ow41 gr42 hp43
   refine rn ?_
   refine wpList_nil ?_
   refine ar (ah (K12 _ _ (rl ?_)))
   refine rv (bp (((k+1:Nat):Int))) ?_
   refine wpList_nil ?_
   refine ah ?_
   show _∧_
   go_roundw
   case rel=>exact ⟨(k+1),((os++[(x17,(xas A26 x17.2.2.1.length c27),(xas A29 x17.2.2.2.length c30))])),A39,c40,rfl,rfl,by omega,(m5 hos hx18 rfl),(mF hlo ⟨xo24,xd25⟩),H37⟩
   case measure=>simp [intOf];omega
  ·have he44:=bE (l:=l) (j:=k) (by omega)
   refine rv (aK (decide_eq_false p11)) ?_
   refine nt (K10 _ _ (cf (wp_exit (an (an (aB (ah (K3 _ _ (sk fun _ K45=>rl ?_)))))))))
   refine nt (K45 _ _ (rt ?_))
   have hke:k=l.length:=by omega
   rw [hke,xaG] at hos
   exact ⟨_,os,rfl,hos,hlo,H7⟩
end Go.Proofs.YtomnhnmciopiiaaGreat
end
section
namespace Go.Proofs.YtomnhnmciopiiaaGreat
open Go Go.RowKit Go.Maps
def Gg (wb w:World):Ent:=⟨fun b=>wb.heap.size≤b∧b<w.heap.size,fun W=>∀ b,wb.heap.size≤b→b<w.heap.size→W.heap[b]?=w.heap[b]?∧b<W.heap.size⟩
theorem EC (wb w:World):(Gg wb w).Ok:=fun W W' h hk b h1 h2=>by
 obtain ⟨h3,h4⟩:=h b h1 h2
 have h5:=hk b ⟨h1,h2⟩ h4
 refine ⟨h5.trans h3,?_⟩
 have h6:W.heap[b]?=some W.heap[b]:=Array.getElem?_eq_getElem h4
 rw [h6] at h5
 exact (xa2.1 h5).1
theorem Mem.pin {wb w:World} {L:List Ent} (h:Mem wb w L):Mem wb w [Gg wb w] :=
 (h.pick [] (by simp) rfl).cons (EC wb w) (fun b _ h2=>⟨rfl,h2⟩) fun b hb=>⟨hb.1,hb.2,fun x hx=>by cases hx⟩
theorem Mem.GX {wb w w':World} {L L':List Ent} (h0:Mem wb w L') (h:Mem wb w' L) (i:Nat) (hi:L[i]?=some (Gg wb w)):Below w.heap.size w w':=by
 have hp:=h.get i hi
 have hb:=h.below
 have hb0:=h0.below
 refine ⟨hb.os.trans hb0.os.symm,hb.tape.trans hb0.tape.symm,hb.output.trans hb0.output.symm,?_,fun b hl=>?_⟩
 ·rcases Nat.lt_or_ge wb.heap.size w.heap.size with hlt | hge
  ·have:=(hp (w.heap.size-1) (by omega) (by omega)).2
   omega
  ·exact xaH hge hb.size
 ·rcases Nat.lt_or_ge b wb.heap.size with hlt | hge
  ·exact (hb.block b hlt).trans (hb0.block b hlt).symm
  ·exact (hp b hge hl).1
def mL (wb:World) (nl:List Itm) (v:Value) (W:World):Prop:=∃ (ls:List bI) (A:Option Addr) (c:Nat),v=.slice A ls.length c∧ls.map (·.1)=nl∧(∃ B,W.ownsRow B 98 23 v ls.length (ls.flatMap tV))∧∀ p∈ls,okH p.1.1∧au wb wb.heap.size p.1.2 p.2.1 p.2.2
theorem yK (wb:World) (nl:List Itm):Fre.df Bel (mL wb nl):=⟨fun _ _ _ ⟨ls,A,c,h1,h2,⟨B,h3⟩,h4⟩ hx=>⟨ls,A,c,h1,h2,⟨B,ao h3 fun g _ hl=>hx.block g hl⟩,h4⟩⟩
theorem mL.at_ {wb W:World} {L:List Ent} {nl:List Itm} {v:Value} (h:mL wb nl v W) (m:Mem wb W L):eg.At W W.heap.size [v] nl:=by
 obtain ⟨ls,A,c,h1,h2,⟨B,h3⟩,h4⟩:=h
 rw [← h2]
 exact qx m h3 h4
theorem mL.stored {wb W W':World} {nl:List Itm} {v:Value} {g:Nat} {cs:Array Value} {t:TypeId} (ht:98 ≠ t) (h:mL wb nl v W) (hb:Blk W g t cs) (hg:W.grownBy W' (some g)):mL wb nl v W':=by
 obtain ⟨ls,A,c,h1,h2,⟨B,h3⟩,h4⟩:=h
 exact ⟨ls,A,c,h1,h2,⟨B,ao h3 fun b hf hl=>hg.block b hl fun e=>by
  have e:=xam e
  subst e
  exact ef h3 hb ht hf⟩,h4⟩
theorem Fi (wb w:World) {L:List Ent} (hm:Mem wb w L) (l:List Itm) (v:Value) (h:aH.At wb wb.heap.size [v] l) (hn:l.length≤1000000) :
  Calls Tryz.prog 16 #[v] w fun e w'=>∃ u,e=.returned u∧Below w.heap.size w w'∧mL wb l u w':=by
 refine (CZ wb w _ hm.pin l v h hn).mono fun e w' ⟨u,os,h1,h2,h3,h4⟩=>?_
 obtain ⟨A,c,rfl⟩:=aI (h4.own 0 rfl)
 exact ⟨_,h1,hm.GX h4 1 rfl,os,A,c,rfl,h2,⟨_,h4.own 0 rfl⟩,h3⟩
def GA (wb:World) (nl:List Itm) (cR:Hsh) (eR:Int) (u:Value) (W:World):Prop:=∃ v,u=.tuple #[v,.agg (bv cR).toArray,.int .i64 eR]∧mL wb nl v W
theorem xC {w:World} {B n cap s:Nat} {A:Option Addr} {t:TypeId} {xs:List Value} (h:w.ownsRow B t s (.slice A n cap) n xs) (h1:∀ u∈xs,u.oneCell'=true):eZ w s A n cap xs:=by
 rcases a7 h with ⟨e,hn,hx⟩ | ⟨g,cap',cur,e,_⟩
 ·injection e with e1 e2 e3
  subst e1 e2 e3 hx
  exact ⟨by simp,(fun _=>by first | rfl | simp),h1,fun ad had=>by cases had⟩
 ·injection e with e1 e2 e3
  subst e1
  exact mz h h1
theorem CW (wb w:World) {L:List Ent} (hm:Mem wb w L) (l:List Itm) (v:Value) (h:mL wb l v w) (hl:∀ x∈l,x.2.2.1.length≤1000000∧x.2.2.2.length≤1000000) (hlen:l.length≤1000000) (d:Drv) (v1 v2:Value) (hd:au wb wb.heap.size d v1 v2) (hdl:d.2.1.length≤1000000) (nl:List Itm) (cR:Hsh) (eR:Int) (hr:dq bA l d=(nl,cR,eR)) :
  Calls Tryz.prog 15 #[v,.agg (dC d v1 v2).toArray] w fun e w'=>∃ u,e=.returned u∧Below w.heap.size w w'∧GA wb nl cR eR u w':=by
 have hat:=h.at_ hm
 obtain ⟨ls0,A,c,rfl,h2,⟨B,h3⟩,h4⟩:=h
 have h40:∀ p∈ls0,okH p.1.1∧au w w.heap.size p.1.2 p.2.1 p.2.2:=fun p hp=>⟨(h4 p hp).1,hm.drv (h4 p hp).2⟩
 have hlen0:ls0.length=l.length:=by rw [← h2,xap]
 have hsrc:eZ w 23 A ls0.length c (ls0.flatMap tV):=by
  refine xC h3 fun u hu=>?_
  obtain ⟨p,hp,hup⟩:=List.mem_flatMap.1 hu
  have h9:=au.dK (h4 p hp).2
  exact gQ p.1 h9.1 h9.2 u hup
 refine (Gk w l A ls0.length c hat ls0 h2 h40 hsrc hl hlen d v1 v2 (hm.drv hd) hdl nl cR eR hr).mono fun e w' ⟨A',c',ls,k1,k2,k3,k4,k5⟩=>⟨_,k1,k5.below,_,rfl,ls,A',c',rfl,k2,⟨_,k5.own 0 rfl⟩,fun p hp=>⟨(k3 p hp).1,?_⟩⟩
 rcases k4 p hp with h9 | ⟨e1,e2,e3⟩
 ·exact (h4 p h9).2
 ·rw [e1,e2,e3]
  exact hd
end Go.Proofs.YtomnhnmciopiiaaGreat
end
section
namespace Go.Proofs.YtomnhnmciopiiaaGreat
open Go Go.RowKit Go.Maps
attribute [local irreducible] wpList
theorem Ba {hof:Drv→Hsh} (hh:∀ d,okH (hof d)) {l:List Itm} {d:Drv} {nl:List Itm} {c:Hsh} {k:Int} (ha:dq hof l d=(nl,c,k)) (hl:∀ x∈l,okH x.1):(∀ x∈nl,okH x.1)∧nl.length≤l.length+1:=tQ (P:=fun x=>okH x.1) ha hl (hh d)
theorem Bd {hof:Drv→Hsh} {l:List Itm} {d:Drv} {nl:List Itm} {c:Hsh} {k:Int} (ha:dq hof l d=(nl,c,k)) (hl:∀ x∈l,x.2.2.1.length≤1000000∧x.2.2.2.length≤1000000) (hd:d.2.1.length≤1000000∧d.2.2.length≤1000000):∀ x∈nl,x.2.2.1.length≤1000000∧x.2.2.2.length≤1000000:=(tQ (P:=fun x:Itm=>x.2.2.1.length≤1000000∧x.2.2.2.length≤1000000) ha hl hd).1
theorem Hg (w:World) (d:Drv) (v1 v2:Value) (hd:au w w.heap.size d v1 v2) (c:Hsh) (hc:hoE d=c) (e9:Int) (he:bF d=e9) :
  Calls Tryz.prog 12 #[.agg (dC d v1 v2).toArray] w fun e w'=>e=.returned (.tuple #[.agg (bv c).toArray,.int .i64 e9])∧Below w.heap.size w w':=by
 subst hc he
 exact Hf w d v1 v2 hd
theorem Bb {hof:Drv→Hsh} {l:List Itm} {d:Drv} {nl:List Itm} {c:Hsh} {k:Int} (ho:okH (hof d)) (ha:dq hof l d=(nl,c,k)):okH c:=by
 by_cases hk:k=0
 ·subst hk
  rw [(vW ha).2.2.2.1]
  exact ho
 ·rw [(mM ha hk).2]
  exact aX
theorem EZ (w:World) (l:List Itm) (A:Option Addr) (cap:Nat) (h:aH.At w w.heap.size [.slice A l.length cap] l) (hl:∀ x∈l,x.2.2.1.length≤1000000) (b:Bool) (hb:dp bA l=b) :
  Calls Tryz.prog 19 #[.slice A l.length cap] w fun e w'=>e=.returned (.bool b)∧Below w.heap.size w w':=by
 subst hb
 exact sv w l A cap h hl
theorem Ff (w:World) (l:List Itm) (os:List bI) (A:Option Addr) (c:Nat) (hin:InP w l os A c) (v:Value) (h:aH.At w w.heap.size [v] l) (hl:∀ x∈l,x.2.2.1.length≤1000000∧x.2.2.2.length≤1000000) (hn:l.length≤1000000) :
  Calls Tryz.prog 22 #[.slice A l.length c,v] w fun e w'=>e=.returned (.bool true)∧Below w.heap.size w w':=by
 have e:l.length=os.length:=by rw [← hin.eq,xap]
 obtain ⟨B,hr⟩:=hin.row
 obtain ⟨B2,he⟩:=hin.each
 rw [e]
 exact xh w B2 B os A c hr he l v h hl hin.eq hn
theorem BJ (w:World) (B:Nat) (ls:List bI) (A:Option Addr) (c:Nat) (ho:w.ownsRow B 59 23 (.slice A ls.length c) ls.length (ls.flatMap tV)) (hok:∀ p∈ls,okH p.1.1∧p.2.1.oneCell'=true∧p.2.2.oneCell'=true) (hn:ls.length≤1000000) :
  Calls Tryz.prog 25 #[.slice A ls.length c] w fun e w'=>∃ A2 c2,e=.returned (.slice A2 ls.length c2)∧Mem w w' [ax w.heap.size 26 3 (.slice A2 ls.length c2) ls.length (ls.flatMap dV9)]:=by
 refine (wE w B ls A c ho hok hn).mono fun e w' ⟨u,h1,h2⟩=>?_
 obtain ⟨A2,c2,rfl⟩:=aI (h2.own 0 rfl)
 exact ⟨A2,c2,h1,h2⟩
theorem B8 {w0 w:World} {B n g c:Nat} {t:TypeId} {xs:List Value} {L:List Ent} (h:Mem w0 w (ax B t 1 (.slice (some ⟨g,0,none⟩) n c) n xs :: L)):Mem w0 w (ax w0.heap.size t 1 (.slice (some ⟨g,0,none⟩) n c) n xs :: L) :=
 h.mD 0 rfl (gz _ _ _ _ _ _) (bH (h.own 0 rfl) fun _ hb=>(h.from_ (e:=ax B t 1 (.slice (some ⟨g,0,none⟩) n c) n xs) 0 rfl hb).1) fun _ hf=>hf
theorem pa (w:World) (l:List Itm) (A:Option Addr) (cap:Nat) (h:aH.At w w.heap.size [.slice A l.length cap] l) (hlight:∀ x∈l,iU x.2) (d:Drv) (v1 v2:Value) (hd:au w w.heap.size d v1 v2) (hld:iU d) (aL:List Hsh) (K:Option Addr) (kc:Nat) (hk:cT.At w w.heap.size [.slice K aL.length kc] aL) :
  Calls Tryz.prog 3 #[.slice A l.length cap,.agg (dC d v1 v2).toArray,.slice K aL.length kc] w fun e w'=>e=.returned (.bool true)∧Below w.heap.size w w':=by
 obtain ⟨ho1,ho2⟩:=hd.dK
 have hbd:=rL 1500 hld
 obtain ⟨_,_,ekk,_,hkm,_,_⟩:=aj hk
 injection ekk with _ _ ekc
 subst ekc
 simp only [maxLen] at hkm
 have H0:=Mem.start w
 go_enter Tryz.func3,Tryz.ntmps3
 refine sk fun _ K1=>rl ?_
 refine bx 26 (dC d v1 v2) fun w2 hn_=>?_
 have H3:=Mem.aM H0 hn_
 refine rn ?_
 refine nt (K1 _ _ (sk fun _ K4=>sk fun _ K5=>rl ?_))
 obtain ⟨bg,hbg⟩:∃ b,decide (1500<ll (fun x:Itm=>eo 1500 x.2) 1500 0 l)=b:=⟨_,rfl⟩
 refine ac (D2 w2 l A cap (Mem.lay H3 h) hlight bg hbg) ?_
 rintro e w6 ⟨rfl,hb8⟩
 refine ⟨_,rfl,rn ?_⟩
 have H7:=Mem.call H3 hb8
 cases bg
 ·refine rn ?_
  refine rv (xld (Blk.range (Mem.blk H7 0 rfl)) Tryz.underlying26 (aS d v1 v2)) ?_
  refine ac (ph w6 1500 (by omega) d _ _ (Mem.drv H7 hd) hld) ?_
  rintro e w9 ⟨rfl,hb11⟩
  refine ⟨_,rfl,rn ?_⟩
  have H10:=Mem.call H7 hb11
  by_cases p12:1500<((eo 1500 d:Nat):Int)
  ·refine rv (ou (decide_eq_true p12)) ?_
   refine nt (K5 _ _ (ct (sk fun _ K13=>rl ?_)))
   refine ac (iH w9) ?_
   rintro e w14 ⟨rfl,hb16⟩
   refine ⟨_,rfl,rn ?_⟩
   have H15:=Mem.call H10 hb16
   refine rn ?_
   refine nt (K13 _ _ (rt ?_))
   exact ⟨rfl,Mem.below H15⟩
  ·refine rv (ou (decide_eq_false p12)) ?_
   by_cases p17:1500<((aL.length:Nat):Int)
   ·refine rv (ou (decide_eq_true p17)) ?_
    refine nt (K5 _ _ (ct (sk fun _ K18=>rl ?_)))
    refine ac (iH w9) ?_
    rintro e w19 ⟨rfl,hb21⟩
    refine ⟨_,rfl,rn ?_⟩
    have H20:=Mem.call H10 hb21
    refine rn ?_
    refine nt (K18 _ _ (rt ?_))
    exact ⟨rfl,Mem.below H20⟩
   ·have hle:=yp (most:=1500) (f:=fun x:Itm=>eo 1500 x.2) (fun x=>wD 1500 x.2) l 0 (by have:=of_decide_eq_false hbg;omega)
    have hn:l.length≤1000000:=by have:=hle.1;omega
    have hl:∀ x∈l,x.2.2.1.length≤1000000∧x.2.2.2.length≤1000000:=fun x hx=>(by have h1:=hle.2.2 x hx;have h2:=l6 h1;omega)
    have hdl:d.2.1.length≤1000000∧d.2.2.length≤1000000:=by have:=l6 (most:=1500) (d:=d) (by omega);omega
    have hkn:aL.length≤1000000:=by omega
    obtain ⟨nl,cR,eR,hr⟩:∃ nl cR eR,dq bA l d=(nl,cR,eR):=⟨_,_,_,rfl⟩
    have okc:okH cR:=Bb (gy d) hr
    obtain ⟨c9,hc9⟩:∃ c,hoE d=c:=⟨_,rfl⟩
    have oc9:okH c9:=hc9▸sU d
    obtain ⟨e9,he9⟩:∃ e,bF d=e:=⟨_,rfl⟩
    obtain ⟨dropL,hdL⟩:∃ x,(if dp bA l=true then fc l aL else [])=x:=⟨_,rfl⟩
    obtain ⟨dropE,hdE⟩:∃ x,(if dp bA l=true then (0:Int) else 2)=x:=⟨_,rfl⟩
    obtain ⟨bt,hbt⟩:∃ b,dp bA l=b:=⟨_,rfl⟩
    have hokl:=Ee h
    have hnl:=Ba gy hr hokl
    have hnl2:=Bd hr hl hdl
    have hdl3:=uo (P:=fun x:Itm=>okH x.1) hdL hokl
    have hdl4:=(uo (P:=fun x:Itm=>x.2.2.1.length≤1000000∧x.2.2.2.length≤1000000) hdL hl).1
    refine rv (ou (decide_eq_false p17)) ?_
    refine nt (K5 _ _ (cf (ks (K4 _ _ (sk fun _ K22=>?_)))))
    refine Fre.b4 (X:=Bel) 5 [(40,InU l),(42,LdU w9.heap.size d),(8,Fp w9.heap.size)] (by kernel_rfl) (by kernel_rfl) (by intro p hp;simp only [xaD,xaS,or_false] at hp;rcases hp with rfl | rfl | rfl;exact (FZ _);exact (Cp _ _);exact (Ev _)) (by simp) (by simp) ?_
    simp only [xau,xaC,xay,xaK]
    refine Fre.rmd ?_
    refine Fre.dt 40 _ 10 #[.slice A l.length cap] (by kernel_rfl) (by kernel_rfl) rfl rfl (fun W=>by kernel_rfl) (fun W hW=>GJ W l _ (Mem.lay (Mem.call H10 hW) h) hl hn) ?_
    refine Fre.rmd ?_
    refine Fre.mvv (fun W9 hW9=>xld (Blk.range (Mem.blk (Mem.call H10 hW9) 0 rfl)) Tryz.underlying26 (aS d v1 v2)) ?_
    refine Fre.dt 42 _ 11 #[.agg (dC d v1 v2).toArray] (by kernel_rfl) (by kernel_rfl) rfl rfl (fun W=>by kernel_rfl) (fun W hW=>(nK W d _ _ (Mem.drv (Mem.call H10 hW) hd) hdl.1 hdl.2).mono (fun e w' ⟨u1,u2,h1,h2⟩=>⟨_,h1,h2.below,(u1,u2),rfl,(show bY _ _ _ _ _ from h2.holds _ (.head _)).lower (Below.size hW)⟩)) ?_
    refine Fre.rmd ?_
    refine Fre.gI 8 _ (by kernel_rfl) (by kernel_rfl) rfl rfl (fun W9 hW9=>CE rfl _ (Below.size hW9)) ?_
    refine Fre.rmd ?_
    intro w23 hx25
    dsimp only [Fre.ended,xaE]
    rintro u40 ⟨os,A3,c3,rfl,hin⟩ u42 ⟨p,rfl,hxl⟩ u8 ⟨g8,rfl,hg8,hb8⟩
    simp only [xae,xaa,xab,xac]
    have H24:=Mem.new H10 hx25 (sF g8 _ _) hb8 (fun b hf=>by have e:b=g8:=hf;subst e;exact ⟨hg8,Blk.lt hb8⟩)
    obtain ⟨hq1,hq2⟩:=hxl.dK
    refine rn ?_
    refine ak rfl 26 (.tmp 8) (.tmp 42) rfl g8 zcD (dC d p.1 p.2).toArray 26 (Mem.blk H24 0 rfl) (dS d p.1 p.2) (bP gq (dS d p.1 p.2)) (lp d hq1 hq2) rfl rfl ?_
    intro w26 hk9 hg9
    have hin:=InP.stored hin hb8 hg9
    have hxl:=bY.stored hxl hb8 hg9
    have H27:=Mem.st H24 0 rfl hk9 hg9
    clear hk9 hg9 hb8
    refine rn ?_
    have hbel:=Mem.below H27
    have h:=Mem.lay H27 h
    have hd:=Mem.drv H27 hd
    have hk:=Mem.lay H27 hk
    have hb_s8:=Mem.blk H27 0 rfl
    obtain ⟨g_s8,hg_s8⟩:∃ g,g=g8:=⟨_,rfl⟩
    rw [← hg_s8] at hb_s8 ⊢
    have hb_s4:=Mem.blk H27 1 rfl
    obtain ⟨g_s4,hg_s4⟩:∃ g,g=w.heap.size:=⟨_,rfl⟩
    rw [← hg_s4] at hb_s4 ⊢
    have H28:=Mem.start w26
    have hxd:=hxl.at_ (xag _)
    refine nt (K22 _ _ (sk fun _ K29=>rl ?_))
    refine rv (xld (Mem.range H28 (Blk.range hb_s8) (Blk.lt hb_s8)) Tryz.underlying26 (aS d p.1 p.2)) ?_
    have h_0:=h
    have hd_0:=hd
    have hk_0:=hk
    have hb_s8_0:=hb_s8
    have hb_s4_0:=hb_s4
    have hin_0:=hin
    have hxl_0:=hxl
    have hxd_0:=hxd
    have hbel_0:=hbel
    refine ac (Hg w26 d _ _ (Mem.drv H28 hxd) c9 hc9 e9 he9) ?_
    rintro e w30 ⟨rfl,hb32⟩
    refine ⟨_,rfl,rn ?_⟩
    have H31:=Mem.call H28 hb32
    refine rn ?_
    refine nz 34 zcH fun w33 hn_=>?_
    have H34:=Mem.aM H31 hn_
    refine rn ?_
    refine stb (Mem.blk H34 0 rfl) (bB oc9) (bP cK (bB oc9)) (fa c9) fun w35 hk_ hg_=>?_
    have H36:=Mem.st H34 0 rfl hk_ hg_
    refine rn ?_
    refine nt (K29 _ _ (sk fun _ K37=>rl ?_))
    refine rv (xld (Mem.range H36 (Blk.range hb_s4) (Blk.lt hb_s4)) Tryz.underlying26 (aS d v1 v2)) ?_
    refine ac (C5 w35 d _ _ (Mem.drv H36 hd) c9 hc9 e9 he9) ?_
    rintro e w38 ⟨rfl,hb40⟩
    refine ⟨_,rfl,rn ?_⟩
    have H39:=Mem.call H36 hb40
    refine rn ?_
    refine nz 34 zcH fun w41 hn_=>?_
    have H42:=Mem.aM H39 hn_
    refine rn ?_
    refine stb (Mem.blk H42 0 rfl) (bB oc9) (bP cK (bB oc9)) (fa c9) fun w43 hk_ hg_=>?_
    have H44:=Mem.st H42 0 rfl hk_ hg_
    refine rn ?_
    refine nt (K37 _ _ (sk fun _ K45=>rl ?_))
    refine rv (xld (Mem.range H44 (Blk.range hb_s8) (Blk.lt hb_s8)) Tryz.underlying26 (aS d p.1 p.2)) ?_
    refine ac (Fb w43 l A3 c3 d _ _ (Mem.lay H44 hin.at_) hl hn (Mem.drv H44 hxd) hdl nl cR eR hr) ?_
    rintro e w47 ⟨A_46,c_46,ls_46,rfl,hls_46,hm_46⟩
    refine ⟨_,rfl,rn ?_⟩
    have H48:=Mem.seq H44 hm_46
    have ha_46:aH.At w47 w47.heap.size [.slice A_46 ls_46.length c_46] nl:=by rw [← hls_46];exact oC hm_46 (fun p hp=>hnl.1 _ (hls_46▸xbj hp)) (xag _)
    have ho_46:=hm_46.own 0 rfl
    have hok_46:∀ p∈ls_46,okH p.1.1∧p.2.1.oneCell'=true∧p.2.2.oneCell'=true:=fun p hp=>⟨hnl.1 _ (hls_46▸xbj hp),aG.dK ((hm_46.get (e:=Ent.all ls_46 (fv _)) 1 rfl).1 p hp)⟩
    have hn_46:ls_46.length≤10000:=by have h7:=congrArg List.length hls_46;rw [xap] at h7;have h9:=hnl.2;have h8:=hle.1;omega
    have hs_46:∀ p∈ls_46,p.1.2.2.1.length≤1000000∧p.1.2.2.2.length≤1000000:=fun p hp=>hnl2 _ (hls_46▸xbj hp)
    have h:=Mem.lay H48 h
    have hd:=Mem.drv H48 hd
    have hk:=Mem.lay H48 hk
    have hb_s8:=Blk.below hb_s8 (Mem.below H48) (Blk.lt hb_s8)
    have hb_s4:=Blk.below hb_s4 (Mem.below H48) (Blk.lt hb_s4)
    have hin:=InP.below hin (Mem.below H48)
    have hxl:=bY.ja hxl (Mem.below H48)
    have hxd:=Mem.drv H48 hxd
    have hbel:=hbel.trans (xar (Mem.below H48) hbel.size)
    have hb_s11:=Mem.blk H48 2 rfl
    obtain ⟨g_s11,hg_s11⟩:∃ g,g=w38.heap.size:=⟨_,rfl⟩
    rw [← hg_s11] at hb_s11 ⊢
    have hb_s9:=Mem.blk H48 3 rfl
    obtain ⟨g_s9,hg_s9⟩:∃ g,g=w30.heap.size:=⟨_,rfl⟩
    rw [← hg_s9] at hb_s9 ⊢
    have H50:=Mem.start w47
    refine rn ?_
    refine nz 34 zcH fun w51 hn_=>?_
    have H52:=Mem.aM H50 hn_
    refine rn ?_
    refine stb (Mem.blk H52 0 rfl) (bB okc) (bP cK (bB okc)) (fa cR) fun w53 hk_ hg_=>?_
    have H54:=Mem.st H52 0 rfl hk_ hg_
    refine rn ?_
    refine nt (K45 _ _ ?_)
    refine wp_seq_k (fun K55 hK55=>?_)
    have hcK55:∀ (u8:Value) (g17:Nat) zz60 zz61 zz62 zz63 zz64 zz65 zz66 zz67 wcK55,(mL w47 nl u8 wcK55∧Mem w47 wcK55 [bh g17 34 (bv cR).toArray,bh (w47.heap.size) 34 (bv cR).toArray])→K55 { tmps:=#[.slice A l.length cap,.agg (dC d v1 v2).toArray,.slice K aL.length kc,undef,.pointer (some ⟨g_s4,0,none⟩),undef,.bool false,.slice A3 l.length c3,.pointer (some ⟨g_s8,0,none⟩),.pointer (some ⟨g_s9,0,none⟩),.int .i64 (e9),.pointer (some ⟨g_s11,0,none⟩),.int .i64 (e9),.slice A_46 ls_46.length c_46,.pointer (some ⟨w47.heap.size,0,none⟩),.int .i64 (eR),u8,.pointer (some ⟨g17,0,none⟩),.int .i64 (eR),undef,undef,undef,undef,undef,undef,undef,.slice A l.length cap,.bool false,.bool false,.agg (dC d v1 v2).toArray,.int .i64 ((eo 1500 d:Nat):Int),.bool false,.bool false,.bool false,.slice K aL.length kc,.int .i64 ((aL.length:Nat):Int),.bool false,.bool false,undef,.slice A l.length cap,.slice A3 l.length c3,.agg (dC d v1 v2).toArray,.agg (dC d p.1 p.2).toArray,.tuple #[.agg (bv c9).toArray,.int .i64 (e9)],.agg (dC d p.1 p.2).toArray,.tuple #[.agg (bv c9).toArray,.int .i64 (e9)],.agg (bv c9).toArray,.int .i64 (e9),.tuple #[.agg (bv c9).toArray,.int .i64 (e9)],.agg (dC d v1 v2).toArray,.tuple #[.agg (bv c9).toArray,.int .i64 (e9)],.agg (bv c9).toArray,.int .i64 (e9),.tuple #[.slice A_46 ls_46.length c_46,.agg (bv cR).toArray,.int .i64 (eR)],.slice A3 l.length c3,.agg (dC d p.1 p.2).toArray,.tuple #[.slice A_46 ls_46.length c_46,.agg (bv cR).toArray,.int .i64 (eR)],.slice A_46 ls_46.length c_46,.agg (bv cR).toArray,.int .i64 (eR),zz60,zz61,zz62,zz63,zz64,zz65,zz66,zz67,undef,undef,undef,undef,undef,undef,undef,undef,undef,undef,undef,undef,undef,undef,undef,undef,undef,undef,undef,undef,undef,undef,undef,undef,undef,undef,undef,undef,undef,undef,undef,undef,undef,undef,undef,undef,undef,undef,undef,undef,undef,undef,undef,undef,undef,undef,undef,undef,undef,undef,undef,undef,undef,undef,undef,undef,undef,undef,undef,undef,undef,undef,undef,undef,undef,undef,undef,undef,undef,undef,undef,undef,undef,undef,undef,undef,undef,undef,undef,undef,undef,undef,undef,undef,undef,undef,undef,undef,undef,undef,undef,undef,undef,undef],defers:=[] } wcK55:=by
     intro u8 g17 zz60 zz61 zz62 zz63 zz64 zz65 zz66 zz67 wcK55 hcut
     obtain ⟨hu8,H56⟩:=hcut
     have hr_16:=hu8.at_ H56
     have h:=Mem.lay H56 h
     have hd:=Mem.drv H56 hd
     have hk:=Mem.lay H56 hk
     have hb_s8:=Blk.below hb_s8 (Mem.below H56) (Blk.lt hb_s8)
     have hb_s4:=Blk.below hb_s4 (Mem.below H56) (Blk.lt hb_s4)
     have hin:=InP.below hin (Mem.below H56)
     have hxl:=bY.ja hxl (Mem.below H56)
     have hxd:=Mem.drv H56 hxd
     have hbel:=hbel.trans (xar (Mem.below H56) hbel.size)
     have hb_s11:=Blk.below hb_s11 (Mem.below H56) (Blk.lt hb_s11)
     have hb_s9:=Blk.below hb_s9 (Mem.below H56) (Blk.lt hb_s9)
     have ha_46:=Mem.lay H56 ha_46
     have ho_46:=ao ho_46 fun g _ hl=>(Mem.below H56).block g hl
     have hb_s17:=Mem.blk H56 0 rfl
     obtain ⟨g_s17,hg_s17⟩:∃ g,g=g17:=⟨_,rfl⟩
     rw [← hg_s17] at hb_s17 ⊢
     have hb_s14:=Mem.blk H56 1 rfl
     obtain ⟨g_s14,hg_s14⟩:∃ g,g=w47.heap.size:=⟨_,rfl⟩
     rw [← hg_s14] at hb_s14 ⊢
     have H57:=Mem.start wcK55
     refine hK55 _ _ ?_
     refine sk fun _ K58=>rl ?_
     refine ac (FD wcK55 l A3 c3 (Mem.lay H57 hin.at_) hl hn aL K kc (Mem.lay H57 hk) hkn dropL hdL dropE hdE) ?_
     rintro e w60 ⟨A_59,c_59,ls_59,rfl,hls_59,hm_59⟩
     refine ⟨_,rfl,rn ?_⟩
     have H61:=Mem.seq H57 hm_59
     have ha_59:aH.At w60 w60.heap.size [.slice A_59 ls_59.length c_59] dropL:=by rw [← hls_59];exact oC hm_59 (fun p hp=>hdl3.1 _ (hls_59▸xbj hp)) (xag _)
     have ho_59:=hm_59.own 0 rfl
     have hok_59:∀ p∈ls_59,okH p.1.1∧p.2.1.oneCell'=true∧p.2.2.oneCell'=true:=fun p hp=>⟨hdl3.1 _ (hls_59▸xbj hp),aG.dK ((hm_59.get (e:=Ent.all ls_59 (fv _)) 1 rfl).1 p hp)⟩
     have hn_59:ls_59.length≤10000:=by have h7:=congrArg List.length hls_59;rw [xap] at h7;have h9:=hdl3.2;have h8:=hle.1;omega
     have hs_59:∀ p∈ls_59,p.1.2.2.1.length≤1000000∧p.1.2.2.2.length≤1000000:=fun p hp=>hdl4 _ (hls_59▸xbj hp)
     have h:=Mem.lay H61 h
     have hd:=Mem.drv H61 hd
     have hk:=Mem.lay H61 hk
     have hb_s8:=Blk.below hb_s8 (Mem.below H61) (Blk.lt hb_s8)
     have hb_s4:=Blk.below hb_s4 (Mem.below H61) (Blk.lt hb_s4)
     have hin:=InP.below hin (Mem.below H61)
     have hxl:=bY.ja hxl (Mem.below H61)
     have hxd:=Mem.drv H61 hxd
     have hbel:=hbel.trans (xar (Mem.below H61) hbel.size)
     have hb_s11:=Blk.below hb_s11 (Mem.below H61) (Blk.lt hb_s11)
     have hb_s9:=Blk.below hb_s9 (Mem.below H61) (Blk.lt hb_s9)
     have ha_46:=Mem.lay H61 ha_46
     have ho_46:=ao ho_46 fun g _ hl=>(Mem.below H61).block g hl
     have hb_s17:=Blk.below hb_s17 (Mem.below H61) (Blk.lt hb_s17)
     have hb_s14:=Blk.below hb_s14 (Mem.below H61) (Blk.lt hb_s14)
     have hr_16:=Mem.lay H61 hr_16
     have H63:=Mem.start w60
     refine rn ?_
     refine nt (K58 _ _ (sk fun _ K64=>rl ?_))
     refine ac (Fj w60 l _ (Mem.lay H63 h) hn) ?_
     rintro e w66 ⟨u_65,rfl,hb_65,hu_65⟩
     refine ⟨_,rfl,rn ?_⟩
     have H67:=Mem.call H63 hb_65
     have h:=Mem.lay H67 h
     have hd:=Mem.drv H67 hd
     have hk:=Mem.lay H67 hk
     have hb_s8:=Blk.below hb_s8 (Mem.below H67) (Blk.lt hb_s8)
     have hb_s4:=Blk.below hb_s4 (Mem.below H67) (Blk.lt hb_s4)
     have hin:=InP.below hin (Mem.below H67)
     have hxl:=bY.ja hxl (Mem.below H67)
     have hxd:=Mem.drv H67 hxd
     have hbel:=hbel.trans (xar (Mem.below H67) hbel.size)
     have hb_s11:=Blk.below hb_s11 (Mem.below H67) (Blk.lt hb_s11)
     have hb_s9:=Blk.below hb_s9 (Mem.below H67) (Blk.lt hb_s9)
     have ha_46:=Mem.lay H67 ha_46
     have ho_46:=ao ho_46 fun g _ hl=>(Mem.below H67).block g hl
     have hb_s17:=Blk.below hb_s17 (Mem.below H67) (Blk.lt hb_s17)
     have hb_s14:=Blk.below hb_s14 (Mem.below H67) (Blk.lt hb_s14)
     have hr_16:=Mem.lay H67 hr_16
     have ha_59:=Mem.lay H67 ha_59
     have ho_59:=ao ho_59 fun g _ hl=>(Mem.below H67).block g hl
     have H69:=Mem.start w66
     refine rn ?_
     refine ac (As w66 l _ (Mem.lay H69 hu_65) hl hn aL _ (Mem.lay H69 hk) dropL hdL dropE hdE) ?_
     rintro e w71 ⟨A_70,c_70,ls_70,rfl,hls_70,hlo_70,hm_70⟩
     refine ⟨_,rfl,rn ?_⟩
     have H72:=Mem.seq H69 hm_70
     have hr_70:eg.At w71 w71.heap.size [.slice A_70 ls_70.length c_70] dropL:=by rw [← hls_70];exact qx hm_70 (hm_70.own 0 rfl) hlo_70
     have h:=Mem.lay H72 h
     have hd:=Mem.drv H72 hd
     have hk:=Mem.lay H72 hk
     have hb_s8:=Blk.below hb_s8 (Mem.below H72) (Blk.lt hb_s8)
     have hb_s4:=Blk.below hb_s4 (Mem.below H72) (Blk.lt hb_s4)
     have hin:=InP.below hin (Mem.below H72)
     have hxl:=bY.ja hxl (Mem.below H72)
     have hxd:=Mem.drv H72 hxd
     have hbel:=hbel.trans (xar (Mem.below H72) hbel.size)
     have hb_s11:=Blk.below hb_s11 (Mem.below H72) (Blk.lt hb_s11)
     have hb_s9:=Blk.below hb_s9 (Mem.below H72) (Blk.lt hb_s9)
     have ha_46:=Mem.lay H72 ha_46
     have ho_46:=ao ho_46 fun g _ hl=>(Mem.below H72).block g hl
     have hb_s17:=Blk.below hb_s17 (Mem.below H72) (Blk.lt hb_s17)
     have hb_s14:=Blk.below hb_s14 (Mem.below H72) (Blk.lt hb_s14)
     have hr_16:=Mem.lay H72 hr_16
     have ha_59:=Mem.lay H72 ha_59
     have ho_59:=ao ho_59 fun g _ hl=>(Mem.below H72).block g hl
     have hu_65:=Mem.lay H72 hu_65
     have H74:=Mem.start w71
     refine rn ?_
     refine nt (K64 _ _ (sk fun _ K75=>rl ?_))
     refine rv (xld (Mem.range H74 (Blk.range hb_s8) (Blk.lt hb_s8)) Tryz.underlying26 (aS d p.1 p.2)) ?_
     refine ac (Fb w71 l A3 c3 d _ _ (Mem.lay H74 hin.at_) hl hn (Mem.drv H74 hxd) hdl nl cR eR hr) ?_
     rintro e w77 ⟨A_76,c_76,ls_76,rfl,hls_76,hm_76⟩
     refine ⟨_,rfl,rn ?_⟩
     have H78:=Mem.seq H74 hm_76
     have ha_76:aH.At w77 w77.heap.size [.slice A_76 ls_76.length c_76] nl:=by rw [← hls_76];exact oC hm_76 (fun p hp=>hnl.1 _ (hls_76▸xbj hp)) (xag _)
     have ho_76:=hm_76.own 0 rfl
     have hok_76:∀ p∈ls_76,okH p.1.1∧p.2.1.oneCell'=true∧p.2.2.oneCell'=true:=fun p hp=>⟨hnl.1 _ (hls_76▸xbj hp),aG.dK ((hm_76.get (e:=Ent.all ls_76 (fv _)) 1 rfl).1 p hp)⟩
     have hn_76:ls_76.length≤10000:=by have h7:=congrArg List.length hls_76;rw [xap] at h7;have h9:=hnl.2;have h8:=hle.1;omega
     have hs_76:∀ p∈ls_76,p.1.2.2.1.length≤1000000∧p.1.2.2.2.length≤1000000:=fun p hp=>hnl2 _ (hls_76▸xbj hp)
     have h:=Mem.lay H78 h
     have hd:=Mem.drv H78 hd
     have hk:=Mem.lay H78 hk
     have hb_s8:=Blk.below hb_s8 (Mem.below H78) (Blk.lt hb_s8)
     have hb_s4:=Blk.below hb_s4 (Mem.below H78) (Blk.lt hb_s4)
     have hin:=InP.below hin (Mem.below H78)
     have hxl:=bY.ja hxl (Mem.below H78)
     have hxd:=Mem.drv H78 hxd
     have hbel:=hbel.trans (xar (Mem.below H78) hbel.size)
     have hb_s11:=Blk.below hb_s11 (Mem.below H78) (Blk.lt hb_s11)
     have hb_s9:=Blk.below hb_s9 (Mem.below H78) (Blk.lt hb_s9)
     have ha_46:=Mem.lay H78 ha_46
     have ho_46:=ao ho_46 fun g _ hl=>(Mem.below H78).block g hl
     have hb_s17:=Blk.below hb_s17 (Mem.below H78) (Blk.lt hb_s17)
     have hb_s14:=Blk.below hb_s14 (Mem.below H78) (Blk.lt hb_s14)
     have hr_16:=Mem.lay H78 hr_16
     have ha_59:=Mem.lay H78 ha_59
     have ho_59:=ao ho_59 fun g _ hl=>(Mem.below H78).block g hl
     have hu_65:=Mem.lay H78 hu_65
     have hr_70:=Mem.lay H78 hr_70
     have H80:=Mem.start w77
     refine rn ?_
     refine nz 34 zcH fun w81 hn_=>?_
     have H82:=Mem.aM H80 hn_
     refine rn ?_
     refine stb (Mem.blk H82 0 rfl) (bB okc) (bP cK (bB okc)) (fa cR) fun w83 hk_ hg_=>?_
     have H84:=Mem.st H82 0 rfl hk_ hg_
     refine rn ?_
     refine nt (K75 _ _ (sk fun _ K85=>sk fun _ K86=>rl ?_))
     refine rv (xld (Mem.range H84 (Blk.range hb_s9) (Blk.lt hb_s9)) Tryz.underlying34 (bN oc9)) ?_
     refine rv (xld (Mem.range H84 (Blk.range hb_s11) (Blk.lt hb_s11)) Tryz.underlying34 (bN oc9)) ?_
     refine rv (dA 34 34 (.tmp 88) (.tmp 89) rfl (bv c9).toArray (bv c9).toArray rfl rfl (by kernel_rfl) _ w83 (by have h9:=dc (c9) (c9) oc9 oc9 w83;rwa [show decide _=true from (decide_eq_true rfl)] at h9)) ?_
     refine rv (mK (decide_eq_true rfl)) ?_
     refine ac (EZ w83 l A3 c3 (Mem.lay H84 hin.at_) (fun x hx=>(hl x hx).1) bt hbt) ?_
     rintro e w87 ⟨rfl,hb89⟩
     refine ⟨_,rfl,rn ?_⟩
     have H88:=Mem.call H84 hb89
     refine rn ?_
     refine ac (Fj w87 l _ (Mem.lay H88 h) hn) ?_
     rintro e w91 ⟨u_90,rfl,hb_90,hu_90⟩
     refine ⟨_,rfl,rn ?_⟩
     have H92:=Mem.call H88 hb_90
     have h:=Mem.lay H92 h
     have hd:=Mem.drv H92 hd
     have hk:=Mem.lay H92 hk
     have hb_s8:=Blk.below hb_s8 (Mem.below H92) (Blk.lt hb_s8)
     have hb_s4:=Blk.below hb_s4 (Mem.below H92) (Blk.lt hb_s4)
     have hin:=InP.below hin (Mem.below H92)
     have hxl:=bY.ja hxl (Mem.below H92)
     have hxd:=Mem.drv H92 hxd
     have hbel:=hbel.trans (xar (Mem.below H92) hbel.size)
     have hb_s11:=Blk.below hb_s11 (Mem.below H92) (Blk.lt hb_s11)
     have hb_s9:=Blk.below hb_s9 (Mem.below H92) (Blk.lt hb_s9)
     have ha_46:=Mem.lay H92 ha_46
     have ho_46:=ao ho_46 fun g _ hl=>(Mem.below H92).block g hl
     have hb_s17:=Blk.below hb_s17 (Mem.below H92) (Blk.lt hb_s17)
     have hb_s14:=Blk.below hb_s14 (Mem.below H92) (Blk.lt hb_s14)
     have hr_16:=Mem.lay H92 hr_16
     have ha_59:=Mem.lay H92 ha_59
     have ho_59:=ao ho_59 fun g _ hl=>(Mem.below H92).block g hl
     have hu_65:=Mem.lay H92 hu_65
     have hr_70:=Mem.lay H92 hr_70
     have ha_76:=Mem.lay H92 ha_76
     have ho_76:=ao ho_76 fun g _ hl=>(Mem.below H92).block g hl
     have hb_s24:=Mem.blk H92 0 rfl
     obtain ⟨g_s24,hg_s24⟩:∃ g,g=w77.heap.size:=⟨_,rfl⟩
     rw [← hg_s24] at hb_s24 ⊢
     have H94:=Mem.start w91
     refine ac (lH w91 l _ (Mem.lay H94 hu_90) (fun x hx=>(hl x hx).1) hn bt hbt) ?_
     rintro e w95 ⟨rfl,hb97⟩
     refine ⟨_,rfl,rn ?_⟩
     have H96:=Mem.call H94 hb97
     refine rv (v:=.bool false) (by cases bt<;>kernel_rfl) ?_
     refine rv (xld (Mem.range H96 (Blk.range hb_s14) (Blk.lt hb_s14)) Tryz.underlying34 (bN okc)) ?_
     refine rv (xld (Mem.range H96 (Blk.range hb_s17) (Blk.lt hb_s17)) Tryz.underlying34 (bN okc)) ?_
     refine rv (dA 34 34 (.tmp 105) (.tmp 106) rfl (bv cR).toArray (bv cR).toArray rfl rfl (by kernel_rfl) _ w95 (by have h9:=dc (cR) (cR) okc okc w95;rwa [show decide _=true from (decide_eq_true rfl)] at h9)) ?_
     refine rv (mK (decide_eq_true rfl)) ?_
     refine ac (qB w95 nl nl _ _ (Mem.lay H96 ha_46) (Mem.lay H96 hr_16) rfl (by have h9:=hnl.2;have h8:=hle.1;omega)) ?_
     rintro e w98 ⟨rfl,hb100⟩
     refine ⟨_,rfl,rn ?_⟩
     have H99:=Mem.call H96 hb100
     refine rn ?_
     refine rv (mK (decide_eq_true rfl)) ?_
     refine ac (qB w98 dropL dropL _ _ (Mem.lay H99 ha_59) (Mem.lay H99 hr_70) rfl (by have h9:=hdl3.2;omega)) ?_
     rintro e w101 ⟨rfl,hb103⟩
     refine ⟨_,rfl,rn ?_⟩
     have H102:=Mem.call H99 hb103
     refine rn ?_
     refine nt (K86 _ _ (cf (ks (K85 _ _ (sk fun _ K104=>rl ?_)))))
     refine ac (Ff w101 l os A3 c3 (InP.below hin (Mem.below H102)) _ (Mem.lay H102 h) hl hn) ?_
     rintro e w105 ⟨rfl,hb107⟩
     refine ⟨_,rfl,rn ?_⟩
     have H106:=Mem.call H102 hb107
     refine rn ?_
     refine rv (xld (Mem.range H106 (Blk.range hb_s8) (Blk.lt hb_s8)) Tryz.underlying26 (aS d p.1 p.2)) ?_
     refine rv (xld (Mem.range H106 (Blk.range hb_s4) (Blk.lt hb_s4)) Tryz.underlying26 (aS d v1 v2)) ?_
     refine ac (kb w105 d _ _ _ _ _ (bY.ja hxl (Mem.below H106)) (Mem.drv H106 hd) hdl.1 hdl.2) ?_
     rintro e w108 ⟨rfl,hb110⟩
     refine ⟨_,rfl,rn ?_⟩
     have H109:=Mem.call H106 hb110
     refine rn ?_
     refine ac (BJ w108 _ ls_46 A_46 c_46 (ao ho_46 fun g _ hl=>(Mem.below H109).block g hl) hok_46 (by omega)) ?_
     rintro e w112 ⟨Ad_111,cd_111,rfl,hm_111⟩
     refine ⟨_,rfl,rn ?_⟩
     have H113:=Mem.seq H109 hm_111
     refine rn ?_
     refine ac (BJ w112 _ ls_76 A_76 c_76 (ao ho_76 fun g _ hl=>(Mem.below H113).block g hl) hok_76 (by omega)) ?_
     rintro e w116 ⟨Ad_115,cd_115,rfl,hm_115⟩
     refine ⟨_,rfl,rn ?_⟩
     have H117:=Mem.seq H113 hm_115
     refine rn ?_
     refine ac (BJ w116 _ ls_59 A_59 c_59 (ao ho_59 fun g _ hl=>(Mem.below H117).block g hl) hok_59 (by omega)) ?_
     rintro e w120 ⟨Ad_119,cd_119,rfl,hm_119⟩
     refine ⟨_,rfl,rn ?_⟩
     have H121:=Mem.seq H117 hm_119
     obtain ⟨w123,hw8⟩:∃ w8,w8=w120.alloc (.cells #[xas Ad_111 ls_46.length cd_111,xas Ad_115 ls_76.length cd_115,xas Ad_119 ls_59.length cd_119] 53):=⟨_,rfl⟩
     have hn8:fy w120 w123 53 #[xas Ad_111 ls_46.length cd_111,xas Ad_115 ls_76.length cd_115,xas Ad_119 ls_59.length cd_119]:=hw8▸bS _ _ _
     have H124:=Mem.aM H121 hn8
     have H125:=Mem.sG H124 0 rfl (f:=vb) (l:=[xas Ad_111 ls_46.length cd_111,xas Ad_115 ls_76.length cd_115,xas Ad_119 ls_59.length cd_119]) (B:=w91.heap.size) (t:=53) (s:=1) (cap:=3) rfl rfl rfl (by decide)
     refine rvw (v:=.slice (some ⟨w120.heap.size,0,none⟩) 3 3) (w':=w123) (by rw [hw8];kernel_rfl) ?_
     refine rn ?_
     have HJ126:=(Mem.seq (Mem.seq (Mem.seq (Mem.seq (Mem.seq (Mem.seq (Mem.seq H48 H56) H61) H67) H72) H78) H92) H125)
     refine ac (o0 w26 w123 [] ls_46 ls_76 ls_59 _ _ _ _ _ _ _ _ _ _ (B8 (Mem.pick HJ126 [0,3,2,1,13,6,9] (by decide) rfl)) (by simp only [xak];omega) (fun p hp=>by rcases xax.1 hp with hp | hp;rcases xax.1 hp with hp | hp;exact hs_46 p hp;exact hs_76 p hp;exact hs_59 p hp)) ?_
     rintro e w128 ⟨rfl,hm127⟩
     refine ⟨_,rfl,rn ?_⟩
     have H129:=hm127
     have h:=Mem.lay H129 h_0
     have hd:=Mem.drv H129 hd_0
     have hk:=Mem.lay H129 hk_0
     have hb_s8:=Blk.below hb_s8_0 (Mem.below H129) (Blk.lt hb_s8_0)
     have hb_s4:=Blk.below hb_s4_0 (Mem.below H129) (Blk.lt hb_s4_0)
     have hin:=InP.below hin_0 (Mem.below H129)
     have hxl:=bY.ja hxl_0 (Mem.below H129)
     have hxd:=Mem.drv H129 hxd_0
     have hbel:=hbel_0.trans (xar (Mem.below H129) hbel_0.size)
     have H131:=Mem.start w128
     refine rn ?_
     refine ac (Ff w128 l os A3 c3 (InP.below hin (Mem.below H131)) _ (Mem.lay H131 h) hl hn) ?_
     rintro e w132 ⟨rfl,hb134⟩
     refine ⟨_,rfl,rn ?_⟩
     have H133:=Mem.call H131 hb134
     refine rn ?_
     refine rv (xld (Mem.range H133 (Blk.range hb_s8) (Blk.lt hb_s8)) Tryz.underlying26 (aS d p.1 p.2)) ?_
     refine rv (xld (Mem.range H133 (Blk.range hb_s4) (Blk.lt hb_s4)) Tryz.underlying26 (aS d v1 v2)) ?_
     refine ac (kb w132 d _ _ _ _ _ (bY.ja hxl (Mem.below H133)) (Mem.drv H133 hd) hdl.1 hdl.2) ?_
     rintro e w135 ⟨rfl,hb137⟩
     refine ⟨_,rfl,rn ?_⟩
     have H136:=Mem.call H133 hb137
     refine rn ?_
     refine ac (iH w135) ?_
     rintro e w138 ⟨rfl,hb140⟩
     refine ⟨_,rfl,rn ?_⟩
     have H139:=Mem.call H136 hb140
     refine rn ?_
     refine nt (K104 _ _ (rt ?_))
     exact ⟨rfl,hbel.trans (xar (Mem.below H139) hbel.size)⟩
    have HS141:=Mem.pick H54 [] (by decide) rfl
    refine mj 12 rfl (by kernel_rfl) (fun d _ _ _ _ h=>by cases d<;>exact h) (by kernel_rfl) HS141 ?_
    intro w142 hb145 HS144
    have H143:=Mem.call H54 hb145
    clear HS141
    refine bn 0 1 _ (.slice A l.length cap) rfl (by kernel_rfl) (fun W9 hW9=>(gu (.tmp 0) rfl _ rfl W9)) HS144 ?_
    simp only [xaa,xae,xab,xac]
    refine bn 2 5 _ (.agg (dC d v1 v2).toArray) rfl (by kernel_rfl) (fun W9 hW9=>(ai 26 (.tmp 4) rfl g_s4 (0) rfl (dC d v1 v2) _ W9 (Mem.range hW9 (Blk.range hb_s4) (Blk.lt hb_s4)) Tryz.underlying26 rfl (aS d v1 v2))) HS144 ?_
    simp only [xaa,xae,xab,xac]
    refine pI [1,8] (by kernel_rfl) ?_
    intro z hz
    simp only [xaD,xaS,or_false] at hz
    rcases hz with rfl | rfl
    ·refine yw 1 7 _ rfl (by kernel_rfl) _ _ (by kernel_rfl) (Fi w47 w142 H143 l _ h hn) ?_
     rintro e w146 ⟨u7,rfl,hb149,hu7⟩
     have H147:=Mem.call H143 hb149
     have HS148:=Mem.pick H147 [] (by decide) rfl
     clear HS144
     refine ⟨_,rfl,HS148,?_⟩
     simp only [xaa,xae,xab,xac]
     refine pI [3,8] (by kernel_rfl) ?_
     intro z hz
     simp only [xaD,xaS,or_false] at hz
     rcases hz with rfl | rfl
     ·refine yw 3 15 _ rfl (by kernel_rfl) _ _ (by kernel_rfl) (CW w47 w146 H147 l u7 hu7 hl hn d _ _ hd hdl.1 nl cR eR hr) ?_
      rintro e w150 ⟨_,rfl,hb153,u8,rfl,hu8⟩
      have H151:=Mem.call H147 hb153
      have HS152:=Mem.pick H151 [] (by decide) rfl
      clear HS148
      refine ⟨_,rfl,HS152,?_⟩
      simp only [xaa,xae,xab,xac]
      refine bn 4 31 _ (.tuple #[u8,.agg (bv cR).toArray,.int .i64 (eR)]) rfl (by kernel_rfl) (fun W9 hW9=>(gu (.tmp 64) rfl _ rfl W9)) HS152 ?_
      simp only [xaa,xae,xab,xac]
      refine bn 5 63 _ (u8) rfl (by kernel_rfl) (fun W9 hW9=>(by kernel_rfl)) HS152 ?_
      simp only [xaa,xae,xab,xac]
      refine bn 6 127 _ (.agg (bv cR).toArray) rfl (by kernel_rfl) (fun W9 hW9=>(by kernel_rfl)) HS152 ?_
      simp only [xaa,xae,xab,xac]
      refine bn 7 255 _ (.int .i64 (eR)) rfl (by kernel_rfl) (fun W9 hW9=>(by kernel_rfl)) HS152 ?_
      simp only [xaa,xae,xab,xac]
      obtain ⟨w154,hw8⟩:∃ w8,w8=w150.alloc (.cells zcH 34):=⟨_,rfl⟩
      have hn8:fy w150 w154 34 zcH:=hw8▸bS _ _ _
      have H155:=Mem.aM H151 hn8
      have hu8:=(yK w47 _).stays _ _ _ hu8 hn8.below
      have HS156:=Mem.pick H155 [] (by decide) rfl
      refine gY 8 511 _ (.pointer (some ⟨w150.heap.size,0,none⟩)) w154 rfl (by kernel_rfl) (by rw [hw8];kernel_rfl) HS156 ?_
      clear hw8 hn8 HS152
      simp only [xaa,xae,xab,xac]
      refine bn 9 1023 _ (u8) rfl (by kernel_rfl) (fun W9 hW9=>(eQ (.tmp 65) rfl _ rfl W9)) HS156 ?_
      simp only [xaa,xae,xab,xac]
      refine gD 10 2047 _ rfl (by kernel_rfl) 34 (.tmp 17) (.tmp 66) rfl (Mem.blk H155 0 rfl) (bB okc) (bP cK (bB okc)) (fa cR) rfl rfl ?_
      intro w157 hk hg
      have hu8:=mL.stored (t:=34) (by decide) hu8 (Mem.blk H155 0 rfl) hg
      have H158:=Mem.st H155 0 rfl hk hg
      have HS159:=Mem.pick H158 [] (by decide) rfl
      refine ⟨HS159,?_⟩
      clear hk hg HS156
      simp only [xae]
      refine bn 11 4095 _ (.int .i64 (eR)) rfl (by kernel_rfl) (fun W9 hW9=>(eQ (.tmp 67) rfl _ rfl W9)) HS159 ?_
      simp only [xaa,xae,xab,xac]
      refine gX (by kernel_rfl) ?_
      exact ah (hcK55 _ _ _ _ _ _ _ _ _ _ w157 ⟨hu8,Mem.pick H158 [0,1] (by decide) rfl⟩)
     ·obtain ⟨w160,hw8⟩:∃ w8,w8=w146.alloc (.cells zcH 34):=⟨_,rfl⟩
      have hn8:fy w146 w160 34 zcH:=hw8▸bS _ _ _
      have H161:=Mem.aM H147 hn8
      have hu7:=(yK w47 _).stays _ _ _ hu7 hn8.below
      have HS162:=Mem.pick H161 [] (by decide) rfl
      refine iL 8 263 _ (.pointer (some ⟨w146.heap.size,0,none⟩)) w160 rfl (by kernel_rfl) (by rw [hw8];kernel_rfl) HS162 ?_
      clear hw8 hn8 HS148
      simp only [xaa,xae,xab,xac]
      refine oB 3 271 _ rfl (by kernel_rfl) _ _ (by kernel_rfl) (CW w47 w160 H161 l u7 hu7 hl hn d _ _ hd hdl.1 nl cR eR hr) ?_
      rintro e w163 ⟨_,rfl,hb166,u8,rfl,hu8⟩
      have H164:=Mem.call H161 hb166
      have HS165:=Mem.pick H164 [] (by decide) rfl
      clear HS162
      refine ⟨_,rfl,HS165,?_⟩
      simp only [xaa,xae,xab,xac]
      refine bn 4 287 _ (.tuple #[u8,.agg (bv cR).toArray,.int .i64 (eR)]) rfl (by kernel_rfl) (fun W9 hW9=>(gu (.tmp 64) rfl _ rfl W9)) HS165 ?_
      simp only [xaa,xae,xab,xac]
      refine bn 5 319 _ (u8) rfl (by kernel_rfl) (fun W9 hW9=>(by kernel_rfl)) HS165 ?_
      simp only [xaa,xae,xab,xac]
      refine bn 6 383 _ (.agg (bv cR).toArray) rfl (by kernel_rfl) (fun W9 hW9=>(by kernel_rfl)) HS165 ?_
      simp only [xaa,xae,xab,xac]
      refine bn 7 511 _ (.int .i64 (eR)) rfl (by kernel_rfl) (fun W9 hW9=>(by kernel_rfl)) HS165 ?_
      simp only [xaa,xae,xab,xac]
      refine bn 9 1023 _ (u8) rfl (by kernel_rfl) (fun W9 hW9=>(eQ (.tmp 65) rfl _ rfl W9)) HS165 ?_
      simp only [xaa,xae,xab,xac]
      refine gD 10 2047 _ rfl (by kernel_rfl) 34 (.tmp 17) (.tmp 66) rfl (Mem.blk H164 0 rfl) (bB okc) (bP cK (bB okc)) (fa cR) rfl rfl ?_
      intro w167 hk hg
      have hu8:=mL.stored (t:=34) (by decide) hu8 (Mem.blk H164 0 rfl) hg
      have H168:=Mem.st H164 0 rfl hk hg
      have HS169:=Mem.pick H168 [] (by decide) rfl
      refine ⟨HS169,?_⟩
      clear hk hg HS165
      simp only [xae]
      refine bn 11 4095 _ (.int .i64 (eR)) rfl (by kernel_rfl) (fun W9 hW9=>(eQ (.tmp 67) rfl _ rfl W9)) HS169 ?_
      simp only [xaa,xae,xab,xac]
      refine gX (by kernel_rfl) ?_
      exact ah (hcK55 _ _ _ _ _ _ _ _ _ _ w167 ⟨hu8,Mem.pick H168 [0,1] (by decide) rfl⟩)
    ·obtain ⟨w170,hw8⟩:∃ w8,w8=w142.alloc (.cells zcH 34):=⟨_,rfl⟩
     have hn8:fy w142 w170 34 zcH:=hw8▸bS _ _ _
     have H171:=Mem.aM H143 hn8
     have HS172:=Mem.pick H171 [] (by decide) rfl
     refine iL 8 261 _ (.pointer (some ⟨w142.heap.size,0,none⟩)) w170 rfl (by kernel_rfl) (by rw [hw8];kernel_rfl) HS172 ?_
     clear hw8 hn8 HS144
     simp only [xaa,xae,xab,xac]
     refine oB 1 263 _ rfl (by kernel_rfl) _ _ (by kernel_rfl) (Fi w47 w170 H171 l _ h hn) ?_
     rintro e w173 ⟨u7,rfl,hb176,hu7⟩
     have H174:=Mem.call H171 hb176
     have HS175:=Mem.pick H174 [] (by decide) rfl
     clear HS172
     refine ⟨_,rfl,HS175,?_⟩
     simp only [xaa,xae,xab,xac]
     refine oB 3 271 _ rfl (by kernel_rfl) _ _ (by kernel_rfl) (CW w47 w173 H174 l u7 hu7 hl hn d _ _ hd hdl.1 nl cR eR hr) ?_
     rintro e w177 ⟨_,rfl,hb180,u8,rfl,hu8⟩
     have H178:=Mem.call H174 hb180
     have HS179:=Mem.pick H178 [] (by decide) rfl
     clear HS175
     refine ⟨_,rfl,HS179,?_⟩
     simp only [xaa,xae,xab,xac]
     refine bn 4 287 _ (.tuple #[u8,.agg (bv cR).toArray,.int .i64 (eR)]) rfl (by kernel_rfl) (fun W9 hW9=>(gu (.tmp 64) rfl _ rfl W9)) HS179 ?_
     simp only [xaa,xae,xab,xac]
     refine bn 5 319 _ (u8) rfl (by kernel_rfl) (fun W9 hW9=>(by kernel_rfl)) HS179 ?_
     simp only [xaa,xae,xab,xac]
     refine bn 6 383 _ (.agg (bv cR).toArray) rfl (by kernel_rfl) (fun W9 hW9=>(by kernel_rfl)) HS179 ?_
     simp only [xaa,xae,xab,xac]
     refine bn 7 511 _ (.int .i64 (eR)) rfl (by kernel_rfl) (fun W9 hW9=>(by kernel_rfl)) HS179 ?_
     simp only [xaa,xae,xab,xac]
     refine bn 9 1023 _ (u8) rfl (by kernel_rfl) (fun W9 hW9=>(eQ (.tmp 65) rfl _ rfl W9)) HS179 ?_
     simp only [xaa,xae,xab,xac]
     refine gD 10 2047 _ rfl (by kernel_rfl) 34 (.tmp 17) (.tmp 66) rfl (Mem.blk H178 0 rfl) (bB okc) (bP cK (bB okc)) (fa cR) rfl rfl ?_
     intro w181 hk hg
     have hu8:=mL.stored (t:=34) (by decide) hu8 (Mem.blk H178 0 rfl) hg
     have H182:=Mem.st H178 0 rfl hk hg
     have HS183:=Mem.pick H182 [] (by decide) rfl
     refine ⟨HS183,?_⟩
     clear hk hg HS179
     simp only [xae]
     refine bn 11 4095 _ (.int .i64 (eR)) rfl (by kernel_rfl) (fun W9 hW9=>(eQ (.tmp 67) rfl _ rfl W9)) HS183 ?_
     simp only [xaa,xae,xab,xac]
     refine gX (by kernel_rfl) ?_
     exact ah (hcK55 _ _ _ _ _ _ _ _ _ _ w181 ⟨hu8,Mem.pick H182 [0,1] (by decide) rfl⟩)
 ·refine rn ?_
  refine nt (K5 _ _ (ct (sk fun _ K184=>rl ?_)))
  refine ac (iH w6) ?_
  rintro e w185 ⟨rfl,hb187⟩
  refine ⟨_,rfl,rn ?_⟩
  have H186:=Mem.call H7 hb187
  refine rn ?_
  refine nt (K184 _ _ (rt ?_))
  exact ⟨rfl,Mem.below H186⟩
end Go.Proofs.YtomnhnmciopiiaaGreat
end
section
namespace Go.Proofs.YtomnhnmciopiiaaGreat
open Go Go.ChangeShapes Go.WideShapes Go.ChangeAt Go.RowKit
theorem Tryz.GM:ownKnob Tryz.prog.godebug=none:=by kernel_rfl
theorem qh {P:Program} {M:Nat} {t:TypeId} (ht:P.underlying t=some .string) (hc:P.cellsOf t=1):(Lay.str t).fO P M fun s=>s.size≤M where
 cells:=hc
 op:=fun h=>by
  obtain ⟨z,rfl,e,hw⟩:=DataW.trod_string ht h
  refine ⟨z,⟨rfl,hw⟩,fun hk=>hk _ ?_⟩
  rw [e]
  simp [DataW.weights]
theorem ra:ka.fO Tryz.prog reachBytes fun x=>iU x.2 where
 cells:=s9.cells
 op:=fun {H enc w sp hd fuel cs y} h=>by
  have hs:=qh (P:=Tryz.prog) (M:=reachBytes) Tryz.underlying9 fp
  have hp:=cZ (t:=83) (f:=fun p:Pth=>(p.1,p.2,())) (fun b=>(b.1,b.2.1)) (fun _=>rfl) (aZ (cY.w reachBytes) (aZ hs eA)) Tryz.underlying83 (by kernel_rfl) (by kernel_rfl)
  have hi:=cZ (t:=85) (f:=fun x:Inp=>(x.1,x.2.1,x.2.2,())) (fun b=>(b.1,b.2.1,b.2.2.1)) (fun _=>rfl) (aZ hp (aZ (cY.w reachBytes) (aZ ((lB (P:=Tryz.prog) Tryz.underlying4 (by kernel_rfl)).w reachBytes) eA))) Tryz.underlying85 (by kernel_rfl) (by kernel_rfl)
  have hn:=cZ (t:=87) (f:=fun x:Nam=>(x.1,x.2,())) (fun b=>(b.1,b.2.1)) (fun _=>rfl) (aZ hs (aZ hi eA)) Tryz.underlying87 (by kernel_rfl) (by kernel_rfl)
  have hns:=fI (t:=23) hn (by decide) Tryz.underlying23 (by kernel_rfl)
  have hb:=fI (t:=24) ((nf (P:=Tryz.prog) Tryz.underlying5 il).w reachBytes) (by decide) Tryz.underlying24 (by kernel_rfl)
  have hdr:=cZ (t:=26) (f:=fun d:Drv=>(d.1,d.2.1,d.2.2,())) (fun b=>(b.1,b.2.1,b.2.2.1)) (fun _=>rfl) (aZ hs (aZ hns (aZ hb eA))) Tryz.underlying26 (by kernel_rfl) (by kernel_rfl)
  have ht:=cZ (t:=59) (f:=fun x:Itm=>(x.1,x.2,())) (fun b=>(b.1,b.2.1)) (fun _=>rfl) (aZ (cY.w reachBytes) (aZ hdr eA)) Tryz.underlying59 (by kernel_rfl) (by kernel_rfl)
  obtain ⟨x,hx,hk⟩:=ht.op h
  refine ⟨x,hx,fun hw=>?_⟩
  obtain ⟨_,⟨h1,⟨h2,h3⟩,⟨h4,_⟩,_⟩,_⟩:=hk hw
  have e1:Tryz.prog.bytesOf gO.t=80:=by kernel_rfl
  have e2:Tryz.prog.bytesOf (Lay.int 5 .u8).t=1:=by kernel_rfl
  have hR:reachBytes≤140737488355328:=by decide
  have h1:x.2.1.size≤reachBytes:=h1
  have h2:x.2.2.1.length*Tryz.prog.bytesOf gO.t≤reachBytes:=h2
  have h4:x.2.2.2.length*Tryz.prog.bytesOf (Lay.int 5 .u8).t≤reachBytes:=h4
  rw [e1] at h2
  rw [e2] at h4
  refine ⟨by omega,by omega,by omega,fun n hn=>?_⟩
  obtain ⟨h5,⟨⟨_,h6,_⟩,_⟩,_⟩:=h3 n hn
  have h5:n.1.size≤reachBytes:=h5
  have h6:n.2.1.2.size≤reachBytes:=h6
  exact ⟨by omega,by omega⟩
theorem xB {H:Type} {enc:TypeId×Value→H} {w:World} {r:Reach} {b0:Nat} {hd:Bool} {u:Value} {d:DataW H} {ps:List MemPlace}
  (hval:Value.okWide Tryz.prog w r b0 22 u) (h:DataW.Trod enc Tryz.prog w 0 (fun _=>true) hd 22 u d ps) (hsz:∀ n∈d.weights Tryz.prog 22,n≤reachBytes) :
  ∃ (l:List Itm) (A:Option Addr) (cap:Nat),u=.slice A l.length cap∧aH.At w w.heap.size [.slice A l.length cap] l∧∀ x∈l,iU x.2:=by
 obtain ⟨a0,len,cap,rfl⟩:=okWide_slice Tryz.underlying22 hval
 obtain ⟨fuel,hf⟩:=h
 have ho:=fI (t:=22) ra (by decide) Tryz.underlying22 (by kernel_rfl)
 obtain ⟨l,hk,hs⟩:=ho.op hf
 obtain ⟨A,cp,e,_⟩:=aj hk
 injection e with e1 e2 e3
 subst e1 e2 e3
 exact ⟨l,_,_,rfl,hk,(hs hsz).2⟩
end Go.Proofs.YtomnhnmciopiiaaGreat
end
section
namespace Go.Proofs.YtomnhnmciopiiaaGreat
open Go Go.ChangeShapes Go.WideShapes Go.ChangeAt Go.RowKit
theorem qR:pg.fO Tryz.prog reachBytes iU where
 cells:=l5.cells
 op:=fun {H enc w sp hd fuel cs y} h=>by
  have hs:=qh (P:=Tryz.prog) (M:=reachBytes) Tryz.underlying9 fp
  have hp:=cZ (t:=83) (f:=fun p:Pth=>(p.1,p.2,())) (fun b=>(b.1,b.2.1)) (fun _=>rfl) (aZ (cY.w reachBytes) (aZ hs eA)) Tryz.underlying83 (by kernel_rfl) (by kernel_rfl)
  have hi:=cZ (t:=85) (f:=fun x:Inp=>(x.1,x.2.1,x.2.2,())) (fun b=>(b.1,b.2.1,b.2.2.1)) (fun _=>rfl) (aZ hp (aZ (cY.w reachBytes) (aZ ((lB (P:=Tryz.prog) Tryz.underlying4 (by kernel_rfl)).w reachBytes) eA))) Tryz.underlying85 (by kernel_rfl) (by kernel_rfl)
  have hn:=cZ (t:=87) (f:=fun x:Nam=>(x.1,x.2,())) (fun b=>(b.1,b.2.1)) (fun _=>rfl) (aZ hs (aZ hi eA)) Tryz.underlying87 (by kernel_rfl) (by kernel_rfl)
  have hns:=fI (t:=23) hn (by decide) Tryz.underlying23 (by kernel_rfl)
  have hb:=fI (t:=24) ((nf (P:=Tryz.prog) Tryz.underlying5 il).w reachBytes) (by decide) Tryz.underlying24 (by kernel_rfl)
  have hdr:=cZ (t:=26) (f:=fun d:Drv=>(d.1,d.2.1,d.2.2,())) (fun b=>(b.1,b.2.1,b.2.2.1)) (fun _=>rfl) (aZ hs (aZ hns (aZ hb eA))) Tryz.underlying26 (by kernel_rfl) (by kernel_rfl)
  obtain ⟨x,hx,hk⟩:=hdr.op h
  refine ⟨x,hx,fun hw=>?_⟩
  obtain ⟨h1,⟨h2,h3⟩,⟨h4,_⟩,_⟩:=hk hw
  have e1:Tryz.prog.bytesOf gO.t=80:=by kernel_rfl
  have e2:Tryz.prog.bytesOf (Lay.int 5 .u8).t=1:=by kernel_rfl
  have hR:reachBytes≤140737488355328:=by decide
  have h1:x.1.size≤reachBytes:=h1
  have h2:x.2.1.length*Tryz.prog.bytesOf gO.t≤reachBytes:=h2
  have h4:x.2.2.length*Tryz.prog.bytesOf (Lay.int 5 .u8).t≤reachBytes:=h4
  rw [e1] at h2
  rw [e2] at h4
  refine ⟨by omega,by omega,by omega,fun n hn=>?_⟩
  obtain ⟨h5,⟨⟨_,h6,_⟩,_⟩,_⟩:=h3 n hn
  have h5:n.1.size≤reachBytes:=h5
  have h6:n.2.1.2.size≤reachBytes:=h6
  exact ⟨by omega,by omega⟩
end Go.Proofs.YtomnhnmciopiiaaGreat
end
section
namespace Go.Proofs.YtomnhnmciopiiaaGreat
open Go Go.ChangeShapes Go.WideShapes Go.ChangeAt Go.RowKit
theorem vj {H:Type} {enc:TypeId×Value→H} {w:World} {r:Reach} {b0:Nat} {hd:Bool} {u:Value} {d:DataW H} {ps:List MemPlace}
  (hval:Value.okWide Tryz.prog w r b0 27 u) (h:DataW.Trod enc Tryz.prog w 0 (fun _=>true) hd 27 u d ps) :
  ∃ (l:List Hsh) (A:Option Addr) (cap:Nat),u=.slice A l.length cap∧cT.At w w.heap.size [.slice A l.length cap] l:=by
 obtain ⟨a0,len,cap,rfl⟩:=okWide_slice Tryz.underlying27 hval
 obtain ⟨fuel,hf⟩:=h
 obtain ⟨l,hk⟩:=od.op hf
 obtain ⟨A,cp,e,_⟩:=aj hk
 injection e with e1 e2 e3
 subst e1 e2 e3
 exact ⟨l,_,_,rfl,hk⟩
theorem CJ {H:Type} {enc:TypeId×Value→H} {w:World} {r:Reach} {b0:Nat} {hd:Bool} {u:Value} {d:DataW H} {ps:List MemPlace}
  (hval:Value.okWide Tryz.prog w r b0 26 u) (h:DataW.Trod enc Tryz.prog w 0 (fun _=>true) hd 26 u d ps) (hsz:∀ n∈d.weights Tryz.prog 26,n≤reachBytes) :
  ∃ (x:Drv) (v1 v2:Value),u=.agg (dC x v1 v2).toArray∧au w w.heap.size x v1 v2∧iU x:=by
 obtain ⟨cs,rfl,_⟩:=okWide_struct Tryz.underlying26 hval
 obtain ⟨fuel,hf⟩:=h
 obtain ⟨x,hk,hs⟩:=qR.op hf
 obtain ⟨v1,v2,e,h2⟩:=jb.1 hk
 refine ⟨x,v1,v2,?_,h2,hs hsz⟩
 congr 1
 rw [← e]
 rfl
end Go.Proofs.YtomnhnmciopiiaaGreat
end
