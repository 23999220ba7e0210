/- Part 8 of the texts of one proof. -/
import Derived.Test.YtomnhnmciopiiaaGreatMMT7
set_option maxRecDepth 100000
set_option linter.unusedVariables false
set_option linter.unusedSimpArgs false
set_option maxHeartbeats 40000000
open Go.Act renaming put → xae
open And renaming intro → xad
open Array renaming ext_getElem? → xbZ, getD_eq_getD_getElem? → xbF, getElem?_eq_some_iff → xa2, getElem?_toList → xa7, replicate → xbu
open Go.RowKit.Below renaming mono → xar, refl → xao
open Bool renaming and_eq_true → xaw, true_and → xa8
open Go.Instr renaming sureAddr → xbM
open List renaming all_eq_true → xaO, any_eq_true → xbW, append_assoc → xaR, drop → xaE, drop_succ_cons → xay, drop_zero → xaK, eq_nil_of_length_eq_zero → xaT, getElem?_cons_succ → xbs, getElem?_cons_zero → xa3, getElem?_eq_getElem → xai, getElem?_eq_none → xbH, getElem?_eq_some_iff → xah, getElem?_map → xaL, getElem?_of_mem → xaP, getElem?_toArray → xa0, length_append → xak, length_cons → xaF, length_map → xap, length_take → xaN, map_cons → xa9, mem_append → xax, mem_cons → xaD, mem_map → xaA, mem_of_getElem? → xaj, mem_range → xba, mem_singleton → xan, not_mem_nil → xaS, range → xaf, setIfInBounds_toArray → xaa, set_cons_succ → xac, set_cons_zero → xab, size_toArray → xal, take_add_one → xaB, take_length → xaG, take_of_length_le → xav, take_succ_cons → xau, take_zero → xaC
open Nat renaming le_refl → xag, le_trans → xaH, testBit_shiftLeft → xcy
open Option.some renaming inj → xam
open Prod.mk renaming injEq → xbG
open Go.Program renaming keyLits → xb2
open Go.Region renaming binds → xbS, noSelect → xbE, ready → xa4, wanted → xaq
open Go.Result renaming andThen_ok → xat
open Go.Sem renaming run_bind → xaI, run_pure → xaQ
open Go.Value renaming cells → xaU, slice → xas
open Go.World renaming cell?_of_block → xaV, ownsRow_nil → xbg
section
namespace Go.Proofs.YtomnhnmciopiiaaGreat
open Go Go.RowKit Go.Maps
namespace Dr
variable {H:Type} [DecidableEq H]
theorem iz:∀ (l m:List (It H)) (known:List H),cP known (l++m)=(cP known l&&cP (known++css l) m)
 | [],m,known=>by simp [cP,css]
 | x :: l,m,known=>by
  have e:known++css (x :: l)=known++[x.cls]++css l:=by simp [css]
  rw [List.cons_append,cP,cP,iz l m (known++[x.cls]),e]
  simp only [Bool.and_assoc]
theorem nP {l:List (It H)} {x:It H}:bO (l++[x])=true↔bO l=true∧x.ok=true∧x.cls ∉ css l∧∀ c∈x.ins,c∈css l:=by
 unfold bO
 rw [iz]
 simp only [cP,List.nil_append,xaw,Bool.not_eq_true',xaO,List.contains_iff_mem,and_true]
 constructor
 ·rintro ⟨h1,⟨h2,h3⟩,h4⟩
  exact ⟨h1,h2,by simpa using h3,fun c hc=>by simpa using h4 c hc⟩
 ·rintro ⟨h1,h2,h3,h4⟩
  exact ⟨h1,⟨h2,by simpa using h3⟩,fun c hc=>by simpa using h4 c hc⟩
theorem vx {l:List (It H)} (h:bO l=true) (i:Nat):bO (l.take i)=true:=by
 unfold bO at h ⊢
 have e:=List.take_append_drop i l
 rw [← e,iz,xaw] at h
 exact h.1
theorem so {l:List (It H)} (h:bO l=true) {i:Nat} {x:It H} (hx:l[i]?=some x):x.ok=true∧x.cls ∉ css (l.take i)∧∀ c∈x.ins,c∈css (l.take i):=by
 have h1:=vx h (i+1)
 rw [xaB,hx] at h1
 exact (nP.1 h1).2
end Dr
variable (hof:Drv→Hsh)
def dp (l:List Itm):Bool:=Dr.bO (l.map itP)&&l.all fun x=>decide (hof x.2=x.1)
def aY (l:List Itm) (c:Hsh):Option Itm:=l.find? fun x=>decide (x.1=c)
def dq (l:List Itm) (d:Drv):List Itm×Hsh×Int :=
 if dp hof l=true then
  (if bF d=0 then
   (if ((aA d.2.1).all fun c=>(aY l c).isSome)=true then
    (match aY l (hof d) with
    | some x=>if a8 x.2=a8 d then (l,hof d,0) else ([],aW,14)
    | none=>(l++[(hof d,d)],hof d,0))
   else ([],aW,5))
  else ([],aW,bF d))
 else ([],aW,2)
variable {hof}
theorem su {l:List Itm} (h:dp hof l=true):Dr.bO (l.map itP)=true:=by
 unfold dp at h
 rw [xaw] at h
 exact h.1
theorem Gv {l:List Itm} (h:dp hof l=true) {x:Itm} (hx:x∈l):hof x.2=x.1:=by
 unfold dp at h
 rw [xaw,xaO] at h
 exact of_decide_eq_true (h.2 x hx)
theorem mU {l:List Itm} {c:Hsh}:(aY l c).isSome=true↔c∈Dr.css (l.map itP):=by
 unfold aY
 rw [wL]
 exact ⟨jl,zb⟩
theorem wI {l:List Itm} {c:Hsh} (h:aY l c=none):c ∉ Dr.css (l.map itP):=fun hm=>by
 have:=mU.2 hm
 rw [h] at this
 cases this
theorem wJ {l:List Itm} {c:Hsh} {x:Itm} (h:aY l c=some x):x∈l∧x.1=c :=
 ⟨List.mem_of_find?_eq_some h,by simpa using List.find?_some h⟩
theorem BT {l:List Itm} {c:Hsh} {x:Itm} (h:aY l c=some x):findD l c=x.2:=by
 unfold findD
 unfold aY at h
 rw [h]
 rfl
theorem vW {l:List Itm} {d:Drv} {next:List Itm} {h:Hsh} (ha:dq hof l d=(next,h,0)):dp hof l=true∧bF d=0∧(∀ c∈aA d.2.1,c∈Dr.css (l.map itP))∧h=hof d∧((∃ x,aY l (hof d)=some x∧a8 x.2=a8 d∧next=l)∨(aY l (hof d)=none∧next=l++[(hof d,d)])):=by
 unfold dq at ha
 split at ha
 ·rename_i h1
  split at ha
  ·rename_i h2
   split at ha
   ·rename_i h3
    rw [xaO] at h3
    refine ⟨h1,h2,fun c hc=>mU.1 (h3 c hc),?_⟩
    split at ha
    ·rename_i x hx
     split at ha
     ·rename_i h4
      simp only [xbG] at ha
      exact ⟨ha.2.1.symm,.inl ⟨x,hx,h4,ha.1.symm⟩⟩
     ·simp only [xbG] at ha
      exact absurd ha.2.2 (by decide)
    ·rename_i hx
     simp only [xbG] at ha
     exact ⟨ha.2.1.symm,.inr ⟨hx,ha.1.symm⟩⟩
   ·simp only [xbG] at ha
    exact absurd ha.2.2 (by decide)
  ·rename_i h2
   simp only [xbG] at ha
   exact absurd ha.2.2 h2
 ·simp only [xbG] at ha
  exact absurd ha.2.2 (by decide)
theorem vJ {l:List Itm} {d:Drv} (h:dp hof l=true) (hp:bF d=0) (hc:∀ c∈aA d.2.1,c∈Dr.css (l.map itP)) (hn:aY l (hof d)=none):dp hof (l++[(hof d,d)])=true:=by
 unfold dp
 rw [xaw,xaO]
 refine ⟨?_,fun x hx=>?_⟩
 ·rw [List.map_append]
  exact Dr.nP.2 ⟨su h,decide_eq_true hp,wI hn,hc⟩
 ·rcases xax.1 hx with hx | hx
  ·exact decide_eq_true (Gv h hx)
  ·rw [xan.1 hx]
   exact decide_eq_true rfl
end Go.Proofs.YtomnhnmciopiiaaGreat
end
section
namespace Go.Proofs.YtomnhnmciopiiaaGreat
open Go Go.RowKit Go.Maps
theorem Aq {H:Type} [DecidableEq H] {l:List H} {c:H} {p:Nat} (h:qs l c=(p:Int)):c∈l:=by
 unfold qs at h
 split at h
 ·assumption
 ·omega
theorem rf {H:Type} [DecidableEq H] {l:List (Dr.It H)} (hr:Dr.gS l) {k:H} {y:Dr.It H} (hy:y∈l) (hm:y.cls∈Dr.cE l k):∀ c∈y.ins,c∈Dr.cE l k:=fun c hc=>by
 obtain ⟨i,hi⟩:=xaP hm
 obtain ⟨n,z,hz,h1,h2,_⟩:=xG hr hi
 have e:=Dr.rM hr (xaj hz) hy h1
 rw [e] at h2
 obtain ⟨⟨p,hp,_⟩,_⟩:=h2 c hc
 exact Aq hp
def fQ (l:List Itm) (aL:List Hsh) (c:Hsh):Bool:=aL.any fun k=>decide (c∈aP l k)
def fc (l:List Itm) (aL:List Hsh):List Itm:=l.filter fun x=>fQ l aL x.1
theorem DE {l:List Itm} {aL:List Hsh} {c:Hsh}:fQ l aL c=true↔∃ k∈aL,c∈aP l k:=by
 unfold fQ
 rw [xbW]
 exact ⟨fun ⟨k,h1,h2⟩=>⟨k,h1,of_decide_eq_true h2⟩,fun ⟨k,h1,h2⟩=>⟨k,h1,decide_eq_true h2⟩⟩
theorem Cj {l:List Itm} {aL:List Hsh} {x:Itm}:x∈fc l aL↔x∈l∧∃ k∈aL,x.1∈aP l k:=by
 unfold fc
 rw [List.mem_filter,DE]
variable {hof:Drv→Hsh}
theorem vc {α:Type} [DecidableEq α]:∀ {a b:List α},a.Nodup→(∀ x∈a,x∈b)→a.length≤b.length
 | [],b,_,_=>Nat.zero_le _
 | x :: a,b,hn,hs=>by
  obtain ⟨h1,h2⟩:=List.nodup_cons.1 hn
  have hx:=hs x (List.mem_cons_self ..)
  have h3:a.length≤(b.erase x).length:=vc h2 fun y hy=>(List.mem_erase_of_ne (fun e=>h1 (by rw [← e];exact hy))).2 (hs y (List.mem_cons_of_mem _ hy))
  rw [List.length_erase_of_mem hx] at h3
  have:=List.length_pos_of_mem hx
  rw [xaF]
  omega
end Go.Proofs.YtomnhnmciopiiaaGreat
end
section
namespace Go.Proofs.YtomnhnmciopiiaaGreat
open Go Go.RowKit Go.Maps
def bA (d:Drv):Hsh:=ofB [99,108,97,115,115] [(a8 d).data.toList]
theorem gy (d:Drv):okH (bA d):=by
 show (ofB _ _).length=20
 unfold ofB
 exact dH _ _
theorem lN {d:Drv} (h:bF d=0):(a8 d).size≤2000:=by
 unfold bF at h
 split at h
 ·split at h
  ·exact absurd h (by decide)
  ·omega
 ·exact absurd h (by decide)
theorem Ao {w w':World} {g cap:Nat} {s:ByteArray} (hb:Blk w' w.heap.size 24 #[.slice (some ⟨g,0,none⟩) s.size cap]) (hs:w'.heap.size=w.heap.size+1) (hc:s.size≤cap) (hg:g<w.heap.size) (hk:∀ b,b<w.heap.size→w'.heap[b]?=w.heap[b]?) (h:dD w g s):lU w' w'.heap.size (.slice (some ⟨w.heap.size,0,none⟩) 1 1) [s.data.toList]:=by
 have ht:sy w' 5 g s:=⟨by rw [hk g hg];exact h.1,fun j hj=>(xaV (hk g hg)).trans (h.2 j hj)⟩
 refine ⟨_,1,rfl,xag _,fun _=>⟨w.heap.size,0,rfl,by omega,fun j hj=>?_⟩⟩
 have hj0:j=0:=by simp at hj;omega
 subst hj0
 exact ⟨_,hb.cell 0,(TB.oJ (base:=0) hc (by omega) ht).bytes⟩
theorem Fh (w:World) (d:Drv) (v1 v2:Value) (h:au w w.heap.size d v1 v2) (hp:bF d=0) :
  Calls Tryz.prog 56 #[.agg (dC d v1 v2).toArray] w fun e w'=>e=.returned (.agg (bv (bA d)).toArray)∧Below w.heap.size w w':=by
 go_enter Tryz.func56,Tryz.ntmps56
 go_wp2_with (first | ((with_reducible refine ae 1 ?_);(refine aF rfl 26 (.tmp 0) rfl (dC d v1 v2).toArray rfl ?_);intro w1 hn;have H1:=ab hn;clear hn;simp only [xae,xaa,xab,xac]) | ((with_reducible refine ae 2 ?_);(refine aC rfl 34 zcH (by kernel_rfl) ?_);intro w2 hn;have H2:=ab (xad (H1.out.blk.below hn.below H1.out.blk.lt) (xad hn.blk (xad (H1.out.below.trans (xar hn.below H1.out.below.size)) (show w.heap.size<w1.heap.size by have:=H1.out.size;omega))));clear hn;simp only [xae,xaa,xab,xac]) | ((with_reducible refine ae 3 ?_);(refine aa rfl (.agg ((dC d v1 v2).toArray)) w2 (av 26 (.tmp 1) rfl w.heap.size rfl 26 _ _ w2 H2.out.1 Tryz.underlying26 rfl (by kernel_rfl)) ?_)))
 refine (lO w2 d v1 v2 (h.eD H2.out.2.2.1) hp).mono ?_
 rintro e w3 ⟨g,cap,rfl,k1,k2,k3,k4,hb⟩
 dsimp only
 have H3:=ab (xad (H2.out.2.1.below hb H2.out.2.1.lt) (xad k1 (xad k2 (xad k4 (H2.out.2.2.1.trans (xar hb H2.out.2.2.1.size))))))
 clear k1 k2 k3 k4 hb
 go_wp2_with (first | ((with_reducible refine ae 5 ?_);(refine aO rfl 95 (.tmp 4) rfl 24 1 (.slice none 0 0) (.slice (some ⟨g,0,none⟩) (a8 d).size cap) rfl Tryz.underlying95 (by kernel_rfl) (by decide) (by decide) (fun w=>by kernel_rfl) rfl ?_);intro w4 hn;have H4:=ab hn;clear hn;simp only [xae,xaa,xab,xac]))
 have hpt:=Ao H4.out.blk H4.out.size H3.out.2.2.1 H3.out.2.2.2.1 (fun b hb=>H4.out.below.block b hb) H3.out.2.1
 refine (CF ⟨#[99,108,97,115,115]⟩ [99,108,97,115,115] rfl (by decide) [(a8 d).data.toList] (by have:=lN hp;simpa using xaH this (by decide)) (by show 1≤1000000000;decide) _ w4 w4.heap.size (xag _) hpt).mono ?_
 rintro e w5 ⟨rfl,hb⟩
 dsimp only
 have hb35:=H4.out.below.trans (xar hb H4.out.below.size)
 have H5:=ab (xad (H3.out.1.below hb35 H3.out.1.lt) (H3.out.2.2.2.2.trans (xar hb35 H3.out.2.2.2.2.size)))
 have hok:=gy d
 have hsz:=bB hok
 have hszz:zcH.size=(bv (bA d)).toArray.size:=by rw [show (bv (bA d)).toArray.size=20 by rw [xal,bvL];exact hok];kernel_rfl
 have hone:(bv (bA d)).toArray.all (·.oneCell')=true:=all_oneCell_toArray (bv1 _)
 clear hb hb35 hpt
 go_wp2_with (first | ((with_reducible refine aV 2 6 ?_);(with_reducible refine ak rfl 34 (.tmp 2) (.tmp 6) rfl w1.heap.size zcH (bv (bA d)).toArray 34 H5.out.1 ?_ ?_ ?_ ?_ ?_ ?_);(exact hsz);(exact hszz);(exact hone);rfl;rfl;intro w9 hk9 hg9;have H9:=ab (xad hk9 (H5.out.2.grown hg9 H5.out.2.size (fun b hb=>by have:=xam hb;have:=H2.out.2.2.2;omega)));clear hk9 hg9;simp only [xae]))
 refine bodyPost_ret (results_cell_row rfl _ _ w1.heap.size 34 (bv (bA d)).toArray (0,0) _ rfl H9.out.1 Tryz.underlying34 rfl hsz) rfl ⟨rfl,H9.out.2⟩
theorem GK (w:World) (d:Drv) (v1 v2:Value) (h:au w w.heap.size d v1 v2) (hp:¬ bF d=0) :
  Calls Tryz.prog 56 #[.agg (dC d v1 v2).toArray] w fun e w'=>e=.panicked [{ v:=eO (bF d),recovered:=false }]∧Below w.heap.size w w':=by
 go_enter Tryz.func56,Tryz.ntmps56
 go_wp2_with (first | ((with_reducible refine ae 1 ?_);(refine aF rfl 26 (.tmp 0) rfl (dC d v1 v2).toArray rfl ?_);intro w1 hn;have H1:=ab hn;clear hn;simp only [xae,xaa,xab,xac]) | ((with_reducible refine ae 2 ?_);(refine aC rfl 34 zcH (by kernel_rfl) ?_);intro w2 hn;have H2:=ab (xad (H1.out.blk.below hn.below H1.out.blk.lt) (xad hn.blk (xad (H1.out.below.trans (xar hn.below H1.out.below.size)) (show w.heap.size<w1.heap.size by have:=H1.out.size;omega))));clear hn;simp only [xae,xaa,xab,xac]) | ((with_reducible refine ae 3 ?_);(refine aa rfl (.agg ((dC d v1 v2).toArray)) w2 (av 26 (.tmp 1) rfl w.heap.size rfl 26 _ _ w2 H2.out.1 Tryz.underlying26 rfl (by kernel_rfl)) ?_)))
 refine (qJ w2 d v1 v2 (h.eD H2.out.2.2.1) hp).mono ?_
 rintro e w3 ⟨rfl,hb⟩
 dsimp only
 change bodyPost Tryz.prog Tryz.f56 _ _ _ _
 simp only [bodyPost]
 exact ⟨trivial,trivial,H2.out.2.2.1.trans (xar hb H2.out.2.2.1.size)⟩
end Go.Proofs.YtomnhnmciopiiaaGreat
end
section
namespace Go.Proofs.YtomnhnmciopiiaaGreat
open Go Go.RowKit Go.Maps
theorem xZ (w:World) (x:Itm) (v1 v2:Value) (hx:okH x.1) (h:au w w.heap.size x.2 v1 v2) (hp:bF x.2=0) :
  Calls Tryz.prog 67 #[.agg (tC x v1 v2).toArray] w fun e w'=>e=.returned (.bool (!decide (bA x.2=x.1)))∧Below w.heap.size w w':=by
 go_enter Tryz.func67,Tryz.ntmps67
 go_wp2_with (first | ((with_reducible refine ae 1 ?_);(refine aF rfl 59 (.tmp 0) rfl (tC x v1 v2).toArray rfl ?_);intro w1 hn;have H1:=ab hn;clear hn;simp only [xae,xaa,xab,xac]))
 have hat:au w1 w1.heap.size x.2 v1 v2:=h.eD H1.out.below
 have HAT:=ab hat
 have hr:=en H1.out.blk
 have HR:=ab hr
 have hg1:=H1.out.blk.lt
 have hszx:=bB hx
 have hszx1:(Tryz.prog.info? 34).map (·.size)=some (bv x.1).length:=by simpa using hszx
 clear hat hr hszx
 refine Fre.b4 (X:=Bel) 6 [] (by kernel_rfl) (by kernel_rfl) (by simp) (by simp) (by simp) ?_
 simp only [xau,xaC,xay,xaK]
 refine Fre.ag (.pointer (some ⟨w.heap.size,20,none⟩)) (by kernel_rfl) (by kernel_rfl) (by kernel_rfl) (fun _ _=>by kernel_rfl) ?_
 simp only [xae,xaa,xab,xac]
 refine Fre.ag (.agg (dC x.2 v1 v2).toArray) (by kernel_rfl) (by kernel_rfl) (by kernel_rfl) (fun W9 hW9=>ai 26 (.tmp 3) rfl w.heap.size 20 rfl (dC x.2 v1 v2) _ W9 (bX (jk hx H1.out.blk) (Below.block hW9 _ hg1)) Tryz.underlying26 rfl (by kernel_rfl)) ?_
 simp only [xae,xaa,xab,xac]
 refine Fre.fZ (.agg (bv (bA x.2)).toArray) 56 #[.agg (dC x.2 v1 v2).toArray] (by kernel_rfl) (by kernel_rfl) (by kernel_rfl) (fun W9=>by kernel_rfl) (fun W9 hW9=>Fh W9 x.2 v1 v2 (HAT.out.eD hW9) hp) ?_
 simp only [xae,xaa,xab,xac]
 refine Fre.ag (.pointer (some ⟨w.heap.size,0,none⟩)) (by kernel_rfl) (by kernel_rfl) (by kernel_rfl) (fun _ _=>by kernel_rfl) ?_
 simp only [xae,xaa,xab,xac]
 refine Fre.ag (.agg (bv x.1).toArray) (by kernel_rfl) (by kernel_rfl) (by kernel_rfl) (fun W9 hW9=>ai 34 (.tmp 6) rfl w.heap.size 0 rfl (bv x.1) _ W9 (bX (iu hx H1.out.blk) (Below.block hW9 _ hg1)) Tryz.underlying34 rfl hszx1) ?_
 simp only [xae,xaa,xab,xac]
 refine Fre.ag (.bool (!decide (bA x.2=x.1))) (by kernel_rfl) (by kernel_rfl) (by kernel_rfl) (fun W9 hW9=>dz .neq 34 (.tmp 5) (.tmp 7) _ rfl (bv (bA x.2)).toArray (bv x.1).toArray rfl rfl (by kernel_rfl) _ (fun W=>sD (bA x.2) x.1 (gy _) hx W) W9) ?_
 simp only [xae,xaa,xab,xac]
 intro wx hx9
 have HX:=ab (H1.out.below.trans (xar hx9 H1.out.below.size))
 clear hx9
 dsimp only [Fre.ended,xaE]
 go_wp2_with fail
 go_ret
 exact ⟨rfl,HX.out⟩
theorem wS (w:World) (l:List Itm) (A:Option Addr) (cap:Nat) (h:aH.At w w.heap.size [.slice A l.length cap] l) (f:Itm→Bool) (hcl:∀ (W:World) (x:Itm) (v1 v2:Value),x∈l→au W W.heap.size x.2 v1 v2→okH x.1→Calls Tryz.prog 67 #[.agg (tC x v1 v2).toArray] W fun e w'=>e=.returned (.bool (f x))∧Below W.heap.size W w') :
  Calls Tryz.prog 97 #[.slice A l.length cap,.func (.func 67) #[] #[]] w fun e w'=>∃ r:Int,e=.returned (.int .i64 r)∧decide (0≤r)=l.any f∧Below w.heap.size w w':=by
 obtain ⟨A',cap',e,hcl',hcm9,_,hA⟩:=aj h
 injection e with e1 e2 e3
 subst e1 e3
 have k9:(l.length:Int)≤9223372036854775807:=by simp only [maxLen] at hcm9;omega
 have HA:=ab hA
 have hcl9:=ab hcl
 clear hA hcl' hcm9 e2 h hcl
 go_enter Tryz.func97,Tryz.ntmps97
 go_wp2_with fail
 go_loopw [8] (fun x8 wr=>∃ j:Nat,j≤l.length∧x8=.int .i64 (j:Int)∧(∀ y∈l.take j,f y=false)∧Below w.heap.size w wr) (fun x8 _=>l.length-(intOf x8).toNat)
 case atStart=>exact ⟨0,by omega,rfl,(fun y hy=>by simp at hy),xao _ _⟩
 case round =>
  obtain ⟨wo,rfl⟩:∃ wo,wo=wr:=⟨_,rfl⟩
  obtain ⟨j,hj,rfl,hall,hb⟩:=hrel
  have HB:=ab (xad hall hb)
  clear hall hb
  have j0:(0:Int)≤(j:Int):=by omega
  by_cases hj2:j<l.length
  ·have j1:(j:Int)<(l.length:Int):=by omega
   obtain ⟨x,hx⟩:∃ x,l[j]?=some x:=⟨_,xai hj2⟩
   obtain ⟨b,off,rfl,hlb,hE⟩:=HA.out (by omega)
   obtain ⟨cs,hr,hatx⟩:=hE j x hx
   obtain ⟨q1,q2,rfl,hxo,hxd⟩:=cF.1 hatx
   obtain ⟨B1,k1,rfl,_⟩:=aj hxd.ins
   obtain ⟨B2,k2,rfl,_⟩:=aj hxd.rcp
   obtain ⟨q1,hq1⟩:∃ q1,q1=xas B1 x.2.2.1.length k1:=⟨_,rfl⟩
   obtain ⟨q2,hq2⟩:∃ q2,q2=xas B2 x.2.2.2.length k2:=⟨_,rfl⟩
   have hone1:q1.oneCell'=true∧q2.oneCell'=true:=by rw [hq1,hq2];exact ⟨rfl,rfl⟩
   rw [← hq1,← hq2] at hr hatx
   rw [← hq1,← hq2] at hxd
   have HX:=ab (xad (bX hr (HB.out.2.block b (by omega))) (xad hxo hxd))
   have HXX:=ab hx
   have hszt2:(Tryz.prog.info? 59).map (·.size)=some (tC x q1 q2).toArray.size:=by rw [show (tC x q1 q2).toArray.size=23 by rw [xal];exact cl hxo];kernel_rfl
   have hszt:(Tryz.prog.info? 59).map (·.size)=some (tC x q1 q2).length:=by simpa using hszt2
   have hszzt:zcT.size=(tC x q1 q2).toArray.size:=by rw [show (tC x q1 q2).toArray.size=23 by rw [xal];exact cl hxo];kernel_rfl
   have honet:(tC x q1 q2).toArray.all (·.oneCell')=true:=all_oneCell_toArray (gQ x hone1.1 hone1.2)
   have hszx:(Tryz.prog.info? 34).map (·.size)=some (bv x.1).length:=by have:=bB hxo;simpa using this
   have hszx2:=bB hxo
   clear hx hE hr hatx hxd hq1 hq2
   go_wp2_with (first | ((with_reducible refine ae 14 ?_);(refine aa rfl (.pointer (some ⟨b,off+(j:Int).toNat*23,none⟩)) wo (aJ 22 59 (.tmp 12) (.tmp 13) rfl b off l.length cap (j:Int) .i64 rfl rfl ⟨j0,j1⟩ 23 Tryz.underlying22 cJ wo) ?_;rw [show off+(j:Int).toNat*23=off+j*23 by omega])) | ((with_reducible refine ae 15 ?_);(refine aa rfl (.agg (tC x q1 q2).toArray) wo (ai 59 (.tmp 14) rfl b (off+j*23) rfl (tC x q1 q2) _ wo HX.out.1 Tryz.underlying59 rfl hszt) ?_)))
   refine (hcl9.out wo x q1 q2 (xaj HXX.out) (HX.out.2.2.eD HB.out.2) HX.out.2.1).mono ?_
   rintro e w9 ⟨rfl,hb⟩
   dsimp only
   have H9:=ab (HB.out.2.trans (xar hb HB.out.2.size))
   clear hb
   cases he:f x
   ·have HE:=ab he
    clear he
    go_wp2_with fail
    go_roundw
    case rel=>exact ⟨j+1,by omega,by go_num,(fun y hy=>by rw [xaB,HXX.out] at hy;rcases xax.1 hy with hy | hy;exact HB.out.1 y hy;rw [show y=x from by simpa using hy];exact HE.out),H9.out⟩
    case measure=>simp [intOf];omega
   ·have hany:l.any f=true:=xbW.2 ⟨x,xaj HXX.out,he⟩
    have HE:=ab hany
    clear he hany
    go_wp2_with fail
    go_ret
    exact ⟨j,rfl,by rw [HE.out];exact decide_eq_true j0,H9.out⟩
  ·obtain rfl:j=l.length:=by omega
   have hany:l.any f=false:=by
    rw [List.any_eq_false]
    intro y hy
    rw [HB.out.1 y (by rw [xaG];exact hy)]
    decide
   have HE:=ab hany
   clear hany
   go_wp2_with fail
   go_ret
   exact ⟨-1,rfl,by rw [HE.out];rfl,HB.out.2⟩
theorem qQ (w:World) (l:List Itm) (A:Option Addr) (cap:Nat) (h:aH.At w w.heap.size [.slice A l.length cap] l) (f:Itm→Bool) (hcl:∀ (W:World) (x:Itm) (v1 v2:Value),x∈l→au W W.heap.size x.2 v1 v2→okH x.1→Calls Tryz.prog 67 #[.agg (tC x v1 v2).toArray] W fun e w'=>e=.returned (.bool (f x))∧Below W.heap.size W w') :
  Calls Tryz.prog 66 #[.slice A l.length cap,.func (.func 67) #[] #[]] w fun e w'=>e=.returned (.bool (l.any f))∧Below w.heap.size w w':=by
 go_enter Tryz.func66,Tryz.ntmps66
 go_wp2_with fail
 refine (wS w l A cap h f hcl).mono ?_
 rintro e w9 ⟨r,rfl,hr,hb⟩
 dsimp only
 by_cases h0:0≤r
 ·rw [decide_eq_true h0] at hr
  have HR:=ab hr
  clear hr
  go_wp2_with fail
  go_ret
  exact ⟨by rw [← HR.out];rfl,hb⟩
 ·rw [decide_eq_false h0] at hr
  have HR:=ab hr
  clear hr
  go_wp2_with fail
  go_ret
  exact ⟨by rw [← HR.out];rfl,hb⟩
theorem Ay {l:List Itm} (h:Dr.bO (l.map itP)=true):∀ x∈l,bF x.2=0:=fun x hx=>by
 obtain ⟨i,hi⟩:=xaP hx
 exact of_decide_eq_true (Dr.so h (i:=i) (x:=itP x) (by rw [xaL,hi];rfl)).1
theorem Gu {l:List Itm} (h:Dr.bO (l.map itP)=true):dp bA l=!(l.any fun y=>!decide (bA y.2=y.1)):=by
 unfold dp
 rw [h,xa8,List.all_eq_not_any_not]
theorem sv (w:World) (l:List Itm) (A:Option Addr) (cap:Nat) (h:aH.At w w.heap.size [.slice A l.length cap] l) (hl:∀ x∈l,x.2.2.1.length≤1000000) :
  Calls Tryz.prog 19 #[.slice A l.length cap] w fun e w'=>e=.returned (.bool (dp bA l))∧Below w.heap.size w w':=by
 go_enter Tryz.func19,Tryz.ntmps19
 go_wp2_with fail
 refine (Av w l A cap h hl).mono ?_
 rintro e w2 ⟨rfl,hb⟩
 dsimp only
 have H2:=ab hb
 clear hb
 cases hrt:Dr.bO (l.map itP)
 ·have ht:dp bA l=false:=by unfold dp;rw [hrt];rfl
  have HT:=ab ht
  clear ht hrt
  go_wp2_with fail
  go_ret
  exact ⟨by rw [HT.out];rfl,H2.out⟩
 ·have hp:∀ x∈l,bF x.2=0:=Ay hrt
  have ht:dp bA l=!(l.any fun y=>!decide (bA y.2=y.1)):=Gu hrt
  have HT:=ab ht
  clear ht hrt
  go_wp2_with fail
  refine (qQ w2 l A cap (fW h H2.out) (fun y=>!decide (bA y.2=y.1)) (fun W y u1 u2 hy hat ho=>xZ W y u1 u2 ho hat (hp y hy))).mono ?_
  rintro e w3 ⟨rfl,hb⟩
  dsimp only
  have H3:=ab (H2.out.trans (xar hb H2.out.size))
  clear hb
  cases hq:(l.any fun y=>!decide (bA y.2=y.1))
  ·have HQ:=ab hq
   clear hq
   go_wp2_with fail
   go_ret
   exact ⟨by rw [HT.out,HQ.out];rfl,H3.out⟩
  ·have HQ:=ab hq
   clear hq
   go_wp2_with fail
   go_ret
   exact ⟨by rw [HT.out,HQ.out];rfl,H3.out⟩
end Go.Proofs.YtomnhnmciopiiaaGreat
end
section
namespace Go.Proofs.YtomnhnmciopiiaaGreat
open Go Go.RowKit Go.Maps
theorem wv (w:World) (l:List Nam) (v:Value) (h:dW.At w w.heap.size [v] l) (hl:l.length≤1000000) :
  Calls Tryz.prog 134 #[v] w fun e w'=>∃ u,e=.returned u∧w'.ownsRow w.heap.size 87 43 u l.length (l.flatMap nC)∧Below w.heap.size w w':=by
 obtain ⟨inm,hih,hq0,hq1,hq2⟩:=info_parts fV
 have HJ:=ab (xad hih (xad hq0 (xad hq1 hq2)))
 clear hih hq0 hq1 hq2
 obtain ⟨A,cap,rfl,h1,h2,h3,_⟩:=aj h
 cases A with
 | none =>
  have hc0:=h3 rfl
  obtain rfl:l=[]:=xaT (by omega)
  subst hc0
  clear h1 h2 h3
  go_enter Tryz.func134,Tryz.ntmps134
  go_wp2_with (first | ((with_reducible refine ae 4 ?_);(refine aa rfl (.bool true) w (by kernel_rfl) ?_)))
  go_ret
  exact ⟨_,rfl,xbg _ _ _ _,xao _ _⟩
 | some ad =>
  clear h1 h2 h3
  have hs0:=(ij (L:=gO) (f:=nC) (by decide) (fun {w B cs x} h=>(bZ.1 h).1) (fun x u hu=>fj x u hu) h).2
  have HS:=ab hs0
  clear hs0
  go_enter Tryz.func134,Tryz.ntmps134
  go_wp2_with (first | ((with_reducible refine ae 4 ?_);(refine aa rfl (.bool false) w (by kernel_rfl) ?_)) | ((with_reducible refine ae 5 ?_);(refine kr rfl 0 87 #[] (by kernel_rfl) ?_);intro w1 hn;have hown:w1.ownsRow w.heap.size 87 43 (.slice (some ⟨w.heap.size,0,none⟩) 0 0) 0 []:=⟨rfl,.inr ⟨w.heap.size,0,#[],rfl,xag _,hn.blk,xag _,Nat.zero_le _,rfl,rfl⟩⟩;have H1:=ab (xad hown (xad hn.below hn.size));clear hn hown;simp only [xae,xaa,xab,xac]) | (at_builtin;((with_reducible refine ae 7 ?_);refine aE rfl _ _ 23 rfl w.heap.size 87 inm _ 43 80 Tryz.underlying23 HJ.out.1 HJ.out.2.1 HJ.out.2.2.1 HJ.out.2.2.2 rfl (by decide) _ (0) ([]) H1.out.1 (some ad) l.length cap (l.flatMap nC) (HS.out.below H1.out.2.1) ?hm1 ?hb1 ?hz1 rfl rfl ?_)))
  case hm1=>simp only [maxLen];omega
  case hb1=>omega
  case hz1=>exact H1.out.2.1.size
  intro u9 w9 own9 gr9 _
  have ho:w9.ownsRow w.heap.size 87 43 u9 l.length (l.flatMap nC):=by simpa using own9
  have H9:=ab (xad ho (H1.out.2.1.grown gr9 H1.out.2.1.size (fun k hk=>(az H1.out.1 hk).1)))
  clear ho own9 gr9
  go_wp2_with fail
  go_ret
  exact ⟨u9,rfl,H9.out⟩
theorem wm (w:World) (l:List Int) (v:Value) (h:cA.At w w.heap.size [v] l) (hl:l.length≤1000000) :
  Calls Tryz.prog 135 #[v] w fun e w'=>∃ u,e=.returned u∧w'.ownsRow w.heap.size 5 1 u l.length (l.flatMap ib)∧Below w.heap.size w w':=by
 obtain ⟨inm,hih,hq0,hq1,hq2⟩:=info_parts (show (Tryz.prog.info? 5).map (fun i=>(i.zero,i.size,i.bytes))=some (some (.int .u8 0),1,1) by kernel_rfl)
 have HJ:=ab (xad hih (xad hq0 (xad hq1 hq2)))
 clear hih hq0 hq1 hq2
 obtain ⟨A,cap,rfl,h1,h2,h3,_⟩:=aj h
 cases A with
 | none =>
  have hc0:=h3 rfl
  obtain rfl:l=[]:=xaT (by omega)
  subst hc0
  clear h1 h2 h3
  go_enter Tryz.func135,Tryz.ntmps135
  go_wp2_with (first | ((with_reducible refine ae 4 ?_);(refine aa rfl (.bool true) w (by kernel_rfl) ?_)))
  go_ret
  exact ⟨_,rfl,xbg _ _ _ _,xao _ _⟩
 | some ad =>
  clear h1 h2 h3
  have hs0:=(ij (L:=Lay.int 5 .u8) (f:=ib) (by decide) (fun {w B cs x} h=>h.1) (fun k u hu=>by rw [xan.1 hu];rfl) h).2
  have HS:=ab hs0
  clear hs0
  go_enter Tryz.func135,Tryz.ntmps135
  go_wp2_with (first | ((with_reducible refine ae 4 ?_);(refine aa rfl (.bool false) w (by kernel_rfl) ?_)) | ((with_reducible refine ae 5 ?_);(refine kr rfl 0 5 #[] (by kernel_rfl) ?_);intro w1 hn;have hown:w1.ownsRow w.heap.size 5 1 (.slice (some ⟨w.heap.size,0,none⟩) 0 0) 0 []:=⟨rfl,.inr ⟨w.heap.size,0,#[],rfl,xag _,hn.blk,xag _,Nat.zero_le _,rfl,rfl⟩⟩;have H1:=ab (xad hown (xad hn.below hn.size));clear hn hown;simp only [xae,xaa,xab,xac]) | (at_builtin;((with_reducible refine ae 7 ?_);refine aE rfl _ _ 24 rfl w.heap.size 5 inm _ 1 1 Tryz.underlying24 HJ.out.1 HJ.out.2.1 HJ.out.2.2.1 HJ.out.2.2.2 rfl (by decide) _ (0) ([]) H1.out.1 (some ad) l.length cap (l.flatMap ib) (HS.out.below H1.out.2.1) ?hm1 ?hb1 ?hz1 rfl rfl ?_)))
  case hm1=>simp only [maxLen];omega
  case hb1=>omega
  case hz1=>exact H1.out.2.1.size
  intro u9 w9 own9 gr9 _
  have ho:w9.ownsRow w.heap.size 5 1 u9 l.length (l.flatMap ib):=by simpa using own9
  have H9:=ab (xad ho (H1.out.2.1.grown gr9 H1.out.2.1.size (fun k hk=>(az H1.out.1 hk).1)))
  clear ho own9 gr9
  go_wp2_with fail
  go_ret
  exact ⟨u9,rfl,H9.out⟩
end Go.Proofs.YtomnhnmciopiiaaGreat
end
section
namespace Go.Proofs.YtomnhnmciopiiaaGreat
open Go Go.RowKit Go.Maps
def Fs (B:Nat) (t:TypeId) (n k:Nat) (xs:List Value) (u:Value) (w:World):Prop:=w.ownsRow B t n u k xs
theorem Ez (B:Nat) (t:TypeId) (n k:Nat) (xs:List Value):Fre.df Bel (Fs B t n k xs):=⟨fun u w w' h hx=>ao h fun g _ hl=>Below.block hx g hl⟩
theorem au.Hh {w:World} {B:Nat} {d:Drv} {v1 v2:Value} (h:au w B d v1 v2):∀ x∈d.2.2,(Lit.int .u8 x).wf=true:=fun x hx=>by
 obtain ⟨A,cap,rfl,_,_,_,hA⟩:=aj h.rcp
 obtain ⟨j,hj⟩:=xaP hx
 obtain ⟨b,off,_,_,hE⟩:=hA (by have:=(xah.1 hj).1;omega)
 obtain ⟨cs,_,hat⟩:=hE j x hj
 exact hat.2
theorem qm (w:World) (d:Drv) (v1 v2:Value) (h:au w w.heap.size d v1 v2) (hl:d.2.1.length≤1000000∧d.2.2.length≤1000000) :
  Calls Tryz.prog 96 #[.agg (dC d v1 v2).toArray] w fun e w'=>∃ u1 u2,e=.returned (.agg (dC d u1 u2).toArray)∧aG w' w.heap.size d u1 u2∧Below w.heap.size w w':=by
 have HD:=ab h
 clear h
 go_enter Tryz.func96,Tryz.ntmps96
 go_wp2_with (first | ((with_reducible refine ae 1 ?_);(refine aF rfl 26 (.tmp 0) rfl (dC d v1 v2).toArray rfl ?_);intro w1 hn;have H1:=ab hn;clear hn;simp only [xae,xaa,xab,xac]) | ((with_reducible refine ae 2 ?_);(refine aC rfl 26 zcD (by kernel_rfl) ?_);intro w2 hn;have H2:=ab (xad (H1.out.blk.below hn.below H1.out.blk.lt) (xad hn.blk (xad (H1.out.below.trans (xar hn.below H1.out.below.size)) (xad (show w1.heap.size=w.heap.size+1 from H1.out.size) (show w2.heap.size=w1.heap.size+1 from hn.size)))));clear hn;simp only [xae,xaa,xab,xac]))
 refine Fre.b4 (X:=Bel) 7 [(5,Fs w2.heap.size 87 43 d.2.1.length (d.2.1.flatMap nC)),(8,Fs w2.heap.size 5 1 d.2.2.length (d.2.2.flatMap ib))] (by kernel_rfl) (by kernel_rfl) (by intro p hp;simp only [xaD,xaS,or_false] at hp;rcases hp with rfl | rfl<;>exact Ez _ _ _ _ _) (by simp) (by simp) ?_
 simp only [xau,xaC,xay,xaK]
 refine Fre.ag (.pointer (some ⟨w.heap.size,1,none⟩)) (by kernel_rfl) (by kernel_rfl) (by kernel_rfl) (fun _ _=>by kernel_rfl) ?_
 simp only [xae,xaa,xab,xac]
 refine Fre.ag (v1) (by kernel_rfl) (by kernel_rfl) (by kernel_rfl) (fun W9 hW9=>exec_load_cell 23 (.tmp 3) rfl ⟨w.heap.size,1,none⟩ rfl _ _ W9 Tryz.underlying23 rfl ((H2.out.1.below hW9 H2.out.1.lt).cell 1)) ?_
 simp only [xae,xaa,xab,xac]
 refine Fre.dt 5 _ 134 #[v1] (by kernel_rfl) (by kernel_rfl) rfl rfl (fun W=>by kernel_rfl) (fun W hW=>(wv W d.2.1 v1 (HD.out.eD (H2.out.2.2.1.trans (xar hW H2.out.2.2.1.size))).ins hl.1).mono (fun e w' ⟨u,h1,h2,h3⟩=>⟨u,h1,h3,bH h2 (fun g hg=>xaH (Below.size hW) (az h2 hg).1)⟩)) ?_
 simp only [xae,xaa,xab,xac]
 refine Fre.ag (.pointer (some ⟨w.heap.size,2,none⟩)) (by kernel_rfl) (by kernel_rfl) (by kernel_rfl) (fun _ _=>by kernel_rfl) ?_
 simp only [xae,xaa,xab,xac]
 refine Fre.ag (v2) (by kernel_rfl) (by kernel_rfl) (by kernel_rfl) (fun W9 hW9=>exec_load_cell 24 (.tmp 6) rfl ⟨w.heap.size,2,none⟩ rfl _ _ W9 Tryz.underlying24 rfl ((H2.out.1.below hW9 H2.out.1.lt).cell 2)) ?_
 simp only [xae,xaa,xab,xac]
 refine Fre.dt 8 _ 135 #[v2] (by kernel_rfl) (by kernel_rfl) rfl rfl (fun W=>by kernel_rfl) (fun W hW=>(wm W d.2.2 v2 (HD.out.eD (H2.out.2.2.1.trans (xar hW H2.out.2.2.1.size))).rcp hl.2).mono (fun e w' ⟨u,h1,h2,h3⟩=>⟨u,h1,h3,bH h2 (fun g hg=>xaH (Below.size hW) (az h2 hg).1)⟩)) ?_
 simp only [xae,xaa,xab,xac]
 refine Fre.ag (.pointer (some ⟨w.heap.size,1,none⟩)) (by kernel_rfl) (by kernel_rfl) (by kernel_rfl) (fun _ _=>by kernel_rfl) ?_
 simp only [xae,xaa,xab,xac]
 intro w3 hx
 dsimp only [Fre.ended,xaE]
 rintro u5 h5 u8 h8
 have hu5:u5.oneCell'=true:=by obtain ⟨A7,c7,rfl⟩:=nk h5;rfl
 have hu8:u8.oneCell'=true:=by obtain ⟨A7,c7,rfl⟩:=nk h8;rfl
 have H3:=ab (xad (H2.out.1.below hx H2.out.1.lt) (xad (H2.out.2.1.below hx H2.out.2.1.lt) (xad (H2.out.2.2.1.trans (xar hx H2.out.2.2.1.size)) (xad (show w3.ownsRow _ _ _ _ _ _ from h5) (show w3.ownsRow _ _ _ _ _ _ from h8)))))
 clear h5 h8 hx
 go_wp2_with (first | ((with_reducible refine aV 9 5 ?_);(refine bD rfl 23 (.tmp 9) (.tmp 5) rfl w.heap.size (1) 26 (dC d v1 v2).toArray H3.out.1 (by show 1<3;omega) (by kernel_rfl) (u5) hu5 rfl rfl ?_);intro w4 hk hg hz;have o1:=ao H3.out.2.2.2.1 (fun q hq hl9=>hg.block q hl9 (fun e=>by have:=(az H3.out.2.2.2.1 hq).1;have:=xam e;have:=H2.out.2.2.2;omega));have o2:=ao H3.out.2.2.2.2 (fun q hq hl9=>hg.block q hl9 (fun e=>by have:=(az H3.out.2.2.2.2 hq).1;have:=xam e;have:=H2.out.2.2.2;omega));have H4:=ab (xad hk (xad (show Blk w4 w1.heap.size 26 zcD from (hg.block _ (Blk.lt H3.out.2.1) (fun e=>by have:=xam e;have:=H2.out.2.2.2;omega)).trans H3.out.2.1) (xad (H3.out.2.2.1.grown hg H3.out.2.2.1.size (fun q hq=>by have:=xam hq;omega)) (xad o1 o2))));clear hk hg hz o1 o2;simp only [xae,xaa,xab,xac]) | ((with_reducible refine aV 10 8 ?_);(refine bD rfl 24 (.tmp 10) (.tmp 8) rfl w.heap.size (2) 26 (dC d u5 v2).toArray H4.out.1 (by show 2<3;omega) (by kernel_rfl) (u8) hu8 rfl rfl ?_);intro w5 hk hg hz;have o1:=ao H4.out.2.2.2.1 (fun q hq hl9=>hg.block q hl9 (fun e=>by have:=(az H4.out.2.2.2.1 hq).1;have:=xam e;have:=H2.out.2.2.2;omega));have o2:=ao H4.out.2.2.2.2 (fun q hq hl9=>hg.block q hl9 (fun e=>by have:=(az H4.out.2.2.2.2 hq).1;have:=xam e;have:=H2.out.2.2.2;omega));have H5:=ab (xad hk (xad (show Blk w5 w1.heap.size 26 zcD from (hg.block _ (Blk.lt H4.out.2.1) (fun e=>by have:=xam e;have:=H2.out.2.2.2;omega)).trans H4.out.2.1) (xad (H4.out.2.2.1.grown hg H4.out.2.2.1.size (fun q hq=>by have:=xam hq;omega)) (xad o1 o2))));clear hk hg hz o1 o2;simp only [xae]) | ((with_reducible refine ae 11 ?_);(refine aa rfl (.agg ((dC d u5 u8).toArray)) w5 (av 26 (.tmp 1) rfl w.heap.size rfl 26 _ _ w5 H5.out.1 Tryz.underlying26 rfl (by kernel_rfl)) ?_)) | ((with_reducible refine aV 2 11 ?_);(with_reducible refine ak rfl 26 (.tmp 2) (.tmp 11) rfl w1.heap.size zcD (dC d u5 u8).toArray 26 H5.out.2.1 ?_ ?_ ?_ ?_ ?_ ?_);kernel_rfl;rfl;(exact all_oneCell_toArray (fun v hv=>by simp only [dC,xaD,xaS,or_false] at hv;rcases hv with rfl | rfl | rfl;rfl;exact hu5;exact hu8));rfl;rfl;intro w9 hk9 hg9;have o1:=ao H5.out.2.2.2.1 (fun q hq hl9=>hg9.block q hl9 (fun e=>by have:=(az H5.out.2.2.2.1 hq).1;have:=xam e;have:=H2.out.2.2.2;omega));have o2:=ao H5.out.2.2.2.2 (fun q hq hl9=>hg9.block q hl9 (fun e=>by have:=(az H5.out.2.2.2.2 hq).1;have:=xam e;have:=H2.out.2.2.2;omega));have H9:=ab (xad hk9 (xad (H5.out.2.2.1.grown hg9 H5.out.2.2.1.size (fun q hq=>by have:=xam hq;have:=H2.out.2.2.2;omega)) (xad o1 o2)));clear hk9 hg9 o1 o2;simp only [xae,xaa,xab,xac]))
 refine bodyPost_ret (results_cell_row rfl _ _ w1.heap.size 26 (dC d u5 u8).toArray (0,0) _ rfl H9.out.1 Tryz.underlying26 rfl (by kernel_rfl)) rfl ⟨u5,u8,rfl,⟨HD.out.name,HD.out.okn,HD.out.Hh,bH H9.out.2.2.1 (fun g hg=>by have:=(az H9.out.2.2.1 hg).1;have:=H2.out.2.2.2;omega),bH H9.out.2.2.2 (fun g hg=>by have:=(az H9.out.2.2.2 hg).1;have:=H2.out.2.2.2;omega)⟩,H9.out.2.1⟩
end Go.Proofs.YtomnhnmciopiiaaGreat
end
section
namespace Go.Proofs.YtomnhnmciopiiaaGreat
open Go Go.RowKit Go.Maps
theorem pd (w:World) (l:List Itm) (A:Option Addr) (cap:Nat) (h:aH.At w w.heap.size [.slice A l.length cap] l) (hl:∀ x∈l,x.2.2.1.length≤1000000∧x.2.2.2.length≤1000000) (hn:l.length≤1000000) :
  Calls Tryz.prog 62 #[.slice A l.length cap] w fun e w'=>∃ u ls,e=.returned u∧ls.map (·.1)=l∧Mem w w' (gE w.heap.size u ls):=by
 obtain ⟨A',cap',e,_,_,_,hA⟩:=aj h
 injection e with e1 e2 e3
 subst e1 e3
 have HA:=ab hA
 have HL:=ab hl
 clear hA hl e2 h
 obtain ⟨inm,hih,hq0,hq1,hq2⟩:=info_parts kF
 have HJ:=ab (xad hih (xad hq0 (xad hq1 hq2)))
 clear hih hq0 hq1 hq2
 have H0:=ab (Mem.start w)
 go_enter Tryz.func62,Tryz.ntmps62
 go_wp2_with fail
 go_loopw [2,7] (fun x2 x7 wr=>∃ (j:Nat) (ls:List bI) (u:Value),u=x2∧j≤l.length∧x7=.int .i64 (j:Int)∧ls.map (·.1)=l.take j∧Mem w wr [ax w.heap.size 59 23 u ls.length (ls.flatMap tV),Ent.all ls (fv w.heap.size)]) (fun _ x7 _=>l.length-(intOf x7).toNat)
 case atStart=>exact ⟨0,[],_,rfl,by omega,rfl,rfl,(H0.out.sz _).dE _ _ _⟩
 case round =>
  obtain ⟨wo,rfl⟩:∃ wo,wo=wr:=⟨_,rfl⟩
  obtain ⟨j,ls,u,rfl,hj,rfl,hls,hm⟩:=hrel
  have hlj:ls.length≤1000000:=by have:=congrArg List.length hls;rw [xap,xaN] at this;omega
  have HM:=ab hm
  have HLS:=ab hls
  clear hm hls
  have j0:(0:Int)≤(j:Int):=by omega
  by_cases hj2:j<l.length
  ·have j1:(j:Int)<(l.length:Int):=by omega
   obtain ⟨x,hx⟩:∃ x,l[j]?=some x:=⟨_,xai hj2⟩
   obtain ⟨b,off,rfl,hlb,hE⟩:=HA.out (by omega)
   obtain ⟨cs,hr,hatx⟩:=hE j x hx
   obtain ⟨q1,q2,rfl,hxo,hxd⟩:=cF.1 hatx
   obtain ⟨hq1,hq2⟩:=hxd.dK
   have hbnd:=HL.out x (xaj hx)
   have HX:=ab (xad hr (xad hxo hxd))
   have HXX:=ab hx
   have HLB:=ab hlb
   clear hx hE hr hatx hxd
   go_wp2_with (first | ((with_reducible refine ae 9 ?_);(refine aa rfl (.pointer (some ⟨b,off+(j:Int).toNat*23,none⟩)) wo (aJ 22 59 (.tmp 5) (.tmp 7) rfl b off l.length cap (j:Int) .i64 rfl rfl ⟨j0,j1⟩ 23 Tryz.underlying22 cJ wo) ?_;rw [show off+(j:Int).toNat*23=off+j*23 by omega])) | ((with_reducible refine ae 10 ?_);(refine aa rfl (.agg (tC x q1 q2).toArray) wo (ai 59 (.tmp 9) rfl b (off+j*23) rfl (tC x q1 q2) _ wo (Mem.range HM.out HX.out.1 HLB.out) Tryz.underlying59 rfl (ny hxo)) ?_)) | ((with_reducible refine ae 4 ?_);(refine aC rfl 59 zcT (by kernel_rfl) ?_);intro w1 hn;have H1:=ab (Mem.aM HM.out hn);clear hn;simp only [xae,xaa,xab,xac]) | ((with_reducible refine aV 4 10 ?_);(with_reducible refine ak rfl 59 (.tmp 4) (.tmp 10) rfl wo.heap.size zcT (tC x q1 q2).toArray 59 (Mem.blk H1.out 0 rfl) ?_ ?_ ?_ ?_ ?_ ?_);(exact (vI hxo));(exact bP Dw (vI hxo));(exact (Gt x hq1 hq2));rfl;rfl;intro w2 hk hg;have H2:=ab (Mem.st H1.out 0 rfl hk hg);clear hk hg;simp only [xae]))
   refine Fre.b4 (X:=Bel) 8 [(16,Fo w2.heap.size x.2),(17,Dz w2.heap.size x),(18,Ft w2.heap.size x)] (by kernel_rfl) (by kernel_rfl) (by intro p hp;simp only [xaD,xaS,or_false] at hp;rcases hp with rfl | rfl | rfl;exact DW _ _;exact Ed _ _;exact EH _ _) (by simp) (by simp) ?_
   simp only [xau,xaC,xay,xaK]
   refine Fre.ag (u) (by kernel_rfl) (by kernel_rfl) (by kernel_rfl) (fun _ _=>by kernel_rfl) ?_
   simp only [xae,xaa,xab,xac]
   refine Fre.ag (.pointer (some ⟨wo.heap.size,0,none⟩)) (by kernel_rfl) (by kernel_rfl) (by kernel_rfl) (fun _ _=>by kernel_rfl) ?_
   simp only [xae,xaa,xab,xac]
   refine Fre.ag (.agg (bv x.1).toArray) (by kernel_rfl) (by kernel_rfl) (by kernel_rfl) (fun W9 hW9=>(ai 34 (.tmp 12) rfl wo.heap.size (0) rfl (bv x.1) _ W9 (cz (Blk.range (Mem.blk (Mem.call H2.out hW9) 0 rfl))) Tryz.underlying34 rfl (bN hxo))) ?_
   simp only [xae,xaa,xab,xac]
   refine Fre.ag (.pointer (some ⟨wo.heap.size,20,none⟩)) (by kernel_rfl) (by kernel_rfl) (by kernel_rfl) (fun _ _=>by kernel_rfl) ?_
   simp only [xae,xaa,xab,xac]
   refine Fre.ag (.agg (dC x.2 q1 q2).toArray) (by kernel_rfl) (by kernel_rfl) (by kernel_rfl) (fun W9 hW9=>(ai 26 (.tmp 14) rfl wo.heap.size (20) rfl (dC x.2 q1 q2) _ W9 (de hxo (Blk.range (Mem.blk (Mem.call H2.out hW9) 0 rfl))) Tryz.underlying26 rfl (aS x.2 q1 q2))) ?_
   simp only [xae,xaa,xab,xac]
   refine Fre.dt 16 _ 96 #[.agg (dC x.2 q1 q2).toArray] (by kernel_rfl) (by kernel_rfl) rfl rfl (fun W=>by kernel_rfl) (fun W hW=>(qm W x.2 q1 q2 (HX.out.2.2.eD ((Mem.below H2.out).trans (xar hW (Mem.below H2.out).size))) hbnd).mono (fun e w' ⟨u1,u2,h1,h2,h3⟩=>⟨_,h1,h3,(u1,u2),rfl,h2.lower (Below.size hW)⟩)) ?_
   simp only [xae,xaa,xab,xac]
   refine Fre.jo 16 _ 17 _ (by kernel_rfl) rfl (by kernel_rfl) rfl rfl (fun u W hW hu=>Cg (.tmp 13) (.tmp 16) rfl w2.heap.size hxo rfl rfl hu) ?_
   simp only [xae,xaa,xab,xac]
   refine Fre.jo 17 _ 18 _ (by kernel_rfl) rfl (by kernel_rfl) rfl rfl (fun u W hW hu=>C6 (.tmp 17) rfl w2.heap.size hxo rfl hu (Below.size hW)) ?_
   simp only [xae,xaa,xab,xac]
   intro w3 hx
   dsimp only [Fre.ended,xaE]
   rintro u16 _ u17 _ u18 ⟨r,p,rfl,_,hk,ho⟩
   have H3:=ab (Mem.new H2.out hx (ky w.heap.size x.2 p.1 p.2) (ho.lower (Mem.below H2.out).size) (fun b hf=>sL ho hf))
   have hsr:=bU (n:=23) (m:=1) hk (cl hxo) (gQ x (aG.dK ho).1 (aG.dK ho).2)
   have HSR:=ab hsr
   clear hx hk ho hsr
   go_wp2_with (at_builtin;((with_reducible refine ae 19 ?_);refine aE rfl _ _ 22 rfl w.heap.size 59 _ _ 23 88 Tryz.underlying22 HJ.out.1 HJ.out.2.1 HJ.out.2.2.1 HJ.out.2.2.2 rfl (by decide) (u) (ls.length) (ls.flatMap tV) (Mem.own H3.out 2 rfl) ((some ⟨r,0,none⟩)) (1) (1) (tC x p.1 p.2) HSR.out ?hm1 ?hb1 ?hz1 rfl rfl ?_))
   case hm1=>simp only [maxLen];omega
   case hb1=>omega
   case hz1=>exact (Mem.below H3.out).size
   intro u9 w4 own9 gr9 hp9
   have own8:w4.ownsRow w.heap.size 59 23 u9 (ls++[(x,p)]).length ((ls++[(x,p)]).flatMap tV):=by simpa [tV] using own9
   have H4:=ab (Mem.app H3.out 2 rfl own8 gr9 hp9)
   clear own9 own8 gr9 hp9
   go_wp2_with fail
   go_roundw
   case rel=>exact ⟨j+1,ls++[(x,p)],u9,rfl,by omega,by go_num,(by rw [List.map_append,HLS.out,xaB,HXX.out];rfl),Mem.pick (Mem.push (x:=(x,p)) (f:=fv w.heap.size) (Mem.pick H4.out [0,3,2] (by decide) rfl) (oz _ _)) [1,0] (by decide) rfl⟩
   case measure=>simp [intOf];omega
  ·obtain rfl:j=l.length:=by omega
   go_wp2_with fail
   go_ret
   exact ⟨u,ls,rfl,(by rw [HLS.out,xaG]),HM.out⟩
end Go.Proofs.YtomnhnmciopiiaaGreat
end
section
namespace Go.Proofs.YtomnhnmciopiiaaGreat
open Go Go.RowKit Go.Maps
section
variable {w0 w w':World} {L:List Ent}
theorem Mem.alike (h:Mem w0 w L):Alike w0.heap.size w0 w:=fun _ hb=>h.old hb
theorem Mem.lay {α:Type} {M:Lay α} {cs:List Value} {x:α} (h:Mem w0 w L) (hx:M.At w0 w0.heap.size cs x):M.At w w.heap.size cs x:=M.eY (M.alike hx h.alike) h.below.size
theorem Mem.drv {d:Drv} {v1 v2:Value} (h:Mem w0 w L) (hx:au w0 w0.heap.size d v1 v2):au w w.heap.size d v1 v2:=hx.eD h.below
end
def y3 (g:Nat) (s:ByteArray):Ent:=⟨fun b=>b=g,fun w=>dD w g s⟩
theorem dD.lt {w:World} {g:Nat} {s:ByteArray} (h:dD w g s):g<w.heap.size:=by
 obtain ⟨⟨cs,fz,h1⟩,_⟩:=h
 rcases Nat.lt_or_ge g w.heap.size with h2 | h2
 ·exact h2
 ·rw [Array.getElem?_eq_none h2] at h1;cases h1
theorem DN (g:Nat) (s:ByteArray):(y3 g s).Ok:=fun w w' h hk=>by
 have hb:=hk g rfl (dD.lt h)
 exact ⟨by rw [hb];exact h.1,fun j hj=>(xaV hb).trans (h.2 j hj)⟩
theorem ug {w w':World} {g:Nat} {s:ByteArray} (h:dD w' g s) (h1:w.heap.size≤g) (h2:g<w'.heap.size) (hb:Below w.heap.size w w'):Mem w w' [y3 g s] :=
 (Mem.start w).new hb (DN _ _) h fun b hf=>by have e:b=g:=hf;omega
theorem dD.text {w:World} {g cap:Nat} {s:ByteArray} (h:dD w g s):(convert 24 9 (.slice (some ⟨g,0,none⟩) s.size cap)).run Tryz.prog w=.ok (.string s) w:=by
 have h0:=run_convert_bytes_back (P:=Tryz.prog) w 24 9 5 ⟨g,0,none⟩ cap s.data.toList Tryz.underlying24 Tryz.underlying5 Tryz.underlying9 fun k hk=>by
  have hk':k<s.data.toList.length:=hk
  rw [Addr.add_mid,Nat.zero_add,h.2 k (by simpa using hk')]
  simp [List.getD,xai hk']
 simpa using h0
theorem Ew (w:World) (r g cap:Nat) (s:ByteArray) (hb:Blk w r 24 #[.slice (some ⟨g,0,none⟩) s.size cap]) (ht:dD w g s) (hc:s.size≤cap) (c:Hsh) (hcc:ofB [99,108,97,115,115] [s.data.toList]=c) (hs:s.size≤2000) :
  Calls Tryz.prog 85 #[.string ⟨#[99,108,97,115,115]⟩,.slice (some ⟨r,0,none⟩) 1 1] w fun e w'=>e=.returned (.agg (bv c).toArray)∧Below w.heap.size w w':=by
 have hp:lU w w.heap.size (.slice (some ⟨r,0,none⟩) 1 1) [s.data.toList]:=by
  refine ⟨_,1,rfl,xag _,fun _=>⟨r,0,rfl,hb.lt,fun j hj=>?_⟩⟩
  have hj0:j=0:=by simp at hj;omega
  subst hj0
  exact ⟨_,hb.cell 0,(TB.oJ (base:=0) hc ht.lt (s:=s) ht).bytes⟩
 have h:=CF ⟨#[99,108,97,115,115]⟩ [99,108,97,115,115] rfl (by decide) [s.data.toList] (by simpa using xaH hs (by decide)) (by show 1≤1000000000;decide) _ w w.heap.size (xag _) hp
 rwa [hcc] at h
theorem uh (w:World) (g1 g2 c1 c2:Nat) (s1 s2:ByteArray) (h1:dD w g1 s1) (h2:dD w g2 s2) (b:Bool) (hb:decide (s1=s2)=b) :
  Calls Tryz.prog 95 #[.slice (some ⟨g1,0,none⟩) s1.size c1,.slice (some ⟨g2,0,none⟩) s2.size c2] w fun e w'=>e=.returned (.bool b)∧Below w.heap.size w w':=by
 have H1:=ab h1
 have H2:=ab h2
 have HB:=ab hb
 clear h1 h2 hb
 go_enter Tryz.func95,Tryz.ntmps95
 go_wp2_with (first | ((with_reducible refine ae 6 ?_);(refine aa rfl (.string s1) w (eS 24 9 (.tmp 5) rfl _ rfl _ H1.out.text) ?_)) | ((with_reducible refine ae 8 ?_);(refine aa rfl (.string s2) w (eS 24 9 (.tmp 7) rfl _ rfl _ H2.out.text) ?_)))
 go_ret
 refine ⟨?_,xao _ _⟩
 have e:(s1.toList == s2.toList)=b:=by
  rw [← HB.out,ByteArray.toList_eq,ByteArray.toList_eq,Bool.eq_iff_iff,beq_iff_eq,decide_eq_true_iff]
  exact ⟨y5,fun h=>by rw [h]⟩
 show Ending.returned (.bool (s1.toList == s2.toList))=_
 rw [e]
section
variable {hof:Drv→Hsh} {l:List Itm} {d:Drv}
theorem Fv (h:dp hof l=false):dq hof l d=([],aW,2):=by
 unfold dq
 rw [h]
 rfl
theorem Bc (h:dp hof l=true) (hp:¬ bF d=0):dq hof l d=([],aW,bF d):=by
 unfold dq
 rw [if_pos h,if_neg hp]
theorem AZ (h:dp hof l=true) (hp:bF d=0) {c:Hsh} (hc:c∈aA d.2.1) (hn:(aY l c).isSome=false):dq hof l d=([],aW,5):=by
 unfold dq
 rw [if_pos h,if_pos hp,if_neg (fun h9=>by have:=xaO.1 h9 c hc;rw [hn] at this;cases this)]
theorem DD (h:dp hof l=true) (hp:bF d=0) (hc:∀ c∈aA d.2.1,(aY l c).isSome=true) {x:Itm} {c:Hsh} (e:hof d=c) (hf:aY l c=some x) (ht:¬ a8 x.2=a8 d):dq hof l d=([],aW,14):=by
 subst e
 unfold dq
 rw [if_pos h,if_pos hp,if_pos (xaO.2 hc),hf]
 exact if_neg ht
theorem tR (h:dp hof l=true) (hp:bF d=0) (hc:∀ c∈aA d.2.1,(aY l c).isSome=true) {x:Itm} {c:Hsh} (e:hof d=c) (hf:aY l c=some x) (ht:a8 x.2=a8 d):dq hof l d=(l,c,0):=by
 subst e
 unfold dq
 rw [if_pos h,if_pos hp,if_pos (xaO.2 hc),hf]
 exact if_pos ht
theorem oV (h:dp hof l=true) (hp:bF d=0) (hc:∀ c∈aA d.2.1,(aY l c).isSome=true) {c:Hsh} (e:hof d=c) (hf:aY l c=none):dq hof l d=(l++[(c,d)],c,0):=by
 subst e
 unfold dq
 rw [if_pos h,if_pos hp,if_pos (xaO.2 hc),hf]
theorem EY (h:dp hof l=true) {x:Itm} (hx:x∈l):bF x.2=0:=by
 obtain ⟨i,hi⟩:=xaP hx
 have:=(Dr.so (su h) (i:=i) (x:=itP x) (by rw [xaL,hi];rfl)).1
 exact of_decide_eq_true this
end
theorem ya (w:World) (l:List Itm) (A:Option Addr) (cap:Nat) (h:aH.At w w.heap.size [.slice A l.length cap] l) (hl:∀ x∈l,x.2.2.1.length≤1000000) (b:Bool) (hb:dp bA l=b) :
  Calls Tryz.prog 19 #[.slice A l.length cap] w fun e w'=>e=.returned (.bool b)∧Below w.heap.size w w':=hb▸sv w l A cap h hl
theorem vo {w w':World} {t:TypeId} {s k:Nat} {u:Value} {xs:List Value} (h:w'.ownsRow w.heap.size t s u k xs) (hb:Below w.heap.size w w'):Mem w w' [ax w.heap.size t s u k xs] :=
 (Mem.start w).new hb (gz _ _ _ _ _ _) h fun _ hf=>az h hf
theorem Bz (w:World) (d:Drv) (v1 v2:Value) (h:au w w.heap.size d v1 v2) (hl:d.2.1.length≤1000000) :
  Calls Tryz.prog 46 #[.agg (dC d v1 v2).toArray] w fun e w'=>∃ A cap,e=.returned (.slice A (aA d.2.1).length cap)∧Mem w w' [ax w.heap.size 34 20 (.slice A (aA d.2.1).length cap) (aA d.2.1).length ((aA d.2.1).flatMap bv)] :=
 (iI w d v1 v2 h hl).mono fun _ _ ⟨_,h1,h2,h3⟩=>by
  obtain ⟨A,cap,rfl⟩:=aI h2
  exact ⟨A,cap,h1,vo h2 h3⟩
theorem Fe (w:World) (l:List Itm) (v:Value) (h:aH.At w w.heap.size [v] l) (c:Hsh) (hc:okH c) (hl:∀ x∈l,x.2.2.1.length≤1000000∧x.2.2.2.length≤1000000) (d:Drv) (hd:findD l c=d) (b:Bool) (hb:(aY l c).isSome=b) :
  Calls Tryz.prog 31 #[v,.agg (bv c).toArray] w fun e w'=>∃ u1 u2,e=.returned (.tuple #[.agg (dC d u1 u2).toArray,.bool b])∧u1.oneCell'=true∧u2.oneCell'=true∧Mem w w' [lq w.heap.size d u1 u2] :=
 (BU w l v h c hc hl).mono fun _ _ ⟨u1,u2,h1,h2,h3⟩=>by
  subst hd hb
  exact ⟨u1,u2,h1,(aG.dK h2).1,(aG.dK h2).2,BI h2 h3⟩
theorem Ge (w:World) (d:Drv) (v1 v2:Value) (h:au w w.heap.size d v1 v2) (hl:d.2.1.length≤1000000∧d.2.2.length≤1000000) :
  Calls Tryz.prog 96 #[.agg (dC d v1 v2).toArray] w fun e w'=>∃ u1 u2,e=.returned (.agg (dC d u1 u2).toArray)∧aG w' w.heap.size d u1 u2∧Below w.heap.size w w':=qm w d v1 v2 h hl
def ld (w:World) (r:List Itm×Hsh×Int) (e:Ending) (w':World):Prop :=
 if r.2.2=0 then ∃ u ls,e=.returned (.tuple #[u,.agg (bv r.2.1).toArray])∧ls.map (·.1)=r.1∧Mem w w' (gE w.heap.size u ls) else e=.panicked [{ v:=eO r.2.2,recovered:=false }]∧Below w.heap.size w w'
theorem ld.no {w w':World} {r:List Itm×Hsh×Int} {k:Int} {l:List Itm} {h:Hsh} (hr:r=(l,h,k)) (hk:k ≠ 0) {e:Ending} (he:e=.panicked [{ v:=eO k,recovered:=false }]) (hb:Below w.heap.size w w'):ld w r e w':=by
 subst hr
 unfold ld
 rw [if_neg hk]
 exact ⟨he,hb⟩
theorem ld.yes {w w':World} {r:List Itm×Hsh×Int} {l:List Itm} {h:Hsh} (hr:r=(l,h,0)) {e:Ending} {u:Value} {ls:List bI} (he:e=.returned (.tuple #[u,.agg (bv h).toArray])) (hl:ls.map (·.1)=l) (hm:Mem w w' (gE w.heap.size u ls)):ld w r e w':=by
 subst hr
 unfold ld
 rw [if_pos rfl]
 exact ⟨u,ls,he,hl,hm⟩
end Go.Proofs.YtomnhnmciopiiaaGreat
end
section
namespace Go.Proofs.YtomnhnmciopiiaaGreat
open Go Go.RowKit
def lst (n m:Nat):Array Bool:=((xaf n).map fun j=>m.testBit j).toArray
theorem pW (n m j:Nat) (d:Bool):(lst n m).getD j d=if j<n then m.testBit j else d:=by
 unfold lst
 rw [xbF,xa0,xaL]
 by_cases h:j<n
 ·rw [List.getElem?_range h,if_pos h]
  rfl
 ·rw [xbH (by simp;omega),if_neg h]
  rfl
theorem Cw (n:Nat):lst n 0=xbu n false:=by
 unfold lst
 apply xbZ
 intro j
 rw [xa0,xaL,Array.getElem?_replicate]
 by_cases h:j<n
 ·rw [List.getElem?_range h,if_pos h]
  simp
 ·rw [xbH (by simp;omega),if_neg h]
  rfl
theorem th (n m i:Nat):(lst n m).setIfInBounds i true=lst n (m ||| 1 <<< i):=by
 unfold lst
 apply xbZ
 intro j
 rw [xaa,xa0,xa0,List.getElem?_set,xaL,xaL]
 by_cases h:j<n
 ·rw [List.getElem?_range h]
  simp only [Option.map_some,xap,List.length_range]
  by_cases hij:i=j
  ·subst hij
   rw [if_pos rfl,if_pos h,Nat.testBit_or,xcy]
   simp
  ·rw [if_neg hij,Nat.testBit_or,xcy]
   have:(decide (j ≥ i)&&Nat.testBit 1 (j-i))=false:=by
    by_cases hji:i≤j
    ·have:j-i ≠ 0:=by omega
     obtain ⟨k,hk⟩:=Nat.exists_eq_succ_of_ne_zero this
     rw [hk]
     simp [Nat.testBit_succ]
    ·simp [hji]
   rw [this,Bool.or_false]
 ·rw [xbH (l:=xaf n) (by simp;omega)]
  simp only [Option.map_none,xap,List.length_range]
  by_cases hij:i=j
  ·subst hij
   rw [if_pos rfl,if_neg h]
  ·rw [if_neg hij]
def oe (ops:Array Oper) (m i:Nat):Bool:=!m.testBit i&&((ops[i]?).map (·.after.all fun e=>!xbS .any e||(decide (e.on<ops.size)&&m.testBit e.on))).getD false
theorem oL (ops:Array Oper) (m:Nat):xa4 .any ops (lst ops.size m)=(xaf ops.size).filter (oe ops m):=by
 unfold xa4
 refine List.filter_congr fun i hi=>?_
 have hi:=xba.1 hi
 unfold oe
 rw [pW,if_pos hi]
 congr 2
 congr 1
 funext o
 congr 1
 funext e
 rw [pW]
 congr 1
 by_cases h:e.on<ops.size
 ·rw [if_pos h]
  simp [h]
 ·rw [if_neg h]
  simp [h]
def BY (ops:Array Oper) (m i:Nat):Bool:=match ops[i]? with
 | none=>false
 | some oi=>(xaf ops.size).all fun j=>j == i||m.testBit j||match ops[j]? with
   | some oj=>oj.after.any (fun e=>xbS .any e&&e.on == i)||oi.apart ops oj
   | none=>true
theorem BZ {ops:Array Oper} {m i:Nat} (h:BY ops m i=true):Region.free .any ops (lst ops.size m) i=true:=by
 unfold BY at h
 unfold Region.free
 cases e:ops[i]? with
 | none=>rw [e] at h;cases h
 | some oi =>
  rw [e] at h
  simp only at h ⊢
  rw [xaO] at h ⊢
  intro j hj
  rw [pW,if_pos (xba.1 hj)]
  exact h j hj
section
variable {P:Program} {ops:Array Oper} {Q:Exit→Act→World→Prop} {w0:World} {L:List Ent} {fuel:Nat} {m:Nat} {a:Act} {w:World}
def HD (P:Program) (ops:Array Oper) (Q:Exit→Act→World→Prop) (w0:World) (L:List Ent) (fuel:Nat) (m:Nat) (a:Act) (w:World):Prop :=
 (∀ d v c (a:Act) w,Q (.panic c) (a.put d v) w→Q (.panic c) a w)→xbE ops=true→wpAnyH P .any ops Q (fun W=>Mem w0 W L) fuel (lst ops.size m) a w
theorem mj {id:Nat} (n:Nat) (hn:ops.size=n) (hm:P.follows .mixedOrders=true) (hQ:∀ d v c (a:Act) w,Q (.panic c) (a.put d v) w→Q (.panic c) a w) (hs:xbE ops=true) (hS:Mem w0 w L)
  (h:∀ w1,Below w.heap.size w w1→Mem w0 w1 L→HD P ops Q w0 L n 0 a w1):(Code.region id ops true).wp P Q a w:=by
 have hb:Below w.heap.size w w.drew:=(xao _ w).drew
 refine wp_region_held (S:=fun W=>Mem w0 W L) hm ?_
 have h2:=h w.drew hb (hS.call hb) hQ hs
 rw [← hn,Cw] at h2
 exact h2
theorem ED {ops:Array Oper} {m i:Nat} {o:Oper} (hi:ops[i]?=some o) (hr:oe ops m i=true):(xa4 .any ops (lst ops.size m)).contains i=true:=by
 rw [oL,List.contains_iff_mem]
 exact List.mem_filter.2 ⟨xba.2 (xa2.1 hi).1,hr⟩
theorem j6 {ops:Array Oper} {i:Nat} {o:Oper} {rest:List Oper} (h:ops.toList.drop i=o :: rest):ops[i]?=some o:=by
 have h2:(ops.toList.drop i)[0]?=some o:=by rw [h];rfl
 rw [List.getElem?_drop] at h2
 rw [← xa7]
 exact h2
theorem bn (i m':Nat) (o:Oper) (v:Value) {rest:List Oper} (hi9:ops.toList.drop i=o :: rest) (hf:(BY ops m i&&oe ops m i&&xaq o (yielded ops a.tmps)&&(m ||| 1 <<< i) == m')=true)
  (hx:∀ W9,Mem w0 W9 L→(execOp a.eval o).run P W9=.ok (.value v) W9) (hS:Mem w0 w L) (h:HD P ops Q w0 L fuel m' (a.put o.dst v) w):HD P ops Q w0 L (fuel+1) m a w:=by
 have hi:=j6 hi9
 simp only [xaw,beq_iff_eq] at hf
 intro hQ hs
 refine wpAnyH_take hi hs (BZ hf.1.1.1) (ED hi hf.1.1.2) (fun c a w=>hQ o.dst v c a w) (.inl ⟨hf.1.2,hx⟩) hS ?_
 rw [th,hf.2]
 exact h hQ hs
theorem pJ {i m':Nat} {o:Oper} (hi:ops[i]?=some o) (hf:((xaf ops.size).filter (oe ops m) == [i]&&xaq o (yielded ops a.tmps)&&(m ||| 1 <<< i) == m')=true)
  (h:(∀ d v c (a:Act) w,Q (.panic c) (a.put d v) w→Q (.panic c) a w)→xbE ops=true→Oper.wp P o a w (fun a' w'=>Mem w0 w' L∧wpAnyH P .any ops Q (fun W=>Mem w0 W L) fuel (lst ops.size m') a' w') Q):HD P ops Q w0 L (fuel+1) m a w:=by
 simp only [xaw,beq_iff_eq] at hf
 intro hQ hs
 refine wpAnyH_all ((oL ops m).trans hf.1.1) (by simp) fun j hj=>?_
 rw [xan.1 hj,th,hf.2]
 unfold wpOp
 simp only [hi,hf.1.2,if_true]
 exact .inl (h hQ hs)
theorem oB (i m':Nat) (o:Oper) {rest:List Oper} (hi9:ops.toList.drop i=o :: rest) (hf:((xaf ops.size).filter (oe ops m) == [i]&&xaq o (yielded ops a.tmps)&&(m ||| 1 <<< i) == m')=true) (f:FuncId) (args:Array Value) (hrun:(execOp a.eval o).run P w=.ok (.enter f args) w)
  {R:Ending→World→Prop} (hc:Calls P f args w R) (h:∀ e w',R e w'→∃ v,e=.returned v∧Mem w0 w' L∧HD P ops Q w0 L fuel m' (a.put o.dst v) w'):HD P ops Q w0 L (fuel+1) m a w:=by
 refine pJ (j6 hi9) hf fun hQ hs=>?_
 unfold Oper.wp
 rw [hrun,Oper.upon_enter]
 refine hc.mono fun e w' he=>?_
 obtain ⟨v,rfl,h1,h2⟩:=h e w' he
 exact ⟨h1,h2 hQ hs⟩
theorem gY (i m':Nat) (o:Oper) (v:Value) (w':World) {rest:List Oper} (hi9:ops.toList.drop i=o :: rest) (hf:((xaf ops.size).filter (oe ops m) == [i]&&xaq o (yielded ops a.tmps)&&(m ||| 1 <<< i) == m')=true) (hrun:(execOp a.eval o).run P w=.ok (.value v) w')
  (hS:Mem w0 w' L) (h:HD P ops Q w0 L fuel m' (a.put o.dst v) w'):HD P ops Q w0 L (fuel+1) m a w:=by
 refine pJ (j6 hi9) hf fun hQ hs=>?_
 unfold Oper.wp
 rw [hrun]
 exact ⟨hS,h hQ hs⟩
theorem gX (hr:(xaf ops.size).all (fun i=>m.testBit i)=true) (h:Q .normal a w):HD P ops Q w0 L fuel m a w:=fun _ _=>wpAnyH_done (by
 rw [oL,List.filter_eq_nil_iff]
 intro i hi
 have:=xaO.1 hr i hi
 simp [oe,this]) h fuel
end
end Go.Proofs.YtomnhnmciopiiaaGreat
end
section
namespace Go.Proofs.YtomnhnmciopiiaaGreat
open Go Go.RowKit
section
variable {P:Program} {ops:Array Oper} {Q:Exit→Act→World→Prop} {w0:World} {L:List Ent} {fuel:Nat} {m:Nat} {a:Act} {w:World}
theorem gD (i m':Nat) (o:Oper) {rest:List Oper} (hi9:ops.toList.drop i=o :: rest) (hf:((xaf ops.size).filter (oe ops m) == [i]&&xaq o (yielded ops a.tmps)&&(m ||| 1 <<< i) == m')=true) (ty:TypeId) (x y:Operand) (ho:o.op=.store ty x y) {g:Nat} {t:TypeId} {old new:Array Value} (hb:Blk w g t old) (hi:(P.info? ty).map (·.size)=some new.size) (he:old.size=new.size) (h1:new.all (·.oneCell')=true)
  (hx:a.eval x=.pointer (some ⟨g,0,none⟩)) (hy:a.eval y=.agg new)
  (h:∀ w',Blk w' g t new→w.grownBy w' (some g)→Mem w0 w' L∧HD P ops Q w0 L fuel m' (a.put o.dst undef) w'):HD P ops Q w0 L (fuel+1) m a w :=
 pJ (j6 hi9) hf fun hQ hs=>by
  have h2:=h _ (hb.oN new) ⟨rfl,rfl,rfl,by simp [World.setRow],fun k _ hne=>setRow_other w g k new (fun e=>hne (by rw [e]))⟩
  have hrun:=run_storeVar_row (P:=P) w g t ty old new hb hi he h1
  unfold Oper.wp execOp
  simp only [ho,hx,hy,Instr.storeAt,xbM,xaI,xaQ,xat,hrun]
  exact ⟨h2.1,h2.2 hQ hs⟩
def HDo (P:Program) (ops:Array Oper) (Q:Exit→Act→World→Prop) (w0:World) (L:List Ent) (fuel m:Nat) (a:Act) (w:World) (i:Nat):Prop :=
 (∀ d v c (a:Act) w,Q (.panic c) (a.put d v) w→Q (.panic c) a w)→xbE ops=true→wpOp P ops Q i (fun a' w'=>Mem w0 w' L∧wpAnyH P .any ops Q (fun W=>Mem w0 W L) fuel ((lst ops.size m).setIfInBounds i true) a' w') a w
theorem pI (l:List Nat) (hf:((xaf ops.size).filter (oe ops m) == l&&!l.isEmpty)=true) (h:∀ i∈l,HDo P ops Q w0 L fuel m a w i):HD P ops Q w0 L (fuel+1) m a w:=by
 simp only [xaw,beq_iff_eq,Bool.not_eq_true',List.isEmpty_eq_false_iff] at hf
 exact fun hQ hs=>wpAnyH_all ((oL ops m).trans hf.1) hf.2 fun i hi=>h i hi hQ hs
theorem B9 {i m':Nat} {o:Oper} (hi:ops[i]?=some o) (hf:(xaq o (yielded ops a.tmps)&&(m ||| 1 <<< i) == m')=true)
  (h:(∀ d v c (a:Act) w,Q (.panic c) (a.put d v) w→Q (.panic c) a w)→xbE ops=true→Oper.wp P o a w (fun a' w'=>Mem w0 w' L∧wpAnyH P .any ops Q (fun W=>Mem w0 W L) fuel (lst ops.size m') a' w') Q):HDo P ops Q w0 L fuel m a w i:=by
 simp only [xaw,beq_iff_eq] at hf
 intro hQ hs
 rw [th,hf.2]
 unfold wpOp
 simp only [hi,hf.1,if_true]
 exact .inl (h hQ hs)
theorem yw (i m':Nat) (o:Oper) {rest:List Oper} (hi9:ops.toList.drop i=o :: rest) (hf:(xaq o (yielded ops a.tmps)&&(m ||| 1 <<< i) == m')=true) (f:FuncId) (args:Array Value) (hrun:(execOp a.eval o).run P w=.ok (.enter f args) w)
  {R:Ending→World→Prop} (hc:Calls P f args w R) (h:∀ e w',R e w'→∃ v,e=.returned v∧Mem w0 w' L∧HD P ops Q w0 L fuel m' (a.put o.dst v) w'):HDo P ops Q w0 L fuel m a w i:=by
 refine B9 (j6 hi9) hf fun hQ hs=>?_
 unfold Oper.wp
 rw [hrun,Oper.upon_enter]
 refine hc.mono fun e w' he=>?_
 obtain ⟨v,rfl,h1,h2⟩:=h e w' he
 exact ⟨h1,h2 hQ hs⟩
theorem iL (i m':Nat) (o:Oper) (v:Value) (w':World) {rest:List Oper} (hi9:ops.toList.drop i=o :: rest) (hf:(xaq o (yielded ops a.tmps)&&(m ||| 1 <<< i) == m')=true) (hrun:(execOp a.eval o).run P w=.ok (.value v) w')
  (hS:Mem w0 w' L) (h:HD P ops Q w0 L fuel m' (a.put o.dst v) w'):HDo P ops Q w0 L fuel m a w i:=by
 refine B9 (j6 hi9) hf fun hQ hs=>?_
 unfold Oper.wp
 rw [hrun]
 exact ⟨hS,h hQ hs⟩
end
end Go.Proofs.YtomnhnmciopiiaaGreat
end
section
namespace Go.Proofs.YtomnhnmciopiiaaGreat
open Go Go.RowKit
section
variable {P:Program} {ops:Array Oper} {Q:Exit→Act→World→Prop} {w0:World} {L:List Ent} {fuel:Nat} {m:Nat} {a:Act} {w:World}
theorem mi (i m':Nat) (o:Oper) {rest:List Oper} (hi9:ops.toList.drop i=o :: rest) (hf:((List.range ops.size).filter (oe ops m) == [i]&&Region.wanted o (yielded ops a.tmps)&&(m ||| 1 <<< i) == m')=true) (s x:Operand) (t:TypeId)
  (ho:o.op=.call { callee:=.builtin .append,args:=#[s,x],argTypes:=#[t,t] })
  (base:Nat) (e:TypeId) (inf:TypeInfo) (z:Value) (size bytes:Nat) (ht:P.underlying t=some (.slice e)) (hi:P.info? e=some inf) (hz:inf.zero=some z)
  (hsize:inf.size=size) (hby:inf.bytes=bytes) (hzs:z.cells.size=size) (hsz:0<size) {v:Value} {n:Nat} {xs:List Value} (hown:w.ownsRow base e size v n xs)
  {A:Option Addr} {k c:Nat} {news:List Value} (hsrc:eZ w size A k c news) (h63:n+k≤maxLen) (hbytes:(n+k)*bytes≤140737488355328) (hbase:base≤w.heap.size)
  (hs:a.eval s=v) (hx:a.eval x=.slice A k c)
  (h:∀ v' w',w'.ownsRow base e size v' (n+k) (xs++news)→w.grownBy w' v.ownBlock→(v'.ownBlock=v.ownBlock∨v'.ownBlock=some w.heap.size)→Mem w0 w' L∧HD P ops Q w0 L fuel m' (a.put o.dst v') w'):HD P ops Q w0 L (fuel+1) m a w :=
 pJ (j6 hi9) hf fun hQ hs9=>by
  obtain ⟨v',w',hr,h2,h3,h4,_⟩:=qA (P:=P) (w:=w) base t o.type e inf z size bytes ht hi hz hsize hby hzs hsz v n xs hown A k c news hsrc h63 hbytes hbase
  have h5:=h v' w' h2 h3 h4
  unfold Oper.wp execOp
  simp only [ho,resolve,invoke,builtin,Sem.run_bind,Sem.run_pure,Result.andThen_ok,List.map_toArray,List.map_cons,List.map_nil,hs,hx,hr]
  exact ⟨h5.1,h5.2 hQ hs9⟩
theorem kE (i m':Nat) (o:Oper) {rest:List Oper} (hi9:ops.toList.drop i=o :: rest) (hf:((List.range ops.size).filter (oe ops m) == [i]&&Region.wanted o (yielded ops a.tmps)&&(m ||| 1 <<< i) == m')=true) (ty:TypeId) (x y:Operand) (ho:o.op=.store ty x y) {g k:Nat} {t:TypeId} {cs:Array Value} (hb:Blk w g t cs) (hi:k<cs.size) (hs:(P.info? ty).map (·.size)=some 1) (v:Value) (h1:v.oneCell'=true)
  (hx:a.eval x=.pointer (some ⟨g,k,none⟩)) (hy:a.eval y=v)
  (h:∀ w',Blk w' g t (cs.setIfInBounds k v)→w.grownBy w' (some g)→Mem w0 w' L∧HD P ops Q w0 L fuel m' (a.put o.dst undef) w'):HD P ops Q w0 L (fuel+1) m a w :=
 pJ (j6 hi9) hf fun hQ hs9=>by
  have hr:(storeVar ty ⟨g,k,none⟩ v).run P w=.ok () (w.setCell ⟨g,k,none⟩ v):=by
   have:=run_storeCells_cells (P:=P) g k [v] 0 w (fun j hj=>by
    have hj0:j=0:=by simpa using hj
    subst hj0
    rw [Nat.add_zero,hb.cell,Array.getElem?_eq_getElem hi]
    rfl) (fun j _=>hb.frozen _) (fun u hu=>by rw [List.mem_singleton.1 hu];exact h1)
   have hc:v.cells=#[v]:=by cases v<;>first | rfl | cases h1
   cases hq:P.info? ty with
   | none=>simp [hq] at hs
   | some j =>
    have hs:j.size=1:=by simpa [hq] using hs
    simp only [Nat.add_zero] at this
    simp [storeVar,sizeOf,typeInfo,hq,hc,hs,this]
    rfl
  have h2:=h _ (hb.gP k v) ⟨rfl,rfl,rfl,by simp [World.setCell],fun k' _ hne=>Below.heap_setCell w ⟨g,k,none⟩ v k' (fun e=>hne (by rw [e]))⟩
  unfold Oper.wp execOp
  simp only [ho,hx,hy,Instr.storeAt,Instr.sureAddr,Sem.run_bind,Sem.run_pure,Result.andThen_ok,hr]
  exact ⟨h2.1,h2.2 hQ hs9⟩
end
section
variable {P:Program} {ops:Array Oper} {rest:List Oper} {o:Oper} {a:Act} {w:World} {Q:Exit→Act→World→Prop}
theorem lY (hw:Region.wanted o (yielded ops a.tmps)=true) (f:FuncId) (args:Array Value) (hrun:(execOp a.eval o).run P w=.ok (.enter f args) w) {R:Ending→World→Prop} (hc:Calls P f args w R)
  (h:∀ e w',R e w'→∃ c,e=.panicked c∧Q (.panic c) a w'):wpList P ops Q (o :: rest) a w :=
 iZ hw fun K hK=>by
  unfold Oper.wp
  rw [hrun,Oper.upon_enter]
  refine hc.mono fun e w' hr=>?_
  obtain ⟨c,rfl,h2⟩:=h e w' hr
  exact h2
theorem pn {fn:Func} {R:Ending→World→Prop} {c:List PanicEntry} (h:R (.panicked c) w) (hq:Q (.panic c) a w=bodyPost P fn R (.panic c) a w:=by first | (simp +zetaDelta only [Exit.then,Exit.inBlock];done) | (simp +zetaDelta only [Exit.then,Exit.inBlock];rfl) | rfl) (hd:a.defers=[]:=by rfl):Q (.panic c) a w:=by
 rw [hq]
 exact ⟨hd,h⟩
end
end Go.Proofs.YtomnhnmciopiiaaGreat
end
section
namespace Go.Proofs.YtomnhnmciopiiaaGreat
open Go Go.RowKit
def kO:List (List Value)→List (Nat×Value)→List (List Value)
 | segs,[]=>segs
 | segs,(i,v) :: r=>kO (segs.set i v.cells.toList) r
theorem nG:∀ (segs:List (List Value)) (i:Nat) (s l:List Value),segs[i]?=some s→(segs.set i l).flatten=segs.flatten.take ((segs.take i).map (·.length)).sum++l++segs.flatten.drop (((segs.take i).map (·.length)).sum+s.length)
 | [],i,s,l,h=>by simp at h
 | x :: segs,0,s,l,h=>by
  simp only [xa3,Option.some.injEq] at h
  subst h
  simp
 | x :: segs,i+1,s,l,h=>by
  rw [xbs] at h
  have ih:=nG segs i s l h
  rw [xac,List.flatten_cons,ih,xau,xa9,List.sum_cons,List.flatten_cons]
  rw [List.take_append,List.drop_append]
  have e1:x.length+((segs.take i).map (·.length)).sum-x.length=((segs.take i).map (·.length)).sum:=by omega
  have e2:x.length+((segs.take i).map (·.length)).sum+s.length-x.length=((segs.take i).map (·.length)).sum+s.length:=by omega
  have e3:x.drop (x.length+((segs.take i).map (·.length)).sum+s.length)=[]:=List.drop_eq_nil_of_le (by omega)
  have e4:x.take (x.length+((segs.take i).map (·.length)).sum)=x:=xav (by omega)
  rw [e1,e2,e3,e4,List.nil_append]
  simp only [xaR]
theorem pH:∀ (segs:List (List Value)) (i:Nat) (s:List Value),segs[i]?=some s→((segs.take i).map (·.length)).sum+s.length≤segs.flatten.length
 | [],i,s,h=>by simp at h
 | x :: segs,0,s,h=>by
  simp only [xa3,Option.some.injEq] at h
  subst h
  simp
 | x :: segs,i+1,s,h=>by
  rw [xbs] at h
  have ih:=pH segs i s h
  rw [xau,xa9,List.sum_cons,List.flatten_cons,xak]
  omega
theorem rP {place:Nat→Option (Nat×Nat)} (lens:List Nat) (hp:∀ (i n:Nat),lens[i]?=some n→place i=some ((lens.take i).sum,n)) :
  ∀ (parts:List (Nat×Value)) (segs:List (List Value)),segs.map (·.length)=lens→(∀ p∈parts,lens[p.1]?=some p.2.cells.size)→Instr.fill place segs.flatten.toArray parts=some (kO segs parts).flatten.toArray
 | [],segs,_,_=>by unfold Instr.fill kO;rfl
 | (i,v) :: r,segs,hl,hs=>by
  have h1:=hs (i,v) (by simp)
  have h2:∃ s,segs[i]?=some s∧s.length=v.cells.size:=by
   rw [← hl,xaL] at h1
   cases hq:segs[i]? with
   | none=>rw [hq] at h1;cases h1
   | some s=>rw [hq] at h1;exact ⟨s,rfl,xam h1⟩
  obtain ⟨s,hsi,hsl⟩:=h2
  have hoff:((segs.take i).map (·.length)).sum=(lens.take i).sum:=by rw [← hl,List.map_take]
  have hcut:=nG segs i s v.cells.toList hsi
  have hle:(lens.take i).sum+v.cells.size≤segs.flatten.length:=by
   have h3:=pH segs i s hsi
   rw [hoff] at h3
   omega
  rw [kB place _ i v r (lens.take i).sum (hp i _ h1) (by simpa using hle)]
  have e:(segs.flatten.toArray.toList.take (lens.take i).sum++v.cells.toList++segs.flatten.toArray.toList.drop ((lens.take i).sum+v.cells.size))=(segs.set i v.cells.toList).flatten:=by
   rw [hcut,hoff,hsl]
  rw [e]
  have hl2:(segs.set i v.cells.toList).map (·.length)=lens:=by
   rw [List.map_set,hl]
   have:lens.set i v.cells.toList.length=lens:=by
    apply List.ext_getElem?
    intro k
    rw [List.getElem?_set]
    split
    ·rename_i e2
     subst e2
     have:=(xah.1 h1).1
     rw [if_pos this,h1]
     simp
    ·rfl
   exact this
  have:=rP lens hp r (segs.set i v.cells.toList) hl2 (fun p hpm=>hs p (by simp [hpm]))
  rw [this,kO]
theorem qS {P:Program} {ρ:Operand→Value} {o:Oper} (t:TypeId) (xs:Array (Nat×Operand)) (ho:o.op=.build t xs) {fields:Array Field} {places:Array (Nat×Nat)} (zs:List (List Value)) (lens:List Nat) (hlz:zs.map (·.length)=lens) (ht:P.underlying t=some (.struct fields)) (hz:∀ w,(zeroValue t).run P w=.ok (.agg zs.flatten.toArray) w)
  (hpl:∀ w,(fields.mapM fun f=>do pure (f.offset,← sizeOf f.type):Sem (Array (Nat×Nat))).run P w=.ok places w) (hpp:(lens.zipIdx.map fun p=>((lens.take p.2).sum,p.1))=places.toList) (parts:List (Nat×Value)) (hx:(xs.map fun (i,x)=>(i,ρ x))=parts.toArray) (hs:∀ p∈parts,lens[p.1]?=some p.2.cells.size) {cs:List Value} (hcs:(kO zs parts).flatten=cs) (w:World) :
  (execOp ρ o).run P w=.ok (.value (.agg cs.toArray)) w:=by
 subst hcs
 refine ur t xs ho ht hz hpl parts hx ?_ w
 refine rP lens (fun i n hi=>?_) parts zs hlz hs
 have h1:places.toList[i]?=some ((lens.take i).sum,n):=by
  rw [← hpp,xaL,List.getElem?_zipIdx,hi]
  simp
 simpa using h1
end Go.Proofs.YtomnhnmciopiiaaGreat
end
section
namespace Go.Proofs.YtomnhnmciopiiaaGreat
open Go Go.RowKit Go.Maps
attribute [local irreducible] wpList
theorem au.Ey {w:World} {B:Nat} {d:Drv} {v1 v2:Value} (h:au w B d v1 v2):∀ x∈d.2.1,okN x:=fun x hx=>by
 obtain ⟨cs,hat⟩:=fo h.ins hx
 exact (bZ.1 hat).2
theorem BS {l:List Itm} {c:Hsh} (h:aY l c=none):findD l c=(⟨#[]⟩,[],[]):=by
 unfold findD
 unfold aY at h
 rw [h]
 rfl
theorem zg {ρ:Operand→Value} {o:Oper} (x y:Operand) (ho:o.op=.build 59 #[(0,x),(1,y)]) {c:Hsh} {d:Drv} {v1 v2:Value} (hc:okH c) (hx:ρ x=.agg (bv c).toArray) (hy:ρ y=.agg (dC d v1 v2).toArray) (W:World) :
  (execOp ρ o).run Tryz.prog W=.ok (.value (.agg (tC (c,d) v1 v2).toArray)) W:=by
 have h:=gC (P:=Tryz.prog) (ρ:=ρ) (o:=o) 59 x y ho (n1:=20) (n2:=3) (z:=.agg zcT) hx hy Tryz.underlying59 (fun w=>by kernel_rfl) (by kernel_rfl) (fun w=>by kernel_rfl) (by rw [xaU,xal,bvL];exact hc) rfl W
 refine h.trans ?_
 simp [xaU,tC]
theorem tT (w:World) (l:List Itm) (A:Option Addr) (cap:Nat) (h:aH.At w w.heap.size [.slice A l.length cap] l) (hl:∀ x∈l,x.2.2.1.length≤1000000∧x.2.2.2.length≤1000000) (hn:l.length≤1000000)
  (d:Drv) (v1 v2:Value) (hd:au w w.heap.size d v1 v2) (hdl:d.2.1.length≤1000000∧d.2.2.length≤1000000) (c:Hsh) (hc:bA d=c) (r:List Itm×Hsh×Int) (hr:dq bA l d=r) :
  Calls Tryz.prog 60 #[.slice A l.length cap,.agg (dC d v1 v2).toArray] w fun e w'=>ld w r e w':=by
 have hcc:okH c:=hc▸gy d
 obtain ⟨ho1,ho2⟩:=hd.dK
 obtain ⟨bt,hbt⟩:∃ b,dp bA l=b:=⟨_,rfl⟩
 have H0:=Mem.start w
 go_enter Tryz.func60,Tryz.ntmps60
 refine sk fun _ K1=>rl ?_
 refine bx 26 (dC d v1 v2) fun w2 hn_=>?_
 have H3:=Mem.aM H0 hn_
 refine rn ?_
 refine nz 34 zcH fun w4 hn_=>?_
 have H5:=Mem.aM H3 hn_
 refine rn ?_
 refine nt (K1 _ _ (sk fun _ K6=>rl ?_))
 refine ac (ya w4 l A cap (Mem.lay H5 h) (fun x hx=>(hl x hx).1) bt hbt) ?_
 rintro e w7 ⟨rfl,hb9⟩
 refine ⟨_,rfl,rn ?_⟩
 have H8:=Mem.call H5 hb9
 cases bt
 ·refine lY (by kernel_rfl) _ _ (by kernel_rfl) (oF 2 w7) ?_
  rintro e wz ⟨rfl,hwz⟩
  refine ⟨_,rfl,pn ?_⟩
  exact ld.no (hr.symm.trans (Fv hbt)) (by decide) rfl (Mem.below (hwz▸H8))
 ·refine cs (oG 2 w7) (rn ?_)
  refine nt (K6 _ _ (sk fun _ K10=>rl ?_))
  refine rv (xld (Blk.range (Mem.blk H8 1 rfl)) Tryz.underlying26 (aS d v1 v2)) ?_
  by_cases hp:bF d=0
  ·have hts:(a8 d).size≤2000:=lN hp
   have hcl:(aA d.2.1).length≤1000000:=xaH (DP d.2.1) hdl.1
   refine ac (lO w7 d v1 v2 (Mem.drv H8 hd) hp) ?_
   rintro e w11 ⟨g,cp,rfl,k1,k2,k3,k4,hb⟩
   refine ⟨_,rfl,rn ?_⟩
   have H12:=Mem.seq H8 (ug k1 k3 k4 hb)
   clear k1 k3 k4 hb
   refine rn ?_
   refine nt (K10 _ _ (sk fun _ K13=>rl ?_))
   refine aO rfl 95 (.tmp 20) rfl 24 1 (.slice none 0 0) (.slice (some ⟨g,0,none⟩) (a8 d).size cp) rfl Tryz.underlying95 (by kernel_rfl) (by decide) (by decide) (fun w=>by kernel_rfl) rfl ?_
   intro w14 hn
   have H15:=Mem.aM H12 hn
   clear hn
   refine rn ?_
   refine ac (Ew w14 _ g cp (a8 d) (Mem.blk H15 0 rfl) (Mem.get (e:=y3 g (a8 d)) H15 1 rfl) k2 c hc hts) ?_
   rintro e w16 ⟨rfl,hb18⟩
   refine ⟨_,rfl,rn ?_⟩
   have H17:=Mem.call H15 hb18
   refine nz 34 zcH fun w19 hn_=>?_
   have H20:=Mem.aM H17 hn_
   refine rn ?_
   refine stb (Mem.blk H20 0 rfl) (bB hcc) (bP cK (bB hcc)) (fa c) fun w21 hk_ hg_=>?_
   have H22:=Mem.st H20 0 rfl hk_ hg_
   refine rn ?_
   refine nt (K13 _ _ (sk fun _ K23=>sk fun _ K24=>rl ?_))
   refine rv (xld (Blk.range (Mem.blk H22 4 rfl)) Tryz.underlying26 (aS d v1 v2)) ?_
   refine ac (Bz w21 d v1 v2 (Mem.drv H22 hd) hdl.1) ?_
   rintro e w25 ⟨A2,c2,rfl,hm2⟩
   refine ⟨_,rfl,rn ?_⟩
   have H26:=Mem.seq H22 hm2
   refine rn ?_
   refine nt (K24 _ _ (wp_block ?_))
   have H28:=Mem.pick H26 [0,1,3,4,5] (by decide) rfl
   go_loopw [26] (fun x26 wr=>∃ j:Nat,x26=.int .i64 (j:Int)∧(j≤(aA d.2.1).length)∧(∀ c∈(aA d.2.1).take j,(aY l c).isSome=true)∧Mem w wr [ax (w21.heap.size) 34 20 (.slice A2 (aA d.2.1).length c2) ((aA d.2.1)).length (((aA d.2.1)).flatMap bv),bh (w16.heap.size) 34 (bv c).toArray,y3 g (a8 d),bh (w2.heap.size) 34 zcH,bh (w.heap.size) 26 (dC d v1 v2).toArray]) (fun x26 _=>(aA d.2.1).length-(intOf x26).toNat)
   case atStart=>exact ⟨0,rfl,by omega,(fun c hc=>by simp at hc),H28⟩
   case round =>
    obtain ⟨wo29,rfl⟩:∃ wo29,wo29=wr:=⟨_,rfl⟩
    obtain ⟨j,rfl,hj,hall,H30⟩:=hrel
    refine sk fun _ K32=>rl ?_
    by_cases p33:(j:Int)<(((aA d.2.1).length:Nat):Int)
    ·refine rv (aK (decide_eq_true p33)) ?_
     refine nt (K32 _ _ (sk fun _ K34=>ct (ks (K34 _ _ (sk fun _ K35=>wp_block (sk fun _ K36=>rl ?_))))))
     obtain ⟨b37,rfl,hlt40⟩:=aR (Mem.own H30 0 rfl) (by omega)
     obtain ⟨x41,hx42⟩:=gx (l:=(aA d.2.1)) (j:=j)
     have hd43:=aD hx42
     have ok44:=(fun x hx=>pb hd.Ey x hx) _ (xaj hx42)
     refine rv (bT (j) Tryz.underlying27 cr) ?_
     refine rv (xld (dQ (f:=bv) (by decide) (Mem.own H30 0 rfl) (fun z hz=>by rw [bvL];exact (fun x hx=>pb hd.Ey x hx) z hz) hx42) Tryz.underlying34 (bN ok44)) ?_
     refine nz 34 zcH fun w45 hn_=>?_
     have H46:=Mem.aM H30 hn_
     refine rn ?_
     refine stb (Mem.blk H46 0 rfl) (bB ok44) (bP cK (bB ok44)) (fa x41) fun w47 hk_ hg_=>?_
     have H48:=Mem.st H46 0 rfl hk_ hg_
     refine rn ?_
     refine nt (K36 _ _ (sk fun _ K49=>rl ?_))
     refine rv (xld (Blk.range (Mem.blk H48 0 rfl)) Tryz.underlying34 (bN ok44)) ?_
     obtain ⟨bf,hbf⟩:∃ b,(aY l x41).isSome=b:=⟨_,rfl⟩
     refine ac (Fe w47 l _ (Mem.lay H48 h) x41 ok44 hl (findD l x41) rfl bf hbf) ?_
     rintro e w50 ⟨p1_bf,p2_bf,rfl,q1_bf,q2_bf,hm_bf⟩
     refine ⟨_,rfl,rn ?_⟩
     have H51:=Mem.seq H48 hm_bf
     refine rn ?_
     refine nz 26 zcD fun w53 hn_=>?_
     have H54:=Mem.aM H51 hn_
     refine rn ?_
     refine stb (Mem.blk H54 0 rfl) (dS (findD l x41) p1_bf p2_bf) (bP gq (dS (findD l x41) p1_bf p2_bf)) (lp (findD l x41) q1_bf q2_bf) fun w55 hk_ hg_=>?_
     have H56:=Mem.st H54 0 rfl hk_ hg_
     refine rn ?_
     refine nt (K49 _ _ (rl ?_))
     cases bf
     ·refine lY (by kernel_rfl) _ _ (by kernel_rfl) (oF 5 w55) ?_
      rintro e wz ⟨rfl,hwz⟩
      refine ⟨_,rfl,pn ?_⟩
      exact ld.no (hr.symm.trans (AZ hbt hp (xaj hx42) hbf)) (by decide) rfl (Mem.below (hwz▸H56))
     ·refine cs (oG 5 w55) (rn ?_)
      refine wpList_nil ?_
      refine ar (ah (K35 _ _ (rl ?_)))
      refine rv (bp (((j+1:Nat):Int))) ?_
      refine wpList_nil ?_
      have H57:=Mem.pick H56 [3,4,5,6,7] (by decide) rfl
      refine ah ?_
      show _∧_
      go_roundw
      case rel=>exact ⟨(j+1),rfl,by omega,(fun c hc=>by rw [xaB,hx42] at hc;rcases xax.1 hc with hc | hc;exact hall c hc;rw [show c=x41 from by simpa using hc];exact hbf),H57⟩
      case measure=>simp [intOf];omega
    ·have he58:=bE (l:=(aA d.2.1)) (j:=j) (by omega)
     refine rv (aK (decide_eq_false p33)) ?_
     refine nt (K32 _ _ (sk fun _ K59=>cf (wp_exit (an (an (aB (ah (K23 _ _ (sk fun _ K60=>rl ?_)))))))))
     refine ac (pd wo29 l A cap (Mem.lay H30 h) hl hn) ?_
     rintro e w61 ⟨u9,ls9,rfl,hls9,hm9⟩
     refine ⟨_,rfl,rn ?_⟩
     have H62:=Mem.seq H30 (fi hm9 (Mem.below H30).size)
     have hl9:ls9.length=l.length:=by rw [← hls9,xap]
     refine rn ?_
     refine nt (K60 _ _ (sk fun _ K64=>sk fun _ K65=>rl ?_))
     refine rv (xld (Blk.range (Mem.blk H62 3 rfl)) Tryz.underlying34 (bN hcc)) ?_
     obtain ⟨bo,hbo⟩:∃ b,(aY l c).isSome=b:=⟨_,rfl⟩
     refine ac (Fe w61 l _ (Mem.lay H62 h) c hcc hl (findD l c) rfl bo hbo) ?_
     rintro e w66 ⟨p1_bo,p2_bo,rfl,q1_bo,q2_bo,hm_bo⟩
     refine ⟨_,rfl,rn ?_⟩
     have H67:=Mem.seq H62 hm_bo
     refine rn ?_
     refine nz 26 zcD fun w69 hn_=>?_
     have H70:=Mem.aM H67 hn_
     refine rn ?_
     refine stb (Mem.blk H70 0 rfl) (dS (findD l c) p1_bo p2_bo) (bP gq (dS (findD l c) p1_bo p2_bo)) (lp (findD l c) q1_bo q2_bo) fun w71 hk_ hg_=>?_
     have H72:=Mem.st H70 0 rfl hk_ hg_
     refine rn ?_
     refine nt (K65 _ _ (sk fun _ K73=>rl ?_))
     refine nt (K73 _ _ ?_)
     cases bo
     ·have hall9:∀ c∈aA d.2.1,(aY l c).isSome=true:=fun z hz=>hall z (by rw [xav (by omega)];exact hz)
      refine cf (ks (K64 _ _ (sk fun _ K74=>?_)))
      have HS75:=Mem.pick H72 [5,8] (by decide) rfl
      refine mj 10 rfl (by kernel_rfl) (fun d _ _ _ _ h=>by cases d<;>exact h) (by kernel_rfl) HS75 ?_
      intro w76 hb79 HS78
      have H77:=Mem.call H72 hb79
      clear HS75
      refine bn 0 1 _ (u9) rfl (by kernel_rfl) (fun W9 hW9=>(gu (.tmp 12) rfl _ rfl W9)) HS78 ?_
      simp only [xaa,xae,xab,xac]
      refine bn 1 3 _ (.agg (bv c).toArray) rfl (by kernel_rfl) (fun W9 hW9=>(ai 34 (.tmp 7) rfl w16.heap.size (0) rfl (bv c) _ W9 (Blk.range (Mem.blk hW9 0 rfl)) Tryz.underlying34 rfl (bN hcc))) HS78 ?_
      simp only [xaa,xae,xab,xac]
      refine bn 2 7 _ (.agg (dC d v1 v2).toArray) rfl (by kernel_rfl) (fun W9 hW9=>(ai 26 (.tmp 3) rfl w.heap.size (0) rfl (dC d v1 v2) _ W9 (Blk.range (Mem.blk hW9 1 rfl)) Tryz.underlying26 rfl (aS d v1 v2))) HS78 ?_
      simp only [xaa,xae,xab,xac]
      refine bn 7 135 _ (.agg (bv c).toArray) rfl (by kernel_rfl) (fun W9 hW9=>(ai 34 (.tmp 7) rfl w16.heap.size (0) rfl (bv c) _ W9 (Blk.range (Mem.blk hW9 0 rfl)) Tryz.underlying34 rfl (bN hcc))) HS78 ?_
      simp only [xaa,xae,xab,xac]
      refine oB 3 143 _ rfl (by kernel_rfl) _ _ (by kernel_rfl) (Ge w76 d v1 v2 (Mem.drv H77 hd) hdl) ?_
      rintro e w80 ⟨o1,o2,rfl,hod,hb83⟩
      have H81:=Mem.new H77 hb83 (ky w.heap.size d o1 o2) (aG.lower hod (Mem.below H77).size) (fun b hf=>sL hod hf)
      obtain ⟨hoo1,hoo2⟩:=(aG.at_ hod (xag _)).dK
      have HS82:=Mem.pick H81 [6,9] (by decide) rfl
      clear HS78
      refine ⟨_,rfl,HS82,?_⟩
      simp only [xaa,xae,xab,xac]
      refine bn 4 159 _ (.agg (tC (c,d) o1 o2).toArray) rfl (by kernel_rfl) (fun W9 hW9=>(zg (.tmp 56) (.tmp 58) rfl hcc rfl rfl W9)) HS82 ?_
      simp only [xaa,xae,xab,xac]
      obtain ⟨w84,hw8⟩:∃ w8,w8=w80.alloc (.cells (tC (c,d) o1 o2).toArray 59):=⟨_,rfl⟩
      have hn8:fy w80 w84 59 (tC (c,d) o1 o2).toArray:=hw8▸bS _ _ _
      have H85:=Mem.aM H81 hn8
      have HS86:=Mem.pick H85 [7,10] (by decide) rfl
      refine gY 5 191 _ (.slice (some ⟨w80.heap.size,0,none⟩) 1 1) w84 rfl (by kernel_rfl) (by rw [hw8];exact bl (v:=.agg (tC (c,d) o1 o2).toArray) 22 (.tmp 59) rfl rfl Tryz.underlying22 (e:=59) (n:=23) cJ (by omega) (by omega) (z:=.agg zcT) (fun w=>by kernel_rfl) (by rw [xaU,xal];exact cl (x:=(c,d)) hcc) w80) HS86 ?_
      clear hw8 hn8 HS82
      simp only [xaa,xae,xab,xac]
      obtain ⟨inm59,iq59,ir59,is59,it59⟩:=info_parts kF
      refine mi 6 255 _ rfl (by kernel_rfl) _ _ 22 rfl w.heap.size 59 _ _ 23 88 Tryz.underlying22 iq59 ir59 is59 it59 rfl (by decide) (Mem.own H85 4 rfl) (bU (n:=23) (m:=1) (Mem.blk H85 0 rfl) (cl (x:=(c,d)) hcc) (gQ (c,d) hoo1 hoo2)) (by simp only [maxLen];omega) (by omega) (Mem.below H85).size rfl rfl ?_
      intro u8 w87 ow gr hp8
      have ow:w87.ownsRow w.heap.size 59 23 u8 (ls9++[((c,d),o1,o2)]).length ((ls9++[((c,d),o1,o2)]).flatMap tV):=by simpa [tV] using ow
      have H88:=Mem.app H85 4 rfl ow gr hp8
      have HS89:=Mem.pick H88 [7,10] (by decide) rfl
      refine ⟨HS89,?_⟩
      clear ow gr hp8 HS86
      simp only [xaa,xae,xab,xac]
      refine bn 8 511 _ (u8) rfl (by kernel_rfl) (fun W9 hW9=>(eQ (.tmp 61) rfl _ rfl W9)) HS89 ?_
      simp only [xaa,xae,xab,xac]
      refine gD 9 1023 _ rfl (by kernel_rfl) 34 (.tmp 5) (.tmp 62) rfl (Mem.blk H88 9 rfl) (bB hcc) (bP cK (bB hcc)) (fa c) rfl rfl ?_
      intro w90 hk8 hg8
      have H91:=Mem.st H88 9 rfl hk8 hg8
      have HS92:=Mem.pick H91 [7,10] (by decide) rfl
      refine ⟨HS92,?_⟩
      clear hk8 hg8 HS89
      simp only [xaa,xae,xab,xac]
      refine gX (by kernel_rfl) ?_
      refine ah (K74 _ _ ?_)
      refine wp_ret ?_
      refine bodyPost_ret (bu (r1:=.tmp 4) (r2:=.cell 5 34) rfl ⟨rfl,⟨_,rfl,dP (Blk.range (Mem.blk H91 9 rfl)) Tryz.underlying34 rfl (bN hcc)⟩,trivial⟩) rfl ?_
      have hnf:aY l c=none:=by cases hq:aY l c with | none=>rfl | some x=>rw [hq] at hbo;cases hbo
      have H93:Mem w w90 (gE w.heap.size u8 (ls9++[((c,d),o1,o2)])):=Mem.pick (Mem.push (x:=((c,d),o1,o2)) (f:=fv w.heap.size) (Mem.pick H91 [1,5,4] (by decide) rfl) (oz _ _)) [1,0] (by decide) rfl
      exact ld.yes (hr.symm.trans (oV hbt hp hall9 hc hnf)) rfl (by rw [List.map_append,hls9];rfl) H93
     ·have hall9:∀ c∈aA d.2.1,(aY l c).isSome=true:=fun z hz=>hall z (by rw [xav (by omega)];exact hz)
      refine ct (sk fun _ K96=>rl ?_)
      refine rv (xld (Blk.range (Mem.blk H72 0 rfl)) Tryz.underlying26 (aS (findD l c) p1_bo p2_bo)) ?_
      obtain ⟨x9,hx9⟩:∃ x,aY l c=some x:=Option.isSome_iff_exists.1 hbo
      have hfd:findD l c=x9.2:=BT hx9
      have hp9:bF x9.2=0:=EY hbt (wJ hx9).1
      have hda:au w71 w71.heap.size (findD l c) p1_bo p2_bo:=aG.at_ (Mem.get (e:=lq w61.heap.size (findD l c) p1_bo p2_bo) H72 1 rfl) (xag _)
      refine ac (lO w71 (findD l c) p1_bo p2_bo hda (by rw [hfd];exact hp9)) ?_
      rintro e w97 ⟨g2,cp2,rfl,k1,k22,k3,k4,hb⟩
      refine ⟨_,rfl,rn ?_⟩
      have H98:=Mem.seq H72 (ug k1 k3 k4 hb)
      clear k1 k3 k4 hb
      refine rn ?_
      obtain ⟨be,hbe⟩:∃ b,decide (a8 (findD l c)=a8 d)=b:=⟨_,rfl⟩
      refine ac (uh w97 g2 g cp2 cp (a8 (findD l c)) (a8 d) (Mem.get (e:=y3 g2 (a8 (findD l c))) H98 0 rfl) (Mem.get (e:=y3 g (a8 d)) H98 7 rfl) be hbe) ?_
      rintro e w99 ⟨rfl,hb101⟩
      refine ⟨_,rfl,rn ?_⟩
      have H100:=Mem.call H98 hb101
      cases be
      ·refine lY (by kernel_rfl) _ _ (by kernel_rfl) (oF 14 w99) ?_
       rintro e wz ⟨rfl,hwz⟩
       refine ⟨_,rfl,pn ?_⟩
       exact ld.no (hr.symm.trans (DD hbt hp hall9 hc hx9 (by rw [← hfd];exact of_decide_eq_false hbe))) (by decide) rfl (Mem.below (hwz▸H100))
      ·refine cs (oG 14 w99) (rn ?_)
       refine nt (K96 _ _ (sk fun _ K102=>?_))
       have HS103:=Mem.pick H100 [6] (by decide) rfl
       refine mj 4 rfl (by kernel_rfl) (fun d _ _ _ _ h=>by cases d<;>exact h) (by kernel_rfl) HS103 ?_
       intro w104 hb107 HS106
       have H105:=Mem.call H100 hb107
       clear HS103
       refine bn 0 1 _ (u9) rfl (by kernel_rfl) (fun W9 hW9=>(gu (.tmp 12) rfl _ rfl W9)) HS106 ?_
       simp only [xaa,xae,xab,xac]
       refine bn 1 3 _ (.agg (bv c).toArray) rfl (by kernel_rfl) (fun W9 hW9=>(ai 34 (.tmp 7) rfl w16.heap.size (0) rfl (bv c) _ W9 (Blk.range (Mem.blk hW9 0 rfl)) Tryz.underlying34 rfl (bN hcc))) HS106 ?_
       simp only [xaa,xae,xab,xac]
       refine bn 2 7 _ (u9) rfl (by kernel_rfl) (fun W9 hW9=>(eQ (.tmp 53) rfl _ rfl W9)) HS106 ?_
       simp only [xaa,xae,xab,xac]
       refine gD 3 15 _ rfl (by kernel_rfl) 34 (.tmp 5) (.tmp 54) rfl (Mem.blk H105 8 rfl) (bB hcc) (bP cK (bB hcc)) (fa c) rfl rfl ?_
       intro w108 hk8 hg8
       have H109:=Mem.st H105 8 rfl hk8 hg8
       have HS110:=Mem.pick H109 [6] (by decide) rfl
       refine ⟨HS110,?_⟩
       clear hk8 hg8 HS106
       simp only [xaa,xae,xab,xac]
       refine gX (by kernel_rfl) ?_
       refine ah (K102 _ _ ?_)
       refine wp_ret ?_
       simp only [Exit.then,Exit.inBlock]
       refine bodyPost_ret (bu (r1:=.tmp 4) (r2:=.cell 5 34) rfl ⟨rfl,⟨_,rfl,dP (Blk.range (Mem.blk H109 8 rfl)) Tryz.underlying34 rfl (bN hcc)⟩,trivial⟩) rfl ?_
       exact ld.yes (hr.symm.trans (tR hbt hp hall9 hc hx9 (by rw [← hfd];exact of_decide_eq_true hbe))) rfl hls9 (fi (Mem.pick H109 [3,4] (by decide) rfl) (xag _))
  ·refine lY (by kernel_rfl) _ _ (by kernel_rfl) (qJ w7 d v1 v2 (Mem.drv H8 hd) hp) ?_
   rintro e wz ⟨rfl,hwz⟩
   refine ⟨_,rfl,pn ?_⟩
   exact ld.no (hr.symm.trans (Bc hbt hp)) hp rfl (Mem.below (Mem.call H8 hwz))
end Go.Proofs.YtomnhnmciopiiaaGreat
end
section
namespace Go.Proofs.YtomnhnmciopiiaaGreat
open Go Go.RowKit Go.Maps
section
variable {P:Program}
def KL (P:Program) (k:Nat) (t:TypeId) (cs:List Value):Prop:=cs.length=P.cellsOf t∧∀ d,k≤d→∃ L,P.keyLits d t cs=some L
theorem KL.mono {k k':Nat} {t:TypeId} {cs:List Value} (h:KL P k t cs) (hk:k≤k'):KL P k' t cs:=⟨h.1,fun d hd=>h.2 d (xaH hk hd)⟩
theorem Eg {t:TypeId} (ht:P.underlying t=some .bool) (hc:P.cellsOf t=1) (b:Bool):KL P 1 t [.bool b]:=⟨by rw [hc];rfl,fun d hd=>by
 obtain ⟨d,rfl⟩:∃ e,d=e+1:=⟨d-1,by omega⟩
 unfold xb2
 simp [ht]⟩
theorem Cn {t:TypeId} (ht:P.underlying t=some .string) (hc:P.cellsOf t=1) (s:ByteArray) (hs:s.size≤maxLen):KL P 1 t [.string s]:=⟨by rw [hc];rfl,fun d hd=>by
 obtain ⟨d,rfl⟩:∃ e,d=e+1:=⟨d-1,by omega⟩
 unfold xb2
 simp [ht,hs]⟩
theorem F1 {t e:TypeId} {n:Nat} (ht:P.underlying t=some (.array n e)) (he:P.underlying e=some (.int .u8)) (hc:P.cellsOf t=n) (h1:P.cellsOf e=1) {h:List UInt8} (hl:h.length=n):KL P 2 t (bv h):=⟨by rw [bvL,hc];exact hl,fun d hd=>by
 obtain ⟨d,rfl⟩:∃ e,d=e+2:=⟨d-2,by omega⟩
 exact kd d ht he hc h1 hl⟩
theorem uT {α β:Type} (f:α→Option β):∀ (l:List α),(∀ x∈l,∃ y,f x=some y)→∃ ys,l.mapM f=some ys
 | [],_=>⟨[],rfl⟩
 | x :: l,h=>by
  obtain ⟨y,hy⟩:=h x (by simp)
  obtain ⟨ys,hys⟩:=uT f l fun z hz=>h z (by simp [hz])
  exact ⟨y :: ys,by rw [List.mapM_cons,hy,hys];rfl⟩
theorem mY {t : TypeId} {fs : Array Field} {k : Nat} {cs : List Value} (ht : P.underlying t = some (.struct fs)) (hn : fs.all (·.name != "_") = true) (hlen : cs.length = P.cellsOf t) (parts : List (TypeId × Nat × List Value))
  (hp:fs.toList.map (fun f=>(f.type,f.offset))=parts.map fun p=>(p.1,p.2.1)) (hk:∀ p∈parts,KL P k p.1 p.2.2) (hc:∀ p∈parts,(cs.drop p.2.1).take p.2.2.length=p.2.2):KL P (k+1) t cs:=⟨hlen,fun d hd=>by
 obtain ⟨d,rfl⟩:∃ e,d=e+1:=⟨d-1,by omega⟩
 obtain ⟨ys,hys⟩:=uT (fun f:Field=>P.keyLits d f.type ((cs.drop f.offset).take (P.cellsOf f.type))) fs.toList fun f hf=>by
  have hm:(f.type,f.offset)∈parts.map fun p=>(p.1,p.2.1):=by
   rw [← hp]
   exact xaA.2 ⟨f,hf,rfl⟩
  obtain ⟨p,hpm,e⟩:=xaA.1 hm
  injection e with e1 e2
  obtain ⟨L,hL⟩:=(hk p hpm).2 d (by omega)
  refine ⟨L,?_⟩
  rw [← e1,← e2,← (hk p hpm).1,hc p hpm,hL]
 unfold xb2
 rw [ht]
 have hlen':=hlen
 cases cs with
 | nil =>
  simp only []
  rw [if_pos ⟨hlen',hn⟩,hys]
  exact ⟨_,rfl⟩
 | cons x cs =>
  simp only []
  rw [if_pos ⟨hlen',hn⟩,hys]
  exact ⟨_,rfl⟩⟩
theorem Cl {k:Nat} {t:TypeId} {cs:List Value} (h:KL P k t cs) (hd:k≤P.types.size+1) (hkt:P.keyType t=true) (hrow:(match P.underlying t with | some (.array _ _) | some (.struct _)=>true | _=>false)=true):∃ l,keyOf P t (.agg cs.toArray)=some l:=by
 obtain ⟨L,hL⟩:=h.2 _ hd
 have hf:(Value.agg cs.toArray).formed P t=true:=by
  unfold Value.formed
  cases hu:P.underlying t with
  | none=>rw [hu] at hrow;cases hrow
  | some d=>cases d<;>simp_all [h.1]
 unfold keyOf
 cases hu:P.underlying t with
 | none=>rw [hu] at hrow;cases hrow
 | some d =>
  rw [hu] at hrow
  cases d<;>first | (cases hrow;done) | (simp only [hkt,hf,Bool.and_self,if_true,xaU,hL];exact ⟨_,rfl⟩)
theorem GI {k m:Nat} {t:TypeId} (K:Keyed P t) {a b:List Value} (ha:KL P k t a) (hb:KL P k t b) (hd:k≤P.types.size+1) (hkt:P.keyType t=true) (hm:m≤10000) (hka:P.keyTypeAt m t=true) (hrow:(match P.underlying t with | some (.array _ _) | some (.struct _)=>true | _=>false)=true) (w:World) :
  ∃ r:Bool,(Op.equal t (.agg a.toArray) (.agg b.toArray)).run P w=.ok r w∧(r=true↔a=b):=by
 obtain ⟨la,h1⟩:=Cl ha hd hkt hrow
 obtain ⟨lb,h2⟩:=Cl hb hd hkt hrow
 obtain ⟨r,h3,h4⟩:=run_equal_deep (P:=P) w hm hka hrow h1 h2
 refine ⟨r,h3,?_⟩
 rw [h4]
 constructor
 ·intro e
  subst e
  have:=K.inj h1 h2
  injection this with this
  simpa using this
 ·intro e
  subst e
  rw [h1] at h2
  injection h2
theorem y1 {t:TypeId} {a b:Array Value} {r:Bool} {w:World} (h:(Op.equal t (.agg a) (.agg b)).run P w=.ok r w):(binOp .neq t (.agg a) (.agg b)).run P w=.ok (.bool (!r)) w:=by
 simp only [binOp,xaI,h,xat,xaQ]
end
end Go.Proofs.YtomnhnmciopiiaaGreat
end
