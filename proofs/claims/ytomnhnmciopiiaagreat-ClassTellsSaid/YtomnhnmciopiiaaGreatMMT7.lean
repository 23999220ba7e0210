/- Part 7 of the texts of one proof. -/
import Derived.Test.YtomnhnmciopiiaaGreatMMT6
set_option maxRecDepth 100000
set_option linter.unusedVariables false
set_option linter.unusedSimpArgs false
set_option maxHeartbeats 40000000
open Go.Act renaming put → xae
open And renaming intro → xad
open Array renaming getElem?_toList → xa7
open Go.RowKit.Below renaming grown → xb9, heap_setCell → xbv, mono → xar, refl → xao
open Go.Instr renaming index → xbC
open Go.IntKind renaming wrap → xbA
open Go.Lib renaming run_eql_slice_nil → xcx
open List renaming append_assoc → xaR, drop_append_of_le_length → xbT, drop_succ_cons → xay, drop_zero → xaK, eq_nil_of_length_eq_zero → xaT, flatMap_cons → xbf, flatten_append → xbU, getD_eq_getElem?_getD → xaX, getElem?_cons_succ → xbs, getElem?_cons_zero → xa3, getElem?_eq_getElem → xai, getElem?_eq_some_iff → xah, getElem?_map → xaL, getElem?_of_mem → xaP, getElem?_toArray → xa0, length_append → xak, length_cons → xaF, length_map → xap, length_take → xaN, mem_cons → xaD, mem_map → xaA, not_mem_nil → xaS, range → xaf, replicate → xaz, setIfInBounds_toArray → xaa, set_cons_succ → xac, set_cons_zero → xab, size_toArray → xal, take_append_of_le_length → xbl, take_of_length_le → xav, take_succ_cons → xau, take_succ_eq_append_getElem → xbb, take_zero → xaC
open Nat renaming le_refl → xag, le_trans → xaH, lt_of_lt_of_le → xaZ
open Option.some renaming inj → xam
open Go.Result renaming andThen_ok → xat
open Go.Sem renaming run_bind → xaI, run_pure → xaQ
open UInt8 renaming ofNat → xaJ
open Go.Value renaming string → xbd
open Go.World renaming block_lt_of_cell? → xa5, cell?_of_block → xaV, grownBy_alloc → xcK
open Go.World.grownBy renaming refl → xa1
section
namespace Go.Proofs.YtomnhnmciopiiaaGreat
open Go.RowKit
def sp (s:List Sha.W) (B:List UInt8) (m:Nat):Array Value:=(((s.map fun x=>Value.int .u32 (U x))++bv B)++[Value.int .u64 (m:Int)]).toArray
theorem gA (s:List Sha.W) (B:List UInt8) (m i:Nat) (hs:s.length=8) (hi:i<8):(sp s B m)[i]?=some (.int .u32 (U (s.getD i 0))):=by
 simp [sp,bv,List.getElem?_append,hs,hi,List.getD]
theorem EU (s:List Sha.W) (B:List UInt8) (m i:Nat) (hs:s.length=8) (hB:B.length=64) (hi:i<64):(sp s B m)[8+i]?=some (.int .u8 ((B.getD i 0).toNat:Int)):=by
 have h:¬ 8+i<8:=by omega
 simp [sp,bv,List.getElem?_append,hs,hB,h,hi,List.getD]
theorem tE (s:List Sha.W) (B:List UInt8) (m:Nat) (hs:s.length=8) (hB:B.length=64):(sp s B m)[72]?=some (.int .u64 (m:Int)):=by
 simp [sp,bv,hs,hB]
theorem xV (s:List Sha.W) (B:List UInt8) (m i:Nat) (x:Sha.W) (hs:s.length=8) (hi:i<8):(sp s B m).setIfInBounds i (.int .u32 (U x))=sp (s.set i x) B m:=by
 simp only [sp,xaa,xaR]
 rw [List.set_append_left _ _ (by simp [hs,hi]),List.map_set]
theorem vE (ev:Operand→Value) (d:Option Tmp) (ty:TypeId) (pos:String) (aft:Array Edge) (w:World) :
  (execOp ev ⟨d,.alloc 279,ty,pos,aft,none⟩).run Tryz.prog w=.ok (.value (.pointer (some ⟨w.heap.size,0,none⟩))) (w.alloc (.cells uz 279)):=by kernel_rfl
theorem fL {ops:Array Oper} {rest:List Oper} {a:Act} {w:World} {Q:Exit→Act→World→Prop} {d:Option Tmp} {ty:TypeId} {pos:String} {aft:Array Edge}
  (h:wpList Tryz.prog ops Q rest (a.put d (.pointer (some ⟨w.heap.size,0,none⟩))) (w.alloc (.cells uz 279))) :
  wpList Tryz.prog ops Q (⟨d,.alloc 279,ty,pos,aft,none⟩ :: rest) a w :=
 aa rfl _ _ (vE _ _ _ _ _ _) h
def x8 (s:Sha.St):Array Value:=#[.int .u32 (U s.a),.int .u32 (U s.b),.int .u32 (U s.c),.int .u32 (U s.d),.int .u32 (U s.e),.int .u32 (U s.f),.int .u32 (U s.g),.int .u32 (U s.h)]
theorem Dt (s:Sha.St):uv s.list=x8 s:=rfl
theorem Fl:uz.size=(uv Sha.ks).size:=by rw [dY,uz,dY,List.length_replicate];rfl
theorem GY (B:List UInt8):uz.size=(uv (Sha.ws B 64)).size:=by rw [dY,uz,dY,List.length_replicate,Sha.fY]
theorem yN:(Tryz.prog.info? 279).map (·.size)=some (uv Sha.ks).size:=by rw [dY];exact jO
theorem ET (B:List UInt8):(Tryz.prog.info? 279).map (·.size)=some (uv (Sha.ws B 64)).size:=by rw [dY,Sha.fY];exact jO
theorem Gq:(Tryz.prog.info? 193).map (·.size)=some 1:=by kernel_rfl
theorem r6:1≤6∧6≤31:=by decide
theorem r11:1≤11∧11≤31:=by decide
theorem r25:1≤25∧25≤31:=by decide
theorem r2:1≤2∧2≤31:=by decide
theorem r13:1≤13∧13≤31:=by decide
theorem r22:1≤22∧22≤31:=by decide
theorem jJ {a w:World} {row:Option Nat} (h:a.grownBy w row) (n:Nat):a.grownBy (w.drewN n) row:=⟨h.os,h.tape,h.output,h.size,h.block⟩
theorem uE {w w4 w6 w7:World} {g:Nat} (h1:Below w.heap.size w w4) (h2:Below w4.heap.size w4 w6) (h3:w6.grownBy w7 (some g)):w.grownBy w7 (some g):=by
 have h4:=h1.trans (h2.mono h1.size)
 exact ⟨h3.os.trans h4.os,h3.tape.trans h4.tape,h3.output.trans h4.output,xaH h4.size h3.size,fun k hk hne=>(h3.block k (xaZ hk h4.size) hne).trans (h4.block k hk)⟩
theorem Dg {w:World} {g T m:Nat} {s:Sha.St} {B:List UInt8} (h:Blk w g T (sp s.list B m)) :
    w.cell? ⟨g,0,none⟩=some (.int .u32 (U s.a))∧w.cell? ⟨g,1,none⟩=some (.int .u32 (U s.b))∧w.cell? ⟨g,2,none⟩=some (.int .u32 (U s.c))∧w.cell? ⟨g,3,none⟩=some (.int .u32 (U s.d)) ∧
    w.cell? ⟨g,4,none⟩=some (.int .u32 (U s.e))∧w.cell? ⟨g,5,none⟩=some (.int .u32 (U s.f))∧w.cell? ⟨g,6,none⟩=some (.int .u32 (U s.g))∧w.cell? ⟨g,7,none⟩=some (.int .u32 (U s.h)) :=
  ⟨(h.cell 0).trans (gA _ _ _ 0 rfl (by omega)),(h.cell 1).trans (gA _ _ _ 1 rfl (by omega)),(h.cell 2).trans (gA _ _ _ 2 rfl (by omega)),(h.cell 3).trans (gA _ _ _ 3 rfl (by omega)),
   (h.cell 4).trans (gA _ _ _ 4 rfl (by omega)),(h.cell 5).trans (gA _ _ _ 5 rfl (by omega)),(h.cell 6).trans (gA _ _ _ 6 rfl (by omega)),(h.cell 7).trans (gA _ _ _ 7 rfl (by omega))⟩
theorem Ci {w w1 w2 w3 w4:World} {g T:Nat} {cs:Array Value} {a b:Obj} (h0:Blk w g T cs) (hb1:Below w.heap.size w w1) (hb2:Below w1.heap.size w1 w2)
  (hg3:((w2.alloc a).alloc b).grownBy w3 (some w2.heap.size)) (hg4:w3.grownBy w4 (some (w2.heap.size+1))):Blk w4 g T cs∧Below w.heap.size w w4∧w2.heap.size+2≤w4.heap.size:=by
 have l0:=h0.lt
 have s1:=hb1.size
 have s2:=hb2.size
 have s3:=hg3.size
 have s4:=hg4.size
 simp only [size_alloc] at s3
 refine ⟨((((((h0.below hb1 l0).below hb2 (by omega)).alloc _).alloc _).grown hg3 ?_).grown hg4 ?_),?_,by omega⟩
 ·intro h;injection h with h;omega
 ·intro h;injection h with h;omega
 ·refine xb9 (xb9 (((hb1.trans (hb2.mono s1)).alloc (by omega) a).alloc (by simp only [size_alloc];omega) b) hg3 (by simp only [size_alloc];omega) ?_) hg4 (by omega) ?_
  ·intro k hk;injection hk with hk;omega
  ·intro k hk;injection hk with hk;omega
def kS (s t:List Sha.W) (i:Nat):List Sha.W:=(xaf 8).map fun j=>if j<i then s.getD j 0+t.getD j 0 else s.getD j 0
theorem iM (s t:List Sha.W) (i:Nat):(kS s t i).length=8:=by simp [kS]
theorem FQ (s:Sha.St) (w:World):(xbC 272 (.agg (x8 s)) (.int .i64 ((0:Nat):Int))).run Tryz.prog w=.ok (.int .u32 (U s.a)) w:=by kernel_rfl
theorem FR (s:Sha.St) (w:World):(xbC 272 (.agg (x8 s)) (.int .i64 ((1:Nat):Int))).run Tryz.prog w=.ok (.int .u32 (U s.b)) w:=by kernel_rfl
theorem FT (s:Sha.St) (w:World):(xbC 272 (.agg (x8 s)) (.int .i64 ((2:Nat):Int))).run Tryz.prog w=.ok (.int .u32 (U s.c)) w:=by kernel_rfl
theorem FU (s:Sha.St) (w:World):(xbC 272 (.agg (x8 s)) (.int .i64 ((3:Nat):Int))).run Tryz.prog w=.ok (.int .u32 (U s.d)) w:=by kernel_rfl
theorem FV (s:Sha.St) (w:World):(xbC 272 (.agg (x8 s)) (.int .i64 ((4:Nat):Int))).run Tryz.prog w=.ok (.int .u32 (U s.e)) w:=by kernel_rfl
theorem FW (s:Sha.St) (w:World):(xbC 272 (.agg (x8 s)) (.int .i64 ((5:Nat):Int))).run Tryz.prog w=.ok (.int .u32 (U s.f)) w:=by kernel_rfl
theorem FX (s:Sha.St) (w:World):(xbC 272 (.agg (x8 s)) (.int .i64 ((6:Nat):Int))).run Tryz.prog w=.ok (.int .u32 (U s.g)) w:=by kernel_rfl
theorem FY (s:Sha.St) (w:World):(xbC 272 (.agg (x8 s)) (.int .i64 ((7:Nat):Int))).run Tryz.prog w=.ok (.int .u32 (U s.h)) w:=by kernel_rfl
theorem He (s:Sha.St) (k:Nat) (hk:k<8) (w:World):(xbC 272 (.agg (x8 s)) (.int .i64 (k:Int))).run Tryz.prog w=.ok (.int .u32 (U (s.list.getD k 0))) w:=by
 match k,hk with
 | 0,_=>exact FQ s w
 | 1,_=>exact FR s w
 | 2,_=>exact FT s w
 | 3,_=>exact FU s w
 | 4,_=>exact FV s w
 | 5,_=>exact FW s w
 | 6,_=>exact FX s w
 | 7,_=>exact FY s w
theorem ry (s t:List Sha.W) (k:Nat) (hk:k<8):(kS s t k).set k ((kS s t k).getD k 0+t.getD k 0)=kS s t (k+1):=by
 have e:(kS s t k).getD k 0=s.getD k 0:=by simp [kS,List.getD,hk]
 rw [e]
 apply List.ext_getElem?
 intro j
 simp only [kS,List.getElem?_set,xap,List.length_range,xaL]
 by_cases h1:k=j
 ·subst h1
  simp [hk]
 ·by_cases h2:j<8
  ·simp only [h1,if_false,List.getElem?_range h2,Option.map_some]
   by_cases h3:j<k
   ·rw [if_pos h3,if_pos (by omega)]
   ·rw [if_neg h3,if_neg (by omega)]
  ·simp [h1,h2]
theorem y2 (s:Sha.St) (B:List UInt8) (hB:B.length=64) (m g T:Nat) (w:World) (hg:Blk w g T (sp s.list B m)) :
  Calls Tryz.prog 201 #[.pointer (some ⟨g,0,none⟩),.pointer (some ⟨g,8,none⟩)] w fun e w'=>e=.returned (.tuple #[])∧Blk w' g T (sp (Sha.comp s B).list B m)∧w.grownBy w' (some g):=by
 have hlt:=hg.lt
 have hB0:∀ j,j<64→w.cell? ⟨g,8+j,none⟩=some (.int .u8 ((B.getD j 0).toNat:Int)):=fun j hj=>by rw [hg.cell,EU _ _ _ _ rfl hB hj]
 have HG:=ab hg
 have HB0:=ab hB0
 clear hg hB0
 go_enter Tryz.func201,Tryz.ntmps201
 go_wp2_with (first
  | (go_at_call 211;refine (xP _).mono ?_;rintro e w1 ⟨rfl,hb1⟩;have HC1:Hid (∀ j,j<64→w1.cell? ⟨g,8+j,none⟩=some (.int .u8 ((B.getD j 0).toNat:Int))):=ab (fun j hj=>(hb1.cell (p:=⟨g,8+j,none⟩) hlt).trans (HB0.out j hj))))
 refine (xW B hB g 8 _ HC1.out).mono ?_
 rintro e w2 ⟨rfl,hb2⟩
 dsimp only
 go_step
 refine fL ?_
 refine fL ?_
 dsimp only [xae,xaa,xab,xac]
 refine ak (o:=⟨none,.store 279 (.tmp 4) (.tmp 14),_,_,_,_⟩) rfl 279 (.tmp 4) (.tmp 14) rfl w2.heap.size uz (uv Sha.ks) 279 ((Blk.new w2 279 uz).alloc (.cells uz 279)) yN Fl (ko _) rfl rfl ?_
 intro w3 h4 hg3
 refine ak (o:=⟨none,.store 279 (.tmp 5) (.tmp 16),_,_,_,_⟩) rfl 279 (.tmp 5) (.tmp 16) rfl (w2.heap.size+1) uz (uv (Sha.ws B 64)) 279 ((Blk.aM w2 (.cells uz 279) 279 uz).grown hg3 (by simp)) (ET B) (GY B) (ko _) (by rw [← size_alloc w2 (.cells uz 279)];rfl) rfl ?_
 intro w4 h5 hg4
 dsimp only [xae]
 obtain ⟨hgw4,hbl4,hsz4⟩:=Ci HG.out hb1 hb2 hg3 hg4
 obtain ⟨c0,c1,c2,c3,c4,c5,c6,c7⟩:=Dg hgw4
 go_wp2_with fail
 obtain ⟨X,hX⟩:∃ X,X=w4.heap.size:=⟨_,rfl⟩
 obtain ⟨Nk,hNk⟩:∃ Nk,Nk=w2.heap.size:=⟨_,rfl⟩
 have hgX:g<X:=by have:=hgw4.lt;omega
 have hkX:Nk+1<X:=by omega
 have hk4:Blk w4 Nk 279 (uv Sha.ks):=by rw [hNk];exact h4.grown hg4 (by simp)
 have hw4:Blk w4 (Nk+1) 279 (uv (Sha.ws B 64)):=by rw [hNk];exact h5
 have hx0:Blk (w4.alloc (.cells (x8 s) 272)) X 272 (x8 s):=by rw [hX];exact Blk.new _ _ _
 have hbX:Below X w4 (w4.alloc (.cells (x8 s) 272)):=(xao _ _).alloc (by omega) _
 have HK4:=ab hk4
 have HW4:=ab hw4
 have HGW:=ab hgw4
 have HX0:=ab hx0
 have HNK:=ab hNk
 have HX:=ab hX
 rw [← hX,← hNk]
 clear hk4 hw4 hgw4 hx0 hNk hX c0 c1 c2 c3 c4 c5 c6 c7 h4 h5
 go_loopw [20] (fun i wr=>∃ t:Nat,t≤64∧i=.int .i64 t∧Blk wr X 272 (x8 (Sha.oh s B t))∧Below X w4 wr) (fun i _=>64-(intOf i).toNat)
 case atStart=>exact ⟨0,by omega,rfl,HX0.out,hbX⟩
 case round =>
  obtain ⟨t,ht,rfl,hbk,hbel⟩:=hrel
  clear hbX
  by_cases h64:t<64
  ·obtain ⟨st,hst⟩:∃ st,st=Sha.oh s B t:=⟨_,rfl⟩
   rw [← hst] at hbk
   have HST:=ab hst
   clear hst
   obtain ⟨kt,hkt⟩:∃ kt,kt=Sha.ks.getD t 0:=⟨_,rfl⟩
   obtain ⟨wt,hwt⟩:∃ wt,wt=(Sha.ws B 64).getD t 0:=⟨_,rfl⟩
   have ck:wr.cell? ⟨Nk,t,none⟩=some (.int .u32 (U kt)):=by
    rw [((HK4.out.below hbel (by omega)).cell t),gl _ _ (by exact h64),hkt]
   have cw:wr.cell? ⟨Nk+1,t,none⟩=some (.int .u32 (U wt)):=by
    rw [((HW4.out.below hbel (by omega)).cell t),gl _ _ (by rw [Sha.fY];exact h64),hwt]
   have HKT:=ab (xad hkt hwt)
   clear hkt hwt
   have c0:wr.cell? ⟨X,0,none⟩=some (.int .u32 (U st.a)):=hbk.cell 0
   have c1:wr.cell? ⟨X,1,none⟩=some (.int .u32 (U st.b)):=hbk.cell 1
   have c2:wr.cell? ⟨X,2,none⟩=some (.int .u32 (U st.c)):=hbk.cell 2
   have c4:wr.cell? ⟨X,4,none⟩=some (.int .u32 (U st.e)):=hbk.cell 4
   have c5:wr.cell? ⟨X,5,none⟩=some (.int .u32 (U st.f)):=hbk.cell 5
   have c6:wr.cell? ⟨X,6,none⟩=some (.int .u32 (U st.g)):=hbk.cell 6
   have c7:wr.cell? ⟨X,7,none⟩=some (.int .u32 (U st.h)):=hbk.cell 7
   have HBK:=ab hbk
   have hXw:X<wr.heap.size:=hbk.lt
   clear hbk
   have e1:=iF st.f st.g
   have e2:=lV st.e (st.f ^^^ st.g)
   have e3:=iF st.g (st.e &&& (st.f ^^^ st.g))
   have e4:=oU st.b st.c
   have e5:=lV st.a (st.b ||| st.c)
   have e6:=lV st.b st.c
   have e7:=oU (st.a &&& (st.b ||| st.c)) (st.b &&& st.c)
   have n0:(0:Int)≤(t:Int):=by omega
   have n1:(t:Int)<64:=by omega
   go_wp2_with fail
   go_region_held3 (fun w'=>w'.cell? ⟨X,7,none⟩=some (.int .u32 (U st.h))∧w'.cell? ⟨X,4,none⟩=some (.int .u32 (U st.e))∧w'.cell? ⟨Nk,t,none⟩=some (.int .u32 (U kt))∧w'.cell? ⟨Nk+1,t,none⟩=some (.int .u32 (U wt))) (go_keep)
    (first
     | (go_at_call 213;(with_reducible refine (p3 st.e 6 11 25 r6 r11 r25 _ _ _ ?_ ?_ ?_).mono ?_);(focus (simp [dO]));(focus (simp [dO]));(focus (simp [dO]));rintro e w' ⟨rfl,rfl⟩))
   go_wp2_with (go_at_call 213;(with_reducible refine (p3 st.a 2 13 22 r2 r13 r22 _ _ _ ?_ ?_ ?_).mono ?_);(focus (simp [dO]));(focus (simp [dO]));(focus (simp [dO]));rintro e w' ⟨rfl,rfl⟩)
   simp only [oT,eH]
   refine bK 2 (by kernel_rfl) (by kernel_rfl) ?_
   simp only [xau,xaC,xay,xaK]
   repeat (go_big_quiet_step (fail))
   refine wpQuiet_nil ?_
   intro nq
   have hX1:X≤wr.heap.size:=by omega
   have hX2:X≤wr.heap.size+1:=by omega
   refine wpList_copy_splice rfl (.tmp 71) (.tmp 72) 198 198 rfl 193 Tryz.underlying198 Gq _ _ 7 7 7 8 rfl rfl X 1
    [.int .u32 (U st.a),.int .u32 (U st.b),.int .u32 (U st.c),.int .u32 (U st.d),.int .u32 (U st.e),.int .u32 (U st.f),.int .u32 (U st.g),.int .u32 (U st.h)] 272
    (((HBK.out.alloc _).alloc _).drew.drewN nq)
    [.int .u32 (U st.a),.int .u32 (U st.b),.int .u32 (U st.c),.int .u32 (U st.d),.int .u32 (U st.e),.int .u32 (U st.f),.int .u32 (U st.g)] rfl
    (fun _=>⟨rfl,_,rfl,?_⟩) (by simp) (by simp [Value.oneCell']) X w4 (below_drewN ((hbel.alloc hX1 _).alloc (by rw [size_alloc];exact hX2) _).drew nq) (xag _) ?_
   ·intro j v hj
    have hb9:=((HBK.out.alloc (.cells #[.int .i64 6,.int .i64 11,.int .i64 25] 3)).alloc (.cells #[.int .i64 2,.int .i64 13,.int .i64 22] 3)).drew.drewN nq
    have hj7:j<7:=(xah.1 hj).1
    have e:(⟨X,0,none⟩:Addr).add j=⟨X,j,none⟩:=by unfold Addr.add;split<;>simp_all
    rw [e,hb9.cell j,← hj]
    match j,hj7 with
    | 0,_=>rfl
    | 1,_=>rfl
    | 2,_=>rfl
    | 3,_=>rfl
    | 4,_=>rfl
    | 5,_=>rfl
    | 6,_=>rfl
   ·intro w5 hs5 hb5
    have hs5:Blk w5 X 272 #[.int .u32 (U st.a),.int .u32 (U st.a),.int .u32 (U st.b),.int .u32 (U st.c),.int .u32 (U st.d),.int .u32 (U st.e),.int .u32 (U st.f),.int .u32 (U st.g)]:=hs5.out
    have d0:w5.cell? ⟨X,0,none⟩=some (.int .u32 (U st.a)):=hs5.cell 0
    have d4:w5.cell? ⟨X,4,none⟩=some (.int .u32 (U st.d)):=hs5.cell 4
    have f0:=hs5.frozen 0
    have f4:=hs5.frozen 4
    have HS5:=ab hs5
    clear hs5 c0 c1 c2 c4 c5 c6 c7 ck cw e1 e2 e3 e4 e5 e6 e7
    dsimp only [xae]
    go_wp2_with fail
    go_roundw
    case rel =>
     refine ⟨t+1,by omega,by go_num,?_,(hb5.setCell (xag _) _).setCell (xag _) _⟩
     have e:Sha.oh s B (t+1)=Sha.rnd st kt wt:=by rw [Sha.oh,← HST.out,← HKT.out.1,← HKT.out.2]
     rw [e,eH,eH]
     exact (HS5.out.gP 0 _).gP 4 _
    case measure=>simp [intOf];omega
  ·obtain rfl:t=64:=by omega
   obtain ⟨st,hst⟩:∃ st,st=Sha.oh s B 64:=⟨_,rfl⟩
   rw [← hst] at hbk
   have HST:=ab hst
   clear hst
   have c0:wr.cell? ⟨X,0,none⟩=some (.int .u32 (U st.a)):=hbk.cell 0
   have c1:wr.cell? ⟨X,1,none⟩=some (.int .u32 (U st.b)):=hbk.cell 1
   have c2:wr.cell? ⟨X,2,none⟩=some (.int .u32 (U st.c)):=hbk.cell 2
   have c3:wr.cell? ⟨X,3,none⟩=some (.int .u32 (U st.d)):=hbk.cell 3
   have c4:wr.cell? ⟨X,4,none⟩=some (.int .u32 (U st.e)):=hbk.cell 4
   have c5:wr.cell? ⟨X,5,none⟩=some (.int .u32 (U st.f)):=hbk.cell 5
   have c6:wr.cell? ⟨X,6,none⟩=some (.int .u32 (U st.g)):=hbk.cell 6
   have c7:wr.cell? ⟨X,7,none⟩=some (.int .u32 (U st.h)):=hbk.cell 7
   have hgr:Blk wr g T (sp s.list B m):=HGW.out.below hbel hgX
   have HGR:=ab hgr
   clear hgr hbk
   go_wp2_with fail
   clear c0 c1 c2 c3 c4 c5 c6 c7
   go_loopw [85] (fun i wq=>∃ k:Nat,k≤8∧i=.int .i64 k∧Blk wq g T (sp (kS s.list st.list k) B m)∧wr.grownBy wq (some g)) (fun i _=>8-(intOf i).toNat)
   case atStart=>exact ⟨0,by omega,rfl,HGR.out,xa1 _ _⟩
   case round =>
    obtain ⟨k,hk,rfl,hgk,hgrw⟩:=hrel
    by_cases h8:k<8
    ·have hix:=He st k h8
     obtain ⟨y,hy⟩:∃ y,y=st.list.getD k 0:=⟨_,rfl⟩
     rw [← hy] at hix
     have HY:=ab hy
     clear hy
     have ck:=(hgk.cell k).trans (gA _ _ _ k (iM _ _ _) h8)
     obtain ⟨z,hz⟩:∃ z,z=(kS s.list st.list k).getD k 0:=⟨_,rfl⟩
     rw [← hz] at ck
     have HZ:=ab hz
     have fk:=hgk.frozen k
     have HGK:=ab hgk
     clear hz hgk
     have n0:(0:Int)≤(k:Int):=by omega
     have n1:(k:Int)<8:=by omega
     unfold x8 at hix
     go_wp2_with fail
     refine bK 9 (by kernel_rfl) (by kernel_rfl) ?_
     simp only [xau,xaC,xay,xaK]
     repeat (go_big_quiet_step (fail))
     refine wpQuiet_nil ?_
     intro nq
     go_wp2
     go_roundw
     case rel =>
      refine ⟨k+1,by omega,by go_num,?_,?_⟩
      ·first | rw [eH] | rw [oT]
       have h3:=(HGK.out.drewN nq).gP k (.int .u32 (U (z+y)))
       rw [xV _ _ _ _ _ (iM _ _ _) h8,HZ.out,HY.out,ry _ _ _ h8] at h3
       rw [HZ.out,HY.out]
       exact h3
      ·exact dL (jJ hgrw nq) (.inl rfl) _
     case measure=>simp [intOf];omega
    ·obtain rfl:k=8:=by omega
     go_wp2_with fail
     go_end0
     refine ⟨rfl,?_,?_⟩
     ·have e:(Sha.comp s B).list=kS s.list st.list 8:=by rw [Sha.comp,← HST.out];rfl
      rw [e]
      exact hgk
     ·exact uE hbl4 (by rw [HX.out] at hbel;exact hbel) hgrw
end Go.Proofs.YtomnhnmciopiiaaGreat
end
section
namespace Go.Proofs.YtomnhnmciopiiaaGreat.Sha
open Go
def stN (c:List UInt8):Nat→St
 | 0=>first
 | q+1=>comp (stN c q) ((c.drop (64*q)).take 64)
theorem qF (c d:List UInt8) (q:Nat) (h:64*q≤c.length):stN (c++d) q=stN c q:=by
 induction q with
 | zero=>rfl
 | succ q ih =>
  rw [stN,stN,ih (by omega),xbT (by omega),xbl (by simp;omega)]
structure iV (c:List UInt8) (s:St) (B:List UInt8):Prop where
 st:s=stN c (c.length / 64)
 len:B.length=64
 rest:B.take (c.length % 64)=c.drop (64*(c.length / 64))
theorem nT {B d:List UInt8} {k:Nat} (h:k+d.length≤B.length):(splice B k d).take (k+d.length)=B.take k++d:=by
 unfold splice
 rw [← xaR,xbl (by simp;omega),xav (by simp;omega)]
theorem iV.part {c d:List UInt8} {s:St} {B:List UInt8} (h:iV c s B) (hd:c.length % 64+d.length<64):iV (c++d) s (splice B (c.length % 64) d):=by
 have e1:(c++d).length / 64=c.length / 64:=by rw [xak];omega
 have e2:(c++d).length % 64=c.length % 64+d.length:=by rw [xak];omega
 have hl:=h.len
 refine ⟨?_,?_,?_⟩
 ·rw [e1,qF _ _ _ (by omega)]
  exact h.st
 ·rw [length_splice _ _ _ (by omega)]
  exact hl
 ·rw [e1,e2,nT (by omega),h.rest,xbT (by omega)]
theorem iV.fill {c d:List UInt8} {s:St} {B:List UInt8} (h:iV c s B) (hd:c.length % 64+d.length=64) :
  iV (c++d) (comp s (splice B (c.length % 64) d)) (splice B (c.length % 64) d):=by
 have e1:(c++d).length / 64=c.length / 64+1:=by rw [xak];omega
 have e2:(c++d).length % 64=0:=by rw [xak];omega
 have hl:=h.len
 have e3:splice B (c.length % 64) d=c.drop (64*(c.length / 64))++d:=by
  have h2:=nT (B:=B) (d:=d) (k:=c.length % 64) (by omega)
  rw [xav (by rw [length_splice _ _ _ (by omega)];omega),h.rest] at h2
  exact h2
 refine ⟨?_,?_,?_⟩
 ·rw [e1,stN,qF _ _ _ (by omega),← h.st,e3,xbT (by omega),xav (by rw [xak,List.length_drop];omega)]
 ·rw [length_splice _ _ _ (by omega)]
  exact hl
 ·rw [e1,e2,xaC,List.drop_eq_nil_of_le (by rw [xak];omega)]
theorem iV.nil:iV [] first (xaz 64 0):=⟨rfl,by simp,by simp⟩
def be (n:Nat):List UInt8:=[xaJ (n / 2 ^ 56),xaJ (n / 2 ^ 48),xaJ (n / 2 ^ 40),xaJ (n / 2 ^ 32),xaJ (n / 2 ^ 24),xaJ (n / 2 ^ 16),xaJ (n / 2 ^ 8),xaJ n]
def du (n:Nat):Nat:=(119-n % 64) % 64
def pad (c:List UInt8):List UInt8:=c++[128]++xaz (du c.length) 0++be (8*c.length)
theorem jE (c:List UInt8):(pad c).length=c.length+1+du c.length+8:=by simp [pad,be];omega
theorem EB (c:List UInt8):(pad c).length % 64=0:=by rw [jE];unfold du;omega
def sum (c:List UInt8):List UInt8:=out (stN (pad c) ((pad c).length / 64))
end Go.Proofs.YtomnhnmciopiiaaGreat.Sha
end
section
namespace Go.Proofs.YtomnhnmciopiiaaGreat
open Go.RowKit
def Spg (w:World) (g T:Nat) (c:List UInt8):Prop:=∃ s B,Sha.iV c s B∧Blk w g T (sp s.list B c.length)
theorem cI {a b c:World} {row:Option Nat} (h:a.grownBy b row) (k:b.grownBy c row):a.grownBy c row :=
 ⟨k.os.trans h.os,k.tape.trans h.tape,k.output.trans h.output,xaH h.size k.size,fun i hi hne=>(k.block i (xaZ hi h.size) hne).trans (h.block i hi hne)⟩
theorem xU (s:List Sha.W) (B:List UInt8) (m m':Nat) (hs:s.length=8) (hB:B.length=64):(sp s B m).setIfInBounds 72 (.int .u64 (m':Int))=sp s B m':=by
 have h1:((s.map fun x=>Value.int .u32 (U x))++bv B).length=72:=by simp [bv,hs,hB]
 simp only [sp,xaa]
 rw [List.set_append_right _ _ (by omega),h1]
 rfl
theorem EV (s:List Sha.W) (B d:List UInt8) (m k:Nat) (hs:s.length=8) (hB:B.length=64) (hk:k+d.length≤64) :
  ((sp s B m).toList.take (8+k)++(bv d++(sp s B m).toList.drop (8+k+(bv d).length))).toArray=sp s (splice B k d) m:=by
 have h1:(bv d).length=d.length:=by simp [bv]
 have h2:(s.map fun x=>Value.int .u32 (U x)).length=8:=by simp [hs]
 have h3:(bv B).length=64:=by simp [bv,hB]
 rw [h1]
 unfold sp splice
 congr 1
 generalize (s.map fun x=>Value.int .u32 (U x))=S at *
 have e:bv (B.take k++(d++B.drop (k+d.length)))=(bv B).take k++(bv d++(bv B).drop (k+d.length)):=by
  simp [bv,List.map_append,List.map_take,List.map_drop]
 rw [e]
 generalize bv B=Bv at *
 rw [xaR,List.take_append,List.drop_append,h2,xav (by omega),List.drop_eq_nil_of_le (by omega),
  show 8+k-8=k by omega,show 8+k+d.length-8=k+d.length by omega,xbl (by omega),xbT (by omega)]
 simp
theorem vK (l:List UInt8) (c:List UInt8) (hcl:c.length+l.length≤1099511627776) (g T:Nat) (A:Option Addr) (b off cap:Nat) (hcap:l.length≤cap) (hA:0<l.length→A=some ⟨b,off,none⟩) (hbg:b ≠ g) (w:World)
  (hcell:∀ j,j<l.length→w.cell? ⟨b,off+j,none⟩=some (.int .u8 ((l.getD j 0).toNat:Int))) (hg:Spg w g T c) :
  Calls Tryz.prog 171 #[.pointer (some ⟨g,0,none⟩),.slice A l.length cap] w fun e w'=>e=.returned (.tuple #[])∧Spg w' g T (c++l)∧w.grownBy w' (some g):=by
 have HC:=ab hcell
 have HA:=ab hA
 have HG:=ab hg
 clear hcell hA hg
 go_enter Tryz.func171,Tryz.ntmps171
 go_wp2_with fail
 go_loopw [1] (fun v wr=>∃ (k:Nat) (A':Option Addr) (cap':Nat),k≤l.length∧v=.slice A' (l.length-k) cap'∧l.length-k≤cap'∧(k<l.length→A'=some ⟨b,off+k,none⟩)∧Spg wr g T (c++l.take k)∧w.grownBy wr (some g))
  (fun v _=>match v with | .slice _ n _=>n | _=>0)
 case atStart=>exact ⟨0,A,cap,by omega,rfl,hcap,HA.out,by simpa using HG.out,xa1 _ _⟩
 case round =>
  obtain ⟨k,A',cap',hk,rfl,hcap',hA',⟨s,B,hsp,hbk⟩,hgr⟩:=hrel
  by_cases hlt:k<l.length
  ·obtain rfl:=hA' hlt
   obtain ⟨c',hc'⟩:∃ c',c'=c++l.take k:=⟨_,rfl⟩
   rw [← hc'] at hsp hbk
   have hlen:c'.length=c.length+k:=by rw [hc',xak,xaN];omega
   have HC':=ab hc'
   clear hc'
   have cm:=(hbk.cell 72).trans (tE _ _ _ rfl hsp.len)
   have fm:=hbk.frozen 72
   obtain ⟨m,hm⟩:∃ m,m=c'.length:=⟨_,rfl⟩
   rw [← hm] at cm
   have hm1:m≤1099511627776:=by omega
   have n1:(1:Int)≤((l.length-k:Nat):Int):=by omega
   have n2:(0:Int)<((l.length-k:Nat):Int):=by omega
   have HM:=ab hm
   have HL:=ab hlen
   have HBK:=ab hbk
   clear hm hlen hbk
   obtain ⟨q,hq⟩:∃ q,q=m % 64:=⟨_,rfl⟩
   have hqm:(m:Int) % 64=(q:Int):=by omega
   have hq64:q<64:=by omega
   have hq65:¬ 64=q:=by omega
   obtain ⟨n,hn⟩:∃ n,n=Nat.min (l.length-k) (64-q):=⟨_,rfl⟩
   have hsl:=rj 274 5 64 Tryz.underlying274 nS g 8 q hq64
   have HQ:=ab hq
   clear hq
   obtain ⟨d,hd⟩:∃ d,d=(l.drop k).take n:=⟨_,rfl⟩
   have hn2:n≤l.length-k:=hn▸Nat.min_le_left _ _
   have hn4:n≤64-q:=hn▸Nat.min_le_right _ _
   have hn1:1≤n:=hn▸Nat.le_min.2 ⟨by omega,by omega⟩
   have hn3:q+n≤64:=by omega
   have hn5:n=l.length-k∨n=64-q:=by
    rcases Nat.le_total (l.length-k) (64-q) with h | h
    ·exact .inl (hn.trans (Nat.min_eq_left h))
    ·exact .inr (hn.trans (Nat.min_eq_right h))
   have hdl:d.length=n:=by rw [hd,xaN,List.length_drop];omega
   have hbl:(bv d).length=Nat.min (l.length-k) (64-q):=by simp only [bv,xap];rw [hdl,hn]
   have hsrc:∀ j v,(bv d)[j]?=some v→wr.cell? ((⟨b,off+k,none⟩:Addr).add j)=some v:=by
    intro j v hj
    have hjn:j<n:=by have:=(xah.1 hj).1;simpa [bv,hdl] using this
    rw [Addr.add_mid,xaV (hgr.block b (xa5 w _ (HC.out k hlt)) (by intro e;injection e with e;exact hbg e)),Nat.add_assoc,HC.out (k+j) (by omega),← hj,hd]
    simp [bv,List.getElem?_drop,List.getD,hjn,show k+j<l.length by omega]
   have hfit:8+q+(bv d).length≤(sp s.list B c'.length).size:=by
    rw [hbl,← hn];simp [sp,bv,hsp.len,Sha.St.list];omega
   have hone:∀ v∈bv d,v.oneCell'=true:=by intro v hv;simp [bv] at hv;obtain ⟨x,_,rfl⟩:=hv;rfl
   have HD:=ab (xad hn (xad hd hdl))
   have HBL:=ab hbl
   have HS:=ab hsrc
   have HO:=ab hone
   have hbn:(bv d).length=n:=by simp only [bv,xap];exact hdl
   clear hn hd hbl hsrc hone
   have HDL:=ab hdl
   clear hdl
   go_wp2_with ((with_reducible refine ae 21 ?_);(with_reducible refine tH rfl (.tmp 19) (.tmp 20) 24 24 rfl 5 Tryz.underlying24 nS g (8+q) (64-q) (64-q) ⟨b,off+k,none⟩ (l.length-k) cap' (sp s.list B c'.length) T HBK.out (bv d) HBL.out HS.out hfit HO.out ?_ ?_ ?_);rfl;rfl;intro w2 h2 hg2;dsimp only [xae,xaa,xab,xac])
   have h3:Blk w2 g T (sp s.list (splice B q d) c'.length):=by rw [← EV _ _ _ _ _ rfl hsp.len (by rw [HDL.out];exact hn3)];exact h2
   clear h2
   have cm2:=(h3.cell 72).trans (tE _ _ _ rfl (by rw [length_splice _ _ _ (by rw [HDL.out,hsp.len];exact hn3)];exact hsp.len))
   rw [← HM.out] at cm2
   have fm2:=h3.frozen 72
   have H3:=ab h3
   clear h3
   have i1:(0:Int)≤(n:Int):=by omega
   have i2:(n:Int)≤((l.length-k:Nat):Int):=by omega
   have i3:(n:Int)≤(cap':Int):=by omega
   obtain ⟨A2,hA2⟩:∃ A2:Option Addr,A2=if cap'=n then some ⟨b,off+k,none⟩ else (some ⟨b,off+k,none⟩:Option Addr).map (·.add n):=⟨_,rfl⟩
   have hs1:=iB 24 5 Tryz.underlying24 nS (some ⟨b,off+k,none⟩) (l.length-k) cap' n hn2
   have hs2:=jw 24 5 Tryz.underlying24 nS (some ⟨b,off+k,none⟩) (l.length-k) cap' n hn2
   rw [← hA2] at hs1 hs2
   have HA2:=ab hA2
   clear hA2
   have hfin:k+n<l.length→A2=some ⟨b,off+(k+n),none⟩:=fun h=>by
    rw [HA2.out,if_neg (by omega)]
    simp [Addr.add_mid,Nat.add_assoc]
   have HF:=ab hfin
   clear hfin
   have hcd:c'++d=c++l.take (k+n):=by rw [HC'.out,HD.out.2.1,xaR,← List.take_add]
   have hcl':(c++l.take (k+n)).length=m+n:=by rw [← hcd,xak,HDL.out,HM.out]
   have hset:Blk ((w2.setCell ⟨g,72,none⟩ (.int .u64 ((m:Int)+(n:Int))))) g T (sp s.list (splice B q d) (m+n)):=by
    have h:=H3.out.gP 72 (.int .u64 ((m:Int)+(n:Int)))
    rw [← HM.out] at h
    have e:=xU s.list (splice B q d) m (m+n) rfl (by rw [length_splice _ _ _ (by rw [HDL.out,hsp.len];exact hn3)];exact hsp.len)
    rw [Int.natCast_add] at e
    rw [e] at h
    exact h
   have hBl:(splice B q d).length=64:=by rw [length_splice _ _ _ (by rw [HDL.out,hsp.len];exact hn3)];exact hsp.len
   have HCD:=ab (xad hcd hcl')
   have HSET:=ab hset
   have HBL:=ab hBl
   have hqm':c'.length % 64=q:=by rw [← HM.out];exact HQ.out.symm
   have HQM:=ab hqm'
   clear hcd hcl' hset hBl hqm'
   by_cases hfull:q+n=64
   ·have hfi:(q:Int)+(n:Int)=64:=by omega
    refine bK 14 (by kernel_rfl) (by kernel_rfl) ?_
    simp only [xau,xaC,xay,xaK]
    repeat (go_big_quiet_step (fail))
    refine wpQuiet_nil ?_
    intro nq
    go_wp2_with fail
    refine bK 6 (by kernel_rfl) (by kernel_rfl) ?_
    simp only [xau,xaC,xay,xaK]
    repeat (go_big_quiet_step (fail))
    refine wpQuiet_nil ?_
    intro np
    go_wp2_with fail
    refine (y2 s (splice B q d) HBL.out (m+n) g T _ (by exact HSET.out)).mono ?_
    rintro e w4 ⟨rfl,hb4,hg4⟩
    have HB4:=ab hb4
    clear hb4
    dsimp only
    go_wp2_with fail
    refine ⟨⟨k+n,A2,cap'-n,by omega,by rw [Nat.sub_sub],by omega,HF.out,⟨Sha.comp s (splice B q d),splice B q d,?_,?_⟩,cI hgr (cI hg2 (cI (dL (jJ (xa1 w2 _) nq) (.inl rfl) _) (cI (jJ (xa1 _ _) np) hg4)))⟩,?_⟩
    ·have h:=hsp.fill (d:=d) (by rw [HQM.out,HDL.out];exact hfull)
     rw [HQM.out,HCD.out.1] at h
     exact h
    ·rw [HCD.out.2]
     exact HB4.out
    ·simp;omega
   ·have hfi:¬ (q:Int)+(n:Int)=64:=by omega
    refine bK 14 (by kernel_rfl) (by kernel_rfl) ?_
    simp only [xau,xaC,xay,xaK]
    repeat (go_big_quiet_step (fail))
    refine wpQuiet_nil ?_
    intro nq
    go_wp2_with fail
    refine ⟨⟨k+n,A2,cap'-n,by omega,by rw [Nat.sub_sub],by omega,HF.out,⟨s,splice B q d,?_,?_⟩,cI hgr (cI hg2 (dL (jJ (xa1 w2 _) nq) (.inl rfl) _))⟩,?_⟩
    ·have h:=hsp.part (d:=d) (by rw [HQM.out,HDL.out];omega)
     rw [HQM.out,HCD.out.1] at h
     exact h
    ·rw [HCD.out.2]
     exact HSET.out
    ·simp;omega
  ·obtain rfl:k=l.length:=by omega
   have n1:¬ (0:Int)<((l.length-l.length:Nat):Int):=by omega
   go_wp2_with fail
   go_end0
   exact ⟨rfl,⟨s,B,by rw [xav (xag _)] at hsp;exact hsp,by rw [xav (xag _)] at hbk;exact hbk⟩,hgr⟩
end Go.Proofs.YtomnhnmciopiiaaGreat
end
section
namespace Go.Proofs.YtomnhnmciopiiaaGreat
open Go.RowKit
theorem xT:(Tryz.prog.info? 153).map (·.size)=some 32:=by kernel_rfl
def z32:Array Value:=(bv (xaz 32 0)).toArray
theorem Spg.many {w:World} {g T:Nat} {c:List UInt8} (h:Spg w g T c):w.cell? ⟨g,72,none⟩=some (.int .u64 ((c.length:Nat):Int)):=by
 obtain ⟨s,B,hsp,hb⟩:=h
 exact (hb.cell 72).trans (tE _ _ _ rfl hsp.len)
theorem Spg.lt {w:World} {g T:Nat} {c:List UInt8} (h:Spg w g T c):g<w.heap.size:=by
 obtain ⟨s,B,hsp,hb⟩:=h
 exact hb.lt
theorem Spg.alloc {w:World} {g T:Nat} {c:List UInt8} (h:Spg w g T c) (o:Obj):Spg (w.alloc o) g T c:=by
 obtain ⟨s,B,hsp,hb⟩:=h
 exact ⟨s,B,hsp,hb.alloc o⟩
theorem take_one (x:UInt8) (c:List UInt8) (hcl:c.length+1≤1099511627776) (g T:Nat) (w:World) (hg:Spg w g T c) (z:Int) (hz:z=(x.toNat:Int)) :
  Calls Tryz.prog 171 #[.pointer (some ⟨g,0,none⟩),.slice (some ⟨w.heap.size,0,none⟩) 1 1] (w.alloc (.cells #[.int .u8 z] 5)) fun e w'=>e=.returned (.tuple #[])∧Spg w' g T (c++[x])∧w.grownBy w' (some g):=by
 subst hz
 refine (vK [x] c hcl g T _ w.heap.size 0 1 (by simp) (fun _=>rfl) (by have:=hg.lt;omega) _ (fun j hj=>?_) (hg.alloc _)).mono ?_
 ·have:j=0:=by simp at hj;omega
  subst this
  exact (Blk.new w 5 _).cell 0
 ·rintro e w' ⟨rfl,h1,h2⟩
  exact ⟨rfl,h1,cI (xcK w _ _) h2⟩
theorem DH (m i:Nat):(m:Int)*8 / 2 ^ (56-8*i) % 256=((xaJ (8*m / 2 ^ (56-8*i))).toNat:Int):=by
 have e:(xaJ (8*m / 2 ^ (56-8*i))).toNat=8*m / 2 ^ (56-8*i) % 256:=by simp
 rw [e,Int.natCast_emod,Int.natCast_ediv,Int.natCast_mul,Int.natCast_pow,Int.mul_comm]
 rfl
theorem DI (n i:Nat) (h:i<8):(Sha.be n).take (i+1)=(Sha.be n).take i++[xaJ (n / 2 ^ (56-8*i))]:=by
 match i,h with
 | 0,_=>rfl
 | 1,_=>rfl
 | 2,_=>rfl
 | 3,_=>rfl
 | 4,_=>rfl
 | 5,_=>rfl
 | 6,_=>rfl
 | 7,_=>simp [Sha.be]
def ov (st:Sha.St) (i:Nat):Array Value:=(bv ((Sha.out st).take i++xaz (32-i) 0)).toArray
theorem dB (st:Sha.St):(Sha.out st).length=32:=by simp [Sha.out]
theorem CM (st:Sha.St) (i:Nat) (h:i<32):(ov st i)[i]?=some (.int .u8 0):=by
 have h2:((Sha.out st).take i).length=i:=by rw [xaN,dB];omega
 simp only [ov,bv,xa0,xaL]
 rw [List.getElem?_append_right (by omega),h2,Nat.sub_self,show 32-i=(31-i)+1 by omega,List.replicate_succ]
 rfl
theorem CN (st:Sha.St) (i:Nat) (h:i<32):(ov st i).setIfInBounds i (.int .u8 (((Sha.out st).getD i 0).toNat:Int))=ov st (i+1):=by
 have h2:((Sha.out st).take i).length=i:=by rw [xaN,dB];omega
 have h3:i<(Sha.out st).length:=by rw [dB];exact h
 have e:(bv ((Sha.out st).take i++xaz (32-i) 0)).set i (.int .u8 (((Sha.out st).getD i 0).toNat:Int))=bv (((Sha.out st).take i++xaz (32-i) 0).set i ((Sha.out st).getD i 0)):=by
  simp only [bv,List.map_set]
 simp only [ov,xaa]
 rw [e,List.set_append_right _ _ (by omega),h2,Nat.sub_self,show 32-i=(32-(i+1))+1 by omega,List.replicate_succ,xab,xbb h3,xaR]
 simp [List.getD,h3]
theorem G9 (i:Nat) (h:i<32):bits .and .i64 (i:Int) 3=((i % 4:Nat):Int):=by
 have h1:∀ j:Nat,j<32→bits .and .i64 (j:Int) 3=((j % 4:Nat):Int):=by decide +kernel
 exact h1 i h
theorem vl (st:Sha.St) (i:Nat) (x:Sha.W) (p r:Nat) (h:i<32) (hx:x=st.list.getD p 0∧p=i / 4∧r=i % 4):U x / 2 ^ (24-r*8) % 256=(((Sha.out st).getD i 0).toNat:Int):=by
 obtain ⟨rfl,rfl,rfl⟩:=hx
 rw [tO]
 have e:(Sha.out st).getD i 0=xaJ (((st.list.getD (i / 4) 0) >>> (24-i % 4*8)).toNat % 256):=by simp [Sha.out,List.getD,h]
 rw [e]
 generalize (st.list.getD (i / 4) 0) >>> (24-i % 4*8)=y
 unfold U
 have e2:(xaJ (y.toNat % 256)).toNat=y.toNat % 256:=by simp
 rw [e2]
 omega
theorem CI {a b c:World} {row:Option Nat} {R:Nat} (h:a.grownBy b row) (k:b.grownBy c (some R)) (hR:a.heap.size≤R):a.grownBy c row :=
 ⟨k.os.trans h.os,k.tape.trans h.tape,k.output.trans h.output,xaH h.size k.size,fun i hi hne=>(k.block i (xaZ hi h.size) (by intro e;injection e with e;omega)).trans (h.block i hi hne)⟩
def m3 (w:World) (g:Nat):Nat:=match w.cell? ⟨g,72,none⟩ with | some (.int _ n)=>n.toNat | _=>0
theorem Spg.m3 {w:World} {g T:Nat} {c:List UInt8} (h:Spg w g T c):m3 w g=c.length:=by unfold YtomnhnmciopiiaaGreat.m3;rw [h.many];simp
theorem DX (c:List UInt8) (hcl:c.length≤1099511627000) (g T:Nat) (w:World) (hg:Spg w g T c) :
  Calls Tryz.prog 172 #[.pointer (some ⟨g,0,none⟩)] w fun e w'=>e=.returned (.agg (bv (Sha.sum c)).toArray)∧w.grownBy w' (some g):=by
 have hlt:=hg.lt
 obtain ⟨R,hR⟩:∃ R,R=w.heap.size:=⟨_,rfl⟩
 have HG:=ab hg
 have HR:=ab hR
 clear hR hg
 go_enter Tryz.func172,Tryz.ntmps172
 go_step
 go_step
 apply wp_region_lit
 refine aa rfl (.pointer (some ⟨R,0,none⟩)) (w.alloc (.cells z32 153)) (by rw [HR.out];kernel_rfl) ?_
 dsimp only [xae,xaa,xab,xac]
 obtain ⟨w1,hw1⟩:∃ w1,w1=w.alloc (.cells z32 153):=⟨_,rfl⟩
 have hb1:Blk w1 R 153 z32:=by rw [hw1,HR.out];exact Blk.new _ _ _
 have hg1:Spg w1 g T c:=by rw [hw1];exact HG.out.alloc _
 have hgr1:w.grownBy w1 (some g):=by rw [hw1];exact xcK w _ _
 rw [← hw1]
 clear hw1
 have cm:=hg1.many
 obtain ⟨m,hm⟩:∃ m,m=c.length:=⟨_,rfl⟩
 rw [← hm] at cm
 have hm1:m≤1099511627000:=by omega
 have HM:=ab hm
 have HB1:=ab hb1
 have HG1:=ab hg1
 clear hm hb1 hg1
 go_wp2_with (go_at_call 171;refine (take_one 128 c (by rw [← HM.out];omega) g T _ HG1.out 128 rfl).mono ?_;rintro e w2 ⟨rfl,hg2,hgr2⟩)
 have HG2:=ab hg2
 clear hg2
 have hR2:R<w1.heap.size:=HB1.out.lt
 have hRg:R ≠ g:=by have:=HR.out;omega
 have hkR:∀ W,w1.grownBy W (some g)→Blk W R 153 z32:=fun W h=>HB1.out.grown h (by intro e;injection e with e;exact hRg e)
 have HKR:=ab hkR
 clear hkR
 go_loopw [14] (fun _ wr=>∃ j:Nat,j≤Sha.du c.length∧Spg wr g T (c++[128]++xaz j 0)∧w1.grownBy wr (some g)) (fun _ wr=>1099511627776-m3 wr g)
 case atStart=>exact ⟨0,by omega,by simpa using HG2.out,hgr2⟩
 case round =>
  obtain ⟨j,hj,hgj,hgrj⟩:=hrel
  have hlen:(c++[128]++xaz j 0).length=m+1+j:=by have:=HM.out;simp;omega
  have hno:Sha.du c.length=(119-m % 64) % 64:=by rw [Sha.du,HM.out]
  obtain ⟨q,hq⟩:∃ q,q=m+1+j:=⟨_,rfl⟩
  have cm2:=hgj.many
  rw [hlen,← hq] at cm2
  have hmo:=hgj.m3
  rw [hlen,← hq] at hmo
  have HMO:=ab hmo
  have HLEN:=ab hlen
  have HNO:=ab hno
  have HGJ:=ab hgj
  have HQ:=ab hq
  have hqb:q≤1099511627200:=by have:=HNO.out;omega
  clear hmo hlen hno hgj hq
  by_cases h56:q % 64=56
  ·have h56':(q:Int) % 64=56:=by omega
   go_wp2_with fail
   have hjn:j=Sha.du c.length:=by have:=HNO.out;have:=HQ.out;omega
   have HJN:=ab hjn
   clear hjn h56' h56
   go_loopw [4] (fun v wq=>∃ i:Nat,i≤8∧v=.int .i64 (56-8*(i:Int))∧Spg wq g T (c++[128]++xaz j 0++(Sha.be (8*m)).take i)∧w1.grownBy wq (some g)) (fun v _=>(intOf v+8).toNat)
   case atStart=>exact ⟨0,by omega,rfl,by simpa using HGJ.out,hgrj⟩
   case round =>
    obtain ⟨i,hi,rfl,hgi,hgri⟩:=hrel
    by_cases h8:i<8
    ·have n1:(0:Int)≤56-8*(i:Int):=by omega
     go_wp2_with (go_at_call 171;refine (take_one (xaJ (8*m / 2 ^ (56-8*i))) _ (by rw [xak,HLEN.out,← HQ.out,xaN];omega) g T _ hgi _ (DH m i)).mono ?_;rintro e w3 ⟨rfl,hg3,hgr3⟩)
     go_roundw
     case rel =>
      refine ⟨i+1,by omega,by go_num,?_,cI hgri hgr3⟩
      rw [DI (8*m) i h8,← xaR]
      exact hg3
     case measure=>simp [intOf];omega
    ·obtain rfl:i=8:=by omega
     have n1:¬ (0:Int)≤56-8*((8:Nat):Int):=by omega
     have hpad:c++[128]++xaz j 0++(Sha.be (8*m)).take 8=Sha.pad c:=by rw [xav (by simp [Sha.be]),HJN.out,HM.out];rfl
     rw [hpad] at hgi
     obtain ⟨st,B,hsp,hb⟩:=hgi
     have hst:=hsp.st
     have HST:=ab hst
     have HB:=ab hb
     have hRB:=HKR.out _ hgri
     have HRB:=ab hRB
     clear hst hb hpad hRB
     go_wp2_with fail
     go_loopw [34] (fun v wz=>∃ i:Nat,i≤32∧v=.int .i64 (i:Int)∧Blk wz R 153 (ov st i)∧wr.grownBy wz (some R)) (fun v _=>(32-intOf v).toNat)
     case atStart=>exact ⟨0,by omega,rfl,HRB.out,xa1 _ _⟩
     case round =>
      obtain ⟨i,hi,rfl,hri,hgz⟩:=hrel
      by_cases h32:i<32
      ·obtain ⟨p,hp⟩:∃ p,p=i / 4:=⟨_,rfl⟩
       obtain ⟨r,hr⟩:∃ r,r=i % 4:=⟨_,rfl⟩
       have hp4:(i:Int) / 4=(p:Int):=by omega
       have hr4:bits .and .i64 (i:Int) 3=(r:Int):=by rw [hr];exact G9 i h32
       have hp8:p<8:=by omega
       have hr3:r≤3:=by omega
       have cp:=((HB.out.grown hgz (by intro e;injection e with e;exact hRg e.symm)).cell p).trans (gA _ _ _ p rfl hp8)
       have cR:=hri.cell i
       rw [CM st i h32] at cR
       have fR:=hri.frozen i
       obtain ⟨x,hx⟩:∃ x,x=st.list.getD p 0:=⟨_,rfl⟩
       rw [← hx] at cp
       have HX:=ab (xad hx (xad hp hr))
       have HRI:=ab hri
       clear hx hp hr hri
       go_wp2_with fail
       go_roundw
       case rel =>
        refine ⟨i+1,by omega,by go_num,?_,dL hgz (.inl rfl) _⟩
        have h3:=HRI.out.gP i (.int .u8 (((Sha.out st).getD i 0).toNat:Int))
        rw [CN st i h32] at h3
        rw [vl st i x p r h32 HX.out]
        exact h3
       case measure=>simp [intOf];omega
      ·obtain rfl:i=32:=by omega
       have e32:ov st 32=(bv (Sha.out st)).toArray:=by unfold ov;rw [xav (by rw [dB];exact xag _)];simp
       rw [e32] at hri
       have hsz:(Tryz.prog.info? 153).map (·.size)=some (bv (Sha.out st)).toArray.size:=by rw [xal,bv,xap,dB];exact xT
       have HK:=ab hri
       clear hri
       go_wp2_with (first
        | ((with_reducible refine ae 53 ?_);(with_reducible refine dj rfl 153 (.tmp 2) rfl R 153 (bv (Sha.out st)).toArray _ _ HK.out Tryz.underlying153 hsz ?_ ?_);rfl;dsimp only [xae,xaa,xab,xac])
        | ((with_reducible refine ak rfl 153 (.tmp 2) (.tmp 53) rfl R (bv (Sha.out st)).toArray (bv (Sha.out st)).toArray 153 HK.out hsz rfl (lj _) ?_ ?_ ?_);rfl;rfl;intro w9 h9 hg9;dsimp only [xae]))
       refine bodyPost_ret (ch rfl _ _ R 153 (bv (Sha.out st)).toArray _ _ rfl h9 Tryz.underlying153 hsz) rfl ⟨by rw [Sha.sum,← HST.out],?_⟩
       have g1:=cI hgr1 hgri
       exact CI g1 (cI hgz hg9) (by rw [HR.out];exact xag _)
  ·have h56':¬ (q:Int) % 64=56:=by omega
   go_wp2_with (go_at_call 171;refine (take_one 0 _ (by rw [HLEN.out,← HQ.out];omega) g T _ HGJ.out 0 rfl).mono ?_;rintro e w3 ⟨rfl,hg3,hgr3⟩)
   go_roundw
   case rel =>
    refine ⟨j+1,?_,?_,cI hgrj hgr3⟩
    ·have:=HNO.out;have:=HQ.out;omega
    ·rw [List.replicate_succ',← xaR];exact hg3
   case measure =>
    rw [HMO.out,hg3.m3,xak,HLEN.out,← HQ.out]
    simp
    omega
end Go.Proofs.YtomnhnmciopiiaaGreat
end
section
namespace Go.Proofs.YtomnhnmciopiiaaGreat
open Go.RowKit
theorem dV.open_ {w:World} {B g:Nat} {v:Value} {l:List UInt8} (h:dV w B v l) (hg:B≤g) :
  ∃ A cap b off,v=.slice A l.length cap∧l.length≤cap∧b ≠ g∧(0<l.length→A=some ⟨b,off,none⟩)∧∀ j,j<l.length→w.cell? ⟨b,off+j,none⟩=some (.int .u8 ((l.getD j 0).toNat:Int)):=by
 obtain ⟨A,cap,hv,hc,hA⟩:=h
 by_cases h0:0<l.length
 ·obtain ⟨b,off,h1,h2,h3⟩:=hA h0
  exact ⟨A,cap,b,off,hv,hc,by omega,fun _=>h1,h3⟩
 ·exact ⟨A,cap,g+1,0,hv,hc,by omega,fun h=>absurd h h0,fun j hj=>by omega⟩
theorem EW (ls:List (List UInt8)) (hl:ls.flatten.length≤1099511627000) (hn:ls.length≤1099511627000) (v:Value) (w:World) (B:Nat) (hB:B≤w.heap.size) (hp:lU w B v ls) :
  Calls Tryz.prog 129 #[v] w fun e w'=>e=.returned (.agg (bv (Sha.sum ls.flatten)).toArray)∧Below w.heap.size w w':=by
 obtain ⟨A,cap,rfl,hcap,hA⟩:=hp
 have HA:=ab hA
 clear hA
 obtain ⟨R,hR⟩:∃ R,R=w.heap.size:=⟨_,rfl⟩
 have HR:=ab hR
 clear hR
 go_enter Tryz.func129,Tryz.ntmps129
 go_step
 go_step
 apply wp_region_lit
 refine aa rfl (.pointer (some ⟨R,0,none⟩)) (w.alloc (.cells z32 153)) (by rw [HR.out];kernel_rfl) ?_
 dsimp only [xae,xaa,xab,xac]
 obtain ⟨w1,hw1⟩:∃ w1,w1=w.alloc (.cells z32 153):=⟨_,rfl⟩
 have hb1:Blk w1 R 153 z32:=by rw [hw1,HR.out];exact Blk.new _ _ _
 have hbl1:Below w.heap.size w w1:=by rw [hw1];exact (xao _ _).alloc (xag _) _
 rw [← hw1]
 clear hw1
 have HB1:=ab hb1
 clear hb1
 go_step
 go_step
 go_step
 go_step
 apply wp_region_lit
 go_step
 go_step
 refine (zi _).mono ?_
 rintro e w2 ⟨rfl,hb2⟩
 dsimp only
 go_step
 refine aa rfl (.agg (sp Sha.first.list (xaz 64 0) 0)) w2 (by kernel_rfl) ?_
 dsimp only [xae,xaa,xab,xac]
 refine aa rfl (.pointer (some ⟨w2.heap.size,0,none⟩)) (w2.alloc (.cells (sp Sha.first.list (xaz 64 0) 0) 276)) (by kernel_rfl) ?_
 dsimp only [xae,xaa,xab,xac]
 obtain ⟨g,hg⟩:∃ g,g=w2.heap.size:=⟨_,rfl⟩
 obtain ⟨w3,hw3⟩:∃ w3,w3=w2.alloc (.cells (sp Sha.first.list (xaz 64 0) 0) 276):=⟨_,rfl⟩
 have hs3:Spg w3 g 276 []:=⟨_,_,Sha.iV.nil,by rw [hw3,hg];exact Blk.new _ _ _⟩
 have hR2:R<w1.heap.size:=HB1.out.lt
 have hgR:R<g:=by have:=hb2.size;omega
 have hk3:Blk w3 R 153 z32:=by rw [hw3];exact (HB1.out.below hb2 hR2).alloc _
 have hal3:Below w.heap.size w w3:=by rw [hw3];exact (hbl1.trans (hb2.mono hbl1.size)).alloc (xaH hbl1.size hb2.size) _
 have hBg:B≤g:=by have:=hb2.size;have:=hbl1.size;omega
 rw [← hw3,← hg]
 have HS3:=ab hs3
 have HK3:=ab hk3
 clear hw3 hg hs3 hk3 hb2
 have hls0:(0:Int)≤(ls.length:Int):=by omega
 go_wp2_with fail
 go_loopw [11] (fun i wr=>∃ k:Nat,k≤ls.length∧i=.int .i64 (k:Int)∧Spg wr g 276 (ls.take k).flatten∧w3.grownBy wr (some g)) (fun i _=>ls.length-(intOf i).toNat)
 case atStart=>exact ⟨0,by omega,rfl,HS3.out,xa1 _ _⟩
 case round =>
  obtain ⟨k,hk,rfl,hsk,hgk⟩:=hrel
  by_cases hlt:k<ls.length
  ·obtain ⟨b,off,rfl,hbB,hcells⟩:=HA.out (by omega)
   obtain ⟨u,hu,hby⟩:=hcells k hlt
   have ha:Alike B w wr:=(fA (hal3.mono hB)).trans (oX hgk hBg (by have:=hal3.size;omega))
   have cu:wr.cell? ⟨b,off+k,none⟩=some u:=(ha.cell (p:=⟨b,off+k,none⟩) hbB).trans hu
   obtain ⟨l,hl'⟩:∃ l,l=ls.getD k []:=⟨_,rfl⟩
   rw [← hl'] at hby
   obtain ⟨Aj,cj,bj,oj,rfl,hcj,hbj,hAj,hcell⟩:=(hby.alike ha).open_ hBg
   have hfl:(ls.take (k+1)).flatten=(ls.take k).flatten++l:=by
    rw [xbb hlt,xbU,hl'];simp [List.getD,hlt]
   have hbd:(ls.take k).flatten.length+l.length≤1099511627776:=by
    have h1:(ls.take (k+1)).flatten.length≤ls.flatten.length:=by
     have h2:ls.flatten=(ls.take (k+1)).flatten++(ls.drop (k+1)).flatten:=by rw [← xbU,List.take_append_drop]
     rw [h2,xak];omega
    rw [hfl,xak] at h1
    omega
   have HFL:=ab hfl
   have HCELL:=ab hcell
   have HAJ:=ab hAj
   have i1:(0:Int)≤(k:Int):=by omega
   have i2:(k:Int)<(ls.length:Int):=by omega
   clear hu hby hcells hl' hfl hcell hAj
   go_wp2_with (go_at_call 171;refine (vK l _ hbd g 276 Aj bj oj cj hcj HAJ.out hbj _ HCELL.out hsk).mono ?_;rintro e w5 ⟨rfl,hs5,hg5⟩)
   go_roundw
   case rel=>exact ⟨k+1,by omega,by go_num,by rw [HFL.out];exact hs5,cI hgk hg5⟩
   case measure=>simp [intOf];omega
  ·obtain rfl:k=ls.length:=by omega
   have hfl:(ls.take ls.length).flatten=ls.flatten:=by rw [xav (xag _)]
   rw [hfl] at hsk
   have hkR:Blk wr R 153 z32:=HK3.out.grown hgk (by intro e;injection e with e;omega)
   have HKR:=ab hkR
   have hsz:(Tryz.prog.info? 153).map (·.size)=some (bv (Sha.sum ls.flatten)).toArray.size:=by rw [xal,bv,xap,Sha.sum,dB];exact xT
   have hzs:z32.size=(bv (Sha.sum ls.flatten)).toArray.size:=by
    have e:z32.size=32:=by simp [z32,bv]
    rw [e,xal,bv,xap,Sha.sum,dB]
   clear hkR hfl
   go_wp2_with (first
    | (go_at_call 172;refine (DX _ hl g 276 _ hsk).mono ?_;rintro e w6 ⟨rfl,hg6⟩;have HK6:=ab (HKR.out.grown hg6 (fun e=>absurd (xam e) (Nat.ne_of_lt hgR))))
    | ((with_reducible refine ak rfl 153 (.tmp 2) (.tmp 20) rfl R z32 (bv (Sha.sum ls.flatten)).toArray 153 HK6.out hsz hzs (lj _) ?_ ?_ ?_);rfl;rfl;intro w9 h9 hg9;dsimp only [xae]))
   refine bodyPost_ret (ch rfl _ _ R 153 (bv (Sha.sum ls.flatten)).toArray _ _ rfl h9 Tryz.underlying153 hsz) rfl ⟨rfl,?_⟩
   have hw:=HR.out
   refine xb9 (xb9 (xb9 hal3 hgk ?_ ?_) hg6 ?_ ?_) hg9 ?_ ?_
   ·have:=hal3.size;omega
   ·intro x hx;injection hx with hx;omega
   ·have:=hal3.size;have:=hgk.size;omega
   ·intro x hx;injection hx with hx;omega
   ·have:=hal3.size;have:=hgk.size;have:=hg6.size;omega
   ·intro x hx;injection hx with hx;omega
end Go.Proofs.YtomnhnmciopiiaaGreat
end
section
namespace Go.Proofs.YtomnhnmciopiiaaGreat
open Go.RowKit
theorem De:(Tryz.prog.info? 34).map (·.size)=some 20:=by kernel_rfl
def fold (l:List UInt8):Nat→List UInt8
 | 0=>xaz 20 0
 | i+1=>(fold l i).set (i % 20) ((fold l i).getD (i % 20) 0 ^^^ l.getD i 0)
theorem dH (l:List UInt8) (i:Nat):(fold l i).length=20:=by induction i with | zero=>rfl | succ i ih=>simp [fold,ih]
theorem BX (l:List UInt8) (hl:l.length=32) (w:World) :
  Calls Tryz.prog 128 #[.agg (bv l).toArray] w fun e w'=>e=.returned (.agg (bv (fold l 32)).toArray)∧Below w.heap.size w w':=by
 have h0:Blk (w.alloc (.cells (bv l).toArray 153)) w.heap.size 153 (bv l).toArray:=Blk.new _ _ _
 have hsl:(Tryz.prog.info? 153).map (·.size)=some (bv l).toArray.size:=by rw [xal,bv,xap,hl];kernel_rfl
 obtain ⟨L,hL⟩:∃ L,L=(bv l).toArray:=⟨_,rfl⟩
 rw [← hL] at h0 hsl ⊢
 have HL:=ab hL
 have H0:=ab h0
 clear hL h0
 go_enter Tryz.func128,Tryz.ntmps128
 go_wp2_with (with_reducible refine dj rfl 153 (.tmp 1) rfl w.heap.size 153 L _ _ (H0.out.alloc _) Tryz.underlying153 hsl ?_ ?_);rfl
 obtain ⟨R,hR⟩:∃ R,R=w.heap.size+1:=⟨_,rfl⟩
 have hz:Blk ((w.alloc (.cells L 153)).alloc (.cells (bv (fold l 0)).toArray 34)) R 34 (bv (fold l 0)).toArray:=by rw [hR];exact Blk.aM _ _ _ _
 have hbz:Below w.heap.size w ((w.alloc (.cells L 153)).alloc (.cells (bv (fold l 0)).toArray 34)):=((xao _ _).alloc (xag _) _).alloc (by rw [size_alloc];omega) _
 rw [← hR]
 have HZ:=ab hz
 have HR:=ab hR
 have HBZ:=ab hbz
 clear hz hR hbz
 go_loopw [6] (fun v wr=>∃ i:Nat,i≤32∧v=.int .i64 (i:Int)∧Blk wr R 34 (bv (fold l i)).toArray∧Below w.heap.size w wr) (fun v _=>(32-intOf v).toNat)
 case atStart=>exact ⟨0,by omega,rfl,HZ.out,HBZ.out⟩
 case round =>
  obtain ⟨i,hi,rfl,hb,hbl⟩:=hrel
  have hRw:w.heap.size≤R:=by have:=HR.out;omega
  by_cases h32:i<32
  ·obtain ⟨q,hq⟩:∃ q,q=i % 20:=⟨_,rfl⟩
   have hqi:(i:Int) % 20=(q:Int):=by omega
   have hq2:q<20:=by omega
   obtain ⟨x,hx⟩:∃ x,x=l.getD i 0:=⟨_,rfl⟩
   obtain ⟨y,hy⟩:∃ y,y=(fold l i).getD q 0:=⟨_,rfl⟩
   have hix:∀ W,(xbC 153 (.agg L) (.int .i64 (i:Int))).run Tryz.prog W=.ok (.int .u8 (x.toNat:Int)) W :=
    kY 153 5 32 .u8 Tryz.underlying153 Tryz.underlying5 nS L i h32 _ (by rw [HL.out,hx,o6 _ _ (by omega)])
   have cq:wr.cell? ⟨R,q,none⟩=some (.int .u8 (y.toNat:Int)):=by rw [hb.cell,o6 _ _ (by rw [dH];omega),hy]
   have fq:=hb.frozen q
   have hxy:bits .xor .u8 (y.toNat:Int) (x.toNat:Int)=((y ^^^ x).toNat:Int):=by
    rw [u8_xor_nat _ _ y.toNat_lt x.toNat_lt,UInt8.toNat_xor]
   have HB:=ab hb
   have HQ:=ab (xad hq (xad hx hy))
   clear hb hq hx hy
   obtain ⟨z,hz⟩:∃ z,z=y ^^^ x:=⟨_,rfl⟩
   rw [← hz] at hxy
   have HZ2:=ab hz
   clear hz
   go_wp2_with fail
   go_roundw
   case rel =>
    refine ⟨i+1,by omega,by go_num,?_,hbl.setCell hRw _⟩
    have h3:=HB.out.gP q (.int .u8 (z.toNat:Int))
    rw [By] at h3
    have e:fold l (i+1)=(fold l i).set q z:=by rw [fold,HZ2.out,HQ.out.1,HQ.out.2.1,HQ.out.2.2,HQ.out.1]
    rw [e]
    exact h3
   case measure=>simp [intOf];omega
  ·obtain rfl:i=32:=by omega
   have hsz:(Tryz.prog.info? 34).map (·.size)=some (bv (fold l 32)).toArray.size:=by rw [xal,bv,xap,dH];exact De
   have HK:=ab hb
   clear hb
   go_wp2_with (first
    | ((with_reducible refine ae 18 ?_);(with_reducible refine dj rfl 34 (.tmp 2) rfl R 34 (bv (fold l 32)).toArray _ _ HK.out Tryz.underlying34 hsz ?_ ?_);rfl;dsimp only [xae,xaa,xab,xac])
    | ((with_reducible refine ak rfl 34 (.tmp 2) (.tmp 18) rfl R (bv (fold l 32)).toArray (bv (fold l 32)).toArray 34 HK.out hsz rfl (lj _) ?_ ?_ ?_);rfl;rfl;intro w9 h9 hg9;dsimp only [xae]))
   refine bodyPost_ret (ch rfl _ _ R 34 (bv (fold l 32)).toArray _ _ rfl h9 Tryz.underlying34 hsz) rfl ⟨rfl,?_⟩
   refine hbl.grown hg9 hbl.size ?_
   intro k hk;injection hk with hk;omega
end Go.Proofs.YtomnhnmciopiiaaGreat
end
section
namespace Go.Proofs.YtomnhnmciopiiaaGreat
open Go.RowKit
theorem GL (m:Nat):bits .or .u8 ((m:Int) % 256) 128=((xaJ (m % 128+128)).toNat:Int):=by
 have h1:(m:Int) % 256=((m % 256:Nat):Int):=by omega
 have h2:bits .or .u8 ((m % 256:Nat):Int) ((128:Nat):Int)=((m % 256 ||| 128:Nat):Int):=by
  have:=u8_or_nat (m % 256) 128 (by omega) (by omega)
  exact this
 rw [h1]
 refine h2.trans ?_
 rw [UInt8.toNat_ofNat']
 have h3:m % 256 ||| 128=m % 128+128:=by
  have h4:m % 256<256:=Nat.mod_lt _ (by omega)
  have h5:m % 128=(m % 256) % 128:=by omega
  rw [h5]
  generalize m % 256=q at h4
  clear h1 h2 h5
  revert h4
  revert q
  decide +kernel
 rw [h3]
 congr 1
 omega
structure tK (w:World) (base g T:Nat) (l:List UInt8) (bad:Bool) (v:Value):Prop where
 blk:Blk w g T #[v,.bool bad]
 own:w.ownsRow base 5 1 v l.length (bv l)
def ik (w:World) (v v':Value):Prop:=v'.ownBlock=v.ownBlock∨∃ r,v'.ownBlock=some r∧w.heap.size≤r
theorem ik.refl (w:World) (v:Value):ik w v v:=.inl rfl
theorem ik.trans {w w':World} {a b c:Value} (h:ik w a b) (k:ik w' b c) (hw:w.heap.size≤w'.heap.size):ik w a c:=by
 rcases k with k | ⟨r,k,hr⟩
 ·rcases h with h | ⟨q,h,hq⟩
  ·exact .inl (k.trans h)
  ·exact .inr ⟨q,k.trans h,hq⟩
 ·exact .inr ⟨r,k,by omega⟩
def MkS (g:Nat) (v:Value) (k:Nat):Prop:=k=g∨v.ownBlock=some k
theorem xz (n:Nat) (hn:n<18446744073709551616) (l:List UInt8) (hl:l.length≤1099511627776) (bad:Bool) (base g T:Nat) (hT:5 ≠ T) (v:Value) (w:World) (hbase:base≤w.heap.size) (hm:tK w base g T l bad v) :
  Calls Tryz.prog 199 #[.pointer (some ⟨g,0,none⟩),.int .u64 (n:Int)] w fun e w'=>e=.returned (.tuple #[])∧∃ v',tK w' base g T (l++num n) bad v'∧cS (MkS g v) w w'∧ik w v v':=by
 obtain ⟨i,hi,hz0,hz1,hz2⟩:=info_parts yA
 have hN:=jI n hn
 have HM:=ab hm
 have HT:=ab hT
 clear hm hT
 go_enter Tryz.func199,Tryz.ntmps199
 go_wp2_with fail
 go_loopw [1] (fun s wr=>∃ (m:Nat) (dn:List UInt8) (v':Value),s=.int .u64 (m:Int)∧m<18446744073709551616∧dn++num m=num n∧tK wr base g T (l++dn) bad v'∧cS (MkS g v) w wr∧ik w v v') (fun s _=>(intOf s).toNat)
 case atStart=>exact ⟨n,[],v,rfl,hn,rfl,by simpa using HM.out,cS.refl _ _,ik.refl _ _⟩
 case round =>
  obtain ⟨m,dn,v',rfl,hm,hdn,⟨hb,ho⟩,ht,hmv⟩:=hrel
  have hlen:dn.length+(num m).length≤10:=by rw [← xak,hdn];exact hN
  have c0:=hb.cell 0
  have f0:=hb.frozen 0
  simp only [xa0,xa3] at c0
  have hlt:=hb.lt
  have hne:=mA ho hb HT.out
  have hsz:=ht.size
  have HD:=ab hdn
  have HB:=ab hb
  have HO:=ab ho
  have HTU:=ab (xad ht hmv)
  have HL:=ab hlen
  have HNE:=ab hne
  clear hdn hb ho ht hmv hlen hne
  by_cases hge:128≤m
  ·have hor:=GL m
   obtain ⟨x,hx⟩:∃ x,x=xaJ (m % 128+128):=⟨_,rfl⟩
   rw [← hx] at hor
   have HX:=ab hx
   clear hx
   obtain ⟨X,hX⟩:∃ X,X=wr.heap.size:=⟨_,rfl⟩
   have hsrc:=iS wr (.int .u8 (x.toNat:Int)) 5 rfl
   rw [← hX] at hsrc
   have HSR:=ab hsrc
   have HXX:=ab hX
   clear hsrc hX
   go_wp2_with (at_builtin;(refine dR rfl _ _ 24 rfl base 5 i (.int .u8 0) 1 Tryz.underlying24 hi hz0 hz1 hz2 rfl v' (l++dn).length (bv (l++dn)) (HO.out.alloc _) _ 1 1 [.int .u8 (x.toNat:Int)] (iS _ _ _ rfl) ?h1 ?h2 ?h3 rfl rfl ?_))
   case h1=>have:=HL.out;simp only [xak,maxLen];omega
   case h2=>have:=HL.out;simp only [xak];omega
   case h3=>rw [size_alloc];omega
   intro v2 w2 eM gr2 mv2 _
   have hb2:=(HB.out.alloc _).grown gr2 (fun e=>HNE.out e.symm)
   have c2:=hb2.cell 0
   have f2:=hb2.frozen 0
   simp only [xa0,xa3] at c2
   have hlt2:=hb2.lt
   have hT2:cS (MkS g v) w w2:=by
    refine (HTU.out.1.alloc _).Fk (cS.kh (S:=fun k=>v'.ownBlock=some k) gr2 (fun k h _=>h)) ?_
    intro k hk hv
    rcases HTU.out.2 with h | ⟨r,h,hr⟩
    ·exact .inr (h▸hv)
    ·rw [h] at hv;injection hv with hv;omega
   have hM2:ik w v v2:=HTU.out.2.trans (w':=wr.alloc (.cells #[.int .u8 (x.toNat:Int)] 5)) (by rcases mv2 with h | h;exact .inl h;exact .inr ⟨_,h,by rw [size_alloc];omega⟩) (by rw [size_alloc];omega)
   have hd2:(dn++[x])++num (m / 128)=num n:=by rw [← HD.out,xy (n:=m) (by omega),HX.out];simp
   obtain ⟨A2,k2,rfl⟩:=bq eM
   have hq:l.length+dn.length+1=(l++(dn++[x])).length:=by simp;omega
   have HB2:=ab hb2
   have HT2:=ab (xad hT2 hM2)
   have HO2:=ab eM
   have HD2:=ab hd2
   clear hb2 eM gr2 mv2 hT2 hM2 hd2 c0 f0
   go_wp2_with fail
   go_roundw
   case rel =>
    refine ⟨m / 128,dn++[x],.slice A2 (l.length+dn.length+1) k2,by go_num,by omega,HD2.out,⟨?_,?_⟩,HT2.out.1.setCell (fun _=>.inl rfl) _,HT2.out.2⟩
    ·exact HB2.out.gP 0 _
    ·rw [← hq]
     have h:=gk (w':=w2.setCell ⟨g,0,none⟩ (.slice A2 (l.length+dn.length+1) k2)) HO2.out (fun q hqv hql=>xbv w2 _ _ q (by rintro rfl;exact mA HO2.out HB2.out HT.out hqv))
     rw [← xaR,bvA]
     exact h
   case measure=>simp [intOf];omega
  ·have hdn2:dn++[xaJ m]=num n:=by rw [← HD.out,tn (n:=m) (by omega)]
   obtain ⟨x,hx⟩:∃ x,x=xaJ m:=⟨_,rfl⟩
   have hxm:(m:Int) % 256=(x.toNat:Int):=by rw [hx,UInt8.toNat_ofNat'];omega
   have hxm2:(m:Int)=(x.toNat:Int):=by rw [← hxm];omega
   rw [← hx] at hdn2
   have HD2:=ab hdn2
   clear hdn2 hx
   go_wp2_with (at_builtin;(refine dR rfl _ _ 24 rfl base 5 i (.int .u8 0) 1 Tryz.underlying24 hi hz0 hz1 hz2 rfl v' (l++dn).length (bv (l++dn)) (HO.out.alloc _) _ 1 1 [.int .u8 (x.toNat:Int)] (iS _ _ _ rfl) ?h1 ?h2 ?h3 rfl rfl ?_))
   case h1=>have:=HL.out;simp only [xak,maxLen];omega
   case h2=>have:=HL.out;simp only [xak];omega
   case h3=>rw [size_alloc];omega
   intro v2 w2 eM gr2 mv2 _
   have hb2:=(HB.out.alloc _).grown gr2 (fun e=>HNE.out e.symm)
   have c2:=hb2.cell 0
   have f2:=hb2.frozen 0
   simp only [xa0,xa3] at c2
   have hlt2:=hb2.lt
   have hT2:cS (MkS g v) w w2:=by
    refine (HTU.out.1.alloc _).Fk (cS.kh (S:=fun k=>v'.ownBlock=some k) gr2 (fun k h _=>h)) ?_
    intro k hk hv
    rcases HTU.out.2 with h | ⟨r,h,hr⟩
    ·exact .inr (h▸hv)
    ·rw [h] at hv;injection hv with hv;omega
   have hM2:ik w v v2:=HTU.out.2.trans (w':=wr.alloc (.cells #[.int .u8 (x.toNat:Int)] 5)) (by rcases mv2 with h | h;exact .inl h;exact .inr ⟨_,h,by rw [size_alloc];omega⟩) (by rw [size_alloc];omega)
   obtain ⟨A2,k2,rfl⟩:=bq eM
   have hq:l.length+dn.length+1=(l++(dn++[x])).length:=by simp;omega
   have HB2:=ab hb2
   have HT2:=ab (xad hT2 hM2)
   have HO2:=ab eM
   clear hb2 eM gr2 mv2 hT2 hM2 c0 f0
   go_wp2_with fail
   go_end0
   refine ⟨rfl,.slice A2 (l.length+dn.length+1) k2,⟨?_,?_⟩,HT2.out.1.setCell (fun _=>.inl rfl) _,HT2.out.2⟩
   ·exact HB2.out.gP 0 _
   ·rw [← HD2.out,← hq]
    have h:=gk (w':=w2.setCell ⟨g,0,none⟩ (.slice A2 (l.length+dn.length+1) k2)) HO2.out (fun q hqv hql=>xbv w2 _ _ q (by rintro rfl;exact mA HO2.out HB2.out HT.out hqv))
    rw [← xaR,bvA]
    exact h
end Go.Proofs.YtomnhnmciopiiaaGreat
end
section
namespace Go.Proofs.YtomnhnmciopiiaaGreat
open Go.RowKit
theorem rB (n most:Int) (hn:0≤n∧n≤most) (hm:most≤1099511627776) (g T:Nat) (v:Value) (bad:Bool) (w:World) (hb:Blk w g T #[v,.bool bad]) :
  Calls Tryz.prog 198 #[.pointer (some ⟨g,0,none⟩),.int .i64 n,.int .i64 most] w fun e w'=>e=.returned (.bool !bad)∧w=w':=by
 have c1:=hb.cell 1
 simp only [xa0,xbs,xa3] at c1
 have hlt:=hb.lt
 have h0:=hn.1
 have h1:=hn.2
 have h2:¬ most<n:=by omega
 have h3:decide (most<n)=false:=decide_eq_false h2
 have h4:0≤most:=by omega
 have HB:=ab hb
 clear hb hn
 go_enter Tryz.func198,Tryz.ntmps198
 go_wp2
 go_ret
 exact ⟨rfl,rfl⟩
theorem Bm (n most:Int) (hn:n<0∨most<n) (hn2:-9223372036854775808≤n∧n≤9223372036854775807) (hm:0≤most∧most≤1099511627776) (g T:Nat) (v:Value) (bad:Bool) (w:World) (hb:Blk w g T #[v,.bool bad]) :
  Calls Tryz.prog 198 #[.pointer (some ⟨g,0,none⟩),.int .i64 n,.int .i64 most] w fun e w'=>e=.returned (.bool false)∧Blk w' g T #[v,.bool true]∧w.grownBy w' (some g):=by
 have c1:=hb.cell 1
 have f1:=hb.frozen 1
 simp only [xa0,xbs,xa3] at c1
 have hlt:=hb.lt
 have h4:=hm.1
 have h5:=hm.2
 have h6:=hn2.1
 have h7:=hn2.2
 have hu:n<0→most<IntKind.u64.wrap n:=fun h=>by simp [xbA,IntKind.signed,IntKind.bits];omega
 have HB:=ab hb
 clear hb hm hn2
 rcases Int.lt_or_le n 0 with hneg | hpos
 ·have hu2:=hu hneg
  clear hu hn
  go_enter Tryz.func198,Tryz.ntmps198
  go_wp2
  go_ret
  exact ⟨rfl,HB.out.gP 1 _,dL (xa1 w _) (.inl rfl) _⟩
 ·have hlt2:most<n:=by omega
  clear hu hn
  go_enter Tryz.func198,Tryz.ntmps198
  go_wp2
  go_ret
  exact ⟨rfl,HB.out.gP 1 _,dL (xa1 w _) (.inl rfl) _⟩
def mkNum (l:List UInt8) (bad:Bool) (n:Int):List UInt8×Bool:=if 0≤n∧n≤1099511627776 then (if bad then (l,true) else (l++num n.toNat,false)) else (l,true)
theorem CA (n:Int) (hn:-9223372036854775808≤n∧n≤9223372036854775807) (l:List UInt8) (hl:l.length≤1099511627776) (bad:Bool) (base g T:Nat) (hT:5 ≠ T) (v:Value) (A:Nat) (w:World) (hbase:base≤w.heap.size)
  (hm:tK w base g T l bad v) (hA:w.cell? ⟨A,0,none⟩=some (.int .i64 n)) :
  Calls Tryz.prog 168 #[.pointer (some ⟨g,0,none⟩),.slice (some ⟨A,0,none⟩) 1 1] w fun e w'=>e=.returned (.pointer (some ⟨g,0,none⟩)) ∧
   ∃ v',tK w' base g T (mkNum l bad n).1 (mkNum l bad n).2 v'∧cS (MkS g v) w w'∧ik w v v':=by
 have HM:=ab hm
 have HT:=ab hT
 have HA:=ab hA
 clear hm hT hA
 go_enter Tryz.func168,Tryz.ntmps168
 go_wp2_with fail
 go_loopw [11] (fun i wr=>∃ k:Nat,k≤1∧i=.int .i64 (k:Int)∧(k=0→wr=w)∧(k=1→∃ v',tK wr base g T (mkNum l bad n).1 (mkNum l bad n).2 v'∧cS (MkS g v) w wr∧ik w v v')) (fun i _=>(1-intOf i).toNat)
 case atStart=>exact ⟨0,by omega,rfl,fun _=>rfl,fun h=>absurd h (by omega)⟩
 case round =>
  obtain ⟨k,hk,rfl,hk0,hk1⟩:=hrel
  have HK1:=ab hk1
  clear hk1
  by_cases h0:k=0
  ·obtain rfl:=hk0 h0
   subst h0
   have ca:=HA.out
   have b1:=hn.1
   have b2:=hn.2
   by_cases hin:0≤n∧n≤1099511627776
   ·obtain ⟨m,rfl⟩:∃ m:Nat,n=(m:Int):=⟨n.toNat,by omega⟩
    have hm64:m<18446744073709551616:=by omega
    cases hbad:bad with
    | true =>
     rw [hbad] at HM
     clear hk0 HK1 hbad
     go_wp2_with (go_at_call 198;refine (rB _ _ hin (by omega) g T v true _ HM.out.blk).mono ?_;rintro e w1 ⟨rfl,rfl⟩)
     go_roundw
     case rel =>
      refine ⟨1,by omega,by go_num,fun h=>absurd h (by omega),fun _=>⟨v,?_,cS.refl _ _,ik.refl _ _⟩⟩
      rw [mkNum,if_pos hin,if_pos rfl]
      exact HM.out
     case measure=>simp [intOf]
    | false =>
     rw [hbad] at HM
     clear hk0 HK1 hbad
     go_wp2_with (first
      | (go_at_call 198;refine (rB _ _ hin (by omega) g T v false _ HM.out.blk).mono ?_;rintro e w1 ⟨rfl,rfl⟩)
      | (go_at_call 199;refine (xz m hm64 l hl false base g T HT.out v _ hbase HM.out).mono ?_;rintro e w1 ⟨rfl,v1,hm1,ht1,hmv1⟩))
     have HM1:=ab (xad hm1 (xad ht1 hmv1))
     clear hm1 ht1 hmv1
     go_roundw
     case rel =>
      obtain ⟨hm1,ht1,hmv1⟩:=HM1.out
      refine ⟨1,by omega,by go_num,fun h=>absurd h (by omega),fun _=>⟨v1,?_,ht1,hmv1⟩⟩
      rw [mkNum,if_pos hin,if_neg (by simp)]
      exact hm1
     case measure=>simp [intOf]
   ·have hin2:n<0∨1099511627776<n:=by omega
    clear hk0 HK1
    go_wp2_with (go_at_call 198;refine (Bm _ _ hin2 hn (by omega) g T v bad _ HM.out.blk).mono ?_;rintro e w1 ⟨rfl,hb1,hg1⟩)
    have HM1:=ab (xad hb1 hg1)
    clear hb1 hg1
    go_roundw
    case rel =>
     obtain ⟨hb1,hg1⟩:=HM1.out
     refine ⟨1,by omega,by go_num,fun h=>absurd h (by omega),fun _=>⟨v,?_,cS.kh hg1 (fun k h _=>by injection h with h;exact .inl h.symm),ik.refl _ _⟩⟩
     rw [mkNum,if_neg hin]
     exact ⟨hb1,gk HM.out.own (fun q hq hlt=>hg1.block q hlt (by intro e;injection e with e;subst e;exact mA HM.out.own HM.out.blk HT.out hq))⟩
    case measure=>simp [intOf]
  ·obtain rfl:k=1:=by omega
   have H:=HK1.out rfl
   have HH:=ab H
   clear H hk0
   go_wp2_with fail
   go_ret
   exact ⟨rfl,HH.out⟩
end Go.Proofs.YtomnhnmciopiiaaGreat
end
section
namespace Go.Proofs.YtomnhnmciopiiaaGreat
open Go.RowKit
theorem y8 (w:World):Calls Tryz.prog 200 #[.slice none 0 0] w fun e w'=>e=.returned (.slice none 0 0)∧w=w':=by
 have hq:=fun (w:World) (a:Option Addr) (n c:Nat)=>xcx (P:=Tryz.prog) w 24 5 a n c 0 0 Tryz.underlying24
 go_enter Tryz.func200,Tryz.ntmps200
 go_wp2
 go_ret
 exact ⟨rfl,rfl⟩
theorem wy (l:List UInt8) (hl:l.length≤1099511627776) (ad:Addr) (cap:Nat) (w:World) (hs:Src w (some ad) l.length cap (bv l)) :
  Calls Tryz.prog 200 #[.slice (some ad) l.length cap] w fun e w'=>∃ v',e=.returned v'∧w'.ownsRow w.heap.size 5 1 v' l.length (bv l)∧Below w.heap.size w w':=by
 obtain ⟨i,hi,hz0,hz1,hz2⟩:=info_parts yA
 have HS:=ab hs
 clear hs
 have hq:=fun (w:World) (a:Option Addr) (n c:Nat)=>xcx (P:=Tryz.prog) w 24 5 a n c 0 0 Tryz.underlying24
 go_enter Tryz.func200,Tryz.ntmps200
 have hown:=sj w 5
 have HO:=ab hown
 clear hown
 go_wp2_with (at_builtin;(refine dR rfl _ _ 24 rfl w.heap.size 5 i (.int .u8 0) 1 Tryz.underlying24 hi hz0 hz1 hz2 rfl _ 0 [] HO.out (some ad) l.length cap (bv l) ?h0 ?h1 ?h2 ?h3 rfl rfl ?_))
 case h0=>exact HS.out.alloc _
 case h1=>simp only [maxLen];omega
 case h2=>omega
 case h3=>rw [size_alloc];omega
 intro v' w1 gj gr1 _ _
 go_wp2_with fail
 go_ret
 refine ⟨v',rfl,by simpa using gj,((xao _ _).alloc (xag _) _).grown gr1 (by rw [size_alloc];omega) ?_⟩
 intro k hk
 injection hk with hk
 change w.heap.size=k at hk
 omega
theorem y7 (l:List UInt8) (hl:l.length≤1099511627776) (A:Option Addr) (n cap:Nat) (B:Nat) (w:World) (hv:dV w B (.slice A n cap) l) (hnil:A=none→cap=0) :
  Calls Tryz.prog 200 #[.slice A n cap] w fun e w'=>∃ v',e=.returned v'∧w'.ownsRow w.heap.size 5 1 v' l.length (bv l)∧Below w.heap.size w w':=by
 have hnl:n=l.length:=by obtain ⟨_,_,h,_⟩:=hv;injection h
 subst hnl
 cases A with
 | none =>
  obtain rfl:=hnil rfl
  have h0:l=[]:=by
   obtain ⟨A',c',h,hc,_⟩:=hv
   injection h with _ _ h
   exact xaT (by omega)
  subst h0
  exact (y8 w).mono fun e w' ⟨he,hw⟩=>by
   subst hw
   exact ⟨_,he,⟨rfl,.inl ⟨rfl,rfl⟩⟩,xao _ _⟩
 | some ad=>exact wy l hl ad cap w (sI hv (by simp))
theorem DT (l:List UInt8) (hl:l.length≤1099511627776) (base g T:Nat) (v:Value) (w:World) (hm:tK w base g T l false v) :
  Calls Tryz.prog 169 #[.pointer (some ⟨g,0,none⟩)] w fun e w'=>∃ v',e=.returned (.tuple #[v',.int .i64 0])∧w'.ownsRow w.heap.size 5 1 v' l.length (bv l)∧Below w.heap.size w w':=by
 obtain ⟨A,cap,rfl⟩:=bq hm.own
 have hA:A=none→cap=0:=by
  intro h
  rcases eB hm.own with ⟨h2,_⟩ | ⟨_,_,_,h2,_⟩
  ·injection h2
  ·injection h2 with h2;rw [h] at h2;cases h2
 have c0:=hm.blk.cell 0
 have c1:=hm.blk.cell 1
 simp only [xa0,xbs,xa3] at c0 c1
 have hlt:=hm.blk.lt
 have HB:=ab (fb hm.own)
 have HA:=ab hA
 clear hm hA
 go_enter Tryz.func169,Tryz.ntmps169
 go_wp2_with (go_at_call 200;refine (y7 l hl A l.length cap w.heap.size _ HB.out HA.out).mono ?_;rintro e w1 ⟨v1,rfl,gj,hb1⟩)
 go_ret2
 exact ⟨v1,rfl,gj,hb1⟩
end Go.Proofs.YtomnhnmciopiiaaGreat
end
section
namespace Go.Proofs.YtomnhnmciopiiaaGreat
open Go.RowKit
def mk (k i:Nat):UInt8:=xaJ ((1000003*(k+7)+i)*11400714819323198485 % 18446744073709551616 / 72057594037927936)
theorem wrap_u64 (n:Nat):IntKind.u64.wrap (n:Int)=((n % 18446744073709551616:Nat):Int):=by simp [xbA,IntKind.signed,IntKind.bits]
def marks:List UInt8:=(xaf 12).map (mk 1)
theorem Cc:(Tryz.prog.info? 5).map (fun i=>(i.zero,i.size,i.bytes))=some (some (.int .u8 0),1,1):=by kernel_rfl
theorem dV.cells {w:World} {B:Nat} {A:Option Addr} {n cap:Nat} {l:List UInt8} (h:dV w B (.slice A n cap) l):n=l.length∧l.length≤cap∧((A=none∨l=[])∨(0<l.length∧∃ b off,A=some ⟨b,off,none⟩∧b<B))∧∀ ad,A=some ad→∀ j u,(bv l)[j]?=some u→w.cell? (ad.add j)=some u:=by
 obtain ⟨A',cap',hv,hc,hA⟩:=h
 injection hv with e1 e2 e3
 subst e1 e2 e3
 refine ⟨rfl,hc,?_,fun ad had j u hu=>?_⟩
 ·rcases Nat.eq_zero_or_pos l.length with h0 | h0
  ·exact .inl (.inr (xaT h0))
  ·obtain ⟨b,off,h1,h2,_⟩:=hA h0
   exact .inr ⟨h0,b,off,h1,h2⟩
 ·have hj:j<l.length:=by
   have:=(xah.1 hu).1
   simpa [bv] using this
  obtain ⟨b,off,h1,_,h3⟩:=hA (by omega)
  rw [h1] at had
  obtain rfl:=xam had
  have e:(⟨b,off,none⟩:Addr).add j=⟨b,off+j,none⟩:=by unfold Addr.add;split<;>simp_all
  rw [e,h3 j hj]
  have e2:(bv l)[j]?=some (.int .u8 ((l.getD j 0).toNat:Int)):=by simp [bv,List.getD,hj]
  rw [e2] at hu
  exact hu
end Go.Proofs.YtomnhnmciopiiaaGreat
end
section
namespace Go.Proofs.YtomnhnmciopiiaaGreat
open Go.RowKit
theorem pR (n:Nat) (hn:n≤1099511627776) (w:World) :
  Calls Tryz.prog 127 #[.int .i64 (n:Int)] w fun e w'=>∃ v',e=.returned v'∧w'.ownsRow w.heap.size 5 1 v' (num n).length (bv (num n))∧Below w.heap.size w w':=by
 go_enter Tryz.func127,Tryz.ntmps127
 go_wp2_with fail
 have hm0:tK ((w.alloc (.cells #[.slice none 0 0,.bool false] 268)).alloc (.cells #[.int .i64 (n:Int)] 3)) w.heap.size w.heap.size 268 [] false (.slice none 0 0) :=
  ⟨(Blk.new w _ _).alloc _,rfl,.inl ⟨rfl,rfl⟩⟩
 have hA0:((w.alloc (.cells #[.slice none 0 0,.bool false] 268)).alloc (.cells #[.int .i64 (n:Int)] 3)).cell? ⟨w.heap.size+1,0,none⟩=some (.int .i64 (n:Int)) :=
  (Blk.aM w (.cells #[.slice none 0 0,.bool false] 268) 3 #[.int .i64 (n:Int)]).cell 0
 have HM:=ab hm0
 have HA:=ab hA0
 clear hm0 hA0
 refine (CA (n:Int) (by omega) [] (by simp) false w.heap.size w.heap.size 268 (by decide) (.slice none 0 0) (w.heap.size+1) _ (by rw [size_alloc,size_alloc];omega) HM.out HA.out).mono ?_
 rintro e w1 ⟨rfl,v1,hm1,ht1,hmv1⟩
 have hmk:mkNum [] false (n:Int)=(num n,false):=by rw [mkNum,if_pos (by omega),if_neg (by simp)];simp
 rw [hmk] at hm1
 have hN:=jI n (by omega)
 have HM1:=ab hm1
 have HT1:=ab ht1
 clear hm1 ht1 hmv1 hmk
 dsimp only
 go_wp2_with (go_at_call 169;refine (DT (num n) (by omega) w.heap.size w.heap.size 268 v1 _ HM1.out).mono ?_;rintro e w2 ⟨v2,rfl,eM,hb2⟩)
 go_ret
 have hs1:=HT1.out.size
 simp only [size_alloc] at hs1
 have hb1:Below w.heap.size w w1:=HT1.out.y0 (a:=w) (((xao _ _).alloc (xag _) _).alloc (by rw [size_alloc];omega) _) (fun k _ hk=>by
  rcases hk with rfl | hk
  ·exact xag _
  ·cases hk)
 exact ⟨v2,rfl,qn eM (fun g hg=>by have:=(dm eM hg).1;omega),hb1.trans (hb2.mono hb1.size)⟩
def sy (w:World) (e:TypeId) (g:Nat) (s:ByteArray):Prop:=(∃ cs fz,w.heap[g]?=some (.cells cs e fz))∧∀ j,j<s.size→w.cell? ⟨g,j,none⟩=some (.int .u8 ((s.data.toList.getD j 0).toNat:Int))
theorem vQ {P:Program} {ops:Array Oper} {rest:List Oper} {o:Oper} {a:Act} {w:World} {Q:Exit→Act→World→Prop} (hg:o.guard=none) (src dst e:TypeId) (x:Operand) (ho:o.op=.convert src dst x)
  (hs:P.underlying src=some .string) (hd:P.underlying dst=some (.slice e)) (he:P.underlying e=some (.int .u8)) (s:ByteArray) (hx:a.eval x=.string s)
  (h:∀ g cap w',sy w' e g s→s.size≤cap→w.heap.size≤g→g<w'.heap.size→Below w.heap.size w w' →
   wpList P ops Q rest (a.put o.dst (.slice (some ⟨g,0,none⟩) s.size cap)) w'):wpList P ops Q (o :: rest) a w :=
 wpList_plain hg fun K hK=>by
  unfold Oper.wp execOp
  simp only [ho,hx,xaI,run_bytes_of_string w src dst e s hs hd he,xat,xaQ]
  refine hK _ _ (h w.heap.size (grownCap w s.size 0 e) _ ⟨?_,?_⟩ (grownCap_ge w s.size 0 e) (xag _) ?_ ?_)
  ·exact ⟨_,_,heap_alloc_new w.drew _⟩
  ·intro j hj
   refine (World.cell?_alloc_mark w.drew _ e _ j).trans ?_
   rw [bytesRow_at s _ j hj]
   have hj':j<s.data.size:=hj
   simp [List.getD,Array.getElem?_eq_getElem hj']
  ·show _<(w.heap.push _).size
   simp
  ·exact ((xao _ _).drew).alloc (xag _) _
def TB (w:World) (base:Nat) (u:Value) (l:List UInt8):Prop :=
 ∃ A cap,u=.slice A l.length cap∧l.length≤cap∧(0<l.length→∃ b off,A=some ⟨b,off,none⟩∧b<w.heap.size∧(b<base∨∃ cs fz,w.heap[b]?=some (.cells cs 5 fz))∧∀ j,j<l.length→w.cell? ⟨b,off+j,none⟩=some (.int .u8 ((l.getD j 0).toNat:Int)))
theorem TB.bytes {w:World} {base:Nat} {u:Value} {l:List UInt8} (h:TB w base u l):dV w w.heap.size u l:=by
 obtain ⟨A,cap,hu,hc,hA⟩:=h
 exact ⟨A,cap,hu,hc,fun h0=>by obtain ⟨b,off,h1,h2,_,h3⟩:=hA h0;exact ⟨b,off,h1,h2,h3⟩⟩
theorem TB.aL {w w':World} {base:Nat} {u:Value} {l:List UInt8} (h:TB w base u l) (hs:w.heap.size≤w'.heap.size) (hk:∀ b,b<w.heap.size→(b<base∨∃ cs fz,w.heap[b]?=some (.cells cs 5 fz))→w'.heap[b]?=w.heap[b]?):TB w' base u l:=by
 obtain ⟨A,cap,hu,hc,hA⟩:=h
 refine ⟨A,cap,hu,hc,fun h0=>?_⟩
 obtain ⟨b,off,h1,h2,h3,h4⟩:=hA h0
 have e:=hk b h2 h3
 refine ⟨b,off,h1,by omega,?_,fun j hj=>(xaV e).trans (h4 j hj)⟩
 rcases h3 with h3 | ⟨cs,fz,h3⟩
 ·exact .inl h3
 ·exact .inr ⟨cs,fz,e.trans h3⟩
theorem TB.below {w w':World} {base:Nat} {u:Value} {l:List UInt8} (h:TB w base u l) (hb:Below w.heap.size w w'):TB w' base u l:=h.aL hb.size fun b hb' _=>hb.block b hb'
theorem TB.CG {w:World} {B base:Nat} {u:Value} {l:List UInt8} (h:dV w B u l) (hB:B≤base) (hw:B≤w.heap.size):TB w base u l:=by
 obtain ⟨A,cap,hu,hc,hA⟩:=h
 exact ⟨A,cap,hu,hc,fun h0=>by obtain ⟨b,off,h1,h2,h3⟩:=hA h0;exact ⟨b,off,h1,by omega,.inl (by omega),h3⟩⟩
theorem TB.vh {w:World} {base base':Nat} {u:Value} {l:List UInt8} (h:w.ownsRow base' 5 1 u l.length (bv l)):TB w base u l:=by
 obtain ⟨A,cap,hu,hc,hA⟩:=fb h
 refine ⟨A,cap,hu,hc,fun h0=>?_⟩
 obtain ⟨b,off,h1,h2,h3⟩:=hA h0
 refine ⟨b,off,h1,h2,.inr ?_,h3⟩
 subst h1
 rcases eB h with ⟨e,_⟩ | ⟨g,cp,cur,e,_,_,_,hb,_⟩
 ·rw [hu] at e;injection e with e;cases e
 ·rw [hu] at e
  injection e with e
  injection e with e
  injection e with e
  subst e
  exact ⟨cur,(0,0),hb⟩
theorem TB.oJ {w:World} {base g cap:Nat} {s:ByteArray} (hc:s.size≤cap) (hg:g<w.heap.size) (h:sy w 5 g s) :
  TB w base (.slice (some ⟨g,0,none⟩) s.size cap) s.data.toList :=
 ⟨_,cap,by simp,by simpa using hc,fun _=>⟨g,0,rfl,hg,.inr h.1,fun j hj=>by rw [Nat.zero_add];exact h.2 j (by simpa using hj)⟩⟩
structure oR (w:World) (base:Nat) (v:Value) (us:List Value) (ls:List (List UInt8)):Prop where
 own:w.ownsRow base 24 1 v us.length us
 len:us.length=ls.length
 at_:∀ j,j<ls.length→TB w base (us.getD j undef) (ls.getD j [])
theorem oR.aL {w w':World} {base:Nat} {v:Value} {us:List Value} {ls:List (List UInt8)} (h:oR w base v us ls) (hb:Below w.heap.size w w'):oR w' base v us ls :=
 ⟨gk h.own fun g _ hlt=>hb.block g hlt,h.len,fun j hj=>(h.at_ j hj).below hb⟩
theorem oR.parts {w:World} {base:Nat} {v:Value} {us:List Value} {ls:List (List UInt8)} (h:oR w base v us ls):lU w w.heap.size v ls:=by
 have hl:=h.len
 rcases eB h.own with ⟨rfl,h0,_⟩ | ⟨g,cap,cur,rfl,_,hc,_,hb,_,ht,hlt⟩
 ·exact ⟨none,0,by rw [← hl,h0],by omega,fun h=>by omega⟩
 ·refine ⟨_,cap,by rw [hl],by omega,fun _=>⟨g,0,rfl,hlt,fun j hj=>⟨us.getD j undef,?_,(h.at_ j hj).bytes⟩⟩⟩
  rw [Nat.zero_add,hb.cell]
  have h1:cur.toList[j]?=us[j]?:=by
   rw [← ht,List.getElem?_take_of_lt (by omega)]
  rw [← xa7,h1,xaX,xai (by omega)]
  rfl
theorem oR.grow {w w':World} {base:Nat} {v v':Value} {us ns:List Value} {ls ms:List (List UInt8)} (h:oR w base v us ls) (hv:∀ g,v.ownBlock=some g→base≤g) (ho:w'.ownsRow base 24 1 v' (us.length+ns.length) (us++ns)) (hg:w.grownBy w' v.ownBlock)
  (hn:ns.length=ms.length) (hm:∀ j,j<ms.length→TB w base (ns.getD j undef) (ms.getD j [])):oR w' base v' (us++ns) (ls++ms):=by
 have hk:∀ (u:Value) (l:List UInt8),TB w base u l→TB w' base u l:=fun u l ht=>ht.aL hg.size fun b hb hor=>by
  refine hg.block b hb fun e=>?_
  rcases hor with hlt | ⟨cs,fz,hh⟩
  ·have:=hv b e.symm;omega
  ·rcases eB h.own with ⟨rfl,_⟩ | ⟨q,cap,cur,rfl,_,_,_,hq,_⟩
   ·cases e
   ·injection e with e
    change b=q at e
    subst e
    unfold Blk at hq
    rw [hq] at hh
    injection hh with hh
    injection hh with _ hh
    exact absurd hh (by decide)
 have hl:=h.len
 refine ⟨by rw [xak];exact ho,by rw [xak,xak,hl,hn],fun j hj=>?_⟩
 rw [xak] at hj
 by_cases hjl:j<ls.length
 ·have:=hk _ _ (h.at_ j hjl)
  rw [xaX,xaX,List.getElem?_append_left (by omega),List.getElem?_append_left (by omega),← xaX,← xaX]
  exact this
 ·have:=hk _ _ (hm (j-ls.length) (by omega))
  rw [xaX,xaX,List.getElem?_append_right (by omega),List.getElem?_append_right (by omega),hl,← xaX,← xaX]
  exact this
theorem AN:(Tryz.prog.info? 34).map (·.size)=some 20:=by kernel_rfl
def z20:Array Value:=(bv (xaz 20 0)).toArray
def tx (t:List UInt8) (ls:List (List UInt8)):List (List UInt8):=[num t.length,t]++ls.flatMap fun l=>[num l.length,l]
theorem E4 (t:List UInt8) (ls:List (List UInt8)) (l:List UInt8):tx t (ls++[l])=tx t ls++[num l.length,l]:=by simp [tx]
theorem r0 (t:List UInt8) (ls:List (List UInt8)):(tx t ls).length=2+2*ls.length:=by
 induction ls with
 | nil=>rfl
 | cons l ls ih=>simp only [tx,xbf,xak,xaF,List.length_nil] at ih ⊢;omega
theorem yv (t:List UInt8) (ls:List (List UInt8)) (ht:t.length<18446744073709551616) (hl:∀ l∈ls,l.length<18446744073709551616):(tx t ls).flatten.length≤10+t.length+10*ls.length+ls.flatten.length:=by
 induction ls with
 | nil=>have:=jI t.length ht;simp [tx];omega
 | cons l ls ih =>
  have:=ih (fun x hx=>hl x (by simp [hx]))
  have h2:=jI l.length (hl l (by simp))
  simp only [tx,xbf,xbU,List.flatten_cons,List.flatten_nil,xak,xaF,List.length_nil] at this ⊢
  omega
def ofB (t:List UInt8) (ls:List (List UInt8)):List UInt8:=fold (Sha.sum (tx t ls).flatten) 32
theorem yP (l:List UInt8):(Sha.sum l).length=32:=by rw [Sha.sum,dB]
theorem Cd:(Tryz.prog.info? 24).map (fun i=>(i.zero,i.size,i.bytes))=some (some (.slice none 0 0),1,24):=by kernel_rfl
theorem E2 (w:World) (e:TypeId) (a b:Value):(w.alloc (.cells #[a,b] e)).ownsRow w.heap.size e 1 (.slice (some ⟨w.heap.size,0,none⟩) 2 2) 2 [a,b] :=
 ⟨rfl,.inr ⟨w.heap.size,2,#[a,b],rfl,xag _,Blk.new w e _,xag _,by simp only [maxLen];omega,rfl,rfl⟩⟩
theorem E3 (w:World) (e:TypeId) (a b:Value) (ha:a.oneCell'=true) (hb:b.oneCell'=true):Src (w.alloc (.cells #[a,b] e)) (some ⟨w.heap.size,0,none⟩) 2 2 [a,b] :=
 ⟨rfl,(by intro h;cases h),(by
  intro u hu
  simp only [xaD,xaS,or_false] at hu
  rcases hu with rfl | rfl
  ·exact ha
  ·exact hb),(by
  intro ad had j u hu
  injection had with had
  subst had
  have h:=(Blk.new w e #[a,b]).cell j
  have e2:(⟨w.heap.size,0,none⟩:Addr).add j=⟨w.heap.size,j,none⟩:=by unfold Addr.add;split<;>simp_all
  rw [e2,h,← hu]
  simp)⟩
end Go.Proofs.YtomnhnmciopiiaaGreat
end
section
namespace Go.Proofs.YtomnhnmciopiiaaGreat
open Go.RowKit
theorem yR (t:List UInt8) (ls:List (List UInt8)) (k:Nat) (h:k<ls.length):tx t (ls.take (k+1))=tx t (ls.take k)++[num (ls.getD k []).length,ls.getD k []]:=by
 rw [xbb h,E4]
 simp [List.getD,h]
theorem kf {ls:List (List UInt8)} {l:List UInt8} (h:l∈ls):l.length≤ls.flatten.length:=by
 induction ls with
 | nil=>cases h
 | cons x xs ih =>
  rw [List.flatten_cons,xak]
  rcases xaD.1 h with rfl | h
  ·omega
  ·have:=ih h;omega
theorem CF (tag:ByteArray) (t:List UInt8) (ht:t=tag.data.toList) (htl:tag.size≤1000000000) (ls:List (List UInt8)) (hl:ls.flatten.length≤1000000000) (hn:ls.length≤1000000000) (v:Value) (w:World) (B:Nat) (hB:B≤w.heap.size) (hp:lU w B v ls) :
  Calls Tryz.prog 85 #[.string tag,v] w fun e w'=>e=.returned (.agg (bv (ofB t ls)).toArray)∧Below w.heap.size w w':=by
 obtain ⟨A,cap,rfl,hcap,hA⟩:=hp
 have htn:t.length=tag.size:=by rw [ht];simp
 obtain ⟨i,hi,hz0,hz1,hz2⟩:=info_parts Cd
 have hll:∀ l∈ls,l.length<18446744073709551616:=fun l h=>by have:=kf h;omega
 have hsum:(tx t ls).flatten.length≤1099511627000:=by have:=yv t ls (by omega) hll;omega
 have HSUM:=ab hsum
 have HA:=ab hA
 have HT:=ab ht
 have HTN:=ab htn
 clear hA ht htn hll hsum
 obtain ⟨R,hR⟩:∃ R,R=w.heap.size:=⟨_,rfl⟩
 have HR:=ab hR
 clear hR
 go_enter Tryz.func85,Tryz.ntmps85
 go_step
 go_step
 apply wp_region_lit
 refine aa rfl (.pointer (some ⟨R,0,none⟩)) (w.alloc (.cells z20 34)) (by rw [HR.out];kernel_rfl) ?_
 dsimp only [xae,xaa,xab,xac]
 obtain ⟨w0,hw0⟩:∃ w0,w0=w.alloc (.cells z20 34):=⟨_,rfl⟩
 have hb0:Blk w0 R 34 z20:=by rw [hw0,HR.out];exact Blk.new _ _ _
 have hbl0:Below w.heap.size w w0:=by rw [hw0];exact (xao _ _).alloc (xag _) _
 rw [← hw0]
 clear hw0
 have HB0:=ab (xad hb0 hbl0)
 clear hb0 hbl0
 go_wp2_with (first
  | (go_at_call 127;refine (pR tag.size (by omega) _).mono ?_;rintro e w1 ⟨v1,rfl,gj,hb1⟩;obtain ⟨A1,k1,rfl⟩:=bq gj;have HX1:=ab (xad gj hb1);clear gj hb1)
  | ((with_reducible refine ae 12 ?_);(with_reducible refine vQ rfl 9 24 5 (.tmp 11) rfl Tryz.underlying9 Tryz.underlying24 Tryz.underlying5 tag rfl ?_);intro g2 k2 w2 ht2 hc2 hg2 hl2 hb2;have HX2:=ab (xad ht2 (xad hc2 (xad hg2 (xad hl2 hb2))));clear ht2 hc2 hg2 hl2 hb2))
 obtain ⟨b0,hb0⟩:∃ b0,b0=w0.heap.size:=⟨_,rfl⟩
 have HB00:=ab hb0
 have hrow0:oR (w2.alloc (.cells #[.slice A1 (num tag.size).length k1,.slice (some ⟨g2,0,none⟩) tag.size k2] 24)) b0 (.slice (some ⟨w2.heap.size,0,none⟩) 2 2) [.slice A1 (num tag.size).length k1,.slice (some ⟨g2,0,none⟩) tag.size k2] (tx t []):=by
  obtain ⟨gj,hb1⟩:=HX1.out
  obtain ⟨ht2,hc2,hg2,hl2,hb2⟩:=HX2.out
  have q1:TB w1 b0 (.slice A1 (num tag.size).length k1) (num tag.size):=TB.vh gj
  have q2:TB w2 b0 (.slice (some ⟨g2,0,none⟩) tag.size k2) t:=by
   have h:=TB.oJ (base:=b0) hc2 hl2 ht2
   rwa [← HT.out] at h
  have al:Below w2.heap.size w2 (w2.alloc (.cells #[.slice A1 (num tag.size).length k1,.slice (some ⟨g2,0,none⟩) tag.size k2] 24)):=(xao _ _).alloc (xag _) _
  refine ⟨qn (E2 _ _ _ _) (fun g hg=>?_),rfl,fun j hj=>?_⟩
  ·injection hg with hg
   change w2.heap.size=g at hg
   have:=hb1.size;have:=hb2.size;omega
  ·have hj2:j<2:=hj
   match j,hj2 with
   | 0,_=>rw [show (tx t []).getD 0 []=num tag.size by rw [← HTN.out];rfl];exact (q1.below hb2).below al
   | 1,_=>exact q2.below al
 have hbl0:Blk (w2.alloc (.cells #[.slice A1 (num tag.size).length k1,.slice (some ⟨g2,0,none⟩) tag.size k2] 24)) R 34 z20∧Below w.heap.size w (w2.alloc (.cells #[.slice A1 (num tag.size).length k1,.slice (some ⟨g2,0,none⟩) tag.size k2] 24))∧b0≤(w2.alloc (.cells #[.slice A1 (num tag.size).length k1,.slice (some ⟨g2,0,none⟩) tag.size k2] 24)).heap.size:=by
  obtain ⟨gj,hb1⟩:=HX1.out
  obtain ⟨ht2,hc2,hg2,hl2,hb2⟩:=HX2.out
  obtain ⟨c0,c1⟩:=HB0.out
  have s1:=hb1.size
  have s2:=hb2.size
  have l0:=c0.lt
  have l1:=c1.size
  refine ⟨((c0.below hb1 l0).below hb2 (by omega)).alloc _,((c1.trans (hb1.mono l1)).trans (hb2.mono (by omega))).alloc (by omega) _,?_⟩
  rw [size_alloc];omega
 have hRb:R<b0:=by have:=HB0.out.1.lt;omega
 have HROW:=ab hrow0
 have HBL:=ab hbl0
 clear hrow0 hbl0 hb0
 go_loopw [5,16] (fun v5 i wr=>∃ (k:Nat) (us:List Value),k≤ls.length∧i=.int .i64 (k:Int)∧oR wr b0 v5 us (tx t (ls.take k))∧Blk wr R 34 z20∧Below w.heap.size w wr∧b0≤wr.heap.size) (fun _ i _=>ls.length-(intOf i).toNat)
 case atStart=>exact ⟨0,_,by omega,rfl,HROW.out,HBL.out.1,HBL.out.2.1,HBL.out.2.2⟩
 case round =>
  obtain ⟨k,us,hk,rfl,hrow,hbR,hbw,hbs⟩:=hrel
  by_cases hlt:k<ls.length
  ·obtain ⟨b,off,rfl,hbB,hcells⟩:=HA.out (by omega)
   obtain ⟨u,hu,hby⟩:=hcells k hlt
   have ha:Alike B w wr:=fA (hbw.mono hB)
   have cu:wr.cell? ⟨b,off+k,none⟩=some u:=(ha.cell (p:=⟨b,off+k,none⟩) hbB).trans hu
   obtain ⟨l,hl'⟩:∃ l,l=ls.getD k []:=⟨_,rfl⟩
   have hll:l.length≤ls.flatten.length:=kf (by rw [hl'];simp [List.getD,hlt])
   rw [← hl'] at hby
   have htb:TB wr b0 u l:=TB.CG (hby.alike ha) (by have:=HB0.out.2.size;have:=HB00.out;omega) (by have:=hbw.size;omega)
   obtain ⟨Aj,cj,rfl,hcj,_⟩:=id hby
   have HU:=ab (xad htb hl')
   have hus:us.length=2+2*k:=by rw [hrow.len,r0,xaN];omega
   obtain ⟨A5,k5,rfl⟩:=bq hrow.own
   have HRO:=ab hrow
   have HK:=ab (xad hbR (xad hbw hbs))
   have i1:(0:Int)≤(k:Int):=by omega
   have i2:(k:Int)<(ls.length:Int):=by omega
   have HUS:=ab hus
   clear hu hby hcells hl' htb hrow hbR hbw hus
   go_wp2_with (first
    | (go_at_call 127;refine (pR l.length (by omega) _).mono ?_;rintro e w3 ⟨v3,rfl,own3,hb3⟩;obtain ⟨A3,k3,rfl⟩:=bq own3;have HX3:=ab (xad own3 hb3);clear own3 hb3)
    | (at_builtin;(refine dR rfl _ _ 95 rfl b0 24 i (.slice none 0 0) 24 Tryz.underlying95 hi hz0 hz1 hz2 rfl (.slice A5 us.length k5) us.length us ?h0 _ 2 2 [.slice A3 (num l.length).length k3,.slice Aj l.length cj] (E3 _ _ _ _ rfl rfl) ?h1 ?h2 ?h3 rfl rfl ?_)))
   case h0=>exact gk HRO.out.own fun q _ hq=>(Below.heap_alloc w3 _ q (by have:=HX3.out.2.size;omega)).trans (HX3.out.2.block q hq)
   case h1=>have:=HUS.out;simp only [maxLen];omega
   case h2=>have:=HUS.out;omega
   case h3=>have:=HX3.out.2.size;have:=HK.out.2.2;rw [size_alloc];omega
   intro v5 w5 own5 gr5 _ _
   have hwr3:Below wr.heap.size wr (w3.alloc (.cells #[.slice A3 (num l.length).length k3,.slice Aj l.length cj] 24)):=HX3.out.2.alloc HX3.out.2.size _
   have hgrow:oR w5 b0 v5 (us++[.slice A3 (num l.length).length k3,.slice Aj l.length cj]) (tx t (ls.take k)++[num l.length,l]):=by
    refine (HRO.out.aL hwr3).grow (fun g hg=>(dm HRO.out.own hg).1) own5 gr5 rfl fun j hj=>?_
    have hj2:j<2:=hj
    match j,hj2 with
    | 0,_=>exact (TB.vh HX3.out.1).below ((xao _ _).alloc (xag _) _)
    | 1,_=>exact HU.out.1.below hwr3
   have hfr:Blk w5 R 34 z20∧Below w.heap.size w w5∧b0≤w5.heap.size:=by
    obtain ⟨c0,c1,c2⟩:=HK.out
    have s3:=hwr3.size
    refine ⟨((c0.below hwr3 c0.lt)).grown gr5 (fun e=>?_),((c1.trans (hwr3.mono c1.size)).grown gr5 (by have:=c1.size;omega) (fun q hq=>?_)),by have:=gr5.size;omega⟩
    ·have:=(dm HRO.out.own e.symm).1;omega
    ·have:=(dm HRO.out.own hq).1;have:=HB00.out;have:=HB0.out.2.size;omega
   obtain ⟨A6,k6,rfl⟩:=bq own5
   have HG:=ab (xad hgrow hfr)
   clear own5 gr5 hwr3 hgrow hfr
   go_wp2_with fail
   go_roundw
   case rel =>
    obtain ⟨hgrow,h1,h2,h3⟩:=HG.out
    refine ⟨k+1,us++[.slice A3 (num l.length).length k3,.slice Aj l.length cj],by omega,by go_num,?_,h1,h2,h3⟩
    rw [yR t ls k hlt,← HU.out.2]
    exact hgrow
   case measure=>simp [intOf];omega
  ·obtain rfl:k=ls.length:=by omega
   rw [xav (xag _)] at hrow
   have hpar:=hrow.parts
   have hlen:(tx t ls).length=2+2*ls.length:=r0 t ls
   obtain ⟨D,hD⟩:∃ D,D=Sha.sum (tx t ls).flatten:=⟨_,rfl⟩
   have hDl:D.length=32:=by rw [hD];exact yP _
   have hsz:(Tryz.prog.info? 34).map (·.size)=some (bv (fold D 32)).toArray.size:=by rw [xal,bv,xap,dH];exact AN
   have hzs:z20.size=(bv (fold D 32)).toArray.size:=by
    have e:(bv (fold D 32)).toArray.size=20:=by rw [xal,bv,xap,dH]
    rw [e];rfl
   have HP:=ab hpar
   have HK:=ab (xad hbR (xad hbw hbs))
   have HDD:=ab hD
   have HDL:=ab hDl
   have HLE:=ab hlen
   clear hrow hpar hbR hbw hbs hDl hlen hD
   go_wp2_with (first
    | (go_at_call 129;refine (EW (tx t ls) HSUM.out (by rw [HLE.out];omega) _ _ wr.heap.size (xag _) HP.out).mono ?_;rintro e w6 ⟨rfl,hb6⟩;rw [← HDD.out];have HX6:=ab hb6;clear hb6)
    | (go_at_call 128;refine (BX D HDL.out _).mono ?_;rintro e w7 ⟨rfl,hb7⟩;have HX7:=ab hb7;clear hb7;have HR7:=ab ((HK.out.1.below HX6.out HK.out.1.lt).below HX7.out (xaZ HK.out.1.lt HX6.out.size)))
    | ((with_reducible refine ak rfl 34 (.tmp 4) (.tmp 30) rfl R z20 (bv (fold D 32)).toArray 34 HR7.out hsz hzs (lj _) ?_ ?_ ?_);rfl;rfl;intro w9 h9 hg9;dsimp only [xae]))
   refine bodyPost_ret (ch rfl _ _ R 34 (bv (fold D 32)).toArray _ _ rfl h9 Tryz.underlying34 hsz) rfl ⟨by rw [ofB,← HDD.out],?_⟩
   obtain ⟨c0,c1,c2⟩:=HK.out
   have s6:=HX6.out.size
   have s7:=HX7.out.size
   have s1:=c1.size
   have hRw:=HR.out
   refine (((c1.trans (HX6.out.mono s1)).trans (HX7.out.mono (by omega)))).grown hg9 (by omega) ?_
   intro x hx;injection hx with hx;omega
end Go.Proofs.YtomnhnmciopiiaaGreat
end
section
namespace Go.Proofs.YtomnhnmciopiiaaGreat
open Go Go.RowKit Go.Maps
theorem lO (w:World) (d:Drv) (v1 v2:Value) (h:au w w.heap.size d v1 v2) (hp:bF d=0) :
  Calls Tryz.prog 86 #[.agg (dC d v1 v2).toArray] w fun e w'=>∃ g cap,e=.returned (.slice (some ⟨g,0,none⟩) (a8 d).size cap)∧dD w' g (a8 d)∧(a8 d).size≤cap∧w.heap.size≤g∧g<w'.heap.size∧Below w.heap.size w w':=by
 go_enter Tryz.func86,Tryz.ntmps86
 go_wp2_with (first | ((with_reducible refine ae 1 ?_);(refine aF rfl 26 (.tmp 0) rfl (dC d v1 v2).toArray rfl ?_);intro w1 hn;have H1:=ab hn;clear hn;simp only [xae,xaa,xab,xac]) | ((with_reducible refine ae 6 ?_);(refine aa rfl (.agg ((dC d v1 v2).toArray)) w1 (av 26 (.tmp 1) rfl w.heap.size rfl 26 _ _ w1 H1.out.blk Tryz.underlying26 rfl (by kernel_rfl)) ?_)))
 refine (tv w1 d v1 v2 (h.eD H1.out.below)).mono ?_
 rintro e w2 ⟨v,rfl,hv,hb⟩
 dsimp only
 obtain ⟨g,cap,rfl,k1,k2,k3,k4⟩:=hv hp
 rw [hp]
 have H2:=ab (xad k1 (xad k2 (xad (xaH H1.out.below.size k3) (xad k4 (H1.out.below.trans (xar hb H1.out.below.size))))))
 clear k1 k2 k3 k4 hb hv
 go_wp2_with fail
 refine (oG 0 w2).mono ?_
 rintro e w3 ⟨rfl,rfl⟩
 dsimp only
 go_wp2_with fail
 go_ret
 exact ⟨g,cap,rfl,H2.out⟩
theorem qJ (w:World) (d:Drv) (v1 v2:Value) (h:au w w.heap.size d v1 v2) (hp:¬ bF d=0) :
  Calls Tryz.prog 86 #[.agg (dC d v1 v2).toArray] w fun e w'=>e=.panicked [{ v:=eO (bF d),recovered:=false }]∧Below w.heap.size w w':=by
 go_enter Tryz.func86,Tryz.ntmps86
 go_wp2_with (first | ((with_reducible refine ae 1 ?_);(refine aF rfl 26 (.tmp 0) rfl (dC d v1 v2).toArray rfl ?_);intro w1 hn;have H1:=ab hn;clear hn;simp only [xae,xaa,xab,xac]) | ((with_reducible refine ae 6 ?_);(refine aa rfl (.agg ((dC d v1 v2).toArray)) w1 (av 26 (.tmp 1) rfl w.heap.size rfl 26 _ _ w1 H1.out.blk Tryz.underlying26 rfl (by kernel_rfl)) ?_)))
 refine (tv w1 d v1 v2 (h.eD H1.out.below)).mono ?_
 rintro e w2 ⟨v,rfl,hv,hb⟩
 dsimp only
 obtain ⟨pe,hpe⟩:∃ pe,pe=bF d:=⟨_,rfl⟩
 rw [← hpe] at hp ⊢
 have H2:=ab (xad hpe (H1.out.below.trans (xar hb H1.out.below.size)))
 have hne:(pe == 0)=false:=by simpa using hp
 clear hb hv hpe
 go_wp2_with fail
 refine (oF pe w2).mono ?_
 rintro e w3 ⟨rfl,rfl⟩
 dsimp only
 change bodyPost Tryz.prog Tryz.f86 _ _ _ _
 simp only [bodyPost]
 exact ⟨trivial,by rw [H2.out.1],H2.out.2⟩
end Go.Proofs.YtomnhnmciopiiaaGreat
end
section
namespace Go.Proofs.YtomnhnmciopiiaaGreat
open Go Go.RowKit
theorem ur {P:Program} {ρ:Operand→Value} {o:Oper} (t:TypeId) (xs:Array (Nat×Operand)) (ho:o.op=.build t xs) {fields:Array Field} {places:Array (Nat×Nat)} {z:Value} {cells:Array Value} (ht:P.underlying t=some (.struct fields)) (hz:∀ w,(zeroValue t).run P w=.ok z w)
  (hpl:∀ w,(fields.mapM fun f=>do pure (f.offset,← sizeOf f.type):Sem (Array (Nat×Nat))).run P w=.ok places w) (parts:List (Nat×Value)) (hx:(xs.map fun (i,x)=>(i,ρ x))=parts.toArray) (hf:Instr.fill (fun i=>places[i]?) z.cells parts=some cells) (w:World) :
  (execOp ρ o).run P w=.ok (.value (.agg cells)) w:=by
 have h:(Instr.build t parts.toArray).run P w=.ok (.agg cells) w:=by
  unfold Instr.build
  simp only [xaI,hz,xat,run_underlying ht]
  rw [hpl]
  simp only [xat]
  rw [hf]
  rfl
 unfold execOp
 simp only [ho,hx,xaI,h,xat,xaQ]
end Go.Proofs.YtomnhnmciopiiaaGreat
end
section
namespace Go.Proofs.YtomnhnmciopiiaaGreat
open Go Go.RowKit Go.Maps
def zcI:Array Value:=((bv (xaz 20 0)++[xbd ByteArray.empty])++(bv (xaz 20 0)++[Value.bool false])).toArray
end Go.Proofs.YtomnhnmciopiiaaGreat
end
section
namespace Go.Proofs.YtomnhnmciopiiaaGreat
open Go Go.RowKit Go.Maps
theorem kr {P:Program} {ops:Array Oper} {rest:List Oper} {o:Oper} {a:Act} {w:World} {Q:Exit→Act→World→Prop} (hg:o.guard=none) (k:Nat) (ty:TypeId) (cs:Array Value) (hr:(execOp a.eval o).run P w=.ok (.value (.slice (some ⟨w.heap.size,0,none⟩) k k)) (w.alloc (.cells cs ty)))
  (h:∀ w',fy w w' ty cs→wpList P ops Q rest (a.put o.dst (.slice (some ⟨w.heap.size,0,none⟩) k k)) w'):wpList P ops Q (o :: rest) a w :=
 aa hg _ _ hr (h _ (bS w ty cs))
end Go.Proofs.YtomnhnmciopiiaaGreat
end
section
namespace Go.Proofs.YtomnhnmciopiiaaGreat
open Go Go.RowKit Go.Maps
theorem Ee {w:World} {B:Nat} {v:Value} {l:List Itm} (h:aH.At w B [v] l):∀ x∈l,okH x.1:=fun x hx=>by
 obtain ⟨j,hj⟩:=xaP hx
 obtain ⟨A,cap,rfl,_,_,_,hA⟩:=aj h
 obtain ⟨b,off,rfl,_,hE⟩:=hA (by have:=(xah.1 hj).1;omega)
 obtain ⟨cs,_,hat⟩:=hE j x hj
 obtain ⟨_,_,_,ho,_⟩:=cF.1 hat
 exact ho
theorem kM {H:Type} [DecidableEq H] {l:List (Dr.It H)} {c h:H} (hm:h∈Dr.cE l c):h∈Dr.css l:=(Dr.js _ _).subset hm
theorem yq {l:List Itm} {h:Hsh} (hm:h∈Dr.css (l.map itP)):∃ x∈l,x.1=h:=by
 unfold Dr.css at hm
 obtain ⟨y,hy,rfl⟩:=xaA.1 hm
 obtain ⟨x,hx,rfl⟩:=xaA.1 hy
 exact ⟨x,hx,rfl⟩
theorem zb {l:List Itm} {h:Hsh} (hm:h∈Dr.css (l.map itP)):(cg (ew l) h).isSome=true:=by
 cases e:(cg (ew l) h).isSome with
 | true=>rfl
 | false=>exact absurd hm (mZ e)
theorem na {l:List Itm} (hok:∀ x∈l,okH x.1) (z:Hsh):∀ h∈aP l z,okH h:=fun h hm=>by
 unfold aP at hm
 split at hm
 ·split at hm
  ·obtain ⟨x,hx,rfl⟩:=yq (kM hm)
   exact hok x hx
  ·cases hm
 ·cases hm
theorem z1 {H:Type} [DecidableEq H] (l:List (Dr.It H)) (c:H):(Dr.cE l c).length≤l.length:=by
 have h:(Dr.cE l c).length≤(Dr.css l).length:=(Dr.js _ _).length_le
 simpa [Dr.css] using h
theorem qd {l:List Itm} (z:Hsh):(aP l z).length≤l.length:=by
 unfold aP
 split
 ·split
  ·have:=z1 (l.map itP) z
   rwa [xap] at this
  ·exact Nat.zero_le _
 ·exact Nat.zero_le _
end Go.Proofs.YtomnhnmciopiiaaGreat
end
section
namespace Go.Proofs.YtomnhnmciopiiaaGreat
open Go Go.RowKit Go.Maps
section
variable {H:Type} [DecidableEq H]
theorem xG {l:List (Dr.It H)} (hr:Dr.gS l) {c z:H} {i:Nat} (hz:(Dr.cE l c)[i]?=some z):∃ (n:Nat) (y:Dr.It H),l[n]?=some y∧y.cls=z∧(∀ d∈y.ins,(∃ p:Nat,qs (Dr.cE l c) d=(p:Int)∧p<i)∧d∈Dr.css l∧Dr.j3 l d<Dr.j3 l z)∧(Dr.cE l z).length≤i+1∧∀ d∈Dr.cE l z,d∈Dr.cE l c:=by
 obtain ⟨n,y,hy,hm,h1,h2,_⟩:=Dr.nc hr (c:=c) i (xah.1 hz).1
 rw [hz] at h1
 injection h1 with h1
 subst h1
 have hsub:=Dr.Aa hr hy hm
 rw [h2] at hsub
 refine ⟨n,y,hy,rfl,fun d hd=>?_,hsub.2,hsub.1⟩
 have ha:=Dr.va hr hy hm hd
 obtain ⟨p,hp,e,_⟩:=xI ha.2
 have hat:=(Dr.nj hr (Dr.dF l ((Dr.css l).idxOf c)) hy hm).2
 rw [h2] at hat
 refine ⟨⟨p,hp,?_⟩,kM ha.2,Dr.BE hr hy hd⟩
 have h3:=ha.1
 rw [← e] at h3
 have h4:(Dr.cE l c).idxOf y.cls=i:=hat
 omega
end
theorem wL {l:List Itm} (c:Hsh):(l.find? fun x=>decide (x.1=c)).isSome=(cg (ew l) c).isSome:=by
 cases e:(cg (ew l) c).isSome with
 | true =>
  obtain ⟨x,hx,rfl⟩:=yq (jl e)
  rw [List.find?_isSome]
  exact ⟨x,hx,by simp⟩
 | false =>
  have h:=mZ e
  cases e2:(l.find? fun x=>decide (x.1=c)) with
  | none=>rfl
  | some x =>
   refine absurd ?_ h
   have h1:=List.find?_some e2
   have h2:x.1=c:=by simpa using h1
   rw [← h2]
   exact xaA.2 ⟨itP x,xaA.2 ⟨x,List.mem_of_find?_eq_some e2,rfl⟩,rfl⟩
end Go.Proofs.YtomnhnmciopiiaaGreat
end
section
namespace Go.Proofs.YtomnhnmciopiiaaGreat
open Go Go.RowKit Go.Maps
theorem y5 {a b:ByteArray} (h:a.data.toList=b.data.toList):a=b:=by
 obtain ⟨a⟩:=a
 obtain ⟨b⟩:=b
 congr 1
 exact Array.toList_inj.1 h
end Go.Proofs.YtomnhnmciopiiaaGreat
end
