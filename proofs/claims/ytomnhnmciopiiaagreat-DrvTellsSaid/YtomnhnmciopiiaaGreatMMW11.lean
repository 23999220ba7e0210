/- Part 11 of the texts of one proof. -/
import Derived.Test.YtomnhnmciopiiaaGreatMMW10
section
namespace Go.Proofs.YtomnhnmciopiiaaGreat
open Go Go.RowKit
set_option maxRecDepth 100000
abbrev qh:={p:Pth // okP p}
instance:Inhabited qh:=⟨⟨dV,eG⟩⟩
def zL (x:qh):List Value:=pC x.1
def cfO (x y:qh):Int:=vu x.1 y.1
theorem ltO (x y:qh):Go.Proofs.ltOf cfO x y=b4 x.1 y.1:=vQ x.1 y.1
theorem Ce:Go.Sort.SWO (Go.Proofs.ltOf cfO) where
 irrefl x:=by rw [ltO];exact dT _
 trans x y z h1 h2:=by rw [ltO] at *;exact et h1 h2
 ntrans x y z h1 h2:=by
  rw [ltO] at *
  cases h:b4 x.1 z.1 with
  | false=>rfl
  | true =>
   rcases gP x.1 y.1 with h3 | h3 | h3
   ·rw [h1] at h3;cases h3
   ·rw [h3,h2] at h;cases h
   ·rw [et h3 h] at h2;cases h2
theorem Cl (x y:qh) (h1:Go.Proofs.ltOf cfO x y=false) (h2:Go.Proofs.ltOf cfO y x=false):x=y:=by
 rw [ltO] at *
 rcases gP x.1 y.1 with h3 | h3 | h3
 ·rw [h1] at h3;cases h3
 ·exact Subtype.ext h3
 ·rw [h2] at h3;cases h3
theorem Ci (blk off size:Nat) (w:World):Go.Proofs.CmpLays Tryz.prog 123 #[] zL 21 cfO blk off size w :=
 fun _ _ _ _ x y=>xw x.1 y.1 x.2 y.2 _
def nZ (l:List Pth) (h:∀ p∈l,okP p):List qh:=l.pmap Subtype.mk h
theorem xl (l:List Pth) (h:∀ p∈l,okP p):(nZ l h).map (·.1)=l:=by
 unfold nZ
 rw [List.map_pmap]
 simp
theorem q3 (l:List qh):l.flatMap zL=(l.map (·.1)).flatMap pC:=by
 rw [List.flatMap_map]
 rfl
theorem qk (l:List qh) (hn:(l.map (·.1)).Nodup):(l.mergeSort fun x y=>!(Go.Proofs.ltOf cfO) y x).map (·.1)=bV (l.map (·.1)):=by
 have hp:=List.mergeSort_perm l fun x y=>!(Go.Proofs.ltOf cfO) y x
 have hs:=List.pairwise_mergeSort (le:=fun x y=>!(Go.Proofs.ltOf cfO) y x) (fun a b c h1 h2=>by
  simp only [Bool.not_eq_true'] at *
  exact Ce.ntrans _ _ _ h2 h1) (fun a b=>by
  rw [ltO,ltO]
  cases h:b4 b.1 a.1 with
  | false=>rfl
  | true=>rw [jb h];rfl) l
 have hm:=hp.map (·.1)
 have hnd:=hm.symm.nodup hn
 refine rQ ?_ fun x=>hm.mem_iff
 unfold gD
 rw [List.pairwise_map]
 have h2:(l.mergeSort fun x y=>!(Go.Proofs.ltOf cfO) y x).Pairwise fun a b=>a.1 ≠ b.1:=List.pairwise_map.1 hnd
 refine (hs.and h2).imp fun {a b} ⟨h3,h4⟩=>?_
 simp only [Bool.not_eq_true',ltO] at h3
 rcases gP a.1 b.1 with h | h | h
 ·exact h
 ·exact absurd h h4
 ·rw [h] at h3;cases h3
theorem gb {l:List Pth} (h:l.Nodup):(bV l).length=l.length :=
 List.Perm.length_eq ((List.perm_ext_iff_of_nodup (qA (eO l)) h).2 fun x=>ez l x)
theorem oE (w:World) (B:Nat) (l:List Pth) (hok:∀ p∈l,okP p) (hnd:l.Nodup) (hn:l.length≤1000000) (A:Option Addr) (cap:Nat) (ho:w.ownsRow B 83 21 (.slice A l.length cap) l.length (l.flatMap pC)) :
  Calls Tryz.prog 122 #[.slice A l.length cap,.func (.func 123) #[] #[]] w fun e w'=>e=.returned (.tuple #[])∧w'.ownsRow B 83 21 (.slice A l.length cap) l.length ((bV l).flatMap pC)∧w.grownBy w' (Value.slice A l.length cap).ownBlock:=by
 rcases Nat.eq_zero_or_pos l.length with h0 | h0
 ·obtain rfl:=List.length_eq_zero_iff.1 h0
  have h9:=AnyF.slices_SortFunc_none Tryz.o4 A cap (.func (.func 123) #[] #[]) w
  refine h9.mono fun e w' ⟨h1,h2⟩=>?_
  subst h2
  exact ⟨h1,ho,World.grownBy.refl _ _⟩
 ·obtain ⟨hlen,hf⟩:=ho
  rcases hf with ⟨_,h⟩ | ⟨g,cap',cur,e,hB,hb,hc,hm,hs,ht⟩
  ·omega
  injection e with e1 e2 e3
  subst e1 e3
  have hmap:=xl l hok
  have hsz:(nZ l hok).toArray.size=l.length:=by rw [List.size_toArray];have:=congrArg List.length hmap;rwa [List.length_map] at this
  have hfl:∀ x:qh,(zL x).length=21:=fun x=>bO x.2
  have hblk:Blk w g 83 cur:=hb
  have hH:=wm hfl hblk (nZ l hok).toArray (by rw [hsz,ht,List.toList_toArray,q3,hmap])
  have hcon:=AnyQ.slices_SortFunc_total Tryz.o4 21 Tryz.isAgg83 Tryz.sizeOf83 zL hfl (fun x=>je x.1) cfO Ce 123 #[] g 0 cap (nZ l hok).toArray w (enters_of Tryz.func123 (by kernel_rfl) rfl) (Ci g 0 _ w) hH hblk.lt (by rw [hsz];omega) Cl
  rw [hsz] at hcon
  refine Calls.mono hcon ?_
  rintro e w' ⟨h1,n,os,rfl⟩
  have hd:(((nZ l hok).toArray.toList.mergeSort fun x y=>!(Go.Proofs.ltOf cfO) y x).toArray).size=l.length:=by
   rw [List.size_toArray,List.length_mergeSort]
   exact hsz
  obtain ⟨cur',k1,k2,k3,k4⟩:=Ah (t:=83) hfl hblk (((nZ l hok).toArray.toList.mergeSort fun x y=>!(Go.Proofs.ltOf cfO) y x).toArray) n os (by rw [hd,hs];exact Nat.mul_le_mul_right 21 hc)
  have hl9:(bV l).length=l.length:=gb hnd
  rw [hd,List.toList_toArray,q3,qk _ (by rw [hmap];exact hnd),hmap] at k3
  refine ⟨h1,⟨?_,.inr ⟨g,cap,cur',rfl,hB,k1,hc,hm,by rw [k2,hs],k3⟩⟩,k4⟩
  have e9:cur'.toList.length=cap*21:=by rw [Array.length_toList,k2,hs]
  rw [← k3,List.length_take,e9]
  exact Nat.min_eq_left (Nat.mul_le_mul_right 21 hc)
end Go.Proofs.YtomnhnmciopiiaaGreat
end
section
namespace Go.Proofs.YtomnhnmciopiiaaGreat
open Go Go.RowKit Go.Maps
set_option maxRecDepth 100000
attribute [local irreducible] wpList
theorem ij:(Tryz.prog.info? 83).map (fun i=>(i.zero,i.size,i.bytes))=some (some (.agg zcP),21,40):=by kernel_rfl
theorem yB {w:World} {B:Nat} {v:Value} {l:List Pth} (h:hG.At w B [v] l):∀ p∈l,okP p:=fun p hp=>by
 obtain ⟨A,cap,rfl,_,_,_,hA⟩:=ak h
 obtain ⟨j,hj⟩:=List.getElem?_of_mem hp
 obtain ⟨b,off,_,_,hE⟩:=hA (List.length_pos_of_mem hp)
 obtain ⟨cs,_,h9⟩:=hE j p hj
 exact (cF.1 h9).2
theorem Ca:(Tryz.prog.info? 182).map (·.size)=some (#[]:Array Value).size:=by kernel_rfl
theorem xQ:(Tryz.prog.info? 182).map (·.size)=some ([]:List Value).toArray.size:=by kernel_rfl
def unV (_:Unit):Value:=.agg #[]
def iG (l:List Pth):List (Pth×Unit):=l.map fun p=>(p,())
theorem mU (l:List Pth) (x:Pth):(aX (iG l) x).isSome=true↔x∈l:=by
 constructor
 ·intro h
  obtain ⟨u,hu⟩:=Option.isSome_iff_exists.1 h
  obtain ⟨p,hp,e⟩:=List.mem_map.1 (nX hu)
  injection e with e1 _
  rw [← e1]
  exact hp
 ·intro h
  cases hm:aX (iG l) x with
  | some v=>rfl
  | none=>exact absurd rfl (hI.1 hm (x,()) (List.mem_map.2 ⟨x,h,rfl⟩))
theorem ym {l:List Pth} {x:Pth} (h:x ∉ l):jI (iG l) x ()=iG (l++[x]):=by
 rw [kS]
 ·simp [iG]
 ·cases hm:aX (iG l) x with
  | none=>rfl
  | some v=>exact absurd ((mU l x).1 (by rw [hm];rfl)) h
theorem wY {w:World} {g:Nat} {l:List Pth} (h:bG pV okP unV w g (iG l)) {x:Pth} (hx:okP x) {b:Bool} (hb:(aX (iG l) x).isSome=b):(Instr.lookup 181 (.map (some g)) (.agg (pC x).toArray) true).run Tryz.prog w=.ok (.tuple #[.agg #[],.bool b]) w:=by
 have h9:=h.look_ok jt (x:=x) hx Tryz.underlying181 (z:=.agg #[]) (by kernel_rfl)
 rw [hb] at h9
 have e:((aX (iG l) x).map unV).getD (.agg #[])=.agg #[]:=by cases aX (iG l) x<;>rfl
 rw [e] at h9
 exact h9
theorem y5 {l:List Pth} {k:Nat} {x:Pth} {os:List Pth} (ho:os=eA (l.take k)) (hx:l[k]?=some x) (hm:x∈os):os=eA (l.take (k+1)):=by
 rw [List.take_add_one,hx]
 show os=eA (l.take k++[x])
 rw [kd,← ho,if_pos hm]
theorem AK {l:List Pth} {k:Nat} {x:Pth} {os:List Pth} (ho:os=eA (l.take k)) (hx:l[k]?=some x) (hm:x ∉ os):os++[x]=eA (l.take (k+1)):=by
 rw [List.take_add_one,hx]
 show os++[x]=eA (l.take k++[x])
 rw [kd,← ho,if_neg hm]
theorem yQ (l:List Pth):(eA l).length≤l.length:=by
 have h:∀ k,k≤l.length→(eA (l.take k)).length≤k:=by
  intro k
  induction k with
  | zero=>intro _;simp [eA]
  | succ k ih =>
   intro hk
   have hx:l[k]?=some l[k]:=List.getElem?_eq_getElem (by omega)
   rw [List.take_add_one,hx]
   show (eA (l.take k++[l[k]])).length≤_
   rw [kd]
   have:=ih (by omega)
   split
   ·omega
   ·rw [List.length_append,List.length_singleton];omega
 have h9:=h l.length (Nat.le_refl _)
 rwa [List.take_length] at h9
theorem AB {l:List Pth} (h:∀ p∈l,okP p):∀ p∈eA l,okP p:=fun p hp=>h p ((o5 l p).1 hp)
set_option maxHeartbeats 4000000 in
theorem tz (w:World) (l:List Pth) (v:Value) (h:hG.At w w.heap.size [v] l) (hn:l.length≤1000000) :
  Calls Tryz.prog 79 #[v] w fun e w'=>∃ A c,e=.returned (.slice A (bV l).length c)∧Mem w w' [aw w.heap.size 83 21 (.slice A (bV l).length c) (bV l).length ((bV l).flatMap pC)]:=by
 have hok:=yB h
 obtain ⟨A,cap,rfl,_,hcm,_,hA⟩:=ak h
 simp only [maxLen] at hcm
 have H0:=Mem.start w
 go_enter Tryz.func79,Tryz.ntmps79
 refine wp_seq_k (fun K1 hK1=>?_)
 refine rl ?_
 refine nt (hK1 _ _ ?_)
 refine wp_seq_k (fun K2 hK2=>?_)
 refine rl ?_
 refine mr pV okP unV rfl 181 rfl ?_
 intro w3 hn
 have H4:=Mem.Bj H0 hn
 clear hn
 refine rn ?_
 refine nt (hK2 _ _ ?_)
 refine wp_seq_k (fun K5 hK5=>?_)
 refine wp_seq_k (fun K6 hK6=>?_)
 refine rl ?_
 refine nt (hK6 _ _ ?_)
 refine wp_block ?_
 have H7:=Mem.dI H4 w.heap.size 83 21
 go_loopw [2,11] (fun x2 x11 wr=>∃ k:Nat,∃ os:List Pth,∃ A9:Option Addr,∃ c9:Nat,x2=.slice A9 os.length c9∧x11=.int .i64 (k:Int)∧(k≤l.length)∧(os=eA (l.take k))∧Mem w wr [aw (w.heap.size) 83 21 (.slice A9 os.length c9) (os).length ((os).flatMap pC),wK pV okP unV w.heap.size (iG os)]) (fun x2 x11 _=>l.length-(intOf x11).toNat)
 case atStart=>exact ⟨0,([]),none,0,rfl,rfl,by omega,(by rfl),H7⟩
 case round =>
  obtain ⟨wo8,rfl⟩:∃ wo8,wo8=wr:=⟨_,rfl⟩
  obtain ⟨k,os,A9,c9,rfl,rfl,hk,hos,H9⟩:=hrel
  have hol:os.length≤k:=by have h9:=yQ (l.take k);rw [← hos,List.length_take] at h9;omega
  refine wp_seq_k (fun K11 hK11=>?_)
  refine rl ?_
  by_cases p12:(k:Int)<((l.length:Nat):Int)
  ·refine rv (aB (decide_eq_true p12)) ?_
   refine nt (hK11 _ _ ?_)
   refine wp_seq_k (fun K13 hK13=>?_)
   refine ct ?_
   refine ks (hK13 _ _ ?_)
   refine wp_seq_k (fun K14 hK14=>?_)
   refine wp_block ?_
   refine wp_seq_k (fun K15 hK15=>?_)
   refine rl ?_
   obtain ⟨b16,o17,rfl,hlt19,hE18⟩:=hA (by omega)
   obtain ⟨x20,hx21⟩:∃ x,(l)[k]?=some x:=⟨_,List.getElem?_eq_getElem (by first | omega | (rw [List.length_map,List.length_range];omega))⟩
   have hd22:=av hx21
   obtain ⟨cs,hr23,ha24⟩:=hE18 (k) x20 hx21
   obtain ⟨rfl,ok25⟩:=cF.1 ha24
   refine rv (dw (k) Tryz.underlying72 b8) ?_
   refine rv (xld (Mem.range H9 hr23 hlt19) Tryz.underlying83 (ck ok25)) ?_
   refine aC (o:=⟨some 5,_,_,_,_,_⟩) rfl 83 zcP (by kernel_rfl) ?_
   intro w26 hn
   have H27:=Mem.bA H9 hn
   clear hn
   refine rn ?_
   refine al (o:=⟨none,_,_,_,_,_⟩) rfl 83 (.tmp 5) (.tmp 14) rfl wo8.heap.size zcP (pC x20).toArray 83 (Mem.blk H27 0 rfl) (eP ok25) (dk y2 (eP ok25)) (rV x20) rfl rfl ?_
   intro w28 hk hg
   have H29:=Mem.st H27 0 rfl hk hg
   clear hk hg
   refine rn ?_
   refine nt (hK15 _ _ ?_)
   refine wp_seq_k (fun K30 hK30=>?_)
   refine rl ?_
   refine rv (xld (Blk.range (Mem.blk H29 0 rfl)) Tryz.underlying83 (ck ok25)) ?_
   obtain ⟨b31,hb31⟩:∃ b,(aX (iG os) x20).isSome=b:=⟨_,rfl⟩
   refine rv (dH (o:=⟨some 18,_,_,_,_,_⟩) 181 (.tmp 16) (.tmp 17) true rfl _ _ _ rfl rfl (wY (Mem.map H29 2 rfl) ok25 hb31)) ?_
   refine aC (o:=⟨some 6,_,_,_,_,_⟩) rfl 182 #[] (by kernel_rfl) ?_
   intro w32 hn
   have H33:=Mem.bA H29 hn
   clear hn
   refine rn ?_
   refine al (o:=⟨none,_,_,_,_,_⟩) rfl 182 (.tmp 6) (.tmp 19) rfl w28.heap.size #[] ([]).toArray 182 (Mem.blk H33 0 rfl) xQ (dk Ca xQ) (by simp) rfl rfl ?_
   intro w34 hk hg
   have H35:=Mem.st H33 0 rfl hk hg
   clear hk hg
   refine rn ?_
   refine nt (hK30 _ _ ?_)
   refine wp_seq_k (fun K36 hK36=>?_)
   refine rl ?_
   refine rv sQ ?_
   refine nt (hK36 _ _ ?_)
   cases b31
   ·refine ct ?_
    refine wp_seq_k (fun K37 hK37=>?_)
    refine rl ?_
    refine rv (xld (Blk.range (Mem.blk H35 1 rfl)) Tryz.underlying83 (ck ok25)) ?_
    refine rv (v:=.agg #[]) (by kernel_rfl) ?_
    have hnm:x20 ∉ os:=fun h=>by have h9:=(mU os x20).2 h;rw [hb31] at h9;cases h9
    refine oI (o:=⟨none,_,_,_,_,_⟩) rfl 181 (.tmp 23) (.tmp 24) (.tmp 25) rfl jt (Mem.map H35 3 rfl) (key:=x20) ok25 Tryz.underlying181 () rfl rfl rfl ?_
    intro w38 hm9 ht9
    rw [ym hnm] at hm9
    have H39:=Mem.Bv H35 3 rfl hm9 ht9
    clear hm9 ht9
    refine rn ?_
    refine nt (hK37 _ _ ?_)
    refine rl ?_
    refine rv (xld (Blk.range (Mem.blk H39 1 rfl)) Tryz.underlying83 (ck ok25)) ?_
    refine aL (o:=⟨some 28,_,_,_,_,_⟩) rfl 72 (.tmp 27) rfl 83 21 (.agg zcP) (.agg (pC x20).toArray) rfl Tryz.underlying72 b8 (by decide) (by decide) (fun w=>by kernel_rfl) (by rw [Value.cells,List.size_toArray,bO ok25]) ?_
    intro w40 hn
    have H41:=Mem.bA H39 hn
    clear hn
    refine rn ?_
    obtain ⟨inm83,iq83,ir83,is83,it83⟩:=info_parts ij
    refine aH (o:=⟨some 29,_,_,_,_,_⟩) rfl _ _ 72 rfl (w.heap.size) 83 _ _ 21 40 Tryz.underlying72 iq83 ir83 is83 it83 rfl (by decide) (.slice A9 os.length c9) ((os).length) ((os).flatMap pC) (Mem.own H41 3 rfl) ((some ⟨w38.heap.size,0,none⟩)) (1) (1) (pC x20) (bH (n:=21) (m:=1) (Mem.blk H41 0 rfl) (bO ok25) (je x20)) ?hmt42 ?hbt42 ?hzt42 rfl rfl ?_
    case hmt42=>simp only [maxLen];omega
    case hbt42=>omega
    case hzt42=>exact (Mem.below H41).size
    intro u45 w43 ow48 gr49 hp50
    refine rn ?_
    have ow48:w43.ownsRow (w.heap.size) 83 21 u45 (os++[x20]).length ((os++[x20]).flatMap pC):=by first | simpa using ow48 | simpa [pC] using ow48 | (simp at ow48 ⊢;exact ow48)
    obtain ⟨A46,c47,rfl⟩:=aP ow48
    have H44:=Mem.app H41 3 rfl ow48 gr49 hp50
    clear ow48 gr49 hp50
    refine rn ?_
    refine wpList_nil ?_
    refine aq ?_
    refine ab (hK14 _ _ ?_)
    refine rl ?_
    refine rv (aR (((k+1:Nat):Int))) ?_
    refine wpList_nil ?_
    have H51:=Mem.pick H44 [3,4] (by decide) rfl
    refine ab ?_
    show _∧_
    go_roundw
    case rel=>exact ⟨(k+1),((os++[x20])),A46,c47,rfl,rfl,by omega,(AK hos hx21 hnm),H51⟩
    case measure=>simp [intOf];omega
   ·refine cf ?_
    refine wp_skip ?_
    refine aq ?_
    refine ab (hK14 _ _ ?_)
    refine rl ?_
    refine rv (aR (((k+1:Nat):Int))) ?_
    refine wpList_nil ?_
    have H52:=Mem.pick H35 [2,3] (by decide) rfl
    refine ab ?_
    show _∧_
    go_roundw
    case rel=>exact ⟨(k+1),os,A9,c9,rfl,rfl,by omega,(y5 hos hx21 ((mU os _).1 hb31)),H52⟩
    case measure=>simp [intOf];omega
  ·have he53:=bF (l:=l) (j:=k) (by omega)
   refine rv (aB (decide_eq_false p12)) ?_
   refine nt (hK11 _ _ ?_)
   refine wp_seq_k (fun K54 hK54=>?_)
   refine cf ?_
   refine wp_exit ?_
   refine aj ?_
   refine aj ?_
   refine ax ?_
   refine ab (hK5 _ _ ?_)
   refine wp_seq_k (fun K55 hK55=>?_)
   refine rl ?_
   have hke:k=l.length:=by omega
   rw [hke,List.take_length] at hos
   refine an (by kernel_rfl) _ _ (by kernel_rfl) (oE wo8 w.heap.size os (hos▸AB hok) (hos▸lW l) (by omega) A9 c9 (Mem.own H9 0 rfl)) ?_
   rintro e w56 ⟨rfl,ho9,hg9⟩
   refine ⟨_,rfl,rn ?_⟩
   have H57:=Mem.upd H9 0 rfl hg9 (fun _ hb=>hb) (eh _ _ _ _ _ _) ho9 (fun b hb=>.inl hb)
   refine nt (hK55 _ _ ?_)
   refine wp_seq_k (fun K59 hK59=>?_)
   refine rl ?_
   refine nt (hK59 _ _ ?_)
   refine wp_ret ?_
   refine bodyPost_ret (results_tmp rfl _ _ _) rfl ?_
   have hso:bV os=bV l:=qX fun x=>by rw [hos];exact o5 l x
   have hsl:(bV l).length=os.length:=by rw [← hso];exact gb (hos▸lW l)
   refine ⟨A9,c9,by rw [hsl];rfl,?_⟩
   rw [hsl,← hso]
   exact (Mem.pick H57 [0] (by decide) rfl)
end Go.Proofs.YtomnhnmciopiiaaGreat
end
section
namespace Go.Proofs.YtomnhnmciopiiaaGreat
open Go Go.RowKit Go.Maps
set_option maxRecDepth 100000
attribute [local irreducible] wpList
theorem gk {P:Program} {ρ:Operand→Value} {o:Oper} (ty e:TypeId) (x i:Operand) (ho:o.op=.indexAddr ty x i) (b off n k:Nat) (hx:ρ x=.pointer (some ⟨b,off,none⟩)) (hi:ρ i=.int .i64 (k:Int)) (hk:k<n) (hu:P.underlying ty=some (.array n e)) (hs:(P.info? e).map (·.size)=some 1) (w:World) :
  (execOp ρ o).run P w=.ok (.value (.pointer (some ⟨b,off+k,none⟩))) w:=by
 have e2:P.elem ty=e:=by simp [Program.elem,hu]
 have e3:P.arrayLen ty=n:=by simp [Program.arrayLen,hu]
 unfold execOp
 simp only [ho,hx,hi,Sem.run_bind,Sem.run_pure,run_indexAt_array w ty _ .i64 (k:Int) (by rw [e2,e3];exact hu),e2,e3,if_pos (show (0:Int)≤(k:Int)∧(k:Int)<(n:Int) from ⟨by omega,by omega⟩)]
 cases hq:P.info? e with
 | none=>simp [hq] at hs
 | some j =>
  have h1:j.size=1:=by simpa [hq] using hs
  simp [sizeOf,typeInfo,hq,h1,Addr.add_mid]
def lV:List UInt8→List UInt8→Bool→Bool
 | a :: x,b :: y,d=>if a=b then lV x y d else decide ((a.toNat:Int)<(b.toNat:Int))
 | _,_,d=>d
theorem y9:∀ (x y:List UInt8) (d:Bool),x.length=y.length→(if x=y then d else Op.bytesLess x y)=lV x y d
 | [],[],d,_=>rfl
 | a :: x,[],d,h=>by simp at h
 | [],b :: y,d,h=>by simp at h
 | a :: x,b :: y,d,h=>by
  have ih:=y9 x y d (by simpa using h)
  unfold lV
  by_cases e:a=b
  ·subst e
   rw [if_pos rfl,← ih]
   by_cases e2:x=y
   ·subst e2
    rw [if_pos rfl,if_pos rfl]
   ·rw [if_neg e2,if_neg (fun h=>e2 (List.cons.inj h).2)]
    simp [Op.bytesLess]
  ·rw [if_neg e,if_neg (fun h=>e (List.cons.inj h).1)]
   have hb:(a == b)=false:=beq_eq_false_iff_ne.2 e
   simp only [Op.bytesLess,hb,Bool.false_and,Bool.or_false]
   rw [decide_eq_decide,UInt8.lt_iff_toNat_lt]
   omega
theorem zT {x y:Pth} (hx:okP x) (hy:okP y):b4 x y=lV x.1 y.1 (Op.bytesLess x.2.toList y.2.toList):=by
 rw [← y9 _ _ _ (hx.1.trans hy.1.symm),Lib.toList_data,Lib.toList_data]
 rfl
theorem nH {a b:List UInt8} {k:Nat} {u v:UInt8} {d:Bool} (ha:a[k]?=some u) (hb:b[k]?=some v):lV (a.drop k) (b.drop k) d=if (u.toNat:Int)=(v.toNat:Int) then lV (a.drop (k+1)) (b.drop (k+1)) d else decide ((u.toNat:Int)<(v.toNat:Int)):=by
 rw [av ha,av hb]
 show (if u=v then _ else _)=_
 by_cases h:u=v
 ·subst h;rw [if_pos rfl,if_pos rfl]
 ·rw [if_neg h,if_neg (fun e=>h (UInt8.toNat_inj.1 (by omega)))]
theorem bv_cell {x:List UInt8} {w:World} {b o k:Nat} {u:UInt8} (h:w.rangeAt b o (bv x)) (hx:x[k]?=some u):w.rangeAt b (o+k) [.int .u8 (u.toNat:Int)]:=fun j v hj=>by
 cases j with
 | zero =>
  simp only [List.getElem?_cons_zero,Option.some.injEq] at hj
  subst hj
  exact h k _ (by simp [bv,hx])
 | succ j=>simp at hj
set_option maxHeartbeats 4000000 in
theorem lv (w:World) (x y:Pth) (hx:okP x) (hy:okP y) (b9:Bool) (hb9:b4 x y=b9) :
  Calls Tryz.prog 124 #[.agg (pC x).toArray,.agg (pC y).toArray] w fun e w'=>e=.returned (.bool b9)∧Below w.heap.size w w':=by
 rw [zT hx hy] at hb9
 obtain ⟨dn,hdn⟩:∃ d,d=Op.bytesLess x.2.toList y.2.toList:=⟨_,rfl⟩
 rw [← hdn] at hb9
 have HEQ0:lV (x.1.drop 0) (y.1.drop 0) dn=b9:=hb9
 have H0:=Mem.start w
 go_enter Tryz.func124,Tryz.ntmps124
 refine wp_seq_k (fun K1 hK1=>?_)
 refine rl ?_
 refine ay (o:=⟨some 2,_,_,_,_,_⟩) rfl 83 (.tmp 0) rfl (pC x).toArray rfl ?_
 intro w2 hn
 have H3:=Mem.bA H0 hn
 clear hn
 refine rn ?_
 refine ay (o:=⟨some 3,_,_,_,_,_⟩) rfl 83 (.tmp 1) rfl (pC y).toArray rfl ?_
 intro w4 hn
 have H5:=Mem.bA H3 hn
 clear hn
 refine rn ?_
 refine nt (hK1 _ _ ?_)
 refine wp_seq_k (fun K6 hK6=>?_)
 refine wp_seq_k (fun K7 hK7=>?_)
 refine rl ?_
 refine nt (hK7 _ _ ?_)
 refine wp_block ?_
 go_loopw [5] (fun x5 wr=>∃ k:Nat,x5=.int .i64 (k:Int)∧(k≤20)∧(lV (x.1.drop k) (y.1.drop k) dn=b9)∧Mem w wr [cC (w2.heap.size) 83 (pC y).toArray,cC (w.heap.size) 83 (pC x).toArray]) (fun x5 _=>20-(intOf x5).toNat)
 case atStart=>exact ⟨0,rfl,by omega,HEQ0,H5⟩
 case round =>
  obtain ⟨wo8,rfl⟩:∃ wo8,wo8=wr:=⟨_,rfl⟩
  obtain ⟨k,rfl,hk,HEQ,H9⟩:=hrel
  refine wp_seq_k (fun K11 hK11=>?_)
  refine wp_seq_k (fun K12 hK12=>?_)
  refine rl ?_
  by_cases p13:(k:Int)<20
  ·refine rv (aB (decide_eq_true p13)) ?_
   refine nt (hK12 _ _ ?_)
   refine ct ?_
   refine ks (hK11 _ _ ?_)
   refine wp_seq_k (fun K14 hK14=>?_)
   refine wp_block ?_
   refine wp_seq_k (fun K15 hK15=>?_)
   obtain ⟨u16,hu17⟩:∃ u,x.1[k]?=some u:=⟨_,List.getElem?_eq_getElem (by rw [hx.1];omega)⟩
   obtain ⟨u18,hu19⟩:∃ u,y.1[k]?=some u:=⟨_,List.getElem?_eq_getElem (by rw [hy.1];omega)⟩
   refine Fre.aW (X:=Bel) [] (by kernel_rfl) (by kernel_rfl) (by simp) (by simp) (by simp) ?_
   refine Fre.rmd ?_
   refine Fre.mvv (v:=.pointer (some ⟨w.heap.size,0,none⟩)) (fun _ _=>by kernel_rfl) ?_
   refine Fre.mvv (fun W9 _=>gk (o:=⟨some 12,_,_,_,_,_⟩) 34 5 (.tmp 11) (.tmp 10) rfl w.heap.size 0 20 k rfl rfl (by omega) Tryz.underlying34 uV W9) ?_
   refine Fre.mvv (fun W9 hW9=>xlc (range_cell (bv_cell (qa (Blk.range (Mem.blk (Mem.call H9 hW9) 1 rfl))) hu17)) Tryz.underlying5) ?_
   refine Fre.mvv (v:=.pointer (some ⟨w2.heap.size,0,none⟩)) (fun _ _=>by kernel_rfl) ?_
   refine Fre.mvv (fun W9 _=>gk (o:=⟨some 16,_,_,_,_,_⟩) 34 5 (.tmp 15) (.tmp 14) rfl w2.heap.size 0 20 k rfl rfl (by omega) Tryz.underlying34 uV W9) ?_
   refine Fre.mvv (fun W9 hW9=>xlc (range_cell (bv_cell (qa (Blk.range (Mem.blk (Mem.call H9 hW9) 0 rfl))) hu19)) Tryz.underlying5) ?_
   by_cases p20:(u16.toNat:Int)=(u18.toNat:Int)
   ·have hst:=nH (d:=dn) hu17 hu19
    rw [if_pos p20,HEQ] at hst
    refine Fre.mvv (fun _ _=>sD (decide_eq_true p20)) ?_
    intro w21 hx23
    dsimp only [Fre.ended,List.drop]
    have H22:=Mem.call H9 hx23
    refine ab (hK15 _ _ ?_)
    refine cf ?_
    refine wp_skip ?_
    refine aq ?_
    refine ab (hK14 _ _ ?_)
    refine rl ?_
    refine rv (aR (((k+1:Nat):Int))) ?_
    refine wpList_nil ?_
    refine ab ?_
    show _∧_
    go_roundw
    case rel=>exact ⟨(k+1),rfl,by omega,hst.symm,H22⟩
    case measure=>simp [intOf];omega
   ·have hst:=nH (d:=dn) hu17 hu19
    rw [if_neg p20,HEQ] at hst
    refine Fre.mvv (fun _ _=>sD (decide_eq_false p20)) ?_
    intro w24 hx26
    dsimp only [Fre.ended,List.drop]
    have H25:=Mem.call H9 hx26
    refine ab (hK15 _ _ ?_)
    refine ct ?_
    refine wp_seq_k (fun K27 hK27=>?_)
    refine Fre.aW (X:=Bel) [] (by kernel_rfl) (by kernel_rfl) (by simp) (by simp) (by simp) ?_
    refine Fre.rmd ?_
    refine Fre.mvv (v:=.pointer (some ⟨w.heap.size,0,none⟩)) (fun _ _=>by kernel_rfl) ?_
    refine Fre.mvv (fun W9 _=>gk (o:=⟨some 21,_,_,_,_,_⟩) 34 5 (.tmp 20) (.tmp 19) rfl w.heap.size 0 20 k rfl rfl (by omega) Tryz.underlying34 uV W9) ?_
    refine Fre.mvv (fun W9 hW9=>xlc (range_cell (bv_cell (qa (Blk.range (Mem.blk (Mem.call H25 hW9) 1 rfl))) hu17)) Tryz.underlying5) ?_
    refine Fre.mvv (v:=.pointer (some ⟨w2.heap.size,0,none⟩)) (fun _ _=>by kernel_rfl) ?_
    refine Fre.mvv (fun W9 _=>gk (o:=⟨some 25,_,_,_,_,_⟩) 34 5 (.tmp 24) (.tmp 23) rfl w2.heap.size 0 20 k rfl rfl (by omega) Tryz.underlying34 uV W9) ?_
    refine Fre.mvv (fun W9 hW9=>xlc (range_cell (bv_cell (qa (Blk.range (Mem.blk (Mem.call H25 hW9) 0 rfl))) hu19)) Tryz.underlying5) ?_
    refine Fre.mvv (fun _ _=>aB rfl) ?_
    intro w28 hx30
    dsimp only [Fre.ended,List.drop]
    have H29:=Mem.call H25 hx30
    refine ab (hK27 _ _ ?_)
    refine wp_ret ?_
    simp only [Exit.then,Exit.inBlock]
    refine bodyPost_ret (results_tmp rfl _ _ _) rfl ?_
    refine ⟨?_,Mem.below H29⟩
    rw [hst]
    rfl
  ·refine rv (aB (decide_eq_false p13)) ?_
   refine nt (hK12 _ _ ?_)
   refine cf ?_
   refine wp_exit ?_
   refine aj ?_
   refine aj ?_
   refine ax ?_
   refine ab (hK6 _ _ ?_)
   refine wp_seq_k (fun K31 hK31=>?_)
   refine rl ?_
   refine rv (v:=.pointer (some ⟨w.heap.size,20,none⟩)) (by kernel_rfl) ?_
   refine rv (xlc (range_cell (rM hx (Blk.range (Mem.blk H9 1 rfl)))) Tryz.underlying9) ?_
   refine rv (v:=.pointer (some ⟨w2.heap.size,20,none⟩)) (by kernel_rfl) ?_
   refine rv (xlc (range_cell (rM hy (Blk.range (Mem.blk H9 0 rfl)))) Tryz.underlying9) ?_
   obtain ⟨b32,hb32⟩:∃ b,Op.bytesLess (x.2).toList (y.2).toList=b:=⟨_,rfl⟩
   refine rv (zO (o:=⟨some 32,_,_,_,_,_⟩) 9 9 (.tmp 29) (.tmp 31) rfl (x.2) (y.2) rfl rfl _ hb32 wo8) ?_
   refine nt (hK31 _ _ ?_)
   refine wp_ret ?_
   refine bodyPost_ret (results_tmp rfl _ _ _) rfl ?_
   have hke:k=20:=by omega
   rw [hke,List.drop_of_length_le (by rw [hx.1];omega)] at HEQ
   refine ⟨?_,Mem.below H9⟩
   rw [← HEQ,hdn,hb32]
   rfl
end Go.Proofs.YtomnhnmciopiiaaGreat
end
section
namespace Go.Proofs.YtomnhnmciopiiaaGreat
open Go Go.RowKit Go.Maps
set_option maxRecDepth 100000
attribute [local irreducible] wpList
def eB:List Nam→List Pth
 | []=>[]
 | x :: l=>(if x.2.2.2=true then [] else [x.2.1])++eB l
theorem sb (a b:List Nam):eB (a++b)=eB a++eB b:=by
 induction a with
 | nil=>rfl
 | cons x a ih=>simp [eB,ih]
theorem uB {l:List Nam} {k:Nat} {x:Nam} {os:List Pth} (ho:os=eB (l.take k)) (hx:l[k]?=some x) (hb:x.2.2.2=true):os=eB (l.take (k+1)):=by
 rw [List.take_add_one,hx,sb,← ho]
 simp [eB,hb]
theorem yE {l:List Nam} {k:Nat} {x:Nam} {os:List Pth} (ho:os=eB (l.take k)) (hx:l[k]?=some x) (hb:x.2.2.2=false):os++[x.2.1]=eB (l.take (k+1)):=by
 rw [List.take_add_one,hx,sb,← ho]
 simp [eB,hb]
theorem pT (l:List Nam):(eB l).length≤l.length:=by
 induction l with
 | nil=>simp [eB]
 | cons x l ih=>simp only [eB,List.length_append,List.length_cons];split<;>simp<;>omega
theorem tq {l:List Nam} (h:∀ x∈l,okN x):∀ p∈eB l,okP p:=by
 induction l with
 | nil=>intro p hp;cases hp
 | cons x l ih =>
  intro p hp
  simp only [eB] at hp
  rcases List.mem_append.1 hp with hp | hp
  ·split at hp
   ·cases hp
   ·rw [List.mem_singleton.1 hp];exact (h x (.head _)).2.1
  ·exact ih (fun y hy=>h y (.tail _ hy)) p hp
theorem zx {w:World} {B n cap:Nat} {A:Option Addr} {l:List Pth} (h:w.ownsRow B 83 21 (.slice A l.length cap) l.length (l.flatMap pC)) (ha:∀ p∈l,okP p):hG.At w w.heap.size [.slice A l.length cap] l :=
 di (L:=kT) (f:=pC) (by decide) h _ (Nat.le_refl _) fun x hx=>cF.2 ⟨rfl,ha x hx⟩
theorem mI {w:World} {B:Nat} {v:Value} {l:List Nam} (h:de.At w B [v] l):∀ x∈l,okN x:=fun p hp=>by
 obtain ⟨A,cap,rfl,_,_,_,hA⟩:=ak h
 obtain ⟨j,hj⟩:=List.getElem?_of_mem hp
 obtain ⟨b,off,_,_,hE⟩:=hA (List.length_pos_of_mem hp)
 obtain ⟨cs,_,h9⟩:=hE j p hj
 exact (bl.1 h9).2
set_option maxHeartbeats 4000000 in
theorem q6 (w:World) (d:Drv) (v1 v2:Value) (h:aO w w.heap.size d v1 v2) (hn:d.2.1.length≤1000000) :
  Calls Tryz.prog 43 #[.agg (dC d v1 v2).toArray] w fun e w'=>∃ B A c,e=.returned (.slice A (bV (eB d.2.1)).length c)∧Mem w w' [aw B 83 21 (.slice A (bV (eB d.2.1)).length c) (bV (eB d.2.1)).length ((bV (eB d.2.1)).flatMap pC)]:=by
 obtain ⟨A,cap,rfl,_,hcm,_,hA⟩:=ak h.ins
 obtain ⟨A2,cap2,rfl,_,hcm2,_,hA2⟩:=ak h.rcp
 simp only [maxLen] at hcm hcm2
 have H0:=Mem.start w
 go_enter Tryz.func43,Tryz.ntmps43
 refine wp_seq_k (fun K1 hK1=>?_)
 refine rl ?_
 refine ay (o:=⟨some 1,_,_,_,_,_⟩) rfl 26 (.tmp 0) rfl (dC d (.slice A d.2.1.length cap) (.slice A2 d.2.2.length cap2)).toArray rfl ?_
 intro w2 hn
 have H3:=Mem.bA H0 hn
 clear hn
 refine rn ?_
 refine nt (hK1 _ _ ?_)
 refine wp_seq_k (fun K4 hK4=>?_)
 refine rl ?_
 refine nt (hK4 _ _ ?_)
 refine wp_seq_k (fun K5 hK5=>?_)
 refine wp_seq_k (fun K6 hK6=>?_)
 refine rl ?_
 refine rv (v:=.pointer (some ⟨w.heap.size,1,none⟩)) (by kernel_rfl) ?_
 refine rv (xlc (range_cell (cG (Blk.range (Mem.blk H3 0 rfl)))) Tryz.underlying23) ?_
 refine nt (hK6 _ _ ?_)
 refine wp_block ?_
 have H7:=Mem.dI H3 w.heap.size 83 21
 go_loopw [3,9] (fun x3 x9 wr=>∃ k:Nat,∃ os:List Pth,∃ A9:Option Addr,∃ c9:Nat,x3=.slice A9 os.length c9∧x9=.int .i64 (k:Int)∧(k≤d.2.1.length)∧(os=eB (d.2.1.take k))∧Mem w wr [aw (w.heap.size) 83 21 (.slice A9 os.length c9) (os).length ((os).flatMap pC),cC (w.heap.size) 26 (dC d (.slice A d.2.1.length cap) (.slice A2 d.2.2.length cap2)).toArray]) (fun x3 x9 _=>d.2.1.length-(intOf x9).toNat)
 case atStart=>exact ⟨0,([]),none,0,rfl,rfl,by omega,(by rfl),H7⟩
 case round =>
  obtain ⟨wo8,rfl⟩:∃ wo8,wo8=wr:=⟨_,rfl⟩
  obtain ⟨k,os,A9,c9,rfl,rfl,hk,hos,H9⟩:=hrel
  have hol:os.length≤k:=by have h9:=pT (d.2.1.take k);rw [← hos,List.length_take] at h9;omega
  refine wp_seq_k (fun K11 hK11=>?_)
  refine rl ?_
  by_cases p12:(k:Int)<((d.2.1.length:Nat):Int)
  ·refine rv (aB (decide_eq_true p12)) ?_
   refine nt (hK11 _ _ ?_)
   refine wp_seq_k (fun K13 hK13=>?_)
   refine ct ?_
   refine ks (hK13 _ _ ?_)
   refine wp_seq_k (fun K14 hK14=>?_)
   refine wp_block ?_
   refine wp_seq_k (fun K15 hK15=>?_)
   refine rl ?_
   obtain ⟨b16,o17,rfl,hlt19,hE18⟩:=hA (by omega)
   obtain ⟨x20,hx21⟩:∃ x,(d.2.1)[k]?=some x:=⟨_,List.getElem?_eq_getElem (by first | omega | (rw [List.length_map,List.length_range];omega))⟩
   have hd22:=av hx21
   obtain ⟨cs,hr23,ha24⟩:=hE18 (k) x20 hx21
   obtain ⟨rfl,ok25⟩:=bl.1 ha24
   refine rv (dw (k) Tryz.underlying23 aY) ?_
   refine rv (xld (Mem.range H9 hr23 hlt19) Tryz.underlying87 (dE ok25)) ?_
   refine aC (o:=⟨some 5,_,_,_,_,_⟩) rfl 87 zcN (by kernel_rfl) ?_
   intro w26 hn
   have H27:=Mem.bA H9 hn
   clear hn
   refine rn ?_
   refine al (o:=⟨none,_,_,_,_,_⟩) rfl 87 (.tmp 5) (.tmp 12) rfl wo8.heap.size zcN (nC x20).toArray 87 (Mem.blk H27 0 rfl) (iF ok25) (dk mT (iF ok25)) (ui x20) rfl rfl ?_
   intro w28 hk hg
   have H29:=Mem.st H27 0 rfl hk hg
   clear hk hg
   refine rn ?_
   refine nt (hK15 _ _ ?_)
   refine wp_seq_k (fun K30 hK30=>?_)
   refine rl ?_
   refine rv (v:=.pointer (some ⟨wo8.heap.size,1,none⟩)) (by kernel_rfl) ?_
   refine rv (v:=.pointer (some ⟨wo8.heap.size,42,none⟩)) (by kernel_rfl) ?_
   obtain ⟨b31,hb31⟩:∃ b,x20.2.2.2=b:=⟨_,rfl⟩
   refine rv (v:=.bool b31) (by rw [← hb31];exact (exec_load_cell (o:=⟨some 15,_,_,_,_,_⟩) 4 (.tmp 14) rfl ⟨wo8.heap.size,42,none⟩ rfl _ _ w28 Tryz.underlying4 rfl (range_cell (iI ok25.2 (cR (Blk.range (Mem.blk H29 0 rfl))))))) ?_
   refine rv sQ ?_
   refine nt (hK30 _ _ ?_)
   cases b31
   ·refine ct ?_
    refine rl ?_
    refine rv (v:=.pointer (some ⟨wo8.heap.size,1,none⟩)) (by kernel_rfl) ?_
    refine rv (v:=.pointer (some ⟨wo8.heap.size,1,none⟩)) (by kernel_rfl) ?_
    refine rv (xld (j7 (cR (Blk.range (Mem.blk H29 0 rfl)))) Tryz.underlying83 (ck ok25.2.1)) ?_
    refine aL (o:=⟨some 21,_,_,_,_,_⟩) rfl 72 (.tmp 20) rfl 83 21 (.agg zcP) (.agg (pC x20.2.1).toArray) rfl Tryz.underlying72 b8 (by decide) (by decide) (fun w=>by kernel_rfl) (by rw [Value.cells,List.size_toArray,bO ok25.2.1]) ?_
    intro w32 hn
    have H33:=Mem.bA H29 hn
    clear hn
    refine rn ?_
    obtain ⟨inm83,iq83,ir83,is83,it83⟩:=info_parts ij
    refine aH (o:=⟨some 22,_,_,_,_,_⟩) rfl _ _ 72 rfl (w.heap.size) 83 _ _ 21 40 Tryz.underlying72 iq83 ir83 is83 it83 rfl (by decide) (.slice A9 os.length c9) ((os).length) ((os).flatMap pC) (Mem.own H33 2 rfl) ((some ⟨w28.heap.size,0,none⟩)) (1) (1) (pC x20.2.1) (bH (n:=21) (m:=1) (Mem.blk H33 0 rfl) (bO ok25.2.1) (je x20.2.1)) ?hmt34 ?hbt34 ?hzt34 rfl rfl ?_
    case hmt34=>simp only [maxLen];omega
    case hbt34=>omega
    case hzt34=>exact (Mem.below H33).size
    intro u37 w35 ow40 gr41 hp42
    refine rn ?_
    have ow40:w35.ownsRow (w.heap.size) 83 21 u37 (os++[x20.2.1]).length ((os++[x20.2.1]).flatMap pC):=by first | simpa using ow40 | simpa [pC] using ow40 | (simp at ow40 ⊢;exact ow40)
    obtain ⟨A38,c39,rfl⟩:=aP ow40
    have H36:=Mem.app H33 2 rfl ow40 gr41 hp42
    clear ow40 gr41 hp42
    refine rn ?_
    refine wpList_nil ?_
    refine aq ?_
    refine ab (hK14 _ _ ?_)
    refine rl ?_
    refine rv (aR (((k+1:Nat):Int))) ?_
    refine wpList_nil ?_
    have H43:=Mem.pick H36 [2,3] (by decide) rfl
    refine ab ?_
    show _∧_
    go_roundw
    case rel=>exact ⟨(k+1),((os++[x20.2.1])),A38,c39,rfl,rfl,by omega,(yE hos hx21 hb31),H43⟩
    case measure=>simp [intOf];omega
   ·refine cf ?_
    refine wp_skip ?_
    refine aq ?_
    refine ab (hK14 _ _ ?_)
    refine rl ?_
    refine rv (aR (((k+1:Nat):Int))) ?_
    refine wpList_nil ?_
    have H44:=Mem.pick H29 [1,2] (by decide) rfl
    refine ab ?_
    show _∧_
    go_roundw
    case rel=>exact ⟨(k+1),os,A9,c9,rfl,rfl,by omega,(uB hos hx21 hb31),H44⟩
    case measure=>simp [intOf];omega
  ·have he45:=bF (l:=d.2.1) (j:=k) (by omega)
   refine rv (aB (decide_eq_false p12)) ?_
   refine nt (hK11 _ _ ?_)
   refine wp_seq_k (fun K46 hK46=>?_)
   refine cf ?_
   refine wp_exit ?_
   refine aj ?_
   refine aj ?_
   refine ax ?_
   refine ab (hK5 _ _ ?_)
   refine wp_seq_k (fun K47 hK47=>?_)
   refine rl ?_
   have hke:k=d.2.1.length:=by omega
   rw [hke,List.take_length] at hos
   have hno:=mI h.ins
   refine an (by kernel_rfl) _ _ (by kernel_rfl) (tz wo8 os _ (zx (n:=0) (Mem.own H9 0 rfl) (hos▸tq hno)) (by omega)) ?_
   rintro e w48 ⟨A8,c8,rfl,hm8⟩
   refine ⟨_,rfl,rn ?_⟩
   have H49:=Mem.seq H9 hm8
   refine rn ?_
   refine nt (hK47 _ _ ?_)
   refine wp_ret ?_
   refine bodyPost_ret (results_tmp rfl _ _ _) rfl ?_
   subst hos
   exact ⟨_,A8,c8,rfl,(Mem.pick H49 [0] (by decide) rfl)⟩
end Go.Proofs.YtomnhnmciopiiaaGreat
end
section
namespace Go.Proofs.YtomnhnmciopiiaaGreat
open Go Go.RowKit Go.Maps
set_option maxRecDepth 100000
attribute [local irreducible] wpList
def B5:Value→Nat
 | .slice _ n _=>n
 | _=>0
theorem vF {l:List Pth} {x:Pth} (h:∀ p∈l,okP p) (hx:okP x):∀ p∈l++[x],okP p:=fun p hp=>by
 rcases List.mem_append.1 hp with hp | hp
 ·exact h p hp
 ·rw [List.mem_singleton.1 hp];exact hx
def lX (f:Bool) (b:Pth):Option Pth:=if f=true then some b else none
theorem en {last:Option Pth} {l:List Pth} {k:Nat} {x:Pth} {best r:Option Pth} (h:gC last (l.drop k) best=r) (hx:l[k]?=some x):gC last (l.drop (k+1)) (if eZ last x&&fU best x then some x else best)=r:=by
 rw [av hx] at h
 exact h
theorem v8 {l:List Pth} (h:l.length=0):l.getLast?=none:=by rw [List.length_eq_zero_iff.1 h];rfl
theorem vI {l:List Pth} {x:Pth} (h:l[l.length-1]?=some x):l.getLast?=some x:=by rw [List.getLast?_eq_getElem?];exact h
theorem tJ {l os rest:List Pth} (h:bV l=os++rest):os.length≤l.length:=by
 have h1:=ie l
 rw [h,List.length_append] at h1
 omega
set_option maxHeartbeats 8000000 in
theorem sz (w:World) (l:List Pth) (v:Value) (h:hG.At w w.heap.size [v] l) (hn:l.length≤1000000) :
  Calls Tryz.prog 80 #[v] w fun e w'=>∃ A c,e=.returned (.slice A (bV l).length c)∧Mem w w' [aw w.heap.size 83 21 (.slice A (bV l).length c) (bV l).length ((bV l).flatMap pC)]:=by
 obtain ⟨A,cap,rfl,_,hcm,_,hA⟩:=ak h
 simp only [maxLen] at hcm
 have H0:=Mem.start w
 go_enter Tryz.func80,Tryz.ntmps80
 refine wp_seq_k (fun K1 hK1=>?_)
 refine rl ?_
 refine nt (hK1 _ _ ?_)
 refine wp_seq_k (fun K2 hK2=>?_)
 refine rl ?_
 refine nt (hK2 _ _ ?_)
 refine wp_seq_k (fun K3 hK3=>?_)
 refine wp_block ?_
 have H4:=Mem.dI H0 w.heap.size 83 21
 go_loopw [3] (fun x3 wr=>∃ os:List Pth,∃ A9:Option Addr,∃ c9:Nat,∃ rest:List Pth,x3=.slice A9 os.length c9∧(bV l=os++rest)∧(∀ p∈os,okP p)∧Mem w wr [aw (w.heap.size) 83 21 (.slice A9 os.length c9) (os).length ((os).flatMap pC)]) (fun x3 _=>l.length+1-B5 x3)
 case atStart=>exact ⟨([]),none,0,(bV l),rfl,(by rfl),(fun _ h=>by cases h),H4⟩
 case round =>
  obtain ⟨wo5,rfl⟩:∃ wo5,wo5=wr:=⟨_,rfl⟩
  obtain ⟨os,A9,c9,rest,rfl,hrs,hall,H6⟩:=hrel
  refine wp_seq_k (fun K8 hK8=>?_)
  refine wp_seq_k (fun K9 hK9=>?_)
  refine rl ?_
  by_cases p10:((os.length:Nat):Int)≤((l.length:Nat):Int)
  ·refine rv (Cp (decide_eq_true p10)) ?_
   refine nt (hK9 _ _ ?_)
   refine ct ?_
   refine ks (hK8 _ _ ?_)
   refine wp_block ?_
   refine wp_seq_k (fun K11 hK11=>?_)
   refine rl ?_
   refine nt (hK11 _ _ ?_)
   refine wp_seq_k (fun K12 hK12=>?_)
   refine rl ?_
   refine aC (o:=⟨some 5,_,_,_,_,_⟩) rfl 83 zcP (by kernel_rfl) ?_
   intro w13 hn
   have H14:=Mem.bA H6 hn
   clear hn
   refine rn ?_
   refine nt (hK12 _ _ ?_)
   refine wp_seq_k (fun K15 hK15=>?_)
   refine wp_seq_k (fun K16 hK16=>?_)
   refine rl ?_
   refine nt (hK16 _ _ ?_)
   refine wp_block ?_
   go_loopw [4,6] (fun x4 x6 wr=>∃ k:Nat,∃ fb:Bool,∃ bp:Pth,x4=.bool fb∧x6=.int .i64 (k:Int)∧(k≤l.length)∧(okP bp)∧(gC os.getLast? (l.drop k) (lX fb bp)=rest.head?)∧Mem w wr [cC (wo5.heap.size) 83 (pC bp).toArray,aw (w.heap.size) 83 21 (.slice A9 os.length c9) (os).length ((os).flatMap pC)]) (fun x4 x6 _=>l.length-(intOf x6).toNat)
   case atStart=>exact ⟨0,false,dV,rfl,rfl,by omega,eG,(q8 hrs),H14⟩
   case round =>
    obtain ⟨wo17,rfl⟩:∃ wo17,wo17=wr:=⟨_,rfl⟩
    obtain ⟨k,fb,bp,rfl,rfl,hk,hbp,HEQ,H18⟩:=hrel
    refine wp_seq_k (fun K20 hK20=>?_)
    refine wp_seq_k (fun K21 hK21=>?_)
    refine rl ?_
    by_cases p22:(k:Int)<((l.length:Nat):Int)
    ·refine rv (aB (decide_eq_true p22)) ?_
     refine nt (hK21 _ _ ?_)
     refine ct ?_
     refine ks (hK20 _ _ ?_)
     refine wp_seq_k (fun K23 hK23=>?_)
     refine wp_block ?_
     refine wp_seq_k (fun K24 hK24=>?_)
     refine Fre.aW (X:=Bel) [] (by kernel_rfl) (by kernel_rfl) (by simp) (by simp) (by simp) ?_
     refine Fre.rmd ?_
     by_cases p25:((os.length:Nat):Int)=0
     ·have hlast:os.getLast?=none:=v8 (by omega)
      refine Fre.mvv (fun _ _=>qw (decide_eq_true p25)) ?_
      intro w26 hx28
      dsimp only [Fre.ended,List.drop]
      have H27:=Mem.call H18 hx28
      refine ab (hK24 _ _ ?_)
      refine wp_seq_k (fun K29 hK29=>?_)
      refine Fre.aW (X:=Bel) [] (by kernel_rfl) (by kernel_rfl) (by simp) (by simp) (by simp) ?_
      refine Fre.rmd ?_
      refine Fre.mvv (fun _ _=>sQ) ?_
      cases fb
      ·refine Fre.rmd ?_
       intro w30 hx32
       dsimp only [Fre.ended,List.drop]
       have H31:=Mem.call H27 hx32
       refine ab (hK29 _ _ ?_)
       refine ct ?_
       refine wp_seq_k (fun K33 hK33=>?_)
       refine rl ?_
       obtain ⟨b34,o35,rfl,hlt37,hE36⟩:=hA (by omega)
       obtain ⟨x38,hx39⟩:∃ x,(l)[k]?=some x:=⟨_,List.getElem?_eq_getElem (by first | omega | (rw [List.length_map,List.length_range];omega))⟩
       have hd40:=av hx39
       obtain ⟨cs,hr41,ha42⟩:=hE36 (k) x38 hx39
       obtain ⟨rfl,ok43⟩:=cF.1 ha42
       refine rv (dw (k) Tryz.underlying72 b8) ?_
       refine rv (xld (Mem.range H31 hr41 hlt37) Tryz.underlying83 (ck ok43)) ?_
       refine al (o:=⟨none,_,_,_,_,_⟩) rfl 83 (.tmp 5) (.tmp 51) rfl wo5.heap.size (pC bp).toArray (pC x38).toArray 83 (Mem.blk H31 0 rfl) (eP ok43) (dk (eP hbp) (eP ok43)) (rV x38) rfl rfl ?_
       intro w44 hk hg
       have H45:=Mem.st H31 0 rfl hk hg
       clear hk hg
       refine rn ?_
       refine nt (hK33 _ _ ?_)
       refine rl ?_
       refine wpList_nil ?_
       refine aq ?_
       refine ab (hK23 _ _ ?_)
       refine rl ?_
       refine rv (aR (((k+1:Nat):Int))) ?_
       refine wpList_nil ?_
       refine ab ?_
       show _∧_
       go_roundw
       case rel=>exact ⟨(k+1),true,x38,rfl,rfl,by omega,ok43,(by have h9:=en HEQ hx39;simp only [eZ,fU,lX,hlast,↓reduceIte,Bool.and_true,Bool.false_eq_true] at h9 ⊢;exact h9),H45⟩
       case measure=>simp [intOf];omega
      ·refine Fre.rmd ?_
       obtain ⟨b46,o47,rfl,hlt49,hE48⟩:=hA (by omega)
       obtain ⟨x50,hx51⟩:∃ x,(l)[k]?=some x:=⟨_,List.getElem?_eq_getElem (by first | omega | (rw [List.length_map,List.length_range];omega))⟩
       have hd52:=av hx51
       obtain ⟨cs,hr53,ha54⟩:=hE48 (k) x50 hx51
       obtain ⟨rfl,ok55⟩:=cF.1 ha54
       refine Fre.mvv (fun _ _=>dw (k) Tryz.underlying72 b8) ?_
       refine Fre.mvv (fun W9 hW9=>xld (Mem.range (Mem.call H27 hW9) hr53 hlt49) Tryz.underlying83 (ck ok55)) ?_
       refine Fre.mvv (fun W9 hW9=>xld (Blk.range (Mem.blk (Mem.call H27 hW9) 0 rfl)) Tryz.underlying83 (ck hbp)) ?_
       obtain ⟨b56,hb56⟩:∃ b,b4 x50 bp=b:=⟨_,rfl⟩
       refine Fre.aA (.bool b56) _ _ (by kernel_rfl) (by kernel_rfl) (by kernel_rfl) (fun W9=>by kernel_rfl) (fun W9 hW9=>lv W9 x50 bp ok55 hbp b56 hb56) ?_
       refine Fre.rmd ?_
       cases b56
       ·refine Fre.rmd ?_
        intro w57 hx59
        dsimp only [Fre.ended,List.drop]
        have H58:=Mem.call H27 hx59
        refine ab (hK29 _ _ ?_)
        refine cf ?_
        refine wp_skip ?_
        refine aq ?_
        refine ab (hK23 _ _ ?_)
        refine rl ?_
        refine rv (aR (((k+1:Nat):Int))) ?_
        refine wpList_nil ?_
        refine ab ?_
        show _∧_
        go_roundw
        case rel=>exact ⟨(k+1),true,bp,rfl,rfl,by omega,hbp,(by have h9:=en HEQ hx51;simp only [eZ,fU,lX,hlast,hb56,↓reduceIte,Bool.and_false,Bool.false_eq_true] at h9 ⊢;exact h9),H58⟩
        case measure=>simp [intOf];omega
       ·refine Fre.rmd ?_
        intro w60 hx62
        dsimp only [Fre.ended,List.drop]
        have H61:=Mem.call H27 hx62
        refine ab (hK29 _ _ ?_)
        refine ct ?_
        refine wp_seq_k (fun K63 hK63=>?_)
        refine rl ?_
        refine rv (dw (k) Tryz.underlying72 b8) ?_
        refine rv (xld (Mem.range H61 hr53 hlt49) Tryz.underlying83 (ck ok55)) ?_
        refine al (o:=⟨none,_,_,_,_,_⟩) rfl 83 (.tmp 5) (.tmp 51) rfl wo5.heap.size (pC bp).toArray (pC x50).toArray 83 (Mem.blk H61 0 rfl) (eP ok55) (dk (eP hbp) (eP ok55)) (rV x50) rfl rfl ?_
        intro w64 hk hg
        have H65:=Mem.st H61 0 rfl hk hg
        clear hk hg
        refine rn ?_
        refine nt (hK63 _ _ ?_)
        refine rl ?_
        refine wpList_nil ?_
        refine aq ?_
        refine ab (hK23 _ _ ?_)
        refine rl ?_
        refine rv (aR (((k+1:Nat):Int))) ?_
        refine wpList_nil ?_
        refine ab ?_
        show _∧_
        go_roundw
        case rel=>exact ⟨(k+1),true,x50,rfl,rfl,by omega,ok55,(by have h9:=en HEQ hx51;simp only [eZ,fU,lX,hlast,hb56,↓reduceIte,Bool.and_true] at h9 ⊢;exact h9),H65⟩
        case measure=>simp [intOf];omega
     ·refine Fre.mvv (fun _ _=>qw (decide_eq_false p25)) ?_
      refine Fre.mvv (fun _ _=>xt (((os.length-1:Nat):Int))) ?_
      obtain ⟨b66,rfl,hlt69⟩:=aG (Mem.own H18 1 rfl) (by omega)
      obtain ⟨x70,hx71⟩:∃ x,(os)[os.length-1]?=some x:=⟨_,List.getElem?_eq_getElem (by first | omega | (rw [List.length_map,List.length_range];omega))⟩
      have hd72:=av hx71
      have ok73:=hall _ (List.mem_of_getElem? hx71)
      have hlast:os.getLast?=some x70:=vI hx71
      refine Fre.mvv (fun _ _=>aT (os.length-1) Tryz.underlying72 b8) ?_
      refine Fre.mvv (fun W9 hW9=>xld (dW (f:=pC) (by decide) (Mem.own (Mem.call H18 hW9) 1 rfl) (fun z hz=>bO (hall z hz)) hx71) Tryz.underlying83 (ck ok73)) ?_
      obtain ⟨b74,o75,rfl,hlt77,hE76⟩:=hA (by omega)
      obtain ⟨x78,hx79⟩:∃ x,(l)[k]?=some x:=⟨_,List.getElem?_eq_getElem (by first | omega | (rw [List.length_map,List.length_range];omega))⟩
      have hd80:=av hx79
      obtain ⟨cs,hr81,ha82⟩:=hE76 (k) x78 hx79
      obtain ⟨rfl,ok83⟩:=cF.1 ha82
      refine Fre.mvv (fun _ _=>dw (k) Tryz.underlying72 b8) ?_
      refine Fre.mvv (fun W9 hW9=>xld (Mem.range (Mem.call H18 hW9) hr81 hlt77) Tryz.underlying83 (ck ok83)) ?_
      obtain ⟨b84,hb84⟩:∃ b,b4 x70 x78=b:=⟨_,rfl⟩
      refine Fre.aA (.bool b84) _ _ (by kernel_rfl) (by kernel_rfl) (by kernel_rfl) (fun W9=>by kernel_rfl) (fun W9 hW9=>lv W9 x70 x78 ok73 ok83 b84 hb84) ?_
      refine Fre.rmd ?_
      cases b84
      ·refine Fre.rmd ?_
       intro w85 hx87
       dsimp only [Fre.ended,List.drop]
       have H86:=Mem.call H18 hx87
       refine ab (hK24 _ _ ?_)
       refine wp_seq_k (fun K88 hK88=>?_)
       refine Fre.aW (X:=Bel) [] (by kernel_rfl) (by kernel_rfl) (by simp) (by simp) (by simp) ?_
       refine Fre.rmd ?_
       intro w89 hx91
       dsimp only [Fre.ended,List.drop]
       have H90:=Mem.call H86 hx91
       refine ab (hK88 _ _ ?_)
       refine cf ?_
       refine wp_skip ?_
       refine aq ?_
       refine ab (hK23 _ _ ?_)
       refine rl ?_
       refine rv (aR (((k+1:Nat):Int))) ?_
       refine wpList_nil ?_
       refine ab ?_
       show _∧_
       go_roundw
       case rel=>exact ⟨(k+1),fb,bp,rfl,rfl,by omega,hbp,(by have h9:=en HEQ hx79;simp only [eZ,fU,lX,hlast,hb84,↓reduceIte,Bool.false_and,Bool.false_eq_true] at h9 ⊢;exact h9),H90⟩
       case measure=>simp [intOf];omega
      ·refine Fre.rmd ?_
       intro w92 hx94
       dsimp only [Fre.ended,List.drop]
       have H93:=Mem.call H18 hx94
       refine ab (hK24 _ _ ?_)
       refine wp_seq_k (fun K95 hK95=>?_)
       refine Fre.aW (X:=Bel) [] (by kernel_rfl) (by kernel_rfl) (by simp) (by simp) (by simp) ?_
       refine Fre.rmd ?_
       refine Fre.mvv (fun _ _=>sQ) ?_
       cases fb
       ·refine Fre.rmd ?_
        intro w96 hx98
        dsimp only [Fre.ended,List.drop]
        have H97:=Mem.call H93 hx98
        refine ab (hK95 _ _ ?_)
        refine ct ?_
        refine wp_seq_k (fun K99 hK99=>?_)
        refine rl ?_
        refine rv (dw (k) Tryz.underlying72 b8) ?_
        refine rv (xld (Mem.range H97 hr81 hlt77) Tryz.underlying83 (ck ok83)) ?_
        refine al (o:=⟨none,_,_,_,_,_⟩) rfl 83 (.tmp 5) (.tmp 51) rfl wo5.heap.size (pC bp).toArray (pC x78).toArray 83 (Mem.blk H97 0 rfl) (eP ok83) (dk (eP hbp) (eP ok83)) (rV x78) rfl rfl ?_
        intro w100 hk hg
        have H101:=Mem.st H97 0 rfl hk hg
        clear hk hg
        refine rn ?_
        refine nt (hK99 _ _ ?_)
        refine rl ?_
        refine wpList_nil ?_
        refine aq ?_
        refine ab (hK23 _ _ ?_)
        refine rl ?_
        refine rv (aR (((k+1:Nat):Int))) ?_
        refine wpList_nil ?_
        refine ab ?_
        show _∧_
        go_roundw
        case rel=>exact ⟨(k+1),true,x78,rfl,rfl,by omega,ok83,(by have h9:=en HEQ hx79;simp only [eZ,fU,lX,hlast,hb84,↓reduceIte,Bool.and_true,Bool.false_eq_true] at h9 ⊢;exact h9),H101⟩
        case measure=>simp [intOf];omega
       ·refine Fre.rmd ?_
        refine Fre.mvv (fun _ _=>dw (k) Tryz.underlying72 b8) ?_
        refine Fre.mvv (fun W9 hW9=>xld (Mem.range (Mem.call H93 hW9) hr81 hlt77) Tryz.underlying83 (ck ok83)) ?_
        refine Fre.mvv (fun W9 hW9=>xld (Blk.range (Mem.blk (Mem.call H93 hW9) 0 rfl)) Tryz.underlying83 (ck hbp)) ?_
        obtain ⟨b102,hb102⟩:∃ b,b4 x78 bp=b:=⟨_,rfl⟩
        refine Fre.aA (.bool b102) _ _ (by kernel_rfl) (by kernel_rfl) (by kernel_rfl) (fun W9=>by kernel_rfl) (fun W9 hW9=>lv W9 x78 bp ok83 hbp b102 hb102) ?_
        refine Fre.rmd ?_
        cases b102
        ·refine Fre.rmd ?_
         intro w103 hx105
         dsimp only [Fre.ended,List.drop]
         have H104:=Mem.call H93 hx105
         refine ab (hK95 _ _ ?_)
         refine cf ?_
         refine wp_skip ?_
         refine aq ?_
         refine ab (hK23 _ _ ?_)
         refine rl ?_
         refine rv (aR (((k+1:Nat):Int))) ?_
         refine wpList_nil ?_
         refine ab ?_
         show _∧_
         go_roundw
         case rel=>exact ⟨(k+1),true,bp,rfl,rfl,by omega,hbp,(by have h9:=en HEQ hx79;simp only [eZ,fU,lX,hlast,hb84,hb102,↓reduceIte,Bool.and_false,Bool.false_eq_true] at h9 ⊢;exact h9),H104⟩
         case measure=>simp [intOf];omega
        ·refine Fre.rmd ?_
         intro w106 hx108
         dsimp only [Fre.ended,List.drop]
         have H107:=Mem.call H93 hx108
         refine ab (hK95 _ _ ?_)
         refine ct ?_
         refine wp_seq_k (fun K109 hK109=>?_)
         refine rl ?_
         refine rv (dw (k) Tryz.underlying72 b8) ?_
         refine rv (xld (Mem.range H107 hr81 hlt77) Tryz.underlying83 (ck ok83)) ?_
         refine al (o:=⟨none,_,_,_,_,_⟩) rfl 83 (.tmp 5) (.tmp 51) rfl wo5.heap.size (pC bp).toArray (pC x78).toArray 83 (Mem.blk H107 0 rfl) (eP ok83) (dk (eP hbp) (eP ok83)) (rV x78) rfl rfl ?_
         intro w110 hk hg
         have H111:=Mem.st H107 0 rfl hk hg
         clear hk hg
         refine rn ?_
         refine nt (hK109 _ _ ?_)
         refine rl ?_
         refine wpList_nil ?_
         refine aq ?_
         refine ab (hK23 _ _ ?_)
         refine rl ?_
         refine rv (aR (((k+1:Nat):Int))) ?_
         refine wpList_nil ?_
         refine ab ?_
         show _∧_
         go_roundw
         case rel=>exact ⟨(k+1),true,x78,rfl,rfl,by omega,ok83,(by have h9:=en HEQ hx79;simp only [eZ,fU,lX,hlast,hb84,hb102,↓reduceIte,Bool.and_true] at h9 ⊢;exact h9),H111⟩
         case measure=>simp [intOf];omega
    ·have he112:=bF (l:=l) (j:=k) (by omega)
     refine rv (aB (decide_eq_false p22)) ?_
     refine nt (hK21 _ _ ?_)
     refine cf ?_
     refine wp_exit ?_
     refine aj ?_
     refine aj ?_
     refine ax ?_
     refine ab (hK15 _ _ ?_)
     refine wp_seq_k (fun K113 hK113=>?_)
     refine wp_seq_k (fun K114 hK114=>?_)
     refine rl ?_
     refine rv sQ ?_
     refine nt (hK114 _ _ ?_)
     cases fb
     ·refine ct ?_
      refine wp_seq_k (fun K115 hK115=>?_)
      refine rl ?_
      refine nt (hK115 _ _ ?_)
      refine wp_ret ?_
      simp only [Exit.then,Exit.inBlock]
      refine bodyPost_ret (results_tmp rfl _ _ _) rfl ?_
      have hke:k=l.length:=by omega
      rw [hke,List.drop_length] at HEQ
      have hr0:rest=[]:=by cases rest with | nil=>rfl | cons a r=>cases HEQ
      rw [hr0,List.append_nil] at hrs
      rw [hrs]
      exact ⟨A9,c9,rfl,(Mem.pick H18 [1] (by decide) rfl)⟩
     ·refine cf ?_
      refine ks (hK113 _ _ ?_)
      refine rl ?_
      refine rv (xld (Blk.range (Mem.blk H18 0 rfl)) Tryz.underlying83 (ck hbp)) ?_
      refine aL (o:=⟨some 57,_,_,_,_,_⟩) rfl 72 (.tmp 56) rfl 83 21 (.agg zcP) (.agg (pC bp).toArray) rfl Tryz.underlying72 b8 (by decide) (by decide) (fun w=>by kernel_rfl) (by rw [Value.cells,List.size_toArray,bO hbp]) ?_
      intro w116 hn
      have H117:=Mem.bA H18 hn
      clear hn
      refine rn ?_
      obtain ⟨inm83,iq83,ir83,is83,it83⟩:=info_parts ij
      refine aH (o:=⟨some 58,_,_,_,_,_⟩) rfl _ _ 72 rfl (w.heap.size) 83 _ _ 21 40 Tryz.underlying72 iq83 ir83 is83 it83 rfl (by decide) (.slice A9 os.length c9) ((os).length) ((os).flatMap pC) (Mem.own H117 2 rfl) ((some ⟨wo17.heap.size,0,none⟩)) (1) (1) (pC bp) (bH (n:=21) (m:=1) (Mem.blk H117 0 rfl) (bO hbp) (je bp)) ?hmt118 ?hbt118 ?hzt118 rfl rfl ?_
      case hmt118=>simp only [maxLen];omega
      case hbt118=>omega
      case hzt118=>exact (Mem.below H117).size
      intro u121 w119 ow124 gr125 hp126
      refine rn ?_
      have ow124:w119.ownsRow (w.heap.size) 83 21 u121 (os++[bp]).length ((os++[bp]).flatMap pC):=by first | simpa using ow124 | simpa [pC] using ow124 | (simp at ow124 ⊢;exact ow124)
      obtain ⟨A122,c123,rfl⟩:=aP ow124
      have H120:=Mem.app H117 2 rfl ow124 gr125 hp126
      clear ow124 gr125 hp126
      refine rn ?_
      refine wpList_nil ?_
      refine aq ?_
      have hke:k=l.length:=by omega
      rw [hke,List.drop_length] at HEQ
      obtain ⟨rest9,hr9⟩:∃ r,rest=bp :: r:=by cases rest with | nil=>cases HEQ | cons a r=>exact ⟨r,by injection HEQ with HEQ;rw [HEQ]⟩
      have hrs9:bV l=(os++[bp])++rest9:=by rw [hrs,hr9,List.append_assoc];rfl
      have H127:=Mem.pick H120 [2] (by decide) rfl
      refine ab ?_
      show _∧_
      go_roundw
      case rel=>exact ⟨((os++[bp])),A122,c123,rest9,rfl,hrs9,(vF hall hbp),H127⟩
      case measure=>simp [B5];omega
  ·exact absurd (tJ hrs) (by omega)
end Go.Proofs.YtomnhnmciopiiaaGreat
end
section
namespace Go.Proofs.YtomnhnmciopiiaaGreat
open Go Go.RowKit Go.Maps
set_option maxRecDepth 100000
attribute [local irreducible] wpList
set_option maxHeartbeats 4000000 in
theorem qC (w:World) (d:Drv) (v1 v2:Value) (h:aO w w.heap.size d v1 v2) (hn:d.2.1.length≤1000000) :
  Calls Tryz.prog 45 #[.agg (dC d v1 v2).toArray] w fun e w'=>∃ B A c,e=.returned (.slice A (bV (eB d.2.1)).length c)∧Mem w w' [aw B 83 21 (.slice A (bV (eB d.2.1)).length c) (bV (eB d.2.1)).length ((bV (eB d.2.1)).flatMap pC)]:=by
 obtain ⟨A,cap,rfl,_,hcm,_,hA⟩:=ak h.ins
 obtain ⟨A2,cap2,rfl,_,hcm2,_,hA2⟩:=ak h.rcp
 simp only [maxLen] at hcm hcm2
 have H0:=Mem.start w
 go_enter Tryz.func45,Tryz.ntmps45
 refine wp_seq_k (fun K1 hK1=>?_)
 refine rl ?_
 refine ay (o:=⟨some 1,_,_,_,_,_⟩) rfl 26 (.tmp 0) rfl (dC d (.slice A d.2.1.length cap) (.slice A2 d.2.2.length cap2)).toArray rfl ?_
 intro w2 hn
 have H3:=Mem.bA H0 hn
 clear hn
 refine rn ?_
 refine nt (hK1 _ _ ?_)
 refine wp_seq_k (fun K4 hK4=>?_)
 refine rl ?_
 refine nt (hK4 _ _ ?_)
 refine wp_seq_k (fun K5 hK5=>?_)
 refine wp_seq_k (fun K6 hK6=>?_)
 refine rl ?_
 refine nt (hK6 _ _ ?_)
 refine wp_block ?_
 have H7:=Mem.dI H3 w.heap.size 83 21
 go_loopw [3,4] (fun x3 x4 wr=>∃ k:Nat,∃ os:List Pth,∃ A9:Option Addr,∃ c9:Nat,x3=.slice A9 os.length c9∧x4=.int .i64 (k:Int)∧(k≤d.2.1.length)∧(os=eB (d.2.1.take k))∧Mem w wr [aw (w.heap.size) 83 21 (.slice A9 os.length c9) (os).length ((os).flatMap pC),cC (w.heap.size) 26 (dC d (.slice A d.2.1.length cap) (.slice A2 d.2.2.length cap2)).toArray]) (fun x3 x4 _=>d.2.1.length-(intOf x4).toNat)
 case atStart=>exact ⟨0,([]),none,0,rfl,rfl,by omega,(by rfl),H7⟩
 case round =>
  obtain ⟨wo8,rfl⟩:∃ wo8,wo8=wr:=⟨_,rfl⟩
  obtain ⟨k,os,A9,c9,rfl,rfl,hk,hos,H9⟩:=hrel
  have hol:os.length≤k:=by have h9:=pT (d.2.1.take k);rw [← hos,List.length_take] at h9;omega
  refine wp_seq_k (fun K11 hK11=>?_)
  refine wp_seq_k (fun K12 hK12=>?_)
  refine rl ?_
  refine rv (v:=.pointer (some ⟨w.heap.size,1,none⟩)) (by kernel_rfl) ?_
  refine rv (xlc (range_cell (cG (Blk.range (Mem.blk H9 1 rfl)))) Tryz.underlying23) ?_
  by_cases p13:(k:Int)<((d.2.1.length:Nat):Int)
  ·refine rv (aB (decide_eq_true p13)) ?_
   refine nt (hK12 _ _ ?_)
   refine ct ?_
   refine ks (hK11 _ _ ?_)
   refine wp_seq_k (fun K14 hK14=>?_)
   refine wp_block ?_
   refine wp_seq_k (fun K15 hK15=>?_)
   refine rl ?_
   refine rv (v:=.pointer (some ⟨w.heap.size,1,none⟩)) (by kernel_rfl) ?_
   refine rv (xlc (range_cell (cG (Blk.range (Mem.blk H9 1 rfl)))) Tryz.underlying23) ?_
   obtain ⟨b16,o17,rfl,hlt19,hE18⟩:=hA (by omega)
   obtain ⟨x20,hx21⟩:∃ x,(d.2.1)[k]?=some x:=⟨_,List.getElem?_eq_getElem (by first | omega | (rw [List.length_map,List.length_range];omega))⟩
   have hd22:=av hx21
   obtain ⟨cs,hr23,ha24⟩:=hE18 (k) x20 hx21
   obtain ⟨rfl,ok25⟩:=bl.1 ha24
   refine rv (dw (k) Tryz.underlying23 aY) ?_
   refine rv (v:=.pointer (some ⟨b16,o17+k*43+1,none⟩)) (by kernel_rfl) ?_
   refine rv (v:=.pointer (some ⟨b16,o17+k*43+1+41,none⟩)) (by kernel_rfl) ?_
   obtain ⟨b26,hb26⟩:∃ b,x20.2.2.2=b:=⟨_,rfl⟩
   refine rv (v:=.bool b26) (by rw [← hb26];exact (exec_load_cell (o:=⟨some 18,_,_,_,_,_⟩) 4 (.tmp 17) rfl ⟨b16,o17+k*43+1+41,none⟩ rfl _ _ wo8 Tryz.underlying4 rfl (range_cell (iI ok25.2 (cR (Mem.range H9 hr23 hlt19)))))) ?_
   refine rv sQ ?_
   refine nt (hK15 _ _ ?_)
   cases b26
   ·refine ct ?_
    refine rl ?_
    refine rv (v:=.pointer (some ⟨w.heap.size,1,none⟩)) (by kernel_rfl) ?_
    refine rv (xlc (range_cell (cG (Blk.range (Mem.blk H9 1 rfl)))) Tryz.underlying23) ?_
    refine rv (dw (k) Tryz.underlying23 aY) ?_
    refine rv (v:=.pointer (some ⟨b16,o17+k*43+1,none⟩)) (by kernel_rfl) ?_
    refine rv (v:=.pointer (some ⟨b16,o17+k*43+1,none⟩)) (by kernel_rfl) ?_
    refine rv (xld (j7 (cR (Mem.range H9 hr23 hlt19))) Tryz.underlying83 (ck ok25.2.1)) ?_
    refine aL (o:=⟨some 28,_,_,_,_,_⟩) rfl 72 (.tmp 27) rfl 83 21 (.agg zcP) (.agg (pC x20.2.1).toArray) rfl Tryz.underlying72 b8 (by decide) (by decide) (fun w=>by kernel_rfl) (by rw [Value.cells,List.size_toArray,bO ok25.2.1]) ?_
    intro w27 hn
    have H28:=Mem.bA H9 hn
    clear hn
    refine rn ?_
    obtain ⟨inm83,iq83,ir83,is83,it83⟩:=info_parts ij
    refine aH (o:=⟨some 29,_,_,_,_,_⟩) rfl _ _ 72 rfl (w.heap.size) 83 _ _ 21 40 Tryz.underlying72 iq83 ir83 is83 it83 rfl (by decide) (.slice A9 os.length c9) ((os).length) ((os).flatMap pC) (Mem.own H28 1 rfl) ((some ⟨wo8.heap.size,0,none⟩)) (1) (1) (pC x20.2.1) (bH (n:=21) (m:=1) (Mem.blk H28 0 rfl) (bO ok25.2.1) (je x20.2.1)) ?hmt29 ?hbt29 ?hzt29 rfl rfl ?_
    case hmt29=>simp only [maxLen];omega
    case hbt29=>omega
    case hzt29=>exact (Mem.below H28).size
    intro u32 w30 ow35 gr36 hp37
    refine rn ?_
    have ow35:w30.ownsRow (w.heap.size) 83 21 u32 (os++[x20.2.1]).length ((os++[x20.2.1]).flatMap pC):=by first | simpa using ow35 | simpa [pC] using ow35 | (simp at ow35 ⊢;exact ow35)
    obtain ⟨A33,c34,rfl⟩:=aP ow35
    have H31:=Mem.app H28 1 rfl ow35 gr36 hp37
    clear ow35 gr36 hp37
    refine rn ?_
    refine wpList_nil ?_
    refine aq ?_
    refine ab (hK14 _ _ ?_)
    refine rl ?_
    refine rv (aR (((k+1:Nat):Int))) ?_
    refine wpList_nil ?_
    have H38:=Mem.pick H31 [1,2] (by decide) rfl
    refine ab ?_
    show _∧_
    go_roundw
    case rel=>exact ⟨(k+1),((os++[x20.2.1])),A33,c34,rfl,rfl,by omega,(yE hos hx21 hb26),H38⟩
    case measure=>simp [intOf];omega
   ·refine cf ?_
    refine wp_skip ?_
    refine aq ?_
    refine ab (hK14 _ _ ?_)
    refine rl ?_
    refine rv (aR (((k+1:Nat):Int))) ?_
    refine wpList_nil ?_
    refine ab ?_
    show _∧_
    go_roundw
    case rel=>exact ⟨(k+1),os,A9,c9,rfl,rfl,by omega,(uB hos hx21 hb26),H9⟩
    case measure=>simp [intOf];omega
  ·have he39:=bF (l:=d.2.1) (j:=k) (by omega)
   refine rv (aB (decide_eq_false p13)) ?_
   refine nt (hK12 _ _ ?_)
   refine cf ?_
   refine wp_exit ?_
   refine aj ?_
   refine aj ?_
   refine ax ?_
   refine ab (hK5 _ _ ?_)
   refine wp_seq_k (fun K40 hK40=>?_)
   refine rl ?_
   have hke:k=d.2.1.length:=by omega
   rw [hke,List.take_length] at hos
   have hno:=mI h.ins
   refine an (by kernel_rfl) _ _ (by kernel_rfl) (sz wo8 os _ (zx (n:=0) (Mem.own H9 0 rfl) (hos▸tq hno)) (by omega)) ?_
   rintro e w41 ⟨A8,c8,rfl,hm8⟩
   refine ⟨_,rfl,rn ?_⟩
   have H42:=Mem.seq H9 hm8
   refine rn ?_
   refine nt (hK40 _ _ ?_)
   refine wp_ret ?_
   refine bodyPost_ret (results_tmp rfl _ _ _) rfl ?_
   subst hos
   exact ⟨_,A8,c8,rfl,(Mem.pick H42 [0] (by decide) rfl)⟩
end Go.Proofs.YtomnhnmciopiiaaGreat
end
section
namespace Go.Proofs.YtomnhnmciopiiaaGreat
open Go Go.RowKit Go.Maps
set_option maxRecDepth 100000
attribute [local irreducible] wpList
theorem rk {α:Type} {l l2:List α} (e:l=l2) {j:Nat} {x y:α} (hx:l[j]?=some x) (hy:l2[j]?=some y):x=y:=by
 rw [e,hy] at hx
 exact (Option.some.inj hx).symm
set_option maxHeartbeats 4000000 in
theorem tL (w:World) (l l2:List Hsh) (u v:Value) (h:fe.At w w.heap.size [u] l) (h2:fe.At w w.heap.size [v] l2) (he:l=l2) (hn:l.length≤1000000) :
  Calls Tryz.prog 38 #[u,v] w fun e w'=>e=.returned (.bool true)∧Below w.heap.size w w':=by
 obtain ⟨A,c,rfl,_,hcm,_,hA⟩:=ak h
 obtain ⟨A2,c2,rfl,_,hcm2,_,hA2⟩:=ak h2
 simp only [maxLen] at hcm hcm2
 have hll:l2.length=l.length:=by rw [he]
 have H0:=Mem.start w
 go_enter Tryz.func38,Tryz.ntmps38
 refine wp_seq_k (fun K1 hK1=>?_)
 refine rl ?_
 refine nt (hK1 _ _ ?_)
 refine wp_seq_k (fun K2 hK2=>?_)
 refine wp_seq_k (fun K3 hK3=>?_)
 refine rl ?_
 by_cases p4:((l.length:Nat):Int)=((l2.length:Nat):Int)
 ·refine rv (sD (decide_eq_true p4)) ?_
  refine nt (hK3 _ _ ?_)
  refine cf ?_
  refine ks (hK2 _ _ ?_)
  refine wp_seq_k (fun K5 hK5=>?_)
  refine wp_seq_k (fun K6 hK6=>?_)
  refine rl ?_
  refine nt (hK6 _ _ ?_)
  refine wp_block ?_
  go_loopw [5] (fun x5 wr=>∃ j:Nat,x5=.int .i64 (j:Int)∧(j≤l.length)∧Mem w wr []) (fun x5 _=>l.length-(intOf x5).toNat)
  case atStart=>exact ⟨0,rfl,by omega,H0⟩
  case round =>
   obtain ⟨wo7,rfl⟩:∃ wo7,wo7=wr:=⟨_,rfl⟩
   obtain ⟨j,rfl,hj,H8⟩:=hrel
   refine wp_seq_k (fun K10 hK10=>?_)
   refine wp_seq_k (fun K11 hK11=>?_)
   refine rl ?_
   by_cases p12:(j:Int)<((l.length:Nat):Int)
   ·refine rv (aB (decide_eq_true p12)) ?_
    refine nt (hK11 _ _ ?_)
    refine ct ?_
    refine ks (hK10 _ _ ?_)
    refine wp_seq_k (fun K13 hK13=>?_)
    refine wp_block ?_
    refine wp_seq_k (fun K14 hK14=>?_)
    obtain ⟨b15,o16,rfl,hlt18,hE17⟩:=hA (by omega)
    obtain ⟨x19,hx20⟩:∃ x,(l)[j]?=some x:=⟨_,List.getElem?_eq_getElem (by first | omega | (rw [List.length_map,List.length_range];omega))⟩
    have hd21:=av hx20
    obtain ⟨cs,hr22,ha23⟩:=hE17 (j) x19 hx20
    obtain ⟨rfl,ok24⟩:=dt.1 ha23
    obtain ⟨b25,o26,rfl,hlt28,hE27⟩:=hA2 (by omega)
    obtain ⟨x29,hx30⟩:∃ x,(l2)[j]?=some x:=⟨_,List.getElem?_eq_getElem (by first | omega | (rw [List.length_map,List.length_range];omega))⟩
    have hd31:=av hx30
    obtain ⟨cs,hr32,ha33⟩:=hE27 (j) x29 hx30
    obtain ⟨rfl,ok34⟩:=dt.1 ha33
    have hxy:=rk he hx20 hx30
    refine Fre.aW (X:=Bel) [] (by kernel_rfl) (by kernel_rfl) (by simp) (by simp) (by simp) ?_
    refine Fre.rmd ?_
    refine Fre.mvv (fun _ _=>dw (j) Tryz.underlying27 cJ) ?_
    refine Fre.mvv (fun W9 hW9=>xld (Mem.range (Mem.call H8 hW9) hr22 hlt18) Tryz.underlying34 (cN ok24)) ?_
    refine Fre.mvv (fun _ _=>dw (j) Tryz.underlying27 cJ) ?_
    refine Fre.mvv (fun W9 hW9=>xld (Mem.range (Mem.call H8 hW9) hr32 hlt28) Tryz.underlying34 (cN ok34)) ?_
    refine Fre.mvv (fun W9 _=>dL (o:=⟨some 25,_,_,_,_,_⟩) 34 34 (.tmp 20) (.tmp 24) rfl (bv x19).toArray (bv x29).toArray rfl rfl (by kernel_rfl) _ W9 (by have h9:=cU (x19) (x29) ok24 ok34 W9;rwa [show decide _=true from (decide_eq_true hxy)] at h9)) ?_
    intro w35 hx37
    dsimp only [Fre.ended,List.drop]
    have H36:=Mem.call H8 hx37
    refine ab (hK14 _ _ ?_)
    refine cf ?_
    refine wp_skip ?_
    refine aq ?_
    refine ab (hK13 _ _ ?_)
    refine rl ?_
    refine rv (aR (((j+1:Nat):Int))) ?_
    refine wpList_nil ?_
    refine ab ?_
    show _∧_
    go_roundw
    case rel=>exact ⟨(j+1),rfl,by omega,H36⟩
    case measure=>simp [intOf];omega
   ·have he38:=bF (l:=l) (j:=j) (by omega)
    refine rv (aB (decide_eq_false p12)) ?_
    refine nt (hK11 _ _ ?_)
    refine cf ?_
    refine wp_exit ?_
    refine aj ?_
    refine aj ?_
    refine ax ?_
    refine ab (hK5 _ _ ?_)
    refine wp_seq_k (fun K39 hK39=>?_)
    refine rl ?_
    refine nt (hK39 _ _ ?_)
    refine wp_ret ?_
    refine bodyPost_ret (results_tmp rfl _ _ _) rfl ?_
    exact ⟨rfl,Mem.below H8⟩
 ·exact absurd (congrArg List.length he) (fun e=>p4 (congrArg Int.ofNat e))
set_option maxHeartbeats 4000000 in
theorem sN (w:World) (l l2:List Pth) (u v:Value) (h:hG.At w w.heap.size [u] l) (h2:hG.At w w.heap.size [v] l2) (he:l=l2) (hn:l.length≤1000000) :
  Calls Tryz.prog 44 #[u,v] w fun e w'=>e=.returned (.bool true)∧Below w.heap.size w w':=by
 obtain ⟨A,c,rfl,_,hcm,_,hA⟩:=ak h
 obtain ⟨A2,c2,rfl,_,hcm2,_,hA2⟩:=ak h2
 simp only [maxLen] at hcm hcm2
 have hll:l2.length=l.length:=by rw [he]
 have H0:=Mem.start w
 go_enter Tryz.func44,Tryz.ntmps44
 refine wp_seq_k (fun K1 hK1=>?_)
 refine rl ?_
 refine nt (hK1 _ _ ?_)
 refine wp_seq_k (fun K2 hK2=>?_)
 refine wp_seq_k (fun K3 hK3=>?_)
 refine rl ?_
 by_cases p4:((l.length:Nat):Int)=((l2.length:Nat):Int)
 ·refine rv (sD (decide_eq_true p4)) ?_
  refine nt (hK3 _ _ ?_)
  refine cf ?_
  refine ks (hK2 _ _ ?_)
  refine wp_seq_k (fun K5 hK5=>?_)
  refine wp_seq_k (fun K6 hK6=>?_)
  refine rl ?_
  refine nt (hK6 _ _ ?_)
  refine wp_block ?_
  go_loopw [5] (fun x5 wr=>∃ j:Nat,x5=.int .i64 (j:Int)∧(j≤l.length)∧Mem w wr []) (fun x5 _=>l.length-(intOf x5).toNat)
  case atStart=>exact ⟨0,rfl,by omega,H0⟩
  case round =>
   obtain ⟨wo7,rfl⟩:∃ wo7,wo7=wr:=⟨_,rfl⟩
   obtain ⟨j,rfl,hj,H8⟩:=hrel
   refine wp_seq_k (fun K10 hK10=>?_)
   refine wp_seq_k (fun K11 hK11=>?_)
   refine rl ?_
   by_cases p12:(j:Int)<((l.length:Nat):Int)
   ·refine rv (aB (decide_eq_true p12)) ?_
    refine nt (hK11 _ _ ?_)
    refine ct ?_
    refine ks (hK10 _ _ ?_)
    refine wp_seq_k (fun K13 hK13=>?_)
    refine wp_block ?_
    refine wp_seq_k (fun K14 hK14=>?_)
    obtain ⟨b15,o16,rfl,hlt18,hE17⟩:=hA (by omega)
    obtain ⟨x19,hx20⟩:∃ x,(l)[j]?=some x:=⟨_,List.getElem?_eq_getElem (by first | omega | (rw [List.length_map,List.length_range];omega))⟩
    have hd21:=av hx20
    obtain ⟨cs,hr22,ha23⟩:=hE17 (j) x19 hx20
    obtain ⟨rfl,ok24⟩:=cF.1 ha23
    obtain ⟨b25,o26,rfl,hlt28,hE27⟩:=hA2 (by omega)
    obtain ⟨x29,hx30⟩:∃ x,(l2)[j]?=some x:=⟨_,List.getElem?_eq_getElem (by first | omega | (rw [List.length_map,List.length_range];omega))⟩
    have hd31:=av hx30
    obtain ⟨cs,hr32,ha33⟩:=hE27 (j) x29 hx30
    obtain ⟨rfl,ok34⟩:=cF.1 ha33
    have hxy:=rk he hx20 hx30
    refine Fre.aW (X:=Bel) [] (by kernel_rfl) (by kernel_rfl) (by simp) (by simp) (by simp) ?_
    refine Fre.rmd ?_
    refine Fre.mvv (fun _ _=>dw (j) Tryz.underlying72 b8) ?_
    refine Fre.mvv (fun W9 hW9=>xld (Mem.range (Mem.call H8 hW9) hr22 hlt18) Tryz.underlying83 (ck ok24)) ?_
    refine Fre.mvv (fun _ _=>dw (j) Tryz.underlying72 b8) ?_
    refine Fre.mvv (fun W9 hW9=>xld (Mem.range (Mem.call H8 hW9) hr32 hlt28) Tryz.underlying83 (ck ok34)) ?_
    refine Fre.mvv (fun W9 _=>dL (o:=⟨some 25,_,_,_,_,_⟩) 83 83 (.tmp 20) (.tmp 24) rfl (pC x19).toArray (pC x29).toArray rfl rfl (by kernel_rfl) _ W9 (by have h9:=fk (x19) (x29) ok24 ok34 W9;rwa [show decide _=true from (decide_eq_true hxy)] at h9)) ?_
    intro w35 hx37
    dsimp only [Fre.ended,List.drop]
    have H36:=Mem.call H8 hx37
    refine ab (hK14 _ _ ?_)
    refine cf ?_
    refine wp_skip ?_
    refine aq ?_
    refine ab (hK13 _ _ ?_)
    refine rl ?_
    refine rv (aR (((j+1:Nat):Int))) ?_
    refine wpList_nil ?_
    refine ab ?_
    show _∧_
    go_roundw
    case rel=>exact ⟨(j+1),rfl,by omega,H36⟩
    case measure=>simp [intOf];omega
   ·have he38:=bF (l:=l) (j:=j) (by omega)
    refine rv (aB (decide_eq_false p12)) ?_
    refine nt (hK11 _ _ ?_)
    refine cf ?_
    refine wp_exit ?_
    refine aj ?_
    refine aj ?_
    refine ax ?_
    refine ab (hK5 _ _ ?_)
    refine wp_seq_k (fun K39 hK39=>?_)
    refine rl ?_
    refine nt (hK39 _ _ ?_)
    refine wp_ret ?_
    refine bodyPost_ret (results_tmp rfl _ _ _) rfl ?_
    exact ⟨rfl,Mem.below H8⟩
 ·exact absurd (congrArg List.length he) (fun e=>p4 (congrArg Int.ofNat e))
end Go.Proofs.YtomnhnmciopiiaaGreat
end
section
namespace Go.Proofs.YtomnhnmciopiiaaGreat
open Go Go.RowKit Go.Maps
set_option maxRecDepth 100000
attribute [local irreducible] wpList
def mgP (k i:Nat):Pth:=(dg,⟨(mtG k i).toArray⟩)
theorem cr (k i:Nat):okP (mgP k i):=⟨fp,nW k i⟩
set_option maxHeartbeats 1000000 in
theorem ic (k i:Nat) (w:World):Calls Tryz.prog 138 #[.int .i64 (k:Int),.int .i64 (i:Int)] w fun e w'=>e=.returned (.agg (pC (mgP k i)).toArray)∧Below w.heap.size w w':=by
 have H0:=Mem.start w
 go_enter Tryz.func138,Tryz.ntmps138
 refine wp_seq_k (fun K1 hK1=>?_)
 refine rl ?_
 refine aC (o:=⟨some 4,_,_,_,_,_⟩) rfl 83 zcP (by kernel_rfl) ?_
 intro w2 hn
 have H3:=Mem.bA H0 hn
 clear hn
 refine rn ?_
 refine nt (hK1 _ _ ?_)
 refine wp_seq_k (fun K4 hK4=>?_)
 refine rl ?_
 refine an (by kernel_rfl) _ _ (by kernel_rfl) (gE k i w2) ?_
 rintro e w5 ⟨rfl,hb7⟩
 refine ⟨_,rfl,rn ?_⟩
 have H6:=Mem.call H3 hb7
 refine rv (v:=.agg (pC (mgP k i)).toArray) (by kernel_rfl) ?_
 refine al (o:=⟨none,_,_,_,_,_⟩) rfl 83 (.tmp 4) (.tmp 8) rfl w.heap.size zcP (pC (mgP k i)).toArray 83 (Mem.blk H6 0 rfl) (eP (cr k i)) (dk y2 (eP (cr k i))) (rV (mgP k i)) rfl rfl ?_
 intro w8 hk hg
 have H9:=Mem.st H6 0 rfl hk hg
 clear hk hg
 refine rn ?_
 refine nt (hK4 _ _ ?_)
 refine wp_ret ?_
 refine bodyPost_ret (fv (r1:=.cell 4 83) rfl ⟨⟨_,rfl,iz (Blk.range (Mem.blk H9 0 rfl)) Tryz.underlying83 rfl (ck (cr k i))⟩,trivial⟩) rfl ?_
 exact ⟨rfl,Mem.below H9⟩
end Go.Proofs.YtomnhnmciopiiaaGreat
end
section
namespace Go.Proofs.YtomnhnmciopiiaaGreat
open Go Go.RowKit Go.Maps
set_option maxRecDepth 100000
attribute [local irreducible] wpList
theorem nv:(Tryz.prog.info? 83).map (fun i=>(i.zero,i.size,i.bytes))=some (some (Value.agg zcP),21,40):=by kernel_rfl
theorem rW:(Tryz.prog.info? 72).map (fun i=>(i.zero,i.size,i.bytes))=some (some (.slice none 0 0),1,24):=by kernel_rfl
set_option maxHeartbeats 40000000 in
theorem oD (w0 w:World) (R:Ent) (m:Nat) (u:Nat→Value) (n:Nat→Nat) (xs:Nat→List Value) (B2:Nat) (A:Option Addr) (c:Nat) (hm9:m≤1000000) (hn:∀ i,i<m→n i≤1000000)
  (hm:Mem w0 w [Ent.all (List.range m) (fun i=>ar w0.heap.size 83 21 (PS.self (u i) (n i) (xs i))),aw B2 72 1 (.slice A m c) m (((List.range m).map u).flatMap vb),R]) :
  Calls Tryz.prog 106 #[.slice A m c] w fun e w'=>e=.returned (.bool true)∧Mem w0 w' [aw B2 72 1 (.slice A m c) m (((List.range m).map u).flatMap vb),R]:=by
 have hown:∀ i,i<m→w.ownsRow w0.heap.size 83 21 (u i) (n i) (xs i):=fun i hi=>(Mem.kE (g:=ar w0.heap.size 83 21) (st:=fun i=>PS.self (u i) (n i) (xs i)) hm 0 rfl hi).1
 have hxl:∀ i,i<m→(xs i).length=n i*21:=fun i hi=>(hown i hi).1
 have hu0:∀ i,i<m→∃ A c,u i=.slice A (n i) c∧(0<n i→∃ g,A=some ⟨g,0,none⟩):=fun i hi=>by
  obtain ⟨A,c,e⟩:=aP (hown i hi)
  refine ⟨A,c,e,fun h0=>?_⟩
  obtain ⟨g,hg,_⟩:=aG (e▸hown i hi) h0
  exact ⟨g,hg⟩
 have hm:=Mem.bq (g:=ar w0.heap.size 83 21) (st:=fun i=>PS.self (u i) (n i) (xs i)) (st':=st1 mgP pC u n xs 0) hm (fun i _=>(jF mgP pC u n xs i).symm)
 clear hown
 go_enter Tryz.func106,Tryz.ntmps106
 refine wp_seq_k (fun K1 hK1=>?_)
 refine rl ?_
 refine nt (hK1 _ _ ?_)
 refine wp_seq_k (fun K2 hK2=>?_)
 refine wp_seq_k (fun K3 hK3=>?_)
 refine rl ?_
 refine nt (hK3 _ _ ?_)
 refine wp_block ?_
 go_loopw [3] (fun x3 wr=>∃ k:Nat,x3=.int .i64 (k:Int)∧(k≤m)∧Mem w0 wr [Ent.all (List.range m) (fun i=>ar w0.heap.size 83 21 (st1 mgP pC u n xs k i)),aw B2 72 1 (.slice A m c) m (((List.range m).map u).flatMap vb),R]) (fun x3 _=>m-(intOf x3).toNat)
 case atStart=>exact ⟨0,rfl,by omega,hm⟩
 case round =>
  obtain ⟨wo4,rfl⟩:∃ wo4,wo4=wr:=⟨_,rfl⟩
  obtain ⟨k,rfl,hk,H5⟩:=hrel
  refine wp_seq_k (fun K7 hK7=>?_)
  refine wp_seq_k (fun K8 hK8=>?_)
  refine rl ?_
  by_cases p9:(k:Int)<(m:Int)
  ·refine rv (aB (decide_eq_true p9)) ?_
   refine nt (hK8 _ _ ?_)
   refine ct ?_
   refine ks (hK7 _ _ ?_)
   refine wp_seq_k (fun K10 hK10=>?_)
   refine wp_block ?_
   refine wp_seq_k (fun K11 hK11=>?_)
   refine rl ?_
   refine nt (hK11 _ _ ?_)
   refine wp_block ?_
   have H12:=Mem.bq (g:=ar w0.heap.size 83 21) (st:=st1 mgP pC u n xs k) (st':=fa mgP pC 21 u n xs k 0) H5 (fun i _=>iB mgP pC 21 u n xs k i)
   have hxl9:=hxl k (by omega)
   have hnk:=hn k (by omega)
   go_loopw [4] (fun x4 wr=>∃ q:Nat,x4=.int .i64 (q:Int)∧(q≤n k)∧Mem w0 wr [Ent.all (List.range m) (fun i=>ar w0.heap.size 83 21 (fa mgP pC 21 u n xs k q i)),aw B2 72 1 (.slice A m c) m (((List.range m).map u).flatMap vb),R]) (fun x4 _=>n k-(intOf x4).toNat)
   case atStart=>exact ⟨0,rfl,by omega,H12⟩
   case round =>
    obtain ⟨wo13,rfl⟩:∃ wo13,wo13=wr:=⟨_,rfl⟩
    obtain ⟨q,rfl,hq,H14⟩:=hrel
    refine wp_seq_k (fun K16 hK16=>?_)
    refine wp_seq_k (fun K17 hK17=>?_)
    refine rl ?_
    obtain ⟨b18,rfl,hlt21⟩:=aG (Mem.own H14 1 rfl) (by omega)
    obtain ⟨x22,hx23⟩:∃ x,(((List.range m).map u))[k]?=some x:=⟨_,List.getElem?_eq_getElem (by first | omega | (rw [List.length_map,List.length_range];omega))⟩
    have hd24:=av hx23
    obtain rfl:=aM hx23
    obtain ⟨A25,c26,hu27,hg28⟩:=hu0 k (by omega)
    refine rv (aT (s:=1) (k) Tryz.underlying77 (by kernel_rfl)) ?_
    refine rv (v:=.slice A25 (n k) c26) (by rw [← hu27];exact exec_load_cell (o:=⟨some 26,_,_,_,_,_⟩) 72 (.tmp 25) rfl ⟨b18,k*1,none⟩ rfl _ _ wo13 Tryz.underlying72 rfl (range_cell (bw (Mem.own H14 1 rfl) (by omega)))) ?_
    by_cases p29:(q:Int)<(((n k):Nat):Int)
    ·refine rv (aB (decide_eq_true p29)) ?_
     refine nt (hK17 _ _ ?_)
     refine ct ?_
     refine ks (hK16 _ _ ?_)
     refine wp_seq_k (fun K30 hK30=>?_)
     refine wp_block ?_
     obtain ⟨b31,rfl⟩:=hg28 (by omega)
     refine Fre.cq (X:=Bel) 9 [] (by kernel_rfl) (by kernel_rfl) (by simp) (by simp) (by simp) ?_
     simp only [List.take_succ_cons,List.take_zero,List.drop_succ_cons,List.drop_zero]
     refine Fre.rmd ?_
     refine Fre.mvv (fun _ _=>aT (s:=1) (k) Tryz.underlying77 (by kernel_rfl)) ?_
     refine Fre.mvv (v:=.slice (some ⟨b31,0,none⟩) (n k) c26) (fun W9 hW9=>by rw [← hu27];exact exec_load_cell (o:=⟨some 34,_,_,_,_,_⟩) 72 (.tmp 33) rfl ⟨b18,k*1,none⟩ rfl _ _ W9 Tryz.underlying72 rfl (range_cell (bw (Mem.own (Mem.call H14 hW9) 1 rfl) (by omega)))) ?_
     refine Fre.aA (.agg (pC (mgP k q)).toArray) _ _ (by kernel_rfl) (by kernel_rfl) (by kernel_rfl) (fun W9=>by kernel_rfl) (fun W9 hW9=>ic k q W9) ?_
     refine Fre.rmd ?_
     refine Fre.mvv (fun _ _=>aT (q) Tryz.underlying72 b8) ?_
     intro w35 hx37
     dsimp only [Fre.ended,List.drop]
     have H36:=Mem.call H14 hx37
     have ow9:=qE (mk:=mgP) (f:=pC) H36 (i0:=0) rfl (show k<m by omega)
     rw [hu27] at ow9
     refine cT rfl 83 (.tmp 39) (.tmp 38) rfl ow9 (k:=q) (pC (mgP k q)) (by omega) (bO (cr k q)) (eP (cr k q)) (rV (mgP k q)) rfl rfl ?_
     intro w38 ho9 hg9 hz9
     refine rn ?_
     rw [← hu27] at ho9
     have H39:=kX (mk:=mgP) (f:=pC) H36 (show k<m by omega) (fun k i=>bO (cr k i)) hu27 ho9 hg9
     clear ho9 hg9 ow9
     refine wpList_nil ?_
     refine aq ?_
     refine ab (hK30 _ _ ?_)
     refine rl ?_
     refine rv (aR (((q+1:Nat):Int))) ?_
     refine wpList_nil ?_
     refine ab ?_
     show _∧_
     go_roundw
     case rel=>exact ⟨(q+1),rfl,by omega,H39⟩
     case measure=>simp [intOf];omega
    ·refine rv (aB (decide_eq_false p29)) ?_
     refine nt (hK17 _ _ ?_)
     refine cf ?_
     refine wp_exit ?_
     refine aj ?_
     refine aj ?_
     refine ax ?_
     refine aq ?_
     refine ab (hK10 _ _ ?_)
     refine rl ?_
     refine rv (aR (((k+1:Nat):Int))) ?_
     refine wpList_nil ?_
     have H40:=Mem.bq (g:=ar w0.heap.size 83 21) (st:=fa mgP pC 21 u n xs k q) (st':=st1 mgP pC u n xs (k+1)) H14 (fun i _=>by rw [show q=n k by omega];exact kr mgP pC 21 u n xs k hxl9 i)
     refine ab ?_
     show _∧_
     go_roundw
     case rel=>exact ⟨(k+1),rfl,by omega,H40⟩
     case measure=>simp [intOf];omega
  ·refine rv (aB (decide_eq_false p9)) ?_
   refine nt (hK8 _ _ ?_)
   refine cf ?_
   refine wp_exit ?_
   refine aj ?_
   refine aj ?_
   refine ax ?_
   refine ab (hK2 _ _ ?_)
   refine wp_seq_k (fun K41 hK41=>?_)
   refine rl ?_
   obtain ⟨inm72,iq72,ir72,is72,it72⟩:=info_parts rW
   refine wpList_make_full _ rfl _ _ 77 rfl w0.heap.size 72 _ _ 1 Tryz.underlying77 iq72 ir72 is72 _ _ _ _ m rfl rfl rfl rfl (by rw [it72];omega) (by simp only [maxLen];omega) (Mem.below H5).size ?_
   intro w42 ow gr
   refine rn ?_
   obtain ⟨gv0,hgv0⟩:∃ gv:List Value,gv=(madeCells (Value.slice none 0 0).cells (m*1)).toList:=⟨_,rfl⟩
   rw [← hgv0] at ow
   have hgl0:=kO ow rfl
   rw [← fG gv0] at ow
   have H43:=Mem.make H5 ow gr
   obtain ⟨gg,hgg⟩:∃ g,g=wo4.heap.size:=⟨_,rfl⟩
   rw [← hgg] at H43 ⊢
   clear ow gr hgg hgv0
   refine rn ?_
   refine nt (hK41 _ _ ?_)
   refine wp_seq_k (fun K44 hK44=>?_)
   refine wp_seq_k (fun K45 hK45=>?_)
   refine rl ?_
   refine nt (hK45 _ _ ?_)
   refine wp_block ?_
   have H46:=Mem.bq (g:=ar w0.heap.size 83 21) (st:=st1 mgP pC u n xs k) (st':=st2 mgP pC u n gv0 0) (Mem.pick H43 [1,0,2,3] (by decide) rfl) (fun i hi=>by rw [show k=m by omega];exact (mF mgP pC u n xs m i hi).trans (if_neg (Nat.not_lt_zero _)).symm)
   go_loopw [6] (fun x6 wr=>∃ k:Nat,∃ gv:List Value,x6=.int .i64 (k:Int)∧(k≤m)∧(gv.length=m)∧Mem w0 wr [Ent.all (List.range m) (fun i=>ar w0.heap.size 83 21 (st2 mgP pC u n gv k i)),aw w0.heap.size 72 1 (.slice (some ⟨gg,0,none⟩) m m) m ((gv).flatMap vb),aw B2 72 1 (.slice A m c) m (((List.range m).map u).flatMap vb),R]) (fun x6 _=>m-(intOf x6).toNat)
   case atStart=>exact ⟨0,gv0,rfl,by omega,hgl0,H46⟩
   case round =>
    obtain ⟨wo47,rfl⟩:∃ wo47,wo47=wr:=⟨_,rfl⟩
    obtain ⟨k,gv,rfl,hk,hgl,H48⟩:=hrel
    refine wp_seq_k (fun K50 hK50=>?_)
    refine wp_seq_k (fun K51 hK51=>?_)
    refine rl ?_
    by_cases p52:(k:Int)<(m:Int)
    ·refine rv (aB (decide_eq_true p52)) ?_
     refine nt (hK51 _ _ ?_)
     refine ct ?_
     refine ks (hK50 _ _ ?_)
     refine wp_seq_k (fun K53 hK53=>?_)
     refine wp_block ?_
     refine wp_seq_k (fun K54 hK54=>?_)
     refine rl ?_
     obtain ⟨b55,rfl,hlt58⟩:=aG (Mem.own H48 2 rfl) (by omega)
     obtain ⟨x59,hx60⟩:∃ x,(((List.range m).map u))[k]?=some x:=⟨_,List.getElem?_eq_getElem (by first | omega | (rw [List.length_map,List.length_range];omega))⟩
     have hd61:=av hx60
     obtain rfl:=aM hx60
     obtain ⟨A62,c63,hu64,hg65⟩:=hu0 k (by omega)
     refine rv (aT (s:=1) (k) Tryz.underlying77 (by kernel_rfl)) ?_
     refine rv (v:=.slice A62 (n k) c63) (by rw [← hu64];exact exec_load_cell (o:=⟨some 52,_,_,_,_,_⟩) 72 (.tmp 51) rfl ⟨b55,k*1,none⟩ rfl _ _ wo47 Tryz.underlying72 rfl (range_cell (bw (Mem.own H48 2 rfl) (by omega)))) ?_
     refine nt (hK54 _ _ ?_)
     refine wp_seq_k (fun K66 hK66=>?_)
     refine wp_seq_k (fun K67 hK67=>?_)
     refine rl ?_
     refine nt (hK67 _ _ ?_)
     refine wp_block ?_
     have H68:=Mem.bq (g:=ar w0.heap.size 83 21) (st:=st2 mgP pC u n gv k) (st':=fm mgP pC u n gv (u k) k 0) H48 (fun i _=>hX mgP pC u n gv k i)
     have hnk:=hn k (by omega)
     rw [← hu64]
     go_loopw [7,8] (fun x7 x8 wr=>∃ q:Nat,∃ v:Value,v=x7∧x8=.int .i64 (q:Int)∧(q≤64)∧Mem w0 wr [Ent.all (List.range m) (fun i=>ar w0.heap.size 83 21 (fm mgP pC u n gv v k q i)),aw w0.heap.size 72 1 (.slice (some ⟨gg,0,none⟩) m m) m ((gv).flatMap vb),aw B2 72 1 (.slice (some ⟨b55,0,none⟩) m c) m (((List.range m).map u).flatMap vb),R]) (fun x7 x8 _=>64-(intOf x8).toNat)
     case atStart=>exact ⟨0,((u k)),rfl,rfl,by omega,H68⟩
     case round =>
      obtain ⟨wo69,rfl⟩:∃ wo69,wo69=wr:=⟨_,rfl⟩
      obtain ⟨q,v,rfl,rfl,hq,H70⟩:=hrel
      refine wp_seq_k (fun K72 hK72=>?_)
      refine wp_seq_k (fun K73 hK73=>?_)
      refine rl ?_
      by_cases p74:(q:Int)<64
      ·refine rv (aB (decide_eq_true p74)) ?_
       refine nt (hK73 _ _ ?_)
       refine ct ?_
       refine ks (hK72 _ _ ?_)
       refine wp_seq_k (fun K75 hK75=>?_)
       refine wp_block ?_
       refine rl ?_
       obtain ⟨x76,hx77⟩:∃ x,(((List.range m).map u))[k]?=some x:=⟨_,List.getElem?_eq_getElem (by first | omega | (rw [List.length_map,List.length_range];omega))⟩
       have hd78:=av hx77
       obtain rfl:=aM hx77
       obtain ⟨A79,c80,hu81,hg82⟩:=hu0 k (by omega)
       refine rv (aT (s:=1) (k) Tryz.underlying77 (by kernel_rfl)) ?_
       refine rv (v:=.slice A79 (n k) c80) (by rw [← hu81];exact exec_load_cell (o:=⟨some 62,_,_,_,_,_⟩) 72 (.tmp 61) rfl ⟨b55,k*1,none⟩ rfl _ _ wo69 Tryz.underlying72 rfl (range_cell (bw (Mem.own H70 2 rfl) (by omega)))) ?_
       refine rv (aR ((((n k)+q:Nat):Int))) ?_
       refine an (by kernel_rfl) _ _ (by kernel_rfl) (ic k ((n k)+q) wo69) ?_
       rintro e w83 ⟨rfl,hb85⟩
       refine ⟨_,rfl,rn ?_⟩
       have H84:=Mem.call H70 hb85
       refine aL (o:=⟨some 67,_,_,_,_,_⟩) rfl 72 (.tmp 66) rfl 83 21 (Value.agg zcP) (.agg (pC (mgP k ((n k)+q))).toArray) rfl Tryz.underlying72 b8 (by decide) (by decide) (fun w=>by kernel_rfl) (by rw [Value.cells,List.size_toArray,bO (cr k ((n k)+q))]) ?_
       intro w86 hn
       have H87:=Mem.bA H84 hn
       clear hn
       refine rn ?_
       obtain ⟨inm83,iq83,ir83,is83,it83⟩:=info_parts nv
       have hP9:=iu (mk:=mgP) (f:=pC) H87 (i0:=1) rfl (show k<m by omega)
       refine cY rfl _ _ 72 rfl w0.heap.size 83 _ _ 21 40 Tryz.underlying72 iq83 ir83 is83 it83 rfl (by decide) v (n k+q) (mkC mgP pC k (n k+q)) hP9.2.1 (some ⟨w83.heap.size,0,none⟩) 1 1 (pC (mgP k ((n k)+q))) (bH (n:=21) (m:=1) (Mem.blk H87 0 rfl) (bO (cr k ((n k)+q))) (je (mgP k ((n k)+q)))) (by decide) (by simp only [maxLen];omega) (by omega) (Mem.below H87).size rfl rfl ?_
       intro v9 w88 ho9 hg9 hr9
       refine rn ?_
       have H89:=kH (mk:=mgP) (f:=pC) (Mem.pick H87 [1,0,2,3,4] (by decide) rfl) (show k<m by omega) ho9 hg9 hr9
       clear ho9 hg9 hr9 hP9
       refine rn ?_
       refine wpList_nil ?_
       refine aq ?_
       refine ab (hK75 _ _ ?_)
       refine rl ?_
       refine rv (aR (((q+1:Nat):Int))) ?_
       refine wpList_nil ?_
       have H90:=Mem.pick H89 [0,2,3,4] (by decide) rfl
       refine ab ?_
       show _∧_
       go_roundw
       case rel=>exact ⟨(q+1),v9,rfl,rfl,by omega,H90⟩
       case measure=>simp [intOf];omega
      ·refine rv (aB (decide_eq_false p74)) ?_
       refine nt (hK73 _ _ ?_)
       refine cf ?_
       refine wp_exit ?_
       refine aj ?_
       refine aj ?_
       refine ax ?_
       refine ab (hK66 _ _ ?_)
       refine rl ?_
       refine rv (aT (s:=1) (k) Tryz.underlying77 (by kernel_rfl)) ?_
       refine bK rfl 72 (.tmp 72) (.tmp 71) rfl (Mem.own H70 1 rfl) (k:=k) (by omega) (by kernel_rfl) v (by obtain ⟨_,_,e9⟩:=aP (iu (mk:=mgP) (f:=pC) H70 (i0:=0) rfl (show k<m by omega)).2.1;rw [show v=_ from e9];rfl) (by show Value.pointer (some ⟨gg,k*1,none⟩)=_;rw [Nat.mul_one]) rfl ?_
       intro w91 ho9 hg9
       refine rn ?_
       rw [gp] at ho9
       have H92:=Mem.fA H70 1 rfl ho9 hg9
       clear ho9 hg9
       refine wpList_nil ?_
       refine aq ?_
       refine ab (hK53 _ _ ?_)
       refine rl ?_
       refine rv (aR (((k+1:Nat):Int))) ?_
       refine wpList_nil ?_
       have H93:=Mem.bq (g:=ar w0.heap.size 83 21) (st:=fm mgP pC u n gv v k q) (st':=st2 mgP pC u n (gv.set k v) (k+1)) H92 (fun i _=>by rw [show q=64 by omega];exact lf mgP pC u n gv v k (by omega) i)
       refine ab ?_
       show _∧_
       go_roundw
       case rel=>exact ⟨(k+1),(gv.set k v),rfl,by omega,(by rw [List.length_set];exact hgl),H93⟩
       case measure=>simp [intOf];omega
    ·refine rv (aB (decide_eq_false p52)) ?_
     refine nt (hK51 _ _ ?_)
     refine cf ?_
     refine wp_exit ?_
     refine aj ?_
     refine aj ?_
     refine ax ?_
     refine ab (hK44 _ _ ?_)
     refine wp_seq_k (fun K94 hK94=>?_)
     refine wp_seq_k (fun K95 hK95=>?_)
     refine rl ?_
     refine nt (hK95 _ _ ?_)
     refine wp_block ?_
     have H96:=Mem.bq (g:=ar w0.heap.size 83 21) (st:=st2 mgP pC u n gv k) (st':=st4 mgP pC u n gv m 0) H48 (fun i hi=>by rw [show k=m by omega];exact jC mgP pC u n gv m i hi)
     go_loopw [9] (fun x9 wr=>∃ k3:Nat,x9=.int .i64 (k3:Int)∧(k3≤m)∧Mem w0 wr [Ent.all (List.range m) (fun i=>ar w0.heap.size 83 21 (st4 mgP pC u n gv m 0 i)),aw w0.heap.size 72 1 (.slice (some ⟨gg,0,none⟩) m m) m ((gv).flatMap vb),aw B2 72 1 (.slice A m c) m (((List.range m).map u).flatMap vb),R]) (fun x9 _=>m-(intOf x9).toNat)
     case atStart=>exact ⟨0,rfl,by omega,H96⟩
     case round =>
      obtain ⟨wo97,rfl⟩:∃ wo97,wo97=wr:=⟨_,rfl⟩
      obtain ⟨k3,rfl,hk3,H98⟩:=hrel
      refine wp_seq_k (fun K100 hK100=>?_)
      refine wp_seq_k (fun K101 hK101=>?_)
      refine rl ?_
      by_cases p102:(k3:Int)<(m:Int)
      ·refine rv (aB (decide_eq_true p102)) ?_
       refine nt (hK101 _ _ ?_)
       refine ct ?_
       refine ks (hK100 _ _ ?_)
       refine wp_seq_k (fun K103 hK103=>?_)
       refine wp_block ?_
       refine wp_seq_k (fun K104 hK104=>?_)
       refine rl ?_
       refine nt (hK104 _ _ ?_)
       refine wp_block ?_
       have hnk:=hn k3 (by omega)
       go_loopw [10] (fun x10 wr=>∃ i:Nat,x10=.int .i64 (i:Int)∧(i≤n k3+64)∧Mem w0 wr [Ent.all (List.range m) (fun i=>ar w0.heap.size 83 21 (st4 mgP pC u n gv m 0 i)),aw w0.heap.size 72 1 (.slice (some ⟨gg,0,none⟩) m m) m ((gv).flatMap vb),aw B2 72 1 (.slice A m c) m (((List.range m).map u).flatMap vb),R]) (fun x10 _=>n k3+64-(intOf x10).toNat)
       case atStart=>exact ⟨0,rfl,by omega,H98⟩
       case round =>
        obtain ⟨wo105,rfl⟩:∃ wo105,wo105=wr:=⟨_,rfl⟩
        obtain ⟨i,rfl,hi,H106⟩:=hrel
        refine wp_seq_k (fun K108 hK108=>?_)
        refine wp_seq_k (fun K109 hK109=>?_)
        refine rl ?_
        obtain ⟨x110,hx111⟩:∃ x,(gv)[k3]?=some x:=⟨_,List.getElem?_eq_getElem (by first | omega | (rw [List.length_map,List.length_range];omega))⟩
        have hd112:=av hx111
        have hv113:=gi (mk:=mgP) (f:=pC) H106 (i0:=0) rfl (show k3<m by omega) (Nat.zero_le _) hx111
        obtain ⟨A114,c115,rfl⟩:=aP hv113
        refine rv (aT (s:=1) (k3) Tryz.underlying77 (by kernel_rfl)) ?_
        refine rv (xlc (range_cell (ei (Mem.own H106 1 rfl) hx111)) Tryz.underlying72) ?_
        by_cases p116:(i:Int)<(((n k3+64):Nat):Int)
        ·refine rv (aB (decide_eq_true p116)) ?_
         refine nt (hK109 _ _ ?_)
         refine ct ?_
         refine ks (hK108 _ _ ?_)
         refine wp_seq_k (fun K117 hK117=>?_)
         refine wp_block ?_
         refine wp_seq_k (fun K118 hK118=>?_)
         obtain ⟨b119,rfl,hlt122⟩:=aG hv113 (by omega)
         obtain ⟨b123,rfl,hlt126⟩:=aG (Mem.own H106 2 rfl) (by omega)
         obtain ⟨x127,hx128⟩:∃ x,(((List.range m).map u))[k3]?=some x:=⟨_,List.getElem?_eq_getElem (by first | omega | (rw [List.length_map,List.length_range];omega))⟩
         have hd129:=av hx128
         obtain rfl:=aM hx128
         obtain ⟨A130,c131,hu132,hg133⟩:=hu0 k3 (by omega)
         refine Fre.aW (X:=Bel) [] (by kernel_rfl) (by kernel_rfl) (by simp) (by simp) (by simp) ?_
         refine Fre.rmd ?_
         refine Fre.mvv (fun _ _=>aT (s:=1) (k3) Tryz.underlying77 (by kernel_rfl)) ?_
         refine Fre.mvv (fun W9 hW9=>xlc (range_cell (ei (Mem.own (Mem.call H106 hW9) 1 rfl) hx111)) Tryz.underlying72) ?_
         refine Fre.mvv (fun _ _=>aT (i) Tryz.underlying72 b8) ?_
         refine Fre.mvv (fun W9 hW9=>xld (fB (mk:=mgP) (f:=pC) (k:=k3) (i:=i) (fun k i=>bO (cr k i)) (gi (mk:=mgP) (f:=pC) (Mem.call H106 hW9) (i0:=0) rfl (show k3<m by omega) (Nat.zero_le _) hx111) (by omega)) Tryz.underlying83 (ck (cr k3 i))) ?_
         refine Fre.aA (.agg (pC (mgP k3 i)).toArray) _ _ (by kernel_rfl) (by kernel_rfl) (by kernel_rfl) (fun W9=>by kernel_rfl) (fun W9 hW9=>ic k3 i W9) ?_
         refine Fre.rmd ?_
         refine Fre.mvv (fun W9 _=>b3 (o:=⟨some 98,_,_,_,_,_⟩) 83 83 (.tmp 94) (.tmp 97) rfl (pC (mgP k3 i)).toArray (pC (mgP k3 i)).toArray rfl rfl (by kernel_rfl) _ W9 (by have h9:=fk ((mgP k3 i)) ((mgP k3 i)) (cr k3 i) (cr k3 i) W9;rwa [show decide _=true from (decide_eq_true rfl)] at h9)) ?_
         refine Fre.mvv (fun _ _=>aT (s:=1) (k3) Tryz.underlying77 (by kernel_rfl)) ?_
         refine Fre.mvv (v:=.slice A130 (n k3) c131) (fun W9 hW9=>by rw [← hu132];exact exec_load_cell (o:=⟨some 105,_,_,_,_,_⟩) 72 (.tmp 104) rfl ⟨b123,k3*1,none⟩ rfl _ _ W9 Tryz.underlying72 rfl (range_cell (bw (Mem.own (Mem.call H106 hW9) 2 rfl) (by omega)))) ?_
         by_cases p134:(i:Int)<(((n k3):Nat):Int)
         ·refine Fre.mvv (fun _ _=>aB (decide_eq_true p134)) ?_
          refine Fre.mvv (fun _ _=>aT (s:=1) (k3) Tryz.underlying77 (by kernel_rfl)) ?_
          refine Fre.mvv (v:=.slice A130 (n k3) c131) (fun W9 hW9=>by rw [← hu132];exact exec_load_cell (o:=⟨some 112,_,_,_,_,_⟩) 72 (.tmp 111) rfl ⟨b123,k3*1,none⟩ rfl _ _ W9 Tryz.underlying72 rfl (range_cell (bw (Mem.own (Mem.call H106 hW9) 2 rfl) (by omega)))) ?_
          obtain ⟨b135,rfl⟩:=hg133 (by omega)
          refine Fre.mvv (fun _ _=>aT (i) Tryz.underlying72 b8) ?_
          refine Fre.mvv (fun W9 hW9=>xld (fB (mk:=mgP) (f:=pC) (k:=k3) (i:=i) (fun k i=>bO (cr k i)) (hu132▸eW (mk:=mgP) (f:=pC) (Mem.call H106 hW9) (i0:=0) rfl (by omega)) (by omega)) Tryz.underlying83 (ck (cr k3 i))) ?_
          refine Fre.aA (.agg (pC (mgP k3 i)).toArray) _ _ (by kernel_rfl) (by kernel_rfl) (by kernel_rfl) (fun W9=>by kernel_rfl) (fun W9 hW9=>ic k3 i W9) ?_
          refine Fre.rmd ?_
          refine Fre.mvv (fun W9 _=>b3 (o:=⟨some 119,_,_,_,_,_⟩) 83 83 (.tmp 115) (.tmp 118) rfl (pC (mgP k3 i)).toArray (pC (mgP k3 i)).toArray rfl rfl (by kernel_rfl) _ W9 (by have h9:=fk ((mgP k3 i)) ((mgP k3 i)) (cr k3 i) (cr k3 i) W9;rwa [show decide _=true from (decide_eq_true rfl)] at h9)) ?_
          intro w139 hx141
          dsimp only [Fre.ended,List.drop]
          have H140:=Mem.call H106 hx141
          refine ab (hK118 _ _ ?_)
          refine cf ?_
          refine wp_skip ?_
          refine aq ?_
          refine ab (hK117 _ _ ?_)
          refine rl ?_
          refine rv (aR (((i+1:Nat):Int))) ?_
          refine wpList_nil ?_
          refine ab ?_
          show _∧_
          go_roundw
          case rel=>exact ⟨(i+1),rfl,by omega,H140⟩
          case measure=>simp [intOf];omega
         ·refine Fre.mvv (fun _ _=>aB (decide_eq_false p134)) ?_
          intro w142 hx144
          dsimp only [Fre.ended,List.drop]
          have H143:=Mem.call H106 hx144
          refine ab (hK118 _ _ ?_)
          refine cf ?_
          refine wp_skip ?_
          refine aq ?_
          refine ab (hK117 _ _ ?_)
          refine rl ?_
          refine rv (aR (((i+1:Nat):Int))) ?_
          refine wpList_nil ?_
          refine ab ?_
          show _∧_
          go_roundw
          case rel=>exact ⟨(i+1),rfl,by omega,H143⟩
          case measure=>simp [intOf];omega
        ·refine rv (aB (decide_eq_false p116)) ?_
         refine nt (hK109 _ _ ?_)
         refine cf ?_
         refine wp_exit ?_
         refine aj ?_
         refine aj ?_
         refine ax ?_
         refine aq ?_
         refine ab (hK103 _ _ ?_)
         refine rl ?_
         refine rv (aR (((k3+1:Nat):Int))) ?_
         refine wpList_nil ?_
         refine ab ?_
         show _∧_
         go_roundw
         case rel=>exact ⟨(k3+1),rfl,by omega,H106⟩
         case measure=>simp [intOf];omega
      ·refine rv (aB (decide_eq_false p102)) ?_
       refine nt (hK101 _ _ ?_)
       refine cf ?_
       refine wp_exit ?_
       refine aj ?_
       refine aj ?_
       refine ax ?_
       refine ab (hK94 _ _ ?_)
       refine wp_seq_k (fun K145 hK145=>?_)
       refine wp_seq_k (fun K146 hK146=>?_)
       refine rl ?_
       refine nt (hK146 _ _ ?_)
       refine wp_block ?_
       obtain ⟨gw,hgw⟩:∃ g,g=gv:=⟨_,rfl⟩
       rw [← hgw] at H98
       rw [← hgw] at hgl
       have hgl6:=hgl
       clear hgl
       go_loopw [11] (fun x11 wr=>∃ k:Nat,∃ gv:List Value,x11=.int .i64 (k:Int)∧(k≤m)∧(gv.length=m)∧Mem w0 wr [Ent.all (List.range m) (fun i=>ar w0.heap.size 83 21 (st4 mgP pC u n gv m k i)),aw w0.heap.size 72 1 (.slice (some ⟨gg,0,none⟩) m m) m ((gv).flatMap vb),aw B2 72 1 (.slice A m c) m (((List.range m).map u).flatMap vb),R]) (fun x11 _=>m-(intOf x11).toNat)
       case atStart=>exact ⟨0,gw,rfl,by omega,hgl6,H98⟩
       case round =>
        obtain ⟨wo147,rfl⟩:∃ wo147,wo147=wr:=⟨_,rfl⟩
        obtain ⟨k,gv,rfl,hk,hgl,H148⟩:=hrel
        refine wp_seq_k (fun K150 hK150=>?_)
        refine wp_seq_k (fun K151 hK151=>?_)
        refine rl ?_
        by_cases p152:(k:Int)<(m:Int)
        ·refine rv (aB (decide_eq_true p152)) ?_
         refine nt (hK151 _ _ ?_)
         refine ct ?_
         refine ks (hK150 _ _ ?_)
         refine wp_seq_k (fun K153 hK153=>?_)
         refine wp_block ?_
         refine wp_seq_k (fun K154 hK154=>?_)
         refine rl ?_
         obtain ⟨inm83,iq83,ir83,is83,it83⟩:=info_parts nv
         refine wpList_make_full _ rfl _ _ 72 rfl w0.heap.size 83 _ _ 21 Tryz.underlying72 iq83 ir83 is83 _ _ _ _ 64 rfl rfl rfl rfl (by rw [it83];omega) (by simp only [maxLen];omega) (Mem.below H148).size ?_
         intro w155 ow gr
         refine rn ?_
         obtain ⟨zs,hzs⟩:∃ zs:List Value,zs=(madeCells (Value.agg zcP).cells (64*21)).toList:=⟨_,rfl⟩
         rw [← hzs] at ow
         have hzl:=ow.1
         have H156:=Mem.make H148 ow gr
         obtain ⟨gm,hgm⟩:∃ g,g=wo147.heap.size:=⟨_,rfl⟩
         rw [← hgm] at H156 ⊢
         clear ow gr hgm hzs
         refine rn ?_
         refine nt (hK154 _ _ ?_)
         refine wp_seq_k (fun K157 hK157=>?_)
         refine wp_seq_k (fun K158 hK158=>?_)
         refine rl ?_
         refine nt (hK158 _ _ ?_)
         refine wp_block ?_
         have hnk:=hn k (by omega)
         go_loopw [13] (fun x13 wr=>∃ i:Nat,x13=.int .i64 (i:Int)∧(i≤64)∧Mem w0 wr [aw w0.heap.size 83 21 (.slice (some ⟨gm,0,none⟩) 64 64) 64 (mkC mgP pC (k+m) i++zs.drop (i*21)),Ent.all (List.range m) (fun i=>ar w0.heap.size 83 21 (st4 mgP pC u n gv m k i)),aw w0.heap.size 72 1 (.slice (some ⟨gg,0,none⟩) m m) m ((gv).flatMap vb),aw B2 72 1 (.slice A m c) m (((List.range m).map u).flatMap vb),R]) (fun x13 _=>64-(intOf x13).toNat)
         case atStart=>exact ⟨0,rfl,by omega,H156⟩
         case round =>
          obtain ⟨wo159,rfl⟩:∃ wo159,wo159=wr:=⟨_,rfl⟩
          obtain ⟨i,rfl,hi,H160⟩:=hrel
          refine wp_seq_k (fun K162 hK162=>?_)
          refine wp_seq_k (fun K163 hK163=>?_)
          refine rl ?_
          by_cases p164:(i:Int)<64
          ·refine rv (aB (decide_eq_true p164)) ?_
           refine nt (hK163 _ _ ?_)
           refine ct ?_
           refine ks (hK162 _ _ ?_)
           refine wp_seq_k (fun K165 hK165=>?_)
           refine wp_block ?_
           refine rl ?_
           refine rv (aR (((k+m:Nat):Int))) ?_
           refine an (by kernel_rfl) _ _ (by kernel_rfl) (ic (k+m) i wo159) ?_
           rintro e w166 ⟨rfl,hb168⟩
           refine ⟨_,rfl,rn ?_⟩
           have H167:=Mem.call H160 hb168
           refine rv (aT (i) Tryz.underlying72 b8) ?_
           refine cT rfl 83 (.tmp 142) (.tmp 141) rfl (Mem.own H167 0 rfl) (k:=i) (pC (mgP (k+m) i)) (by omega) (bO (cr (k+m) i)) (eP (cr (k+m) i)) (rV (mgP (k+m) i)) rfl rfl ?_
           intro w169 ho9 hg9 hz9
           refine rn ?_
           rw [jd mgP pC 21 (fun _=>zs) (fun k i=>bO (cr k i)) (k+m) i] at ho9
           have H170:=Mem.fA H167 0 rfl ho9 hg9
           clear ho9 hg9
           refine wpList_nil ?_
           refine aq ?_
           refine ab (hK165 _ _ ?_)
           refine rl ?_
           refine rv (aR (((i+1:Nat):Int))) ?_
           refine wpList_nil ?_
           refine ab ?_
           show _∧_
           go_roundw
           case rel=>exact ⟨(i+1),rfl,by omega,H170⟩
           case measure=>simp [intOf];omega
          ·refine rv (aB (decide_eq_false p164)) ?_
           refine nt (hK163 _ _ ?_)
           refine cf ?_
           refine wp_exit ?_
           refine aj ?_
           refine aj ?_
           refine ax ?_
           refine ab (hK157 _ _ ?_)
           refine rl ?_
           obtain ⟨b171,rfl,hlt174⟩:=aG (Mem.own H160 3 rfl) (by omega)
           obtain ⟨x175,hx176⟩:∃ x,(((List.range m).map u))[k]?=some x:=⟨_,List.getElem?_eq_getElem (by first | omega | (rw [List.length_map,List.length_range];omega))⟩
           have hd177:=av hx176
           obtain rfl:=aM hx176
           obtain ⟨A178,c179,hu180,hg181⟩:=hu0 k (by omega)
           refine rv (aT (s:=1) (k) Tryz.underlying77 (by kernel_rfl)) ?_
           refine rv (v:=.slice A178 (n k) c179) (by rw [← hu180];exact exec_load_cell (o:=⟨some 148,_,_,_,_,_⟩) 72 (.tmp 147) rfl ⟨b171,k*1,none⟩ rfl _ _ wo159 Tryz.underlying72 rfl (range_cell (bw (Mem.own H160 3 rfl) (by omega)))) ?_
           have hie:i=64:=by omega
           subst hie
           have hU9:=eW (mk:=mgP) (f:=pC) H160 (i0:=1) rfl (show k<m by omega)
           rw [List.append_nil] at hU9
           have hM9:=Mem.own H160 0 rfl
           rw [List.drop_of_length_le (by omega),List.append_nil] at hM9
           refine cY rfl _ _ 72 rfl w0.heap.size 83 _ _ 21 40 Tryz.underlying72 iq83 ir83 is83 it83 rfl (by decide) (u k) (n k) (mkC mgP pC k (n k)) hU9 (some ⟨gm,0,none⟩) 64 64 (mkC mgP pC (k+m) 64) (kz hM9 (mE mgP pC (fun k i=>je _) _ _)) (by decide) (by simp only [maxLen];omega) (by omega) (Mem.below H160).size hu180.symm rfl ?_
           intro v9 w182 ho9 hg9 hr9
           refine rn ?_
           have H183:=kA (mk:=mgP) (f:=pC) (Mem.pick H160 [1,0,2,3,4] (by decide) rfl) (show k<m by omega) hgl ho9 hg9 hr9
           obtain ⟨A9,c99,hv9⟩:=aP ho9
           clear ho9 hg9 hr9 hU9 hM9
           refine rv (aT (s:=1) (k) Tryz.underlying77 (by kernel_rfl)) ?_
           refine bK rfl 72 (.tmp 151) (.tmp 150) rfl (Mem.own H183 2 rfl) (k:=k) (by omega) (by kernel_rfl) v9 (by rw [hv9];rfl) (by show Value.pointer (some ⟨gg,k*1,none⟩)=_;rw [Nat.mul_one]) rfl ?_
           intro w184 ho9 hg9
           refine rn ?_
           rw [gp] at ho9
           have H185:=Mem.fA H183 2 rfl ho9 hg9
           clear ho9 hg9
           refine wpList_nil ?_
           refine aq ?_
           refine ab (hK153 _ _ ?_)
           refine rl ?_
           refine rv (aR (((k+1:Nat):Int))) ?_
           refine wpList_nil ?_
           have H186:=Mem.pick H185 [0,2,3,4] (by decide) rfl
           refine ab ?_
           show _∧_
           go_roundw
           case rel=>exact ⟨(k+1),(gv.set k v9),rfl,by omega,(by rw [List.length_set];exact hgl),H186⟩
           case measure=>simp [intOf];omega
        ·refine rv (aB (decide_eq_false p152)) ?_
         refine nt (hK151 _ _ ?_)
         refine cf ?_
         refine wp_exit ?_
         refine aj ?_
         refine aj ?_
         refine ax ?_
         refine ab (hK145 _ _ ?_)
         refine wp_seq_k (fun K187 hK187=>?_)
         refine wp_seq_k (fun K188 hK188=>?_)
         refine rl ?_
         refine nt (hK188 _ _ ?_)
         refine wp_block ?_
         have hke8:k=m:=by omega
         rw [hke8] at H148
         go_loopw [14] (fun x14 wr=>∃ k5:Nat,x14=.int .i64 (k5:Int)∧(k5≤m)∧Mem w0 wr [Ent.all (List.range m) (fun i=>ar w0.heap.size 83 21 (st4 mgP pC u n gv m m i)),aw w0.heap.size 72 1 (.slice (some ⟨gg,0,none⟩) m m) m ((gv).flatMap vb),aw B2 72 1 (.slice A m c) m (((List.range m).map u).flatMap vb),R]) (fun x14 _=>m-(intOf x14).toNat)
         case atStart=>exact ⟨0,rfl,by omega,H148⟩
         case round =>
          obtain ⟨wo189,rfl⟩:∃ wo189,wo189=wr:=⟨_,rfl⟩
          obtain ⟨k5,rfl,hk5,H190⟩:=hrel
          refine wp_seq_k (fun K192 hK192=>?_)
          refine wp_seq_k (fun K193 hK193=>?_)
          refine rl ?_
          by_cases p194:(k5:Int)<(m:Int)
          ·refine rv (aB (decide_eq_true p194)) ?_
           refine nt (hK193 _ _ ?_)
           refine ct ?_
           refine ks (hK192 _ _ ?_)
           refine wp_seq_k (fun K195 hK195=>?_)
           refine wp_block ?_
           refine wp_seq_k (fun K196 hK196=>?_)
           refine rl ?_
           refine nt (hK196 _ _ ?_)
           refine wp_block ?_
           have hnk:=hn k5 (by omega)
           go_loopw [15] (fun x15 wr=>∃ i:Nat,x15=.int .i64 (i:Int)∧(i≤n k5)∧Mem w0 wr [Ent.all (List.range m) (fun i=>ar w0.heap.size 83 21 (st4 mgP pC u n gv m m i)),aw w0.heap.size 72 1 (.slice (some ⟨gg,0,none⟩) m m) m ((gv).flatMap vb),aw B2 72 1 (.slice A m c) m (((List.range m).map u).flatMap vb),R]) (fun x15 _=>n k5-(intOf x15).toNat)
           case atStart=>exact ⟨0,rfl,by omega,H190⟩
           case round =>
            obtain ⟨wo197,rfl⟩:∃ wo197,wo197=wr:=⟨_,rfl⟩
            obtain ⟨i,rfl,hi,H198⟩:=hrel
            refine wp_seq_k (fun K200 hK200=>?_)
            refine wp_seq_k (fun K201 hK201=>?_)
            refine rl ?_
            obtain ⟨b202,rfl,hlt205⟩:=aG (Mem.own H198 2 rfl) (by omega)
            obtain ⟨x206,hx207⟩:∃ x,(((List.range m).map u))[k5]?=some x:=⟨_,List.getElem?_eq_getElem (by first | omega | (rw [List.length_map,List.length_range];omega))⟩
            have hd208:=av hx207
            obtain rfl:=aM hx207
            obtain ⟨A209,c210,hu211,hg212⟩:=hu0 k5 (by omega)
            refine rv (aT (s:=1) (k5) Tryz.underlying77 (by kernel_rfl)) ?_
            refine rv (v:=.slice A209 (n k5) c210) (by rw [← hu211];exact exec_load_cell (o:=⟨some 162,_,_,_,_,_⟩) 72 (.tmp 161) rfl ⟨b202,k5*1,none⟩ rfl _ _ wo197 Tryz.underlying72 rfl (range_cell (bw (Mem.own H198 2 rfl) (by omega)))) ?_
            by_cases p213:(i:Int)<(((n k5):Nat):Int)
            ·refine rv (aB (decide_eq_true p213)) ?_
             refine nt (hK201 _ _ ?_)
             refine ct ?_
             refine ks (hK200 _ _ ?_)
             refine wp_seq_k (fun K214 hK214=>?_)
             refine wp_block ?_
             refine wp_seq_k (fun K215 hK215=>?_)
             obtain ⟨b216,rfl⟩:=hg212 (by omega)
             obtain ⟨x220,hx221⟩:∃ x,(gv)[k5]?=some x:=⟨_,List.getElem?_eq_getElem (by first | omega | (rw [List.length_map,List.length_range];omega))⟩
             have hd222:=av hx221
             have hv223:=gB (mk:=mgP) (f:=pC) H198 (i0:=0) rfl (show k5<m by omega) (by omega) hx221
             obtain ⟨A224,c225,rfl⟩:=aP hv223
             obtain ⟨b226,rfl,hlt229⟩:=aG hv223 (by omega)
             refine Fre.aW (X:=Bel) [] (by kernel_rfl) (by kernel_rfl) (by simp) (by simp) (by simp) ?_
             refine Fre.rmd ?_
             refine Fre.mvv (fun _ _=>aT (s:=1) (k5) Tryz.underlying77 (by kernel_rfl)) ?_
             refine Fre.mvv (v:=.slice (some ⟨b216,0,none⟩) (n k5) c210) (fun W9 hW9=>by rw [← hu211];exact exec_load_cell (o:=⟨some 170,_,_,_,_,_⟩) 72 (.tmp 169) rfl ⟨b202,k5*1,none⟩ rfl _ _ W9 Tryz.underlying72 rfl (range_cell (bw (Mem.own (Mem.call H198 hW9) 2 rfl) (by omega)))) ?_
             refine Fre.mvv (fun _ _=>aT (i) Tryz.underlying72 b8) ?_
             refine Fre.mvv (fun W9 hW9=>xld (fB (mk:=mgP) (f:=pC) (k:=k5) (i:=i) (fun k i=>bO (cr k i)) (hu211▸eW (mk:=mgP) (f:=pC) (Mem.call H198 hW9) (i0:=0) rfl (by omega)) (by omega)) Tryz.underlying83 (ck (cr k5 i))) ?_
             refine Fre.aA (.agg (pC (mgP k5 i)).toArray) _ _ (by kernel_rfl) (by kernel_rfl) (by kernel_rfl) (fun W9=>by kernel_rfl) (fun W9 hW9=>ic k5 i W9) ?_
             refine Fre.rmd ?_
             refine Fre.mvv (fun W9 _=>b3 (o:=⟨some 177,_,_,_,_,_⟩) 83 83 (.tmp 173) (.tmp 176) rfl (pC (mgP k5 i)).toArray (pC (mgP k5 i)).toArray rfl rfl (by kernel_rfl) _ W9 (by have h9:=fk ((mgP k5 i)) ((mgP k5 i)) (cr k5 i) (cr k5 i) W9;rwa [show decide _=true from (decide_eq_true rfl)] at h9)) ?_
             refine Fre.mvv (fun _ _=>aT (s:=1) (k5) Tryz.underlying77 (by kernel_rfl)) ?_
             refine Fre.mvv (fun W9 hW9=>xlc (range_cell (ei (Mem.own (Mem.call H198 hW9) 1 rfl) hx221)) Tryz.underlying72) ?_
             refine Fre.mvv (fun _ _=>aT (i) Tryz.underlying72 b8) ?_
             refine Fre.mvv (fun W9 hW9=>xld (fB (mk:=mgP) (f:=pC) (k:=k5) (i:=i) (fun k i=>bO (cr k i)) (gB (mk:=mgP) (f:=pC) (Mem.call H198 hW9) (i0:=0) rfl (show k5<m by omega) (by omega) hx221) (by omega)) Tryz.underlying83 (ck (cr k5 i))) ?_
             refine Fre.aA (.agg (pC (mgP k5 i)).toArray) _ _ (by kernel_rfl) (by kernel_rfl) (by kernel_rfl) (fun W9=>by kernel_rfl) (fun W9 hW9=>ic k5 i W9) ?_
             refine Fre.rmd ?_
             refine Fre.mvv (fun W9 _=>b3 (o:=⟨some 190,_,_,_,_,_⟩) 83 83 (.tmp 186) (.tmp 189) rfl (pC (mgP k5 i)).toArray (pC (mgP k5 i)).toArray rfl rfl (by kernel_rfl) _ W9 (by have h9:=fk ((mgP k5 i)) ((mgP k5 i)) (cr k5 i) (cr k5 i) W9;rwa [show decide _=true from (decide_eq_true rfl)] at h9)) ?_
             intro w230 hx232
             dsimp only [Fre.ended,List.drop]
             have H231:=Mem.call H198 hx232
             refine ab (hK215 _ _ ?_)
             refine cf ?_
             refine wp_skip ?_
             refine aq ?_
             refine ab (hK214 _ _ ?_)
             refine rl ?_
             refine rv (aR (((i+1:Nat):Int))) ?_
             refine wpList_nil ?_
             refine ab ?_
             show _∧_
             go_roundw
             case rel=>exact ⟨(i+1),rfl,by omega,H231⟩
             case measure=>simp [intOf];omega
            ·refine rv (aB (decide_eq_false p213)) ?_
             refine nt (hK201 _ _ ?_)
             refine cf ?_
             refine wp_exit ?_
             refine aj ?_
             refine aj ?_
             refine ax ?_
             refine aq ?_
             refine ab (hK195 _ _ ?_)
             refine rl ?_
             refine rv (aR (((k5+1:Nat):Int))) ?_
             refine wpList_nil ?_
             refine ab ?_
             show _∧_
             go_roundw
             case rel=>exact ⟨(k5+1),rfl,by omega,H198⟩
             case measure=>simp [intOf];omega
          ·refine rv (aB (decide_eq_false p194)) ?_
           refine nt (hK193 _ _ ?_)
           refine cf ?_
           refine wp_exit ?_
           refine aj ?_
           refine aj ?_
           refine ax ?_
           refine ab (hK187 _ _ ?_)
           refine wp_seq_k (fun K233 hK233=>?_)
           refine rl ?_
           refine nt (hK233 _ _ ?_)
           refine wp_ret ?_
           refine bodyPost_ret (results_tmp rfl _ _ _) rfl ?_
           exact ⟨rfl,(Mem.pick H190 [2,3] (by decide) rfl)⟩
end Go.Proofs.YtomnhnmciopiiaaGreat
end
