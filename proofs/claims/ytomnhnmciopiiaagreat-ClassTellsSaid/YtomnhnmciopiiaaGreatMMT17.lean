/- spencelaw19.ClassTells is true of every input, and leaves all as it was. No condition. -/
import Derived.Test.YtomnhnmciopiiaaGreatMMT16
set_option maxRecDepth 100000
set_option linter.unusedVariables false
set_option linter.unusedSimpArgs false
set_option maxHeartbeats 40000000
open Go.DataW renaming weights_mem_each → xcv
open List renaming all_eq_true → xaO
section
namespace Go.Proofs.YtomnhnmciopiiaaGreat
open Go Go.ChangeShapes Go.WideShapes Go.ChangeAt Go.RowKit
theorem l4 (os:Os) (started:os.Started) (H:Type) (enc:TypeId×Value→H) :
  ReturnsInHanded {} Tryz.checked os 3 .any (Rows.classTellsSpec.pre6 enc Tryz.prog Tryz.f3 Rows.classTellsRow.domain false) (Rows.classTellsSpec.post enc Tryz.prog Tryz.f3 false true false false):=by
 refine returnsInHanded_of_change_sized (C:=Tryz.checked) Tryz.GM started (by kernel_rfl) Tryz.func3
  (ChangeSpec.witness6 (enc:=enc) (C:=Tryz.checked) false ⟨#[],#[.slice none 0 0,.agg zcD,.slice none 0 0],[]⟩ 8 (by kernel_rfl) (by kernel_rfl) (by kernel_rfl) (by kernel_rfl)) ?_
 intro W base args ds gs before hval0 hW _ hsz0 _
 have hval:∀ (j:Nat) t v,Tryz.f3.params[j]?=some t→args[j]?=some v→Value.okWide Tryz.prog W .any base t v:=hval0
 have hsz:(DataW.weightsEach Tryz.prog (Tryz.f3.params.toList++[]) (ds++gs)).all (·≤reachBytes)=true:=hsz0
 have hW':=hW
 obtain ⟨p,q,hA0,hV,rfl,hfz,hnd⟩:=hW
 have hA:DataW.TrodAll enc Tryz.prog W 0 (fun _=>true) true Tryz.f3.params.toList args.toList ds p:=hA0
 rw [Tryz.params3] at hA hval hsz
 obtain ⟨v0,v1,v2,d0,d1,d2,p0,p1,p2,rfl,rfl,rfl,h0,h1,h2⟩:=trodAll_three hA
 obtain ⟨rfl,rfl⟩:=trodVars_none hV
 have hs0:∀ n∈d0.weights Tryz.prog 22,n≤reachBytes:=fun n hn=>by
  have h:=xaO.1 hsz n (xcv (j:=0) (t:=22) (d:=d0) rfl rfl n hn)
  simpa using h
 have hs1:∀ n∈d1.weights Tryz.prog 26,n≤reachBytes:=fun n hn=>by
  have h:=xaO.1 hsz n (xcv (j:=1) (t:=26) (d:=d1) rfl rfl n hn)
  simpa using h
 obtain ⟨l,A,cap,rfl,hat,hl⟩:=xB (hval 0 22 v0 rfl rfl) h0 hs0
 obtain ⟨d,u1,u2,rfl,hd,hld⟩:=CJ (hval 1 26 v1 rfl rfl) h1 hs1
 obtain ⟨aL,K,kc,rfl,hkt⟩:=vj (hval 2 27 v2 rfl rfl) h2
 have fin:∀ e W',e=Ending.returned (.bool true)∧Below W.heap.size W W'→∃ x,e=.returned x∧Rows.classTellsSpec.post enc Tryz.prog Tryz.f3 false true false false W #[.slice A l.length cap,.agg (dC d u1 u2).toArray,.slice K aL.length kc] x W':=by
  rintro e W' ⟨rfl,hb⟩
  exact ⟨_,rfl,Ei laidOut hW' rfl rfl (by kernel_rfl) Tryz.underlying4 (by kernel_rfl) hb⟩
 exact (pa W l A cap hat hl d u1 u2 hd hld aL K kc hkt).mono fin
theorem classTells_holds:Rows.ClassTellsSaid :=
 OpenClaim.holds_of_wide 3 Tryz.f3 rfl rfl rfl rfl rfl rfl rfl ⟨rfl,rfl,rfl,rfl,rfl⟩ rfl rfl rfl rfl rfl (by kernel_rfl) Tryz.func3 (by kernel_rfl)
  (of_decide_eq_true (by kernel_rfl)) (by unfold Func.isWrapper;first | (rw [if_pos (by decide +kernel)];kernel_rfl) | (rw [if_neg (by decide +kernel)];exact ⟨rfl,rfl⟩))
  (fun os started H enc _=>l4 os started H enc)
#print axioms classTells_holds
end Go.Proofs.YtomnhnmciopiiaaGreat
end
