/- spencelaw07.BlobWrites is true of every input, and leaves all as it was. No condition. -/
import Derived.Test.YtajeohmmobgcjaaMBlobWritesAny
import Derived.Test.YtajeohmmobgcjaaMRowRuns
import Derived.Lib.SmallJoins
namespace Go.Proofs.Ytajeohmmobgcjaa
open Go Go.ChangeShapes Go.WideShapes Go.ChangeAt Go.RowKit
theorem Try.ownK : ownKnob Try.prog.godebug = none := by kernel_rfl
set_option maxRecDepth 100000
theorem blobWrites_lifted (os : Os) (started : os.Started) (H : Type) (enc : TypeId × Value → H) :
    ReturnsInHanded {} Try.checked os 10 .any (Rows.blobWritesSpec.pre6 enc Try.prog Try.f10 Rows.blobWritesRow.domain false) (Rows.blobWritesSpec.post enc Try.prog Try.f10 false true false false) := by
  refine returnsInHanded_of_change_sized (C := Try.checked) Try.ownK started (by kernel_rfl) Try.func10
    (ChangeSpec.witness6 (enc := enc) (C := Try.checked) false ⟨#[], #[.agg #[.int .i64 0, .int .i64 0, .int .i64 0], .int .i64 0, .slice none 0 0], []⟩ 8 (by kernel_rfl) (by kernel_rfl) (by kernel_rfl) (by kernel_rfl)) ?_
  intro W base args ds gs before hval0 hW _ hsz0 _
  have hval : ∀ (j : Nat) t v, Try.f10.params[j]? = some t → args[j]? = some v → Value.okWide Try.prog W .any base t v := hval0
  have hsz : (DataW.weightsEach Try.prog (Try.f10.params.toList ++ []) (ds ++ gs)).all (· ≤ reachBytes) = true := hsz0
  have hW' := hW
  obtain ⟨p, q, hA0, hV, rfl, hfz, hnd⟩ := hW
  have hA : DataW.TrodAll enc Try.prog W 0 (fun _ => true) true Try.f10.params.toList args.toList ds p := hA0
  rw [Try.params10] at hA hval hsz
  obtain ⟨v0, v1, v2, d0, d1, d2, p0, p1, p2, rfl, rfl, rfl, h0, h1, h2⟩ := trodAll_three hA
  obtain ⟨rfl, rfl⟩ := trodVars_none hV
  obtain ⟨c0, c1, c2, y0, y1, y2, m, rfl, rfl, rfl, hy0, hy1, hy2⟩ := Joins.open_agg3 Try.underlying23 (by kernel_rfl) (by kernel_rfl) (hval 0 23 v0 rfl rfl) h0
  obtain ⟨l, e0, _, wl⟩ := DataW.trod_int Try.underlying3 hy0
  obtain ⟨a, e1, _, wa⟩ := DataW.trod_int Try.underlying3 hy1
  obtain ⟨d, e2, _, wd⟩ := DataW.trod_int Try.underlying3 hy2
  simp at e0 e1 e2
  subst e0 e1 e2
  obtain ⟨n, rfl, rfl, rfl, wn⟩ := open_int Try.underlying3 (hval 1 3 v1 rfl rfl) h1
  have hs2 : ∀ n ∈ d2.weights Try.prog 74, n ≤ reachBytes := fun n hn => by
    have h := List.all_eq_true.1 hsz n (DataW.weights_mem_each (j := 2) (t := 74) (d := d2) rfl rfl n hn)
    simpa using h
  obtain ⟨ls, hls, hll, hps⟩ := open_puts (hval 2 74 v2 rfl rfl) h2 hs2
  have fin : ∀ e W', e = Ending.returned (.bool true) ∧ Below W.heap.size W W' → ∃ v, e = .returned v ∧ Rows.blobWritesSpec.post enc Try.prog Try.f10 false true false false W #[.agg #[.int .i64 l, .int .i64 a, .int .i64 d], .int .i64 n, v2] v W' := by
    rintro e W' ⟨rfl, hb⟩
    exact ⟨_, rfl, law_end laidOut hW' rfl rfl (by kernel_rfl) Try.underlying4 (by kernel_rfl) hb⟩
  exact (writes_any l a d n (bounds_i64 wn) ls hll hps v2 W hls).mono fin
theorem blobWrites_holds : Rows.BlobWritesSaid :=
  OpenClaim.holds_of_wide 10 Try.f10 rfl rfl rfl rfl rfl rfl rfl ⟨rfl, rfl, rfl, rfl, rfl⟩ rfl rfl rfl rfl rfl (by kernel_rfl) Try.func10 (by kernel_rfl)
    (of_decide_eq_true (by kernel_rfl)) (by unfold Func.isWrapper; first | (rw [if_pos (by decide +kernel)]; kernel_rfl) | (rw [if_neg (by decide +kernel)]; exact ⟨rfl, rfl⟩))
    (fun os started H enc _ => blobWrites_lifted os started H enc)
#print axioms blobWrites_holds
end Go.Proofs.Ytajeohmmobgcjaa
