/- spencelaw02.HashFold's row. -/
import Derived.Test.YtcckmnabjjamfaaHashFold
import Derived.Test.YtcckmnabjjamfaaArgs
namespace Go.Proofs.Ytcckmnabjjamfaa
open Go.ChangeShapes Go.WideShapes Go.ChangeAt Go.RowKit
theorem Try.own : ownKnob Try.prog.godebug = none := by kernel_rfl
def z32v : Value := .agg (bv (List.replicate 32 0)).toArray
set_option maxRecDepth 100000 in
theorem hashFold_lifted (os : Os) (started : os.Started) (H : Type) (enc : TypeId × Value → H) :
    ReturnsInHanded {} Try.checked os 4 .any (Rows.hashFoldSpec.pre6 enc Try.prog Try.f4 Rows.hashFoldRow.domain false) (Rows.hashFoldSpec.post enc Try.prog Try.f4 false true false false) := by
  refine returnsInHanded_of_change (C := Try.checked) Try.own started (by kernel_rfl) Try.func4
    (ChangeSpec.witness6 (enc := enc) (C := Try.checked) false ⟨#[], #[z32v, z32v, .int .i64 0, .int .u8 0], []⟩ 8 (by kernel_rfl) (by kernel_rfl) (by kernel_rfl) (by kernel_rfl)) ?_
  intro W base args ds gs before hval0 hW _ _
  have hval : ∀ (j : Nat) t v, Try.f4.params[j]? = some t → args[j]? = some v → Value.okWide Try.prog W .any base t v := hval0
  have hW' := hW
  obtain ⟨p, q, hA0, hV, rfl, hfz, hnd⟩ := hW
  have hA : DataW.TrodAll enc Try.prog W 0 (fun _ => true) true Try.f4.params.toList args.toList ds p := hA0
  rw [Try.params4] at hA hval
  obtain ⟨v0, v1, v2, v3, d0, d1, d2, d3, p0, p1, p2, p3, rfl, rfl, rfl, h0, h1, h2, h3⟩ := trodAll_four hA
  obtain ⟨rfl, rfl⟩ := trodVars_none hV
  have ce : Try.prog.cellsOf 5 = 1 := by kernel_rfl
  have ca : Try.prog.cellsOf 26 = 32 := by kernel_rfl
  obtain ⟨la, rfl, hla, rfl, ka⟩ := open_bytes Try.underlying26 Try.underlying5 ce ca (hval 0 26 v0 rfl rfl) h0
  obtain ⟨lb, rfl, hlb, rfl, kb⟩ := open_bytes Try.underlying26 Try.underlying5 ce ca (hval 1 26 v1 rfl rfl) h1
  obtain ⟨a, rfl, rfl, rfl, wa⟩ := open_int Try.underlying3 (hval 2 3 v2 rfl rfl) h2
  obtain ⟨z, rfl, rfl, rfl, wz⟩ := open_int Try.underlying5 (hval 3 5 v3 rfl rfl) h3
  clear hA0 hval0
  simp only [List.append_nil] at hW'
  obtain ⟨x, rfl⟩ := ints_of_u8 wz
  refine (hashFold_any la lb hla hlb a (bounds_i64 wa) x W).mono fun e W' ⟨he, hw⟩ => ?_
  subst he
  exact ⟨_, rfl, law_post hW' rfl rfl (by kernel_rfl) Try.underlying4
    (fun sp _ => trodAll_cons_mk (ka W' 0 sp true) (trodAll_cons_mk (kb W' 0 sp true) (trodAll_mk2 (shut_int Try.underlying3 wa) (shut_int Try.underlying5 wz)))) rfl hw⟩

theorem hashFold_holds : Rows.HashFoldSaid :=
  OpenClaim.holds_of_wide 4 Try.f4 rfl rfl rfl rfl rfl rfl rfl ⟨rfl, rfl, rfl, rfl, rfl⟩ rfl rfl rfl rfl rfl (by kernel_rfl) Try.func4 (by kernel_rfl)
    (of_decide_eq_true (by kernel_rfl)) (by unfold Func.isWrapper; first | (rw [if_pos (by decide +kernel)]; kernel_rfl) | (rw [if_neg (by decide +kernel)]; exact ⟨rfl, rfl⟩))
    (fun os started H enc _ => hashFold_lifted os started H enc)
end Go.Proofs.Ytcckmnabjjamfaa
