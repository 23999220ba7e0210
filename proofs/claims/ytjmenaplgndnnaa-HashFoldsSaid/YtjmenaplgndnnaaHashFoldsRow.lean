/- spencelaw02.HashFolds is true of every input, and leaves all as it was. No condition. -/
import Derived.Test.YtjmenaplgndnnaaHashFolds
import Derived.Test.YtjmenaplgndnnaaRowRows
import Derived.Test.YtjmenaplgndnnaaArgs
namespace Go.Proofs.Ytjmenaplgndnnaa
open Go.ChangeShapes Go.WideShapes Go.ChangeAt Go.RowKit
theorem Try.ownK11 : ownKnob Try.prog.godebug = none := by kernel_rfl
def z32w : Value := .agg (bv (List.replicate 32 0)).toArray
set_option maxRecDepth 100000 in
theorem hashFolds_lifted (os : Os) (started : os.Started) (H : Type) (enc : TypeId × Value → H) :
    ReturnsInHanded {} Try.checked os 5 .any (Rows.hashFoldsSpec.pre6 enc Try.prog Try.f5 Rows.hashFoldsRow.domain false) (Rows.hashFoldsSpec.post enc Try.prog Try.f5 false true false false) := by
  refine returnsInHanded_of_change_sized (C := Try.checked) Try.ownK11 started (by kernel_rfl) Try.func5
    (ChangeSpec.witness6 (enc := enc) (C := Try.checked) false ⟨#[], #[z32w, .string ⟨#[]⟩, .slice none 0 0], []⟩ 8 (by kernel_rfl) (by kernel_rfl) (by kernel_rfl) (by kernel_rfl)) ?_
  intro W base args ds gs before hval0 hW _ hsz0 _
  have hval : ∀ (j : Nat) t v, Try.f5.params[j]? = some t → args[j]? = some v → Value.okWide Try.prog W .any base t v := hval0
  have hsz : (DataW.weightsEach Try.prog (Try.f5.params.toList ++ []) (ds ++ gs)).all (· ≤ reachBytes) = true := hsz0
  have hW' := hW
  obtain ⟨p, q, hA0, hV, rfl, hfz, hnd⟩ := hW
  have hA : DataW.TrodAll enc Try.prog W 0 (fun _ => true) true Try.f5.params.toList args.toList ds p := hA0
  rw [Try.params5] at hA hval hsz
  obtain ⟨v0, v1, v2, d0, d1, d2, p0, p1, p2, rfl, rfl, rfl, h0, h1, h2⟩ := trodAll_three hA
  obtain ⟨rfl, rfl⟩ := trodVars_none hV
  have ce : Try.prog.cellsOf 5 = 1 := by kernel_rfl
  have ca : Try.prog.cellsOf 53 = 32 := by kernel_rfl
  obtain ⟨la, rfl, hla, rfl, ka⟩ := open_bytes Try.underlying53 Try.underlying5 ce ca (hval 0 53 v0 rfl rfl) h0
  obtain ⟨tag, rfl, rfl, rfl, ws⟩ := Go.ChangeMaps.open_string Try.underlying9 (hval 1 9 v1 rfl rfl) h1
  obtain ⟨A, cap, ls, rfl, hrow, hls, hlb⟩ := open_rows (hval 2 48 v2 rfl rfl) h2 (fun n hn => by
    have h := List.all_eq_true.1 hsz n (DataW.weights_mem_each (j := 2) (t := 48) (d := d2) rfl rfl n hn)
    simpa using h)
  have ht : tag.size ≤ 140737488355328 := by
    have h4 := sized_string hsz (j := 1) (t := 9) (bytes := tag.data.toList) rfl rfl
    have h6 := reachBytes_lt
    have h7 : tag.data.toList.length = tag.size := by simp
    omega
  have fin : ∀ e W', e = Ending.returned (.bool true) ∧ Below W.heap.size W W' → ∃ v, e = .returned v ∧ Rows.hashFoldsSpec.post enc Try.prog Try.f5 false true false false W #[.agg (bv la).toArray, .string tag, .slice A ls.length cap] v W' := by
    rintro e W' ⟨rfl, hb⟩
    exact ⟨_, rfl, law_end laidOut hW' rfl rfl (by kernel_rfl) Try.underlying4 (by kernel_rfl) hb⟩
  by_cases hbig : 6000 < ls.length + fl ls + tag.size
  · exact (hashFolds_big la tag ls hls hlb ht hbig _ W hrow).mono fin
  · exact (hashFolds_small la hla tag ls (by omega) _ W _ (Nat.le_refl _) hrow).mono fin

theorem hashFolds_holds : Rows.HashFoldsSaid :=
  OpenClaim.holds_of_wide 5 Try.f5 rfl rfl rfl rfl rfl rfl rfl ⟨rfl, rfl, rfl, rfl, rfl⟩ rfl rfl rfl rfl rfl (by kernel_rfl) Try.func5 (by kernel_rfl)
    (of_decide_eq_true (by kernel_rfl)) (by unfold Func.isWrapper; first | (rw [if_pos (by decide +kernel)]; kernel_rfl) | (rw [if_neg (by decide +kernel)]; exact ⟨rfl, rfl⟩))
    (fun os started H enc _ => hashFolds_lifted os started H enc)
end Go.Proofs.Ytjmenaplgndnnaa
