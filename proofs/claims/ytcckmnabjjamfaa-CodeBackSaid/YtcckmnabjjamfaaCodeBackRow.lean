/- spencelaw01.CodeBack is true of every input, and leaves all as it was. No condition. -/
import Derived.Test.YtcckmnabjjamfaaCodeBack
import Derived.Test.YtcckmnabjjamfaaRowParts
namespace Go.Proofs.Ytcckmnabjjamfaa
open Go.ChangeShapes Go.WideShapes Go.ChangeAt Go.RowKit
theorem Try.ownK2 : ownKnob Try.prog.godebug = none := by kernel_rfl
set_option maxRecDepth 100000 in
theorem codeBack_lifted (os : Os) (started : os.Started) (H : Type) (enc : TypeId × Value → H) :
    ReturnsInHanded {} Try.checked os 7 .any (Rows.codeBackSpec.pre6 enc Try.prog Try.f7 Rows.codeBackRow.domain false) (Rows.codeBackSpec.post enc Try.prog Try.f7 false true false false) := by
  refine returnsInHanded_of_change_sized (C := Try.checked) Try.ownK2 started (by kernel_rfl) Try.func7
    (ChangeSpec.witness6 (enc := enc) (C := Try.checked) false ⟨#[], #[.slice none 0 0, .slice none 0 0], []⟩ 8 (by kernel_rfl) (by kernel_rfl) (by kernel_rfl) (by kernel_rfl)) ?_
  intro W base args ds gs before hval0 hW _ hsz0 _
  have hval : ∀ (j : Nat) t v, Try.f7.params[j]? = some t → args[j]? = some v → Value.okWide Try.prog W .any base t v := hval0
  have hsz : (DataW.weightsEach Try.prog (Try.f7.params.toList ++ []) (ds ++ gs)).all (· ≤ reachBytes) = true := hsz0
  have hW' := hW
  obtain ⟨p, q, hA0, hV, rfl, hfz, hnd⟩ := hW
  have hA : DataW.TrodAll enc Try.prog W 0 (fun _ => true) true Try.f7.params.toList args.toList ds p := hA0
  rw [Try.params7] at hA hval hsz
  obtain ⟨v0, v1, d0, d1, p0, p1, rfl, rfl, rfl, h0, h1⟩ := trodAll_two hA
  obtain ⟨rfl, rfl⟩ := trodVars_none hV
  have ce : Try.prog.cellsOf 5 = 1 := by kernel_rfl
  have be : Try.prog.bytesOf 5 = 1 := by kernel_rfl
  obtain ⟨Al, capl, ls, rfl, hpm, hls, hlb⟩ := open_parts (hval 0 37 v0 rfl rfl) h0 (fun n hn => by
    have h := List.all_eq_true.1 hsz n (DataW.weights_mem_each (j := 0) (t := 37) (d := d0) rfl rfl n hn)
    simpa using h)
  obtain ⟨A, cap, l, rfl, hby, hnil, hd⟩ := open_bslice Try.underlying40 Try.underlying5 ce (hval 1 40 v1 rfl rfl) h1
  have hl : l.length ≤ 140737488355328 := by
    rcases hd with ⟨_, rfl⟩ | ⟨elems, spare, hdd, h5⟩
    · simp
    · have h4 := sized_slice hsz (j := 1) (t := 40) (e := 5) rfl (by rw [hdd]; rfl) Try.underlying40
      rw [be] at h4
      have h6 := reachBytes_lt
      omega
  have fin : ∀ e W', e = Ending.returned (.bool true) ∧ Below W.heap.size W W' → ∃ v, e = .returned v ∧ Rows.codeBackSpec.post enc Try.prog Try.f7 false true false false W #[.slice Al ls.length capl, .slice A l.length cap] v W' := by
    rintro e W' ⟨rfl, hb⟩
    exact ⟨_, rfl, law_end laidOut hW' rfl rfl (by kernel_rfl) Try.underlying4 (by kernel_rfl) hb⟩
  by_cases hbig : 4000 < ls.length + many ls + l.length
  · exact (codeBack_big l hl A cap ls hls hlb _ hbig W hpm).mono fin
  · exact (codeBack_small l A cap hnil ls _ (by omega) W hpm hby).mono fin

theorem codeBack_holds : Rows.CodeBackSaid :=
  OpenClaim.holds_of_wide 7 Try.f7 rfl rfl rfl rfl rfl rfl rfl ⟨rfl, rfl, rfl, rfl, rfl⟩ rfl rfl rfl rfl rfl (by kernel_rfl) Try.func7 (by kernel_rfl)
    (of_decide_eq_true (by kernel_rfl)) (by unfold Func.isWrapper; first | (rw [if_pos (by decide +kernel)]; kernel_rfl) | (rw [if_neg (by decide +kernel)]; exact ⟨rfl, rfl⟩))
    (fun os started H enc _ => codeBack_lifted os started H enc)
end Go.Proofs.Ytcckmnabjjamfaa
