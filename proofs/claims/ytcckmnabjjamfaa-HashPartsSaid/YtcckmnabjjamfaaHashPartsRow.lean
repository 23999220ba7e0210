/- spencelaw02.HashParts is true of every input, and leaves all as it was. No condition. -/
import Derived.Test.YtcckmnabjjamfaaHashParts
import Derived.Test.YtcckmnabjjamfaaRow
namespace Go.Proofs.Ytcckmnabjjamfaa
open Go.ChangeShapes Go.WideShapes Go.ChangeAt Go.RowKit
theorem Try.ownK : ownKnob Try.prog.godebug = none := by kernel_rfl
set_option maxRecDepth 100000 in
theorem hashParts_lifted (os : Os) (started : os.Started) (H : Type) (enc : TypeId × Value → H) :
    ReturnsInHanded {} Try.checked os 11 .any (Rows.hashPartsSpec.pre6 enc Try.prog Try.f11 Rows.hashPartsRow.domain false) (Rows.hashPartsSpec.post enc Try.prog Try.f11 false true false false) := by
  refine returnsInHanded_of_change_sized (C := Try.checked) Try.ownK started (by kernel_rfl) Try.func11
    (ChangeSpec.witness6 (enc := enc) (C := Try.checked) false ⟨#[], #[.slice none 0 0, .int .i64 0, .int .i64 0, .string ⟨#[]⟩], []⟩ 8 (by kernel_rfl) (by kernel_rfl) (by kernel_rfl) (by kernel_rfl)) ?_
  intro W base args ds gs before hval0 hW _ hsz0 _
  have hval : ∀ (j : Nat) t v, Try.f11.params[j]? = some t → args[j]? = some v → Value.okWide Try.prog W .any base t v := hval0
  have hsz : (DataW.weightsEach Try.prog (Try.f11.params.toList ++ []) (ds ++ gs)).all (· ≤ reachBytes) = true := hsz0
  have hW' := hW
  obtain ⟨p, q, hA0, hV, rfl, hfz, hnd⟩ := hW
  have hA : DataW.TrodAll enc Try.prog W 0 (fun _ => true) true Try.f11.params.toList args.toList ds p := hA0
  rw [Try.params11] at hA hval hsz
  obtain ⟨v0, v1, v2, v3, d0, d1, d2, d3, p0, p1, p2, p3, rfl, rfl, rfl, h0, h1, h2, h3⟩ := trodAll_four hA
  obtain ⟨rfl, rfl⟩ := trodVars_none hV
  have ce : Try.prog.cellsOf 5 = 1 := by kernel_rfl
  have be : Try.prog.bytesOf 5 = 1 := by kernel_rfl
  obtain ⟨A, cap, l, rfl, hby, hnil, hd⟩ := open_bslice Try.underlying40 Try.underlying5 ce (hval 0 40 v0 rfl rfl) h0
  obtain ⟨c, rfl, rfl, rfl, wc⟩ := open_int Try.underlying3 (hval 1 3 v1 rfl rfl) h1
  obtain ⟨a, rfl, rfl, rfl, wa⟩ := open_int Try.underlying3 (hval 2 3 v2 rfl rfl) h2
  obtain ⟨tag, rfl, rfl, rfl, ws⟩ := Go.ChangeMaps.open_string Try.underlying9 (hval 3 9 v3 rfl rfl) h3
  have hl : l.length ≤ 140737488355328 := by
    rcases hd with ⟨_, rfl⟩ | ⟨elems, spare, hdd, h5⟩
    · simp
    · have h4 := sized_slice hsz (j := 0) (t := 40) (e := 5) rfl (by rw [hdd]; rfl) Try.underlying40
      rw [be] at h4
      have h6 := reachBytes_lt
      omega
  have ht : tag.size ≤ 140737488355328 := by
    have h4 := sized_string hsz (j := 3) (t := 9) (bytes := tag.data.toList) rfl rfl
    have h6 := reachBytes_lt
    have h7 : tag.data.toList.length = tag.size := by simp
    omega
  have fin : ∀ e W', e = Ending.returned (.bool true) ∧ Below W.heap.size W W' → ∃ v, e = .returned v ∧ Rows.hashPartsSpec.post enc Try.prog Try.f11 false true false false W #[.slice A l.length cap, .int .i64 c, .int .i64 a, .string tag] v W' := by
    rintro e W' ⟨rfl, hb⟩
    exact ⟨_, rfl, law_end laidOut hW' rfl rfl (by kernel_rfl) Try.underlying4 (by kernel_rfl) hb⟩
  by_cases hbig : 6000 < l.length + tag.size
  · exact (hashParts_big l A cap hl tag ht c a hbig W).mono fin
  · exact (hashParts_small l A cap hnil tag c a (bounds_i64 wc) (bounds_i64 wa) (by omega) W hby).mono fin

theorem hashParts_holds : Rows.HashPartsSaid :=
  OpenClaim.holds_of_wide 11 Try.f11 rfl rfl rfl rfl rfl rfl rfl ⟨rfl, rfl, rfl, rfl, rfl⟩ rfl rfl rfl rfl rfl (by kernel_rfl) Try.func11 (by kernel_rfl)
    (of_decide_eq_true (by kernel_rfl)) (by unfold Func.isWrapper; first | (rw [if_pos (by decide +kernel)]; kernel_rfl) | (rw [if_neg (by decide +kernel)]; exact ⟨rfl, rfl⟩))
    (fun os started H enc _ => hashParts_lifted os started H enc)
end Go.Proofs.Ytcckmnabjjamfaa
