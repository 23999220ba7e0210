/- spencekit: LentRows, KeptRows. -/
import Derived.Test.YtjmenaplgndnnaaRefE
import Derived.Test.YtjmenaplgndnnaaLentKept
namespace Go.Proofs.Ytjmenaplgndnnaa
open Go.RowKit
/-- rows that are lent: one's own row of slices, each with marks behind -/
structure LRow (w : World) (base : Nat) (v : Value) (us : List Value) (ls : List (List UInt8)) : Prop where
  own : w.ownsRow base 26 1 v us.length us
  len : us.length = ls.length
  at_ : ∀ j, j < ls.length → ∃ g, us.getD j undef = .slice (some ⟨g, 0, none⟩) (ls.getD j []).length ((ls.getD j []).length + 12) ∧ base ≤ g ∧ Blk w g 5 (bv (ls.getD j [] ++ marks)).toArray
theorem LRow.keep {w w' : World} {base : Nat} {v : Value} {us : List Value} {ls : List (List UInt8)} (h : LRow w base v us ls) (hb : Below w.heap.size w w') : LRow w' base v us ls :=
  ⟨owned_keep h.own fun g _ hlt => hb.block g hlt, h.len, fun j hj => by obtain ⟨g, h1, h2, h3⟩ := h.at_ j hj; exact ⟨g, h1, h2, h3.below hb h3.lt⟩⟩
theorem LRow.grow {w w' : World} {base g : Nat} {v v' u : Value} {us : List Value} {ls : List (List UInt8)} {l : List UInt8} (h : LRow w base v us ls) (ho : w'.ownsRow base 26 1 v' (us.length + 1) (us ++ [u])) (hg : w.grownBy w' v.ownBlock)
    (hu : u = .slice (some ⟨g, 0, none⟩) l.length (l.length + 12)) (hbg : base ≤ g) (hbk : Blk w g 5 (bv (l ++ marks)).toArray) : LRow w' base v' (us ++ [u]) (ls ++ [l]) := by
  have hk : ∀ q cs, Blk w q 5 cs → Blk w' q 5 cs := fun q cs hb => hb.grown hg (Ne.symm (owned_ne h.own hb (by decide)))
  have hl := h.len
  refine ⟨by rw [List.length_append]; exact ho, by rw [List.length_append, List.length_append, hl]; rfl, fun j hj => ?_⟩
  rw [List.length_append] at hj
  by_cases hjl : j < ls.length
  · obtain ⟨q, h1, h2, h3⟩ := h.at_ j hjl
    rw [List.getD_eq_getElem?_getD, List.getD_eq_getElem?_getD, List.getElem?_append_left (by omega), List.getElem?_append_left (by omega), ← List.getD_eq_getElem?_getD, ← List.getD_eq_getElem?_getD]
    exact ⟨q, h1, h2, hk _ _ h3⟩
  · have hj0 : j = ls.length := by simp at hj; omega
    subst hj0
    refine ⟨g, ?_, hbg, ?_⟩
    · rw [← hl]; simp [hl, hu]
    · simp only [List.getD_eq_getElem?_getD, List.getElem?_append_right (Nat.le_refl _), Nat.sub_self]
      exact hk _ _ hbk
theorem LRow.cell {w : World} {base : Nat} {v : Value} {us : List Value} {ls : List (List UInt8)} (h : LRow w base v us ls) : ∃ A cap, v = .slice A ls.length cap ∧ ls.length ≤ cap ∧ (0 < ls.length → ∃ q, A = some ⟨q, 0, none⟩ ∧ q < w.heap.size ∧ ∀ j, j < ls.length → w.cell? ⟨q, 0 + j, none⟩ = some (us.getD j undef)) := by
  have hl := h.len
  rcases owned_form h.own with ⟨rfl, h0, _⟩ | ⟨g, cap, cur, rfl, _, hc, _, hb, _, ht, hlt⟩
  · exact ⟨none, 0, by rw [← hl, h0], by omega, fun h => by omega⟩
  · refine ⟨_, cap, by rw [hl], by omega, fun _ => ⟨g, rfl, hlt, fun j hj => ?_⟩⟩
    rw [Nat.zero_add, hb.cell]
    have h1 : cur.toList[j]? = us[j]? := by
      rw [← ht, List.getElem?_take_of_lt (by omega)]
    rw [← Array.getElem?_toList, h1, List.getD_eq_getElem?_getD, List.getElem?_eq_getElem (by omega)]
    rfl
theorem LRow.parts {w : World} {base : Nat} {v : Value} {us : List Value} {ls : List (List UInt8)} (h : LRow w base v us ls) : PartsAt w w.heap.size v ls := by
  obtain ⟨A, cap, hv, hc, hA⟩ := h.cell
  refine ⟨A, cap, hv, hc, fun h0 => ?_⟩
  obtain ⟨q, h1, h2, h3⟩ := hA h0
  refine ⟨q, 0, h1, h2, fun j hj => ?_⟩
  obtain ⟨g, e1, _, e3⟩ := h.at_ j hj
  refine ⟨_, h3 j hj, ?_⟩
  rw [e1]
  refine ⟨_, _, rfl, by omega, fun _ => ⟨g, 0, rfl, e3.lt, fun k hk => ?_⟩⟩
  rw [Nat.zero_add, e3.cell, keptL _ k hk]
theorem bytes_nil {w : World} {B : Nat} {A : Option Addr} {n cap : Nat} {l : List UInt8} (h : BytesAt w B (.slice A n cap) l) (hn : A = none → cap = 0) : A = none → n = 0 ∧ cap = 0 := by
  intro hA
  obtain ⟨A', cap', hv, hc, h0⟩ := h
  injection hv with e1 e2 e3
  refine ⟨?_, hn hA⟩
  rcases Nat.eq_zero_or_pos l.length with hl | hl
  · omega
  · obtain ⟨b, off, h1, _⟩ := h0 hl
    rw [← e1, hA] at h1
    cases h1
set_option maxRecDepth 100000 in
set_option maxHeartbeats 1000000 in
theorem lentRows_any (ls : List (List UInt8)) (hb : ∀ l ∈ ls, l.length ≤ 1000000) (hn : ls.length ≤ 1000000000) (v : Value) (w : World) (B : Nat) (hB : B ≤ w.heap.size) (hp : RowsAt w B v ls) :
    Calls Try.prog 28 #[v] w fun e w' => ∃ v' us, e = .returned v' ∧ LRow w' w.heap.size v' us ls ∧ Below w.heap.size w w' := by
  obtain ⟨A, cap, rfl, hcap, hA⟩ := hp
  obtain ⟨i, hi, hz0, hz1, hz2⟩ := info_parts info_row
  have HA := hide hA
  have HB := hide hb
  obtain ⟨R, hR⟩ : ∃ R, R = w.heap.size := ⟨_, rfl⟩
  have HR := hide hR
  rw [← hR]
  have hBR : B ≤ R := by omega
  clear hA hb hR hB
  go_enter Try.func28, Try.ntmps28
  go_wp2_with fail
  go_loopw [3, 4] (fun v3 v4 wr => ∃ (k : Nat) (us : List Value) (A3 : Option Addr) (cap3 : Nat), k ≤ ls.length ∧ v4 = .int .i64 (k : Int) ∧ v3 = .slice A3 k cap3 ∧ LRow wr R v3 us (ls.take k) ∧ Below R w wr) (fun _ v4 _ => ls.length - (intOf v4).toNat)
  case atStart => exact ⟨0, [], none, 0, by omega, rfl, rfl, ⟨⟨rfl, .inl ⟨rfl, rfl⟩⟩, rfl, fun j hj => absurd hj (by simp)⟩, Below.refl _ _⟩
  case round =>
    obtain ⟨k, us, A3, cap3, hk, rfl, rfl, hrow, hbw⟩ := hrel
    by_cases hlt : k < ls.length
    · obtain ⟨b, off, rfl, hbB, hcells⟩ := HA.out (by omega)
      obtain ⟨Aj, cj, cu0, hby, hnil⟩ := hcells k hlt
      have ha : Alike B w wr := alike_of_below (hbw.mono hBR)
      have cu := (ha.cell (p := ⟨b, off + k, none⟩) hbB).trans cu0
      obtain ⟨l, hl'⟩ : ∃ l, l = ls.getD k [] := ⟨_, rfl⟩
      have hll : l.length ≤ 1000000 := by rw [hl']; exact HB.out _ (by simp [List.getD, hlt])
      rw [← hl'] at cu hby
      have hus : us.length = k := by rw [hrow.len, List.length_take]; omega
      have i1 : (0 : Int) ≤ (k : Int) := by omega
      have i2 : (k : Int) < (ls.length : Int) := by omega
      have hsz := hbw.size
      have hRz := HR.out
      have hBz : B ≤ wr.heap.size := by omega
      have HX := hide (And.intro (hby.alike ha) (And.intro (bytes_nil hby hnil) (And.intro hrow (And.intro hbw (And.intro hl' hus)))))
      clear cu0 hby hnil hcells ha hl' hrow hbw hus
      go_wp2_with (first
        | (go_at_call 9; refine (lentBytes_any l hll Aj l.length cj B _ hBz HX.out.1 HX.out.2.1).mono ?_; rintro e w3 ⟨g, rfl, hg, hbk, hb3⟩; have hs3 := hb3.size; have HX3 := hide (And.intro hg (And.intro hbk hb3)); clear hg hbk hb3)
        | (at_builtin; (refine wpList_app (o := ⟨some 18, _, _, _, _, _⟩) rfl (.tmp 11) (.tmp 17) 48 rfl R 26 i (.slice none 0 0) 24 Try.underlying48 hi hz0 hz1 hz2 rfl (.slice A3 k cap3) k us (by have h := ((HX.out.2.2.1.keep HX3.out.2.2).own.alloc (.cells #[.slice (some ⟨g, 0, none⟩) l.length (l.length + 12)] 26)); rwa [HX.out.2.2.2.2.2] at h) (some ⟨w3.heap.size, 0, none⟩) 1 1 [.slice (some ⟨g, 0, none⟩) l.length (l.length + 12)] (src_one w3 _ 26 rfl) (by simp only [maxLen]; omega) (by omega) (by rw [size_alloc]; omega) rfl rfl ?_); intro v4 w4 own4 gr4 mv4 _; obtain ⟨A4, cap4, rfl⟩ := owned_slice own4; have HX4 := hide (And.intro own4 gr4); clear own4 gr4 mv4))
      go_roundw
      case rel =>
        obtain ⟨_, _, hrow, hbw, hl', hus⟩ := HX.out
        obtain ⟨hg, hbk, hb3⟩ := HX3.out
        obtain ⟨own4, gr4⟩ := HX4.out
        refine ⟨k + 1, us ++ [.slice (some ⟨g, 0, none⟩) l.length (l.length + 12)], A4, cap4, by omega, by go_num, rfl, ?_, ?_⟩
        · rw [List.take_succ_eq_append_getElem hlt, show ls[k] = l by rw [hl']; simp [List.getD, hlt]]
          refine ((hrow.keep hb3).keep ((Below.refl _ _).alloc (Nat.le_refl _) (.cells #[.slice (some ⟨g, 0, none⟩) l.length (l.length + 12)] 26))).grow (by rw [hus]; exact own4) gr4 rfl (by omega) (hbk.alloc _)
        · refine (((hbw.trans (hb3.mono (by omega))).alloc (by omega) (.cells #[.slice (some ⟨g, 0, none⟩) l.length (l.length + 12)] 26))).grown gr4 (by rw [size_alloc]; omega) (fun q hq => ?_)
          exact (owned_lt hrow.own hq).1
      case measure => simp [intOf]; omega
    · obtain rfl : k = ls.length := by omega
      rw [List.take_of_length_le (Nat.le_refl _)] at hrow
      go_wp2_with fail
      go_ret
      exact ⟨_, us, rfl, hrow, hbw⟩
end Go.Proofs.Ytjmenaplgndnnaa
