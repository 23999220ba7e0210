/- The walk of spencelaw04.DevDoes. -/
import Derived.Test.YtajeohmmobgcjaaDevDo2
namespace Go.Proofs.Ytajeohmmobgcjaa
open Go Go.RowKit
theorem deed_in {w : World} {B cap k : Nat} {A : Option Addr} {ls : List Deed} {d : Deed} (h : DeedsM w B (.slice A ls.length cap) ls) (hk : ls[k]? = some d) : ∃ b off, A = some ⟨b, off, none⟩ ∧ b < B ∧ DeedAt w B b (off + k * 4) d := by
  obtain ⟨A', cap', hv, hc, hA⟩ := h
  injection hv with e1 e2 e3
  subst e1 e3
  have hlt : k < ls.length := (List.getElem?_eq_some_iff.1 hk).1
  obtain ⟨b, off, h1, h2, h3⟩ := hA (by omega)
  have h4 := h3 k hlt
  rw [List.getD, hk] at h4
  exact ⟨b, off, h1, h2, h4⟩
theorem many_in {ls : List Deed} {k : Nat} {d : Deed} (hk : ls[k]? = some d) : d.b.length ≤ many ls := by
  have hlt : k < ls.length := (List.getElem?_eq_some_iff.1 hk).1
  have := many_get ls k hlt
  rwa [List.getD, hk] at this
theorem Two.zero {R g r : Nat} {w0 w : World} {Fd Fr : Nat → Prop} {D E : Dv} (h : Two R w0 w Fd Fr g r D E) : Two 0 w w Fd Fr g r D E := ⟨⟨h.mine.dev, Below.refl _ _, fun _ _ => Nat.zero_le _⟩, h.ref, fun _ _ => Nat.zero_le _, h.apart⟩
set_option maxRecDepth 100000
set_option maxHeartbeats 1000000 in
theorem devDoes_great (s : Int) (ls : List Deed) (A : Option Addr) (cap : Nat) (w : World) (hl : ls.length ≤ 140737488355328) (hb : ∀ p ∈ ls, p.b.length ≤ 140737488355328) (hv : DeedsM w w.heap.size (.slice A ls.length cap) ls) (hg : greatB s ls = true) :
    Calls Try.prog 7 #[.int .i64 s, .slice A ls.length cap] w fun e w' => e = .returned (.bool true) ∧ Below w.heap.size w w' := by
  have HV := hide (And.intro hv (And.intro hb hg))
  clear hv hb hg
  go_enter Try.func7, Try.ntmps7
  go_wp2_with fail
  refine (great_any s ls hl HV.out.2.1 _ _ _ HV.out.1).mono ?_
  rintro e w' ⟨rfl, rfl⟩
  rw [HV.out.2.2]
  dsimp only
  go_wp2_with fail
  refine (awake4_any _).mono ?_
  rintro e w1 ⟨rfl, hb1⟩
  have H1 := hide hb1
  clear hb1
  dsimp only
  go_wp2_with fail
  go_ret
  exact ⟨rfl, H1.out⟩
set_option maxHeartbeats 1000000 in
theorem devDoes_bad (s : Int) (ls : List Deed) (A : Option Addr) (cap : Nat) (w : World) (hl : ls.length ≤ 140737488355328) (hb : ∀ p ∈ ls, p.b.length ≤ 140737488355328) (hv : DeedsM w w.heap.size (.slice A ls.length cap) ls) (hg : greatB s ls = false) (hs : s < 1 ∨ 8192 < s) :
    Calls Try.prog 7 #[.int .i64 s, .slice A ls.length cap] w fun e w' => e = .returned (.bool true) ∧ Below w.heap.size w w' := by
  have HV := hide (And.intro hv (And.intro hb (And.intro hg hs)))
  clear hv hb hg hs
  go_enter Try.func7, Try.ntmps7
  go_wp2_with fail
  refine (great_any s ls hl HV.out.2.1 _ _ _ HV.out.1).mono ?_
  rintro e w' ⟨rfl, rfl⟩
  rw [HV.out.2.2.1]
  dsimp only
  go_wp2_with fail
  refine (new_bad s HV.out.2.2.2 _).mono ?_
  rintro e w' ⟨rfl, rfl⟩
  dsimp only
  go_wp2_with fail
  refine (rnew_bad s HV.out.2.2.2 _).mono ?_
  rintro e w' ⟨rfl, rfl⟩
  dsimp only
  go_wp2_with fail
  refine wp_loop_once ?_
  by_cases hlen : 0 < ls.length
  · have i1 : (0 : Int) < (ls.length : Int) := by omega
    go_wp2_with fail
    refine (awake4_any _).mono ?_
    rintro e w1 ⟨rfl, hb1⟩
    have H1 := hide hb1
    clear hb1
    dsimp only
    go_wp2_with fail
    go_ret
    exact ⟨rfl, H1.out⟩
  · have i1 : ls.length = 0 := by omega
    go_wp2_with fail
    refine (awake4_any _).mono ?_
    rintro e w1 ⟨rfl, hb1⟩
    have H1 := hide hb1
    clear hb1
    dsimp only
    go_wp2_with fail
    go_ret
    exact ⟨rfl, H1.out⟩
set_option maxHeartbeats 2000000 in
theorem devDoes_in (n : Nat) (ls : List Deed) (A : Option Addr) (cap : Nat) (w : World) (hv : DeedsM w w.heap.size (.slice A ls.length cap) ls) (hg : greatB (n : Int) ls = false) (hn : 1 ≤ n ∧ n ≤ 8192) :
    Calls Try.prog 7 #[.int .i64 (n : Int), .slice A ls.length cap] w fun e w' => e = .returned (.bool true) ∧ Below w.heap.size w w' := by
  have hgr := great_no hg
  have h60 : n ≤ 60 := by omega
  have h150 := hgr.1
  have hbb : ∀ p ∈ ls, p.b.length ≤ 140737488355328 := fun p hp => by
    obtain ⟨k, hk⟩ := List.mem_iff_getElem?.1 hp
    have := many_in hk
    omega
  have HV := hide (And.intro hv (And.intro hbb (And.intro hg hgr.2.1)))
  clear hv hbb hg hgr
  go_enter Try.func7, Try.ntmps7
  go_wp2_with fail
  refine (great_any (n : Int) ls (by omega) HV.out.2.1 _ _ _ HV.out.1).mono ?_
  rintro e w' ⟨rfl, rfl⟩
  rw [HV.out.2.2.1]
  dsimp only
  go_wp2_with fail
  refine (mineNew (R := w'.heap.size) (w0 := w') n hn (Below.refl _ _) (Nat.le_refl _)).mono ?_
  rintro e w2 ⟨g, F, rfl, hM⟩
  have M2 := hide hM
  clear hM
  dsimp only
  go_wp2_with fail
  refine (rnew_any n hn w2).mono ?_
  rintro e w3 ⟨r, Fr, rfl, hr3, hb3, hf3⟩
  have hT3 : Two w'.heap.size w' w3 F Fr g r (Dv.new n) (Dv.new n) := ⟨M2.out.grow (Nat.le_refl _) hb3, hr3, fun k hk => by have := hf3 k hk; have := M2.out.bel.size; omega, fun k hk hf => by have := hf3 k hf; have := M2.out.dev.lt k hk; omega⟩
  have H3 := hide hT3
  clear hr3 hb3 hf3 hT3 M2
  dsimp only
  go_wp2_with fail
  go_loopw [9] (fun v wr => ∃ (k : Nat) (Fd Fr : Nat → Prop) (D : Dv), k ≤ ls.length ∧ v = .int .i64 (k : Int) ∧ Two w'.heap.size w' wr Fd Fr g r D D ∧ D.kept.length = n ∧ D.pend.length ≤ k ∧ D.de ≤ k) (fun v _ => ls.length - (intOf v).toNat)
  case atStart => exact ⟨0, F, Fr, Dv.new n, by omega, rfl, H3.out, by simp [Dv.new], by simp [Dv.new], by simp [Dv.new]⟩
  case round =>
    obtain ⟨k, Fd, Fr', D, hk, rfl, hT, hkn, hpl, hdl⟩ := hrel
    have HT := hide hT
    have hde : D.de ≤ 100000000 := by omega
    have hm : D.pend.length ≤ 100000 := by omega
    have hk60 : D.kept.length ≤ 60 := by omega
    clear hT H3
    by_cases hkl : k < ls.length
    · have i1 : (k : Int) < (ls.length : Int) := by omega
      have i0 : (0 : Int) ≤ (k : Int) := by omega
      obtain ⟨d, hd⟩ : ∃ d, ls[k]? = some d := ⟨ls[k]'hkl, List.getElem?_eq_getElem _⟩
      obtain ⟨b, off, hA, hb, hda⟩ := deed_in HV.out.1 hd
      have hda2 := hda.alike hb (alike_of_below HT.out.mine.bel)
      obtain ⟨A', c', hc3, hby, hnil⟩ := hda2.c3
      have hc0 := hda2.c0
      have hc1 := hda2.c1
      have hc2 := hda2.c2
      have hk0 := hda2.k0
      have hk1 := hda2.k1
      have hk2 := hda2.k2
      have hdl2 : d.b.length ≤ 10000 := by have := many_in hd; have := HV.out.2.2.2; omega
      have HDC := hide (And.intro hby (And.intro hnil (And.intro hk0 (And.intro hk1 hk2))))
      subst hA
      clear hda hda2 hby hnil hd hk0 hk1 hk2 hb
      go_wp2_with fail
      refine (does_any wr HT.out (Nat.le_refl _) hde hm d A' c' HDC.out.1 HDC.out.2.1 HDC.out.2.2.1 HDC.out.2.2.2.1 HDC.out.2.2.2.2 hdl2).mono ?_
      rintro e w4 ⟨rfl, Fd4, Fr4, D4, hT4, hG4⟩
      have H4 := hide (And.intro hT4 hG4)
      have j1 : D4.kept.length = n := hG4.kept.trans hkn
      have j2 : D4.pend.length ≤ k + 1 := by have := hG4.pend; omega
      have j3 : D4.de ≤ (k : Int) + 1 := by have := hG4.de; omega
      clear hT4 hG4
      dsimp only
      go_wp2_with fail
      refine (same4_any w4 H4.out.1.zero (by omega) (by omega)).mono ?_
      rintro e w5 ⟨rfl, hb5⟩
      have H5 := hide (H4.out.1.grow (Nat.le_refl _) hb5)
      clear hb5
      dsimp only
      go_wp2_with fail
      go_roundw
      case rel => exact ⟨k + 1, Fd4, Fr4, D4, by omega, by go_num, H5.out, j1, j2, by omega⟩
      case measure => simp [intOf]; omega
    · obtain rfl : k = ls.length := by omega
      go_wp2_with fail
      refine (awake4_any _).mono ?_
      rintro e w4 ⟨rfl, hb4⟩
      have H4 := hide (HT.out.mine.bel.trans (Below.mono hb4 HT.out.mine.bel.size))
      clear hb4
      dsimp only
      go_wp2_with fail
      go_ret
      exact ⟨rfl, H4.out⟩
theorem devDoes_any (s : Int) (ls : List Deed) (A : Option Addr) (cap : Nat) (w : World) (hl : ls.length ≤ 140737488355328) (hb : ∀ p ∈ ls, p.b.length ≤ 140737488355328) (hv : DeedsM w w.heap.size (.slice A ls.length cap) ls) :
    Calls Try.prog 7 #[.int .i64 s, .slice A ls.length cap] w fun e w' => e = .returned (.bool true) ∧ Below w.heap.size w w' := by
  cases hg : greatB s ls with
  | true => exact devDoes_great s ls A cap w hl hb hv hg
  | false =>
    by_cases hs : s < 1 ∨ 8192 < s
    · exact devDoes_bad s ls A cap w hl hb hv hg hs
    · obtain ⟨n, rfl⟩ : ∃ n : Nat, s = (n : Int) := ⟨s.toNat, by omega⟩
      exact devDoes_in n ls A cap w hv hg (by omega)
end Go.Proofs.Ytajeohmmobgcjaa
