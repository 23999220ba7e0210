/- The walk of spencelaw04.DevWhole. -/
import Derived.Test.YtajeohmmobgcjaaDevN
import Derived.Test.YtajeohmmobgcjaaSameBytes
import Derived.Test.YtajeohmmobgcjaaPick
namespace Go.Proofs.Ytajeohmmobgcjaa
open Go Go.RowKit
theorem sz_deed : (Try.prog.info? 50).map (·.size) = some 4 := by kernel_rfl
theorem exec_index_at {P : Program} {ρ : Operand → Value} {o : Oper} (ty e : TypeId) (x i : Operand) (ho : o.op = .indexAddr ty x i) (b off n cap k : Nat) (hx : ρ x = .slice (some ⟨b, off, none⟩) n cap) (hi : ρ i = .int .i64 (k : Int)) (hk : k < n) (s : Nat) (hu : P.underlying ty = some (.slice e)) (hs : (P.info? e).map (·.size) = some s) (w : World) :
    (execOp ρ o).run P w = .ok (.value (.pointer (some ⟨b, off + k * s, none⟩))) w := by
  have e2 : P.elem ty = e := by simp [Program.elem, hu]
  unfold execOp
  simp only [ho, hx, hi, Sem.run_bind, Sem.run_pure, run_indexAt_slice w ty _ _ _ .i64 (k : Int) (by rw [e2]; exact hu), e2, if_pos (show (0 : Int) ≤ (k : Int) ∧ (k : Int) < (n : Int) by omega)]
  cases hq : P.info? e with
  | none => simp [hq] at hs
  | some i =>
    have h1 : i.size = s := by simpa [hq] using hs
    simp [sizeOf, typeInfo, hq, h1, Addr.add_mid]
/-- one deed in memory -/
theorem deed_at {w : World} {B cap k : Nat} {A : Option Addr} {ls : List Deed} {d : Deed} (h : DeedsM w B (.slice A ls.length cap) ls) (hk : ls[k]? = some d) : ∃ b off, A = some ⟨b, off, none⟩ ∧ b < B ∧ DeedAt w B b (off + k * 4) d := by
  obtain ⟨A', cap', hv, hc, hA⟩ := h
  injection hv with e1 e2 e3
  subst e1 e3
  have hlt : k < ls.length := (List.getElem?_eq_some_iff.1 hk).1
  obtain ⟨b, off, h1, h2, h3⟩ := hA (by omega)
  have h4 := h3 k hlt
  rw [List.getD, hk] at h4
  exact ⟨b, off, h1, h2, h4⟩
theorem many_mem {ls : List Deed} {k : Nat} {d : Deed} (hk : ls[k]? = some d) : d.b.length ≤ many ls := by
  have hlt : k < ls.length := (List.getElem?_eq_some_iff.1 hk).1
  have := many_get ls k hlt
  rwa [List.getD, hk] at this
section
variable {R g : Nat} {w0 w w' : World} {F : Nat → Prop} {D D' : Dv}
/-- a deed of one's own device, and what it turns -/
def Dealt (R : Nat) (w0 w : World) (F : Nat → Prop) (g : Nat) (D' : Dv) (w' : World) : Prop := ∃ F', Mine R w0 w' F' g D' ∧ Turned F w w' ∧ ∀ k, F' k → F k ∨ w.heap.size ≤ k
theorem Mine.deal (h : Mine R w0 w F g D) (hR : R ≤ w0.heap.size) (hl : Left w F g D' w') : Dealt R w0 w F g D' w' := by
  obtain ⟨F', h1, h2, h3⟩ := hl
  have hs := h.bel.size
  refine ⟨F', ⟨h1, ⟨h2.os.trans h.bel.os, h2.tape.trans h.bel.tape, h2.output.trans h.bel.output, Nat.le_trans hs h2.size, fun k hk => (h2.block k (by omega) (fun hf => by have := h.low k hf; omega)).trans (h.bel.block k hk)⟩, fun k hk => ?_⟩, h2, h3⟩
  rcases h3 k hk with h3 | h3
  · exact h.low k h3
  · omega
theorem dealWrite (h : Mine R w0 w F g D) (hR : R ≤ w0.heap.size) (x : Int) (l : List UInt8) (A : Option Addr) (cap : Nat) (hde : D.de ≤ 1000000000) (hm : D.pend.length ≤ 100000) (hx : -9223372036854775808 ≤ x ∧ x ≤ 9223372036854775807) (hl : l.length ≤ 1000000000)
    (hs : Src w A l.length cap (bv l)) (hsb : ∀ ad, A = some ad → 0 < l.length → ¬ F ad.block) :
    Calls Try.prog 27 #[.pointer (some ⟨g, 0, none⟩), .int .i64 x, .slice A l.length cap] w fun e w' => e = .returned (.int .i64 (D.write x l).1) ∧ Dealt R w0 w F g (D.write x l).2 w' :=
  (write_any x l A cap w h.dev hde hm hx hl hs hsb).mono fun _ _ ⟨h1, h2⟩ => ⟨h1, h.deal hR h2⟩
theorem dealCrash (h : Mine R w0 w F g D) (hR : R ≤ w0.heap.size) : Calls Try.prog 32 #[.pointer (some ⟨g, 0, none⟩)] w fun e w' => e = .returned (.int .i64 D.crash.1) ∧ Dealt R w0 w F g D.crash.2 w' :=
  (crashDev_any w h.dev).mono fun _ _ ⟨h1, h2⟩ => ⟨h1, h.deal hR h2⟩
theorem dealWake (h : Mine R w0 w F g D) (hR : R ≤ w0.heap.size) (x : Int) (hm : D.pend.length ≤ 100000) : Calls Try.prog 33 #[.pointer (some ⟨g, 0, none⟩), .int .i64 x] w fun e w' => e = .returned (.int .i64 (D.wake x).1) ∧ Dealt R w0 w F g (D.wake x).2 w' :=
  (wake_any x w h.dev hm).mono fun _ _ ⟨h1, h2⟩ => ⟨h1, h.deal hR h2⟩
/-- a row that is not the device's -/
structure Aside (F : Nat → Prop) (w : World) (q cap : Nat) (l : List UInt8) : Prop where
  own : w.ownsRow 0 5 1 (.slice (some ⟨q, 0, none⟩) l.length cap) l.length (bv l)
  far : ¬ F q
theorem Aside.lt {q cap : Nat} {l : List UInt8} (h : Aside F w q cap l) : q < w.heap.size := (owned_ltN h.own rfl).2
theorem Aside.grow {q cap : Nat} {l : List UInt8} (h : Aside F w q cap l) (hb : Below w.heap.size w w') : Aside F w' q cap l := ⟨owned_keepN h.own fun k _ hl => hb.block k hl, h.far⟩
theorem Aside.dealt {q cap : Nat} {l : List UInt8} {F' : Nat → Prop} (h : Aside F w q cap l) (ht : Turned F w w') (hF : ∀ k, F' k → F k ∨ w.heap.size ≤ k) : Aside F' w' q cap l :=
  ⟨owned_keepN h.own fun k hk hl => ht.block k hl (fun hf => by
    have hk : some q = some k := hk
    injection hk with hk
    exact h.far (by rw [hk]; exact hf)), fun hf => by
    rcases hF q hf with h1 | h1
    · exact h.far h1
    · have := h.lt; omega⟩
theorem keptAside (h : Mine R w0 w F g D) (hR : R ≤ w0.heap.size) : Calls Try.prog 30 #[.pointer (some ⟨g, 0, none⟩)] w fun e w' => ∃ q cap, e = .returned (.slice (some ⟨q, 0, none⟩) D.kept.flatten.length cap) ∧ Aside F w' q cap D.kept.flatten ∧ Mine R w0 w' F g D ∧ Below w.heap.size w w' := by
  refine (keptDev_any w h.dev).mono ?_
  rintro e w' ⟨v, rfl, h2, h3⟩
  obtain ⟨rk, c, vp, rfl, _, _, _, hok⟩ := h.dev
  have hlen : D.kept.flatten.length = D.kept.length * 64 := flat_len _ hok.k64
  have h1 := hok.n1
  obtain ⟨q, cap, rfl⟩ := owned_placeN h2 (by omega)
  rw [← hlen] at h2 ⊢
  have hq := (owned_ltN h2 (g := q) rfl).1
  exact ⟨q, cap, rfl, ⟨owned_baseN h2 fun _ _ => Nat.zero_le _, fun hf => by have := h.dev.lt q hf; omega⟩, h.grow hR h3, h3⟩
theorem bytes_grow {v : Value} {l : List UInt8} (h : BytesAt w w.heap.size v l) (hb : Below w.heap.size w w') : BytesAt w' w'.heap.size v l := by
  obtain ⟨A, cap, hv, hc, hA⟩ := h.alike (alike_of_below hb)
  exact ⟨A, cap, hv, hc, fun h0 => by
    obtain ⟨b, off, h1, h2, h3⟩ := hA h0
    exact ⟨b, off, h1, Nat.lt_of_lt_of_le h2 hb.size, h3⟩⟩
theorem Aside.cap {q cap : Nat} {l : List UInt8} (h : Aside F w q cap l) : l.length ≤ cap := by
  rcases owned_formN h.own with ⟨h, _⟩ | ⟨g', cap', cur, h', hb, hn, _⟩
  · cases h
  · injection h' with _ _ e3
    omega
theorem Mine.flat (h : Mine R w0 w F g D) : D.kept.flatten.length = D.kept.length * 64 ∧ ∀ b ∈ D.kept, b.length = 64 := by
  obtain ⟨rk, c, vp, rfl, _, _, _, hok⟩ := h.dev
  exact ⟨flat_len _ hok.k64, hok.k64⟩
/-- a sector's bytes, cut out of all that is kept -/
theorem sector_bytes {q cap k c : Nat} {K : List (List UInt8)} {b : List UInt8} (h : w.ownsRow 0 5 1 (.slice (some ⟨q, 0, none⟩) K.flatten.length cap) K.flatten.length (bv K.flatten)) (hK : ∀ b ∈ K, b.length = 64) (hk : K[k]? = some b) (hc : 64 ≤ c) : BytesAt w w.heap.size (.slice (some ⟨q, 64 * k, none⟩) 64 c) b := by
  rw [Nat.mul_comm 64 k]
  have hb : b.length = 64 := hK b (List.mem_of_getElem? hk)
  refine ⟨_, c, by rw [hb], by omega, fun _ => ⟨q, k * 64, rfl, (owned_ltN h rfl).2, fun j hj => ?_⟩⟩
  have hr := own_range h (k * 64) 64 (bv b) (by rw [← kept_bv]; exact kept_at K k b hK hk)
  refine hr j _ ?_
  simp [bv, List.getD, hj]
end
set_option maxRecDepth 100000
set_option maxHeartbeats 2000000 in
theorem devWhole_in (s : Nat) (x : Int) (f t : List Deed) (fcap tcap : Nat) (fA tA : Option Addr) (w : World) (hs : 1 ≤ s ∧ s ≤ 60) (hx : -9223372036854775808 ≤ x ∧ x ≤ 9223372036854775807) (hf : DeedsM w w.heap.size (.slice fA f.length fcap) f) (ht : DeedsM w w.heap.size (.slice tA t.length tcap) t)
    (hgf : greatB (s : Int) f = false) (hgt : greatB (s : Int) t = false) :
    Calls Try.prog 5 #[.int .i64 (s : Int), .slice fA f.length fcap, .slice tA t.length tcap, .int .i64 x] w fun e w' => e = .returned (.bool true) ∧ Below w.heap.size w w' := by
  have hs1 : (1 : Int) ≤ (s : Int) := by omega
  have hs2 : (s : Int) ≤ 60 := by omega
  have hfl := great_no hgf
  have htl := great_no hgt
  have HG := hide (And.intro hgf hgt)
  have HF := hide hf
  have HT := hide ht
  have hflen := hfl.1
  have htlen := htl.1
  have HFM := hide hfl
  have HTM := hide htl
  have hbf : ∀ p ∈ f, p.b.length ≤ 140737488355328 := fun p hp => by
    obtain ⟨k, hk⟩ := List.mem_iff_getElem?.1 hp
    have := many_mem hk
    omega
  have hbt : ∀ p ∈ t, p.b.length ≤ 140737488355328 := fun p hp => by
    obtain ⟨k, hk⟩ := List.mem_iff_getElem?.1 hp
    have := many_mem hk
    omega
  have HBS := hide (And.intro hbf hbt)
  clear hgf hgt hf ht hfl htl hbf hbt
  go_enter Try.func5, Try.ntmps5
  go_wp2_with fail
  refine (awake4_any _).mono ?_
  rintro e wa ⟨rfl, hba⟩
  have HA := hide hba
  have HF1 := hide (HF.out.alike (alike_of_below hba))
  have HT1 := hide (HT.out.alike (alike_of_below hba))
  clear hba
  dsimp only
  go_wp2_with fail
  refine (great_any (s : Int) f (by omega) HBS.out.1 _ _ _ HF1.out).mono ?_
  rintro e w1 ⟨rfl, rfl⟩
  rw [HG.out.1]
  dsimp only
  go_wp2_with fail
  refine (great_any (s : Int) t (by omega) HBS.out.2 _ _ _ HT1.out).mono ?_
  rintro e w2 ⟨rfl, rfl⟩
  rw [HG.out.2]
  dsimp only
  go_wp2_with fail
  refine (mineNew (R := w.heap.size) (w0 := w) s (by omega) HA.out (Nat.le_refl _)).mono ?_
  rintro e w3 ⟨g, F, rfl, hM⟩
  have M1 := hide hM
  clear hM HF1 HT1
  dsimp only
  go_wp2_with fail
  go_loopw [11] (fun v wr => ∃ (k : Nat) (F : Nat → Prop) (D : Dv), k ≤ f.length ∧ v = .int .i64 (k : Int) ∧ Mine w.heap.size w wr F g D ∧ Live D s k) (fun v _ => f.length - (intOf v).toNat)
  case atStart => exact ⟨0, F, _, by omega, rfl, M1.out, live_new s⟩
  case round =>
    obtain ⟨k, F1, D, hk, rfl, hM, hl⟩ := hrel
    have HM := hide (And.intro hM hl)
    have hde : D.de ≤ 1000000000 := by have := hl.de; omega
    have hpl : D.pend.length ≤ 100000 := by have := hl.pe; omega
    clear hM hl M1
    by_cases hk2 : k < f.length
    · have n1 : (k : Int) < (f.length : Int) := by omega
      obtain ⟨d, hd⟩ : ∃ d, f[k]? = some d := ⟨f[k]'hk2, List.getElem?_eq_getElem _⟩
      obtain ⟨fb, foff, hfA, hfb, hda⟩ := deed_at HF.out hd
      have hda2 := hda.alike hfb (alike_of_below HM.out.1.bel)
      obtain ⟨A', c', hc3, hby, hnil⟩ := hda2.c3
      have hbw : fb < wr.heap.size := by have := HM.out.1.bel.size; omega
      have hdl : d.b.length ≤ 10000 := by have := many_mem hd; have := HFM.out.2.1; omega
      have HDC := hide (And.intro hda2.c1 (And.intro hc3 (And.intro hby (And.intro hnil hda2.k1))))
      subst hfA
      clear hda hda2 hc3 hby hnil hd HF
      go_wp2_with fail
      refine wp_made 13 [] (by kernel_rfl) (by kernel_rfl) (by intro p hp; cases hp) List.nodup_nil (by intro t ht; cases ht) ?_
      simp only [List.take_succ_cons, List.take_zero, List.drop_succ_cons, List.drop_zero]
      refine made_val (.pointer (some ⟨g, 0, none⟩)) (by kernel_rfl) (by kernel_rfl) (by kernel_rfl) (fun _ _ => by kernel_rfl) ?_
      simp only [Act.put, List.setIfInBounds_toArray, List.set_cons_zero, List.set_cons_succ]
      refine made_val (.slice (some ⟨fb, foff, none⟩) f.length fcap) (by kernel_rfl) (by kernel_rfl) (by kernel_rfl) (fun _ _ => by kernel_rfl) ?_
      simp only [Act.put, List.setIfInBounds_toArray, List.set_cons_zero, List.set_cons_succ]
      refine made_val (.int .i64 (k : Int)) (by kernel_rfl) (by kernel_rfl) (by kernel_rfl) (fun _ _ => by kernel_rfl) ?_
      simp only [Act.put, List.setIfInBounds_toArray, List.set_cons_zero, List.set_cons_succ]
      refine made_val (.pointer (some ⟨fb, foff + k * 4, none⟩)) (by kernel_rfl) (by kernel_rfl) (by kernel_rfl) (fun W _ => exec_index_at (o := ⟨some 55, _, _, _, _, _⟩) 41 50 (.tmp 53) (.tmp 54) rfl fb foff f.length fcap k rfl rfl hk2 4 Try.underlying41 sz_deed W) ?_
      simp only [Act.put, List.setIfInBounds_toArray, List.set_cons_zero, List.set_cons_succ]
      refine made_val (.pointer (some ⟨fb, foff + k * 4 + 1, none⟩)) (by kernel_rfl) (by kernel_rfl) (by kernel_rfl) (fun _ _ => by kernel_rfl) ?_
      simp only [Act.put, List.setIfInBounds_toArray, List.set_cons_zero, List.set_cons_succ]
      refine made_val (.int .i64 d.n) (by kernel_rfl) (by kernel_rfl) (by kernel_rfl) (fun W hW => exec_load_cell (o := ⟨some 57, _, _, _, _, _⟩) 3 (.tmp 56) rfl ⟨fb, foff + k * 4 + 1, none⟩ rfl _ _ W Try.underlying3 rfl ((hW.cell (p := ⟨fb, foff + k * 4 + 1, none⟩) hbw).trans HDC.out.1)) ?_
      simp only [Act.put, List.setIfInBounds_toArray, List.set_cons_zero, List.set_cons_succ]
      refine made_val (.int .i64 (s : Int)) (by kernel_rfl) (by kernel_rfl) (by kernel_rfl) (fun _ _ => by kernel_rfl) ?_
      simp only [Act.put, List.setIfInBounds_toArray, List.set_cons_zero, List.set_cons_succ]
      refine made_call (.int .i64 (d.n % (s : Int))) 28 #[.int .i64 d.n, .int .i64 (s : Int)] (by kernel_rfl) (by kernel_rfl) (by kernel_rfl) (fun W => by kernel_rfl) (fun W _ => (pick_any d.n (s : Int) W (by omega) (by omega) HDC.out.2.2.2.2).mono fun e w' ⟨h1, h2⟩ => ⟨h1, by rw [← h2]; exact Below.refl _ _⟩) ?_
      simp only [Act.put, List.setIfInBounds_toArray, List.set_cons_zero, List.set_cons_succ]
      refine made_val (.slice (some ⟨fb, foff, none⟩) f.length fcap) (by kernel_rfl) (by kernel_rfl) (by kernel_rfl) (fun _ _ => by kernel_rfl) ?_
      simp only [Act.put, List.setIfInBounds_toArray, List.set_cons_zero, List.set_cons_succ]
      refine made_val (.int .i64 (k : Int)) (by kernel_rfl) (by kernel_rfl) (by kernel_rfl) (fun _ _ => by kernel_rfl) ?_
      simp only [Act.put, List.setIfInBounds_toArray, List.set_cons_zero, List.set_cons_succ]
      refine made_val (.pointer (some ⟨fb, foff + k * 4, none⟩)) (by kernel_rfl) (by kernel_rfl) (by kernel_rfl) (fun W _ => exec_index_at (o := ⟨some 62, _, _, _, _, _⟩) 41 50 (.tmp 60) (.tmp 61) rfl fb foff f.length fcap k rfl rfl hk2 4 Try.underlying41 sz_deed W) ?_
      simp only [Act.put, List.setIfInBounds_toArray, List.set_cons_zero, List.set_cons_succ]
      refine made_val (.pointer (some ⟨fb, foff + k * 4 + 3, none⟩)) (by kernel_rfl) (by kernel_rfl) (by kernel_rfl) (fun _ _ => by kernel_rfl) ?_
      simp only [Act.put, List.setIfInBounds_toArray, List.set_cons_zero, List.set_cons_succ]
      refine made_val (.slice A' d.b.length c') (by kernel_rfl) (by kernel_rfl) (by kernel_rfl) (fun W hW => exec_load_slice (o := ⟨some 64, _, _, _, _, _⟩) 48 5 (.tmp 63) rfl ⟨fb, foff + k * 4 + 3, none⟩ rfl _ W Try.underlying48 ((hW.cell (p := ⟨fb, foff + k * 4 + 3, none⟩) hbw).trans HDC.out.2.1)) ?_
      simp only [Act.put, List.setIfInBounds_toArray, List.set_cons_zero, List.set_cons_succ]
      show ∀ w', _ → _
      intro w3 hb3
      simp only [ended]
      have hM3 : Mine w.heap.size w w3 F1 g D := HM.out.1.grow (Nat.le_refl _) hb3
      have hsrc : Src w3 A' d.b.length c' (bv d.b) := (bv_src HDC.out.2.2.1 HDC.out.2.2.2.1).turned2 (Turned.of_below hb3 (fun _ => False)) (fun _ _ _ h => h)
      have hsb : ∀ ad, A' = some ad → 0 < d.b.length → ¬ F1 ad.block := fun ad ha h0 hF => by
        obtain ⟨_, _, hv, _, hA⟩ := HDC.out.2.2.1
        injection hv with e1 _ _
        obtain ⟨b, off, e, hlt, _⟩ := hA h0
        rw [← e1, ha] at e
        injection e with e
        have := HM.out.1.low _ hF
        rw [e] at this
        have : w.heap.size ≤ b := this
        omega
      have H3 := hide (And.intro hM3 (And.intro hsrc hsb))
      clear hM3 hsrc hsb hb3
      have hps := Int.emod_lt_of_pos d.n (show (0 : Int) < (s : Int) by omega)
      have hpg := Int.emod_nonneg d.n (show (s : Int) ≠ 0 by omega)
      go_wp2_with fail
      refine (mineWrite H3.out.1 (Nat.le_refl _) (d.n % (s : Int)) d.b A' c' hde hpl (by omega) (by omega) H3.out.2.1 H3.out.2.2).mono ?_
      rintro e w4 ⟨rfl, F4, hM⟩
      have M4 := hide (And.intro hM (live_write HM.out.2 hs.1 d).1)
      clear hM HM H3
      dsimp only
      go_wp2_with fail
      go_roundw
      case rel => exact ⟨k + 1, F4, _, by omega, by go_num, M4.out.1, M4.out.2⟩
      case measure => simp [intOf]; omega
    · obtain rfl : k = f.length := by omega
      go_wp2_with fail
      refine (mineFlush HM.out.1 (Nat.le_refl _) hde hpl).mono ?_
      rintro e w4 ⟨rfl, F4, hM⟩
      have hl := live_flush HM.out.2
      rw [hl.1]
      obtain ⟨D4, hD4⟩ : ∃ E, E = D.flush.2 := ⟨_, rfl⟩
      rw [← hD4] at hM hl
      have M4 := hide (And.intro hM hl.2)
      clear hM hl hD4 HM hde hpl HF
      dsimp only
      go_wp2_with fail
      refine (keptAside M4.out.1 (Nat.le_refl _)).mono ?_
      rintro e w5 ⟨q, qc, rfl, hq, hM, _⟩
      have M5 := hide (And.intro hM (And.intro M4.out.2 hq))
      obtain ⟨K0, hK0⟩ : ∃ K, K = D4.kept := ⟨_, rfl⟩
      obtain ⟨L0, hL0⟩ : ∃ L, L = K0.flatten := ⟨_, rfl⟩
      have HK0 := hide hK0
      have HL0 := hide hL0
      rw [← hK0, ← hL0]
      clear hM hq M4 hK0 hL0
      dsimp only
      go_wp2_with fail
      go_loopw [13] (fun v wr => ∃ (k : Nat) (F : Nat → Prop) (D : Dv), k ≤ t.length ∧ v = .int .i64 (k : Int) ∧ Mine w.heap.size w wr F g D ∧ Live D s (f.length + 1 + k) ∧ D.kept = K0 ∧ D.pend = pendOf s (t.take k) ∧ Aside F wr q qc L0) (fun v _ => t.length - (intOf v).toNat)
      case atStart => exact ⟨0, F4, D4, by omega, rfl, M5.out.1, M5.out.2.1.1, HK0.out.symm, by rw [M5.out.2.1.2]; rfl, by rw [HL0.out, HK0.out]; exact M5.out.2.2⟩
      case round =>
        obtain ⟨k, F1, D, hk, rfl, hM, hl, hkk, hpp, has⟩ := hrel
        have HM := hide (And.intro hM (And.intro hl (And.intro hkk (And.intro hpp has))))
        have hde : D.de ≤ 1000000000 := by have := hl.de; omega
        have hpl : D.pend.length ≤ 100000 := by have := hl.pe; omega
        clear hM hl hkk hpp has M5
        by_cases hk2 : k < t.length
        · have n1 : (k : Int) < (t.length : Int) := by omega
          obtain ⟨d, hd⟩ : ∃ d, t[k]? = some d := ⟨t[k]'hk2, List.getElem?_eq_getElem _⟩
          obtain ⟨tb, toff, htA, htb, hda⟩ := deed_at HT.out hd
          have hda2 := hda.alike htb (alike_of_below HM.out.1.bel)
          obtain ⟨A', c', hc3, hby, hnil⟩ := hda2.c3
          have hbw : tb < wr.heap.size := by have := HM.out.1.bel.size; omega
          have hdl : d.b.length ≤ 10000 := by have := many_mem hd; have := HTM.out.2.1; omega
          have HDC := hide (And.intro hda2.c1 (And.intro hc3 (And.intro hby (And.intro hnil hda2.k1))))
          have HD := hide hd
          subst htA
          clear hda hda2 hc3 hby hnil hd HT
          go_wp2_with fail
          refine wp_made 13 [] (by kernel_rfl) (by kernel_rfl) (by intro p hp; cases hp) List.nodup_nil (by intro t ht; cases ht) ?_
          simp only [List.take_succ_cons, List.take_zero, List.drop_succ_cons, List.drop_zero]
          refine made_val (.pointer (some ⟨g, 0, none⟩)) (by kernel_rfl) (by kernel_rfl) (by kernel_rfl) (fun _ _ => by kernel_rfl) ?_
          simp only [Act.put, List.setIfInBounds_toArray, List.set_cons_zero, List.set_cons_succ]
          refine made_val (.slice (some ⟨tb, toff, none⟩) t.length tcap) (by kernel_rfl) (by kernel_rfl) (by kernel_rfl) (fun _ _ => by kernel_rfl) ?_
          simp only [Act.put, List.setIfInBounds_toArray, List.set_cons_zero, List.set_cons_succ]
          refine made_val (.int .i64 (k : Int)) (by kernel_rfl) (by kernel_rfl) (by kernel_rfl) (fun _ _ => by kernel_rfl) ?_
          simp only [Act.put, List.setIfInBounds_toArray, List.set_cons_zero, List.set_cons_succ]
          refine made_val (.pointer (some ⟨tb, toff + k * 4, none⟩)) (by kernel_rfl) (by kernel_rfl) (by kernel_rfl) (fun W _ => exec_index_at (o := ⟨some 80, _, _, _, _, _⟩) 41 50 (.tmp 78) (.tmp 79) rfl tb toff t.length tcap k rfl rfl hk2 4 Try.underlying41 sz_deed W) ?_
          simp only [Act.put, List.setIfInBounds_toArray, List.set_cons_zero, List.set_cons_succ]
          refine made_val (.pointer (some ⟨tb, toff + k * 4 + 1, none⟩)) (by kernel_rfl) (by kernel_rfl) (by kernel_rfl) (fun _ _ => by kernel_rfl) ?_
          simp only [Act.put, List.setIfInBounds_toArray, List.set_cons_zero, List.set_cons_succ]
          refine made_val (.int .i64 d.n) (by kernel_rfl) (by kernel_rfl) (by kernel_rfl) (fun W hW => exec_load_cell (o := ⟨some 82, _, _, _, _, _⟩) 3 (.tmp 81) rfl ⟨tb, toff + k * 4 + 1, none⟩ rfl _ _ W Try.underlying3 rfl ((hW.cell (p := ⟨tb, toff + k * 4 + 1, none⟩) hbw).trans HDC.out.1)) ?_
          simp only [Act.put, List.setIfInBounds_toArray, List.set_cons_zero, List.set_cons_succ]
          refine made_val (.int .i64 (s : Int)) (by kernel_rfl) (by kernel_rfl) (by kernel_rfl) (fun _ _ => by kernel_rfl) ?_
          simp only [Act.put, List.setIfInBounds_toArray, List.set_cons_zero, List.set_cons_succ]
          refine made_call (.int .i64 (d.n % (s : Int))) 28 #[.int .i64 d.n, .int .i64 (s : Int)] (by kernel_rfl) (by kernel_rfl) (by kernel_rfl) (fun W => by kernel_rfl) (fun W _ => (pick_any d.n (s : Int) W (by omega) (by omega) HDC.out.2.2.2.2).mono fun e w' ⟨h1, h2⟩ => ⟨h1, by rw [← h2]; exact Below.refl _ _⟩) ?_
          simp only [Act.put, List.setIfInBounds_toArray, List.set_cons_zero, List.set_cons_succ]
          refine made_val (.slice (some ⟨tb, toff, none⟩) t.length tcap) (by kernel_rfl) (by kernel_rfl) (by kernel_rfl) (fun _ _ => by kernel_rfl) ?_
          simp only [Act.put, List.setIfInBounds_toArray, List.set_cons_zero, List.set_cons_succ]
          refine made_val (.int .i64 (k : Int)) (by kernel_rfl) (by kernel_rfl) (by kernel_rfl) (fun _ _ => by kernel_rfl) ?_
          simp only [Act.put, List.setIfInBounds_toArray, List.set_cons_zero, List.set_cons_succ]
          refine made_val (.pointer (some ⟨tb, toff + k * 4, none⟩)) (by kernel_rfl) (by kernel_rfl) (by kernel_rfl) (fun W _ => exec_index_at (o := ⟨some 87, _, _, _, _, _⟩) 41 50 (.tmp 85) (.tmp 86) rfl tb toff t.length tcap k rfl rfl hk2 4 Try.underlying41 sz_deed W) ?_
          simp only [Act.put, List.setIfInBounds_toArray, List.set_cons_zero, List.set_cons_succ]
          refine made_val (.pointer (some ⟨tb, toff + k * 4 + 3, none⟩)) (by kernel_rfl) (by kernel_rfl) (by kernel_rfl) (fun _ _ => by kernel_rfl) ?_
          simp only [Act.put, List.setIfInBounds_toArray, List.set_cons_zero, List.set_cons_succ]
          refine made_val (.slice A' d.b.length c') (by kernel_rfl) (by kernel_rfl) (by kernel_rfl) (fun W hW => exec_load_slice (o := ⟨some 89, _, _, _, _, _⟩) 48 5 (.tmp 88) rfl ⟨tb, toff + k * 4 + 3, none⟩ rfl _ W Try.underlying48 ((hW.cell (p := ⟨tb, toff + k * 4 + 3, none⟩) hbw).trans HDC.out.2.1)) ?_
          simp only [Act.put, List.setIfInBounds_toArray, List.set_cons_zero, List.set_cons_succ]
          show ∀ w', _ → _
          intro w3 hb3
          simp only [ended]
          have hM3 : Mine w.heap.size w w3 F1 g D := HM.out.1.grow (Nat.le_refl _) hb3
          have hsrc : Src w3 A' d.b.length c' (bv d.b) := (bv_src HDC.out.2.2.1 HDC.out.2.2.2.1).turned2 (Turned.of_below hb3 (fun _ => False)) (fun _ _ _ h => h)
          have hsb : ∀ ad, A' = some ad → 0 < d.b.length → ¬ F1 ad.block := fun ad ha h0 hF => by
            obtain ⟨_, _, hv, _, hA⟩ := HDC.out.2.2.1
            injection hv with e1 _ _
            obtain ⟨b, off, e, hlt, _⟩ := hA h0
            rw [← e1, ha] at e
            injection e with e
            have := HM.out.1.low _ hF
            rw [e] at this
            have : w.heap.size ≤ b := this
            omega
          have H3 := hide (And.intro hM3 (And.intro hsrc (And.intro hsb (HM.out.2.2.2.2.grow hb3))))
          clear hM3 hsrc hsb hb3
          have hps := Int.emod_lt_of_pos d.n (show (0 : Int) < (s : Int) by omega)
          have hpg := Int.emod_nonneg d.n (show (s : Int) ≠ 0 by omega)
          go_wp2_with fail
          refine (dealWrite H3.out.1 (Nat.le_refl _) (d.n % (s : Int)) d.b A' c' hde hpl (by omega) (by omega) H3.out.2.1 H3.out.2.2.1).mono ?_
          rintro e w4 ⟨rfl, F4, hM, ht4, hF4⟩
          have M4 := hide (And.intro hM (And.intro (live_write HM.out.2.1 hs.1 d) (H3.out.2.2.2.dealt ht4 hF4)))
          clear hM ht4 hF4
          dsimp only
          go_wp2_with fail
          go_roundw
          case rel =>
            refine ⟨k + 1, F4, _, by omega, by go_num, M4.out.1, M4.out.2.1.1, M4.out.2.1.2.1.trans HM.out.2.2.1, ?_, M4.out.2.2⟩
            rw [M4.out.2.1.2.2, HM.out.2.2.2.1, List.take_add_one, HD.out, ← pend_snoc]
            rfl
          case measure => simp [intOf]; omega
        · obtain rfl : k = t.length := by omega
          go_wp2_with fail
          refine (keptAside HM.out.1 (Nat.le_refl _)).mono ?_
          rintro e w6 ⟨q2, qc2, rfl, hq2, hM, hb6⟩
          have hfl := hM.flat
          have hkl := HM.out.2.1.kl
          rw [HM.out.2.2.1] at hq2 hfl hkl ⊢
          rw [hkl] at hfl
          rw [← HL0.out] at hq2 hfl ⊢
          have hlenK : (L0.length : Int) = 64 * (s : Int) := by omega
          have hq1 := HM.out.2.2.2.2.grow hb6
          have hqc := hq1.cap
          have HK := hide hfl.2
          have HKL := hide hkl
          have M6 := hide (And.intro hM (And.intro hq1 hq2))
          have hsmall : L0.length ≤ 1099511627776 := by omega
          clear hM hq1 hq2 hb6 hfl hkl
          dsimp only
          go_wp2_with fail
          refine (sameBytes_any L0 L0 hsmall hsmall _ _ _ _ (bytesAt_owned M6.out.2.2.own) (bytesAt_owned M6.out.2.1.own)).mono ?_
          rintro e w7 ⟨rfl, k7, hw7⟩
          have hb7 : Below w6.heap.size w6 w7 := by rw [hw7]; exact below_drewN (Below.refl _ _) _
          rw [decide_eq_true rfl]
          have M7 := hide (And.intro (M6.out.1.grow (Nat.le_refl _) hb7) (M6.out.2.1.grow hb7))
          clear M6 hw7 hb7
          dsimp only
          go_wp2_with fail
          refine (dealCrash M7.out.1 (Nat.le_refl _)).mono ?_
          rintro e w8 ⟨rfl, F8, hM, ht8, hF8⟩
          have hcr := live_crash HM.out.2.1
          rw [hcr.1]
          rw [hcr.2] at hM
          have hwk : (({ D with dn := true } : Dv).wake x).1 = 0 ∧ (({ D with dn := true } : Dv).wake x).2.kept = settleL (wakeB (IntKind.u64.wrap x)) 0 (pendOf s t) K0 := by
            refine ⟨(down_wake D x).1, ?_⟩
            rw [(down_wake D x).2.1, HM.out.2.2.1, HM.out.2.2.2.1, show t.take t.length = t from List.take_length]
          obtain ⟨D8, hD8⟩ : ∃ E : Dv, E = { D with dn := true } := ⟨_, rfl⟩
          have hpl8 : D8.pend.length ≤ 100000 := by rw [hD8]; exact hpl
          rw [← hD8] at hM hwk
          have M8 := hide (And.intro hM (And.intro (M7.out.2.dealt ht8 hF8) hwk))
          clear hM ht8 hF8 M7 hcr hwk hD8
          dsimp only
          go_wp2_with fail
          refine (dealWake M8.out.1 (Nat.le_refl _) x hpl8).mono ?_
          rintro e w9 ⟨rfl, F9, hM, ht9, hF9⟩
          rw [M8.out.2.2.1]
          obtain ⟨D9, hD9⟩ : ∃ E, E = (D8.wake x).2 := ⟨_, rfl⟩
          have hwk := M8.out.2.2.2
          rw [← hD9] at hM hwk
          have M9 := hide (And.intro hM (And.intro (M8.out.2.1.dealt ht9 hF9) hwk))
          clear hM ht9 hF9 M8 hwk hD9 hpl8
          dsimp only
          go_wp2_with fail
          refine (keptAside M9.out.1 (Nat.le_refl _)).mono ?_
          rintro e w10 ⟨q3, qc3, rfl, hq3, hM, hb10⟩
          have hfl := hM.flat
          obtain ⟨K1, hK1⟩ : ∃ K, K = D9.kept := ⟨_, rfl⟩
          rw [← hK1] at hq3 hfl ⊢
          obtain ⟨L1, hL1⟩ : ∃ L, L = K1.flatten := ⟨_, rfl⟩
          have HL1 := hide hL1
          rw [← hL1] at hq3 hfl ⊢
          clear hL1
          have hKK : K1 = settleL (wakeB (IntKind.u64.wrap x)) 0 (pendOf s t) K0 := hK1.trans M9.out.2.2
          have hlenK1 : (L1.length : Int) = 64 * (s : Int) := by rw [hfl.1, hKK, settle_len, HKL.out]; omega
          have hqc3 := hq3.cap
          have M10 := hide (And.intro (M9.out.2.1.grow hb10) (And.intro hq3 (And.intro hfl.2 (And.intro hKK hM.bel))))
          clear hM hb10 hq3 hfl M9 hK1 hKK hde hpl HM
          dsimp only
          go_wp2_with fail
          have hqi : 64 * (s : Int) ≤ (qc : Int) := by omega
          have hqi3 : 64 * (s : Int) ≤ (qc3 : Int) := by omega
          go_loopw [15] (fun v wr => ∃ a : Nat, a ≤ s ∧ v = .int .i64 (a : Int) ∧ Below w10.heap.size w10 wr) (fun v _ => s - (intOf v).toNat)
          case atStart => exact ⟨0, by omega, rfl, Below.refl _ _⟩
          case round =>
            obtain ⟨a, ha, rfl, hbel⟩ := hrel
            have HB := hide hbel
            clear hbel
            by_cases has : a < s
            · have n1 : (a : Int) < (s : Int) := by omega
              have n0 : (0 : Int) ≤ (a : Int) := by omega
              go_wp2_with fail
              obtain ⟨ka, hka⟩ : ∃ b, K0[a]? = some b := ⟨K0[a]'(by have := HKL.out; omega), List.getElem?_eq_getElem _⟩
              obtain ⟨kb, hkb⟩ : ∃ b, b = one (wakeB (IntKind.u64.wrap x)) (a : Int) 0 (pendOf s t) ka := ⟨_, rfl⟩
              have hkb2 : K1[a]? = some kb := by rw [M10.out.2.2.2.1, hkb]; exact settle_one _ a _ _ _ _ (pend_in s hs.1 t) hka
              have hal : ka.length = 64 := HK.out ka (List.mem_of_getElem? hka)
              have hbl : kb.length = 64 := M10.out.2.2.1 kb (List.mem_of_getElem? hkb2)
              go_quiet (fail)
              go_wp2_with fail
              obtain ⟨wq, hwq⟩ : ∃ wq, wq = wr.drewN nq := ⟨_, rfl⟩
              have hbq : Below w10.heap.size w10 wq := by rw [hwq]; exact below_drewN HB.out _
              have hba : BytesAt wq wq.heap.size (.slice (some ⟨q, 64 * a, none⟩) 64 (qc - 64 * a)) ka := by
                have h := (M10.out.1.grow hbq).own
                rw [HL0.out] at h
                exact sector_bytes h HK.out hka (by omega)
              have hbb : BytesAt wq wq.heap.size (.slice (some ⟨q3, 64 * a, none⟩) 64 (qc3 - 64 * a)) kb := by
                have h := (M10.out.2.1.grow hbq).own
                rw [HL1.out] at h
                exact sector_bytes h M10.out.2.2.1 hkb2 (by omega)
              rw [← hwq, show 64 * a + 64 - 64 * a = 64 by omega]
              have hal2 : ka.length ≤ 1099511627776 := by omega
              have hbl2 : kb.length ≤ 1099511627776 := by omega
              have HAB := hide (And.intro hba hbb)
              have HKB := hide (And.intro hkb (And.intro hal hbl))
              have HBQ := hide hbq
              clear hwq hbq hka hkb hkb2 hal hbl hba hbb HB
              refine (sameBytes_any ka kb hal2 hbl2 _ _ _ _ HAB.out.1 HAB.out.2).mono ?_
              rintro e w11 ⟨rfl, k11, hw11⟩
              have hb11 : Below wq.heap.size wq w11 := by rw [hw11]; exact below_drewN (Below.refl _ _) _
              have M11 := hide (And.intro (bytes_grow HAB.out.1 hb11) (And.intro (bytes_grow HAB.out.2 hb11) (HBQ.out.trans (Below.mono hb11 HBQ.out.size))))
              clear hw11 hb11 HAB HBQ
              dsimp only
              go_wp2_with fail
              go_loopw [18, 19, 20] (fun o u v wr => ∃ i : Nat, i ≤ t.length ∧ o = .bool (okD s (a : Int) (t.take i) ka kb) ∧ v = .int .i64 (i : Int) ∧ BytesAt wr wr.heap.size u (lastD s (a : Int) (t.take i) ka) ∧ Below w11.heap.size w11 wr) (fun _ _ v _ => t.length - (intOf v).toNat)
              case atStart => exact ⟨0, by omega, by simp [okD], rfl, M11.out.1, Below.refl _ _⟩
              case round =>
                obtain ⟨i, hi, rfl, rfl, hu, hbel⟩ := hrel
                obtain ⟨ok, hok⟩ : ∃ b, b = okD s (a : Int) (t.take i) ka kb := ⟨_, rfl⟩
                rw [← hok]
                have HO := hide hok
                have HU := hide (And.intro hu hbel)
                clear hok hu hbel
                by_cases hit : i < t.length
                · have i1 : (i : Int) < (t.length : Int) := by omega
                  have i0 : (0 : Int) ≤ (i : Int) := by omega
                  obtain ⟨d, hd⟩ : ∃ d, t[i]? = some d := ⟨t[i]'hit, List.getElem?_eq_getElem _⟩
                  obtain ⟨tb, toff, htA, htb, hda⟩ := deed_at HT.out hd
                  have hbw2 : Below w.heap.size w wr := (M10.out.2.2.2.2.trans (Below.mono M11.out.2.2 M10.out.2.2.2.2.size)).trans (Below.mono HU.out.2 (by have := M10.out.2.2.2.2.size; have := M11.out.2.2.size; omega))
                  have hda2 := hda.alike htb (alike_of_below hbw2)
                  obtain ⟨A', c', hc3, hby, hnil⟩ := hda2.c3
                  have hc1 := hda2.c1
                  have hk1 := hda2.k1
                  have hdl : d.b.length ≤ 10000 := by have := many_mem hd; have := HTM.out.2.1; omega
                  have HDC := hide (And.intro hby hnil)
                  have hlt := lastD_take s (a : Int) t ka i d hd
                  have hot := okD_take s (a : Int) t ka kb i d hd
                  rw [← HO.out] at hot
                  subst htA
                  have HLO := hide (And.intro hlt (And.intro hot hk1))
                  clear hlt hot hk1 hd hda hda2 hby hnil
                  go_wp2_with fail
                  refine (pick_any d.n (s : Int) wr (by omega) (by omega) HLO.out.2.2).mono ?_
                  rintro e w12 ⟨rfl, rfl⟩
                  by_cases hh1 : d.n % (s : Int) = (a : Int)
                  · by_cases hh2 : d.b.length ≤ 64
                    · have hhit : hitB s (a : Int) d = true := by simp [hitB, hh1, hh2]
                      have h3 := HLO.out
                      rw [hhit, if_pos rfl, Bool.true_and] at h3
                      have HLO3 := hide (And.intro h3.1 h3.2.1)
                      clear h3 hhit HLO
                      rw [hh1]
                      dsimp only
                      go_wp2_with fail
                      have hsrc : Src wr A' d.b.length c' (bv d.b) := bv_src HDC.out.1 HDC.out.2
                      refine (full_any d.b hh2 A' c' wr hsrc).mono ?_
                      rintro e w13 ⟨v13, rfl, ho13, hb13⟩
                      have hbl13 : BytesAt w13 w13.heap.size v13 (pad d.b) := by
                        have h := ho13
                        rw [show 64 = (pad d.b).length from (pad_len _ hh2).symm] at h
                        exact bytesAt_owned h
                      have hpl13 : (pad d.b).length ≤ 1099511627776 := by rw [pad_len _ hh2]; omega
                      have M13 := hide (And.intro hbl13 (HU.out.2.trans (Below.mono hb13 HU.out.2.size)))
                      clear hsrc ho13 hb13 hbl13
                      cases ok with
                      | true =>
                        dsimp only
                        go_wp2_with fail
                        go_roundw
                        case rel => exact ⟨i + 1, by omega, by rw [HLO3.out.2]; rfl, by go_num, by rw [HLO3.out.1]; exact M13.out.1, M13.out.2⟩
                        case measure => simp [intOf]; omega
                      | false =>
                        dsimp only
                        go_wp2_with fail
                        refine (sameBytes_any kb (pad d.b) hbl2 hpl13 _ _ _ _ (bytes_grow M11.out.2.1 M13.out.2) M13.out.1).mono ?_
                        rintro e w14 ⟨rfl, k14, hw14⟩
                        have hb14 : Below w13.heap.size w13 w14 := by rw [hw14]; exact below_drewN (Below.refl _ _) _
                        have M14 := hide (And.intro (bytes_grow M13.out.1 hb14) (M13.out.2.trans (Below.mono hb14 M13.out.2.size)))
                        clear hw14 hb14
                        dsimp only
                        go_wp2_with fail
                        go_roundw
                        case rel => exact ⟨i + 1, by omega, by rw [HLO3.out.2]; rfl, by go_num, by rw [HLO3.out.1]; exact M14.out.1, M14.out.2⟩
                        case measure => simp [intOf]; omega
                    · have hhit : hitB s (a : Int) d = false := by simp [hitB, hh2]
                      have h3 := HLO.out
                      rw [hhit, if_neg (by simp), Bool.false_and, Bool.or_false] at h3
                      have HLO3 := hide (And.intro h3.1 h3.2.1)
                      have hh3 : ¬ (d.b.length : Int) ≤ 64 := by omega
                      clear h3 hhit HLO
                      rw [hh1]
                      dsimp only
                      go_wp2_with fail
                      go_roundw
                      case rel => exact ⟨i + 1, by omega, by rw [HLO3.out.2], by go_num, by rw [HLO3.out.1]; exact HU.out.1, HU.out.2⟩
                      case measure => simp [intOf]; omega
                  · have hhit : hitB s (a : Int) d = false := by simp [hitB, hh1]
                    have h3 := HLO.out
                    rw [hhit, if_neg (by simp), Bool.false_and, Bool.or_false] at h3
                    have HLO3 := hide (And.intro h3.1 h3.2.1)
                    obtain ⟨z, hz⟩ : ∃ z, z = d.n % (s : Int) := ⟨_, rfl⟩
                    rw [← hz] at hh1 ⊢
                    clear h3 hhit HLO hz
                    dsimp only
                    go_wp2_with fail
                    go_roundw
                    case rel => exact ⟨i + 1, by omega, by rw [HLO3.out.2], by go_num, by rw [HLO3.out.1]; exact HU.out.1, HU.out.2⟩
                    case measure => simp [intOf]; omega
                · obtain rfl : i = t.length := by omega
                  have hok1 : ok = true := by
                    rw [HO.out, show t.take t.length = t from List.take_length, HKB.out.1]
                    exact ok_all s _ _ t ka
                  subst hok1
                  have hbo : Below w10.heap.size w10 wr := M11.out.2.2.trans (Below.mono HU.out.2 M11.out.2.2.size)
                  have HBO := hide hbo
                  clear hbo
                  by_cases hx0 : x = 0
                  · subst hx0
                    have hkk : ka = kb := by rw [HKB.out.1]; exact (one_none _ _ wake_none _ _ _).symm
                    go_wp2_with fail
                    refine (sameBytes_any ka kb hal2 hbl2 _ _ _ _ (bytes_grow M11.out.1 HU.out.2) (bytes_grow M11.out.2.1 HU.out.2)).mono ?_
                    rintro e w15 ⟨rfl, k15, hw15⟩
                    have hb15 : Below wr.heap.size wr w15 := by rw [hw15]; exact below_drewN (Below.refl _ _) _
                    have HBO2 := hide (HBO.out.trans (Below.mono hb15 HBO.out.size))
                    rw [decide_eq_true hkk]
                    clear hw15 hb15 hkk
                    dsimp only
                    go_wp2_with fail
                    exact ⟨⟨a + 1, by omega, by go_num, HBO2.out⟩, by simp [intOf]; omega⟩
                  · by_cases hx1 : x = -1
                    · subst hx1
                      have hll : (lastD s (a : Int) t ka).length ≤ 1099511627776 := by rw [lastD_len s _ t ka HKB.out.2.1]; omega
                      have hkk : kb = lastD s (a : Int) t ka := by rw [HKB.out.1, one_all _ _ wake_all, last_pend]
                      have hu := HU.out.1
                      rw [show t.take t.length = t from List.take_length] at hu
                      have HUU := hide hu
                      clear hu
                      go_wp2_with fail
                      refine (sameBytes_any kb (lastD s (a : Int) t ka) hbl2 hll _ _ _ _ (bytes_grow M11.out.2.1 HU.out.2) HUU.out).mono ?_
                      rintro e w15 ⟨rfl, k15, hw15⟩
                      have hb15 : Below wr.heap.size wr w15 := by rw [hw15]; exact below_drewN (Below.refl _ _) _
                      have HBO2 := hide (HBO.out.trans (Below.mono hb15 HBO.out.size))
                      rw [decide_eq_true hkk]
                      clear hw15 hb15 hkk
                      dsimp only
                      go_wp2_with fail
                      exact ⟨⟨a + 1, by omega, by go_num, HBO2.out⟩, by simp [intOf]; omega⟩
                    · go_wp2_with fail
                      exact ⟨⟨a + 1, by omega, by go_num, HBO.out⟩, by simp [intOf]; omega⟩
            · obtain rfl : a = s := by omega
              go_wp2_with fail
              go_ret
              exact ⟨rfl, M10.out.2.2.2.2.trans (Below.mono HB.out M10.out.2.2.2.2.size)⟩
end Go.Proofs.Ytajeohmmobgcjaa
