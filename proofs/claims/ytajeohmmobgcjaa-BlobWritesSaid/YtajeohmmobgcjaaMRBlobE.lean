/- spenceref07: Write. spenceref07: Read. -/
import Derived.Test.YtajeohmmobgcjaaMRBlobD
import Derived.Test.YtajeohmmobgcjaaMBlobB
import Derived.Test.YtajeohmmobgcjaaMRDevC
import Derived.Test.YtajeohmmobgcjaaMBlobC
import Derived.Test.YtajeohmmobgcjaaMRDevE
section
namespace Go.Proofs.Ytajeohmmobgcjaa
open Go Go.RowKit
set_option maxRecDepth 100000
section
variable {P : Program} (t e : TypeId) (ht : P.underlying t = some (.slice e)) (hs : (P.info? e).map (·.size) = some 1)
include ht hs
theorem run_slice_both (A : Option Addr) (len cap lo hi : Nat) (h1 : lo ≤ hi) (h2 : hi ≤ cap) (w : World) :
    (Instr.sliceAt t (.slice A len cap) (some (.int .i64 (lo : Int))) (some (.int .i64 (hi : Int))) none).run P w = .ok (.slice (if cap = lo then A else A.map (·.add lo)) (hi - lo) (cap - lo)) w := by
  have e2 : P.elem t = e := by simp [Program.elem, ht]
  rw [run_sliceAt_slice w t _ _ _ _ (by rw [e2]; exact ht)]
  have h := run_slice_lh (P := P) w t A len cap (by rw [e2]; exact ht) .i64 .i64 (lo : Int) (hi : Int) (by omega) (by omega) (by omega)
  rw [h, e2]
  cases hi : P.info? e with
  | none => simp [hi] at hs
  | some i =>
    have h1 : i.size = 1 := by simpa [hi] using hs
    simp [sizeOf, typeInfo, hi, h1, sliced]
end
def RPutQ (F : Nat → Prop) (g : Nat) (r : Int × Dv) (w : World) (e : Ending) (w' : World) : Prop := e = .returned (.int .i64 r.1) ∧ RLeft w F g r.2 w'
/-- what the loop of Write goes on with -/
structure RPutAt (F : Nat → Prop) (g : Nat) (w W : World) (L : Nat) (D : Dv) (fst : Int) (bs : List UInt8) (ps : List Nat) (A : Option Addr) (c : Nat) (v : Value) (i : Nat) (F' : Nat → Prop) (Dk : Dv) : Prop where
  dev : RefAt W F' g Dk
  foot : ∀ k, F' k → F k ∨ L ≤ k
  turned : Turned F w W
  de : Dk.de ≤ D.de + (i : Int)
  pend : Dk.pend.length ≤ D.pend.length + i
  row : W.ownsRow w.heap.size 3 1 v ps.length (placeC fst ps)
  src : Src W A bs.length c (bv bs)
  law : writeS D fst bs ps = writeS Dk fst (bs.drop (64 * i)) (ps.drop i)
theorem RPutAt.next {F F' : Nat → Prop} {g L c i p : Nat} {w W W2 : World} {D Dk : Dv} {fst : Int} {bs : List UInt8} {ps : List Nat} {A : Option Addr} {v : Value} (h : RPutAt F g w W L D fst bs ps A c v i F' Dk) (hp : ps[i]? = some p)
    (hL : RLeft W F' g (Dk.write (fst + (p : Int)) ((bs.drop (64 * i)).take 64)).2 W2) (h0 : (Dk.write (fst + (p : Int)) ((bs.drop (64 * i)).take 64)).1 = 0) (hwL : w.heap.size ≤ L) (hLW : L ≤ W.heap.size) (hv : ∀ k, v.ownBlock = some k → k < L ∧ ¬ F k) (hA : ∀ ad, A = some ad → 0 < bs.length → ad.block < w.heap.size ∧ ¬ F ad.block) :
    ∃ F2, RPutAt F g w W2 L D fst bs ps A c v (i + 1) F2 (Dk.write (fst + (p : Int)) ((bs.drop (64 * i)).take 64)).2 := by
  obtain ⟨F2, h1, h2, h3⟩ := hL
  have hw := write_more Dk (fst + (p : Int)) ((bs.drop (64 * i)).take 64)
  have hde := h.de
  have hpe := h.pend
  have hnot : ∀ k, k < L → ¬ F k → ¬ F' k := fun k hk hF hF' => by
    rcases h.foot k hF' with h | h
    · exact hF h
    · omega
  refine ⟨F2, h1, fun k hk => ?_, h.turned.then_ h2 fun k hk hF => ?_, by omega, by omega, owned_keepN h.row fun k hk hl => h2.block k hl (hnot k (hv k hk).1 (hv k hk).2), ⟨h.src.len, h.src.none_, h.src.one, fun ad ha j u hu => ?_⟩, ?_⟩
  · rcases h3 k hk with h4 | h4
    · exact h.foot k h4
    · exact .inr (by omega)
  · rcases h.foot k hF with h | h
    · exact h
    · omega
  · have hlt := (List.getElem?_eq_some_iff.1 hu).1
    rw [bvL] at hlt
    obtain ⟨k1, k2⟩ := hA ad ha (by omega)
    have hbk : (ad.add j).block = ad.block := by cases j <;> simp [Addr.add]
    rw [World.cell?_of_block (h2.block (ad.add j).block (by rw [hbk]; omega) (hnot _ (by rw [hbk]; omega) (by rw [hbk]; exact k2)))]
    exact h.src.cells ad ha j u hu
  · rw [h.law]
    have hd : ps.drop i = p :: ps.drop (i + 1) := by
      obtain ⟨hi, he⟩ := List.getElem?_eq_some_iff.1 hp
      rw [List.drop_eq_getElem_cons hi, he]
    rw [hd, writeS, if_pos h0, List.drop_drop]
    rfl
theorem Src.cut {W : World} {A : Option Addr} {c : Nat} {l : List UInt8} (h : Src W A l.length c (bv l)) (hc : l.length ≤ c) (k m : Nat) (hm : m = ((l.drop k).take 64).length) : Src W (if c = k then A else A.map (·.add k)) m (c - k) (bv ((l.drop k).take 64)) := by
  subst hm
  exact (h.drop k hc).take 64
theorem rwstep {F F' : Nat → Prop} {g L c i p m C2 : Nat} {w W : World} {D Dk : Dv} {fst : Int} {bs : List UInt8} {ps : List Nat} {A A2 : Option Addr} {v : Value} (h : RPutAt F g w W L D fst bs ps A c v i F' Dk) (hm : m = ((bs.drop (64 * i)).take 64).length) (hA2 : A2 = if c = 64 * i then A else A.map (·.add (64 * i))) (hC2 : C2 = c - 64 * i) (hc : bs.length ≤ c)
    (hi : i ≤ 64) (hde : D.de ≤ 900000000) (hpe : D.pend.length ≤ 90000) (hA : (∀ k, v.ownBlock = some k → k < L ∧ ¬ F k) ∧ ∀ ad, A = some ad → 0 < bs.length → ad.block < w.heap.size ∧ ¬ F ad.block) (hx : 0 ≤ fst + (p : Int) ∧ fst + (p : Int) ≤ 100000) (nq : Nat) (hwL : w.heap.size ≤ L := by assumption) :
    Calls Try.prog 66 #[.pointer (some ⟨g, 0, none⟩), .int .i64 (fst + (p : Int)), .slice A2 m C2] (W.drewN nq) fun e w' => e = .returned (.int .i64 (Dk.write (fst + (p : Int)) ((bs.drop (64 * i)).take 64)).1) ∧ RLeft W F' g (Dk.write (fst + (p : Int)) ((bs.drop (64 * i)).take 64)).2 w' := by
  subst hC2
  have hsr := h.src.cut hc (64 * i) m hm
  rw [← hA2] at hsr
  have hde2 := h.de
  have hpe2 := h.pend
  have hlen : ((bs.drop (64 * i)).take 64).length ≤ 64 := List.length_take_le ..
  subst hm
  refine (rwrite_any (fst + (p : Int)) ((bs.drop (64 * i)).take 64) A2 (c - 64 * i) (W.drewN nq) (h.dev.keep (Nat.le_refl _) fun _ _ _ => rfl) (by omega) (by omega) (by omega) (by omega) ⟨hsr.len, hsr.none_, hsr.one, hsr.cells⟩ fun ad ha h0 hF => ?_).mono ?_
  · have h1 : 0 < bs.length := by rw [List.length_take, List.length_drop] at h0; omega
    have h2 : ∃ ad', A = some ad' ∧ ad'.block = ad.block := by
      rw [ha] at hA2
      split at hA2
      · exact ⟨ad, hA2.symm, rfl⟩
      · obtain ⟨ad', e1, e2⟩ := Option.map_eq_some_iff.1 hA2.symm
        exact ⟨ad', e1, by rw [← e2]; cases hq : 64 * i <;> simp [Addr.add]⟩
    obtain ⟨ad', e1, e2⟩ := h2
    obtain ⟨k1, k2⟩ := hA.2 ad' e1 h1
    rw [e2] at k1 k2
    rcases h.foot _ hF with h | h
    · exact k2 h
    · omega
  · rintro e w' ⟨he, F2, d1, d2, d3⟩
    exact ⟨he, F2, d1, ⟨d2.os, d2.tape, d2.output, d2.size, d2.block⟩, d3⟩
set_option maxHeartbeats 1000000 in
theorem rwriteB_any {D : Dv} {F : Nat → Prop} {g : Nat} (l a d : Int) (h64 : rightP l a d → d ≤ 64) (bs : List UInt8) (hbs : bs.length ≤ 1000000) (A : Option Addr) (cap : Nat) (hcap : bs.length ≤ cap) (v : Value) (rs : List Run) (hlen : rs.length ≤ 1000000) (w : World)
    (hd : RefAt w F g D) (hde : D.de ≤ 900000000) (hpe : D.pend.length ≤ 90000) (hrs : RunsM w w.heap.size v rs) (hs : Src w A bs.length cap (bv bs)) (hsb : ∀ ad, A = some ad → 0 < bs.length → ¬ F ad.block) :
    Calls Try.prog 46 #[.pointer (some ⟨g, 0, none⟩), .agg #[.int .i64 l, .int .i64 a, .int .i64 d], .slice A bs.length cap, v] w (RPutQ F g (D.put l a d bs rs) w) := by
  have hb0 : Below w.heap.size w (w.alloc (.cells #[.int .i64 l, .int .i64 a, .int .i64 d] 23)) := (Below.refl _ w).alloc (Nat.le_refl _) _
  have HD := hide (And.intro hd (And.intro hrs (And.intro hs (And.intro hsb (And.intro h64 hb0)))))
  clear hd hrs hs hsb h64 hb0
  go_enter Try.func46, Try.ntmps46
  go_wp2_with fail
  refine (places_any l a d (bs.length : Int) HD.out.2.2.2.2.1 (by omega) v rs hlen _ (HD.out.2.1.below HD.out.2.2.2.2.2) (HD.out.1.below HD.out.2.2.2.2.2)).mono ?_
  rintro e w1 ⟨hb1, ⟨hE, o, rfl, ho⟩ | ⟨hE, o, rfl⟩⟩
  · have hbw : Below w.heap.size w w1 := HD.out.2.2.2.2.2.next hb1
    obtain ⟨Ao, co, rfl⟩ := owned_slice ho
    have hap : apartP l a d rs ∧ ((pos rs).length : Int) = needP bs.length := by
      by_cases h : apartP l a d rs ∧ 0 ≤ (bs.length : Int) ∧ ((pos rs).length : Int) = needP bs.length ∧ secs l a d ≤ (D.kept.length : Int)
      · exact ⟨h.1, h.2.2.1⟩
      · rw [suitsE, if_neg h] at hE
        cases hE
    have hput : D.put l a d bs rs = writeS D (firstS l a d) bs (pos rs) := by rw [Dv.put, if_pos hE]
    have hfst : 0 ≤ firstS l a d ∧ firstS l a d ≤ 8192 := by
      have hR := hap.1.1
      have h1 := hR.1
      have h2 := hR.2.1
      have h3 := hR.2.2.1
      have h4 := hR.2.2.2
      rw [firstS, if_pos hR]
      unfold inW at h1 h2 h3
      omega
    have hNN : (pos rs).length ≤ 64 := by
      have h1 := apart_count hap.1
      have h2 := HD.out.2.2.2.2.1 hap.1.1
      omega
    have hpl : ∀ x ∈ pos rs, x < 64 := fun x hx => by
      have h1 := pos_lt hap.1.2.1 x hx
      have h2 := HD.out.2.2.2.2.1 hap.1.1
      omega
    obtain ⟨fst, hfs⟩ : ∃ fst, fst = firstS l a d := ⟨_, rfl⟩
    rw [← hfs] at hput ho hfst
    have hneed := hap.2
    rw [needP] at hneed
    have hP0 : RPutAt F g w w1 w1.heap.size D fst bs (pos rs) A cap (.slice Ao (pos rs).length co) 0 F D :=
      ⟨HD.out.1.below hbw, fun k hk => .inl hk, Turned.of_below hbw F, by simp, by simp, owned_baseN ho fun k hk => by have := (owned_ltN ho hk).1; rw [size_alloc] at this; omega, ⟨HD.out.2.2.1.len, HD.out.2.2.1.none_, HD.out.2.2.1.one, fun ad ha j u hu => by
        have h := HD.out.2.2.1.cells ad ha j u hu
        exact (hbw.cell (World.block_lt_of_cell? w _ h)).trans h⟩, by simp⟩
    have hv : ∀ k, (Value.slice Ao (pos rs).length co).ownBlock = some k → k < w1.heap.size ∧ ¬ F k := fun k hk => by
      have h := owned_ltN ho hk
      rw [size_alloc] at h
      exact ⟨h.2, fun hF => by have := HD.out.1.lt k hF; omega⟩
    have hA : ∀ ad, A = some ad → 0 < bs.length → ad.block < w.heap.size ∧ ¬ F ad.block := fun ad ha h0 => by
      refine ⟨?_, HD.out.2.2.2.1 ad ha h0⟩
      obtain ⟨u, hu⟩ : ∃ u, (bv bs)[0]? = some u := ⟨_, List.getElem?_eq_getElem (by rw [bvL]; exact h0)⟩
      have h := World.block_lt_of_cell? w _ (HD.out.2.2.1.cells ad ha 0 _ hu)
      simpa [Addr.add] using h
    have hwL := hbw.size
    have HF := hide hput
    obtain ⟨L, hL⟩ : ∃ L, L = w1.heap.size := ⟨_, rfl⟩
    rw [← hL] at hP0 hv hwL
    have HP0 := hide (And.intro hP0 (show L ≤ w1.heap.size by omega))
    have HZ := hide (And.intro hwL (And.intro hv hA))
    have HPL := hide hpl
    have HNEED := hide hneed
    clear hneed hP0 hv hA hwL hput hap hpl hfs hbw hb1 ho hL hE
    dsimp only
    go_wp2_with fail
    go_loopw [11] (fun x wr => ∃ (i : Nat) (F' : Nat → Prop) (Dk : Dv), i ≤ (pos rs).length ∧ x = .int .i64 (i : Int) ∧ RPutAt F g w wr L D fst bs (pos rs) A cap (.slice Ao (pos rs).length co) i F' Dk ∧ L ≤ wr.heap.size) (fun x _ => (pos rs).length - (intOf x).toNat)
    case atStart => exact ⟨0, F, D, by omega, rfl, HP0.out⟩
    case round =>
      obtain ⟨i, F', Dk, hi, rfl, hP, hLW⟩ := hrel
      have n1 : (0 : Int) ≤ (i : Int) := by omega
      by_cases hi2 : i < (pos rs).length
      · obtain ⟨p, hp⟩ : ∃ p, (pos rs)[i]? = some p := ⟨_, List.getElem?_eq_getElem hi2⟩
        have hp64 := HPL.out p (List.mem_of_getElem? hp)
        have hlo : 64 * i < bs.length := by
          have hneed := HNEED.out
          split at hneed <;> omega
        obtain ⟨hq, cq, hAo⟩ := owned_placeN hP.row (by omega)
        injection hAo with e1 _ e2
        subst e1 e2
        have hcl : wr.cell? ⟨hq, i, none⟩ = some (.int .i64 (fst + (p : Int))) := by
          have h := own_range hP.row i 1 [.int .i64 (fst + (p : Int))] (by
            have h1 : (placeC fst (pos rs))[i]? = some (.int .i64 (fst + (p : Int))) := by simp [placeC, hp]
            obtain ⟨h2, h3⟩ := List.getElem?_eq_some_iff.1 h1
            rw [List.drop_eq_getElem_cons h2, h3]
            rfl)
          exact h 0 _ rfl
        have n2 : (i : Int) < ((pos rs).length : Int) := by omega
        have n3 : (i : Int) ≤ 64 := by omega
        have n4 : ((pos rs).length : Int) ≤ 64 := by omega
        have n5 : (bs.length : Int) ≤ 1000000 := by omega
        obtain ⟨m, hm⟩ : ∃ m, m = ((bs.drop (64 * i)).take 64).length := ⟨_, rfl⟩
        have hm2 : m = min 64 (bs.length - 64 * i) := by rw [hm, List.length_take, List.length_drop]
        obtain ⟨A2, hA2⟩ : ∃ A2, A2 = (if cap = 64 * i then A else A.map (·.add (64 * i))) := ⟨_, rfl⟩
        obtain ⟨C2, hC2⟩ : ∃ C2, C2 = cap - 64 * i := ⟨_, rfl⟩
        have HA2 := hide (And.intro hA2 hC2)
        have e64 : ((64 * i : Nat) : Int) = 64 * (i : Int) := by omega
        have HP := hide hP
        have HM := hide (And.intro hm (And.intro hp hLW))
        have HE := hide e64
        clear hP hLW hm hp hA2 hC2
        by_cases hle : 64 * i + 64 ≤ bs.length
        · have q1 : 64 * (i : Int) + 64 ≤ (bs.length : Int) := by omega
          have hs1 : ∀ w, (Instr.sliceAt 48 (.slice A bs.length cap) (some (.int .i64 (64 * (i : Int)))) (some (.int .i64 (64 * (i : Int) + 64))) none).run Try.prog w = .ok (.slice A2 m C2) w := fun w => by
            have h := run_slice_both (P := Try.prog) 48 5 Try.underlying48 size5 A bs.length cap (64 * i) (64 * i + 64) (by omega) (by omega) w
            rw [e64, show ((64 * i + 64 : Nat) : Int) = 64 * (i : Int) + 64 by omega, show 64 * i + 64 - 64 * i = m by omega] at h
            rw [HA2.out.1, HA2.out.2]
            exact h
          clear hm2 e64
          go_wp2_with fail
          refine wp_quiet_tail_drewN 15 (by kernel_rfl) (by kernel_rfl) ?_
          simp only [List.take_succ_cons, List.take_zero, List.drop_succ_cons, List.drop_zero]
          repeat (go_big_quiet_step (fail))
          refine wpQuiet_nil ?_
          intro nq
          go_wp2_with fail
          refine (rwstep HP.out HM.out.1 HA2.out.1 HA2.out.2 hcap (by omega) hde hpe HZ.out.2 ⟨by omega, by omega⟩ nq HZ.out.1).mono ?_
          rintro e W2 ⟨rfl, hL⟩
          have HL := hide hL
          clear hL
          by_cases h0 : (Dk.write (fst + (p : Int)) ((bs.drop (64 * i)).take 64)).1 = 0
          · rw [h0]
            have hnext := HP.out.next HM.out.2.1 HL.out h0 HZ.out.1 HM.out.2.2 HZ.out.2.1 HZ.out.2.2
            have HN := hide hnext
            have hLW : L ≤ W2.heap.size := by
              obtain ⟨_, _, ht, _⟩ := HL.out
              exact Nat.le_trans HM.out.2.2 ht.size
            clear h0 hnext
            dsimp only
            go_wp2_with fail
            obtain ⟨F2, hn2⟩ := HN.out
            exact ⟨⟨i + 1, F2, _, by omega, by go_num, hn2, hLW⟩, by simp [intOf]; omega⟩
          · obtain ⟨E, hE⟩ : ∃ E, E = (Dk.write (fst + (p : Int)) ((bs.drop (64 * i)).take 64)).1 := ⟨_, rfl⟩
            rw [← hE] at h0 ⊢
            have h0b : (E != 0) = true := by simpa using h0
            have H0 := hide (And.intro h0 hE)
            clear h0 hE
            dsimp only
            go_wp2_with fail
            go_ret
            obtain ⟨F2, d1, d2, d3⟩ := HL.out
            have hr : writeS D fst bs (pos rs) = Dk.write (fst + (p : Int)) ((bs.drop (64 * i)).take 64) := by
              rw [HP.out.law]
              obtain ⟨hi, he⟩ := List.getElem?_eq_some_iff.1 HM.out.2.1
              rw [List.drop_eq_getElem_cons hi, he, writeS, if_neg (by rw [← H0.out.2]; exact H0.out.1)]
            rw [HF.out, hr]
            refine ⟨by rw [H0.out.2]; rfl, F2, d1, HP.out.turned.then_ d2 fun k hk hF => ?_, fun k hk => ?_⟩
            · rcases HP.out.foot k hF with h | h
              · exact h
              · have := HZ.out.1; omega
            · have := HM.out.2.2
              have := HZ.out.1
              rcases d3 k hk with h | h
              · rcases HP.out.foot k h with h | h
                · exact .inl h
                · exact .inr (by omega)
              · exact .inr (by omega)
        · have q1 : ¬ 64 * (i : Int) + 64 ≤ (bs.length : Int) := by omega
          have hs1 : ∀ w, (Instr.sliceAt 48 (.slice A bs.length cap) (some (.int .i64 (64 * (i : Int)))) (some (.int .i64 ((bs.length : Int)))) none).run Try.prog w = .ok (.slice A2 m C2) w := fun w => by
            have h := run_slice_both (P := Try.prog) 48 5 Try.underlying48 size5 A bs.length cap (64 * i) (bs.length) (by omega) (by omega) w
            rw [e64, show ((bs.length : Nat) : Int) = (bs.length : Int) by omega, show bs.length - 64 * i = m by omega] at h
            rw [HA2.out.1, HA2.out.2]
            exact h
          clear hm2 e64
          go_wp2_with fail
          refine wp_quiet_tail_drewN 15 (by kernel_rfl) (by kernel_rfl) ?_
          simp only [List.take_succ_cons, List.take_zero, List.drop_succ_cons, List.drop_zero]
          repeat (go_big_quiet_step (fail))
          refine wpQuiet_nil ?_
          intro nq
          go_wp2_with fail
          refine (rwstep HP.out HM.out.1 HA2.out.1 HA2.out.2 hcap (by omega) hde hpe HZ.out.2 ⟨by omega, by omega⟩ nq HZ.out.1).mono ?_
          rintro e W2 ⟨rfl, hL⟩
          have HL := hide hL
          clear hL
          by_cases h0 : (Dk.write (fst + (p : Int)) ((bs.drop (64 * i)).take 64)).1 = 0
          · rw [h0]
            have hnext := HP.out.next HM.out.2.1 HL.out h0 HZ.out.1 HM.out.2.2 HZ.out.2.1 HZ.out.2.2
            have HN := hide hnext
            have hLW : L ≤ W2.heap.size := by
              obtain ⟨_, _, ht, _⟩ := HL.out
              exact Nat.le_trans HM.out.2.2 ht.size
            clear h0 hnext
            dsimp only
            go_wp2_with fail
            obtain ⟨F2, hn2⟩ := HN.out
            exact ⟨⟨i + 1, F2, _, by omega, by go_num, hn2, hLW⟩, by simp [intOf]; omega⟩
          · obtain ⟨E, hE⟩ : ∃ E, E = (Dk.write (fst + (p : Int)) ((bs.drop (64 * i)).take 64)).1 := ⟨_, rfl⟩
            rw [← hE] at h0 ⊢
            have h0b : (E != 0) = true := by simpa using h0
            have H0 := hide (And.intro h0 hE)
            clear h0 hE
            dsimp only
            go_wp2_with fail
            go_ret
            obtain ⟨F2, d1, d2, d3⟩ := HL.out
            have hr : writeS D fst bs (pos rs) = Dk.write (fst + (p : Int)) ((bs.drop (64 * i)).take 64) := by
              rw [HP.out.law]
              obtain ⟨hi, he⟩ := List.getElem?_eq_some_iff.1 HM.out.2.1
              rw [List.drop_eq_getElem_cons hi, he, writeS, if_neg (by rw [← H0.out.2]; exact H0.out.1)]
            rw [HF.out, hr]
            refine ⟨by rw [H0.out.2]; rfl, F2, d1, HP.out.turned.then_ d2 fun k hk hF => ?_, fun k hk => ?_⟩
            · rcases HP.out.foot k hF with h | h
              · exact h
              · have := HZ.out.1; omega
            · have := HM.out.2.2
              have := HZ.out.1
              rcases d3 k hk with h | h
              · rcases HP.out.foot k h with h | h
                · exact .inl h
                · exact .inr (by omega)
              · exact .inr (by omega)
      · obtain rfl : i = (pos rs).length := by omega
        have n2 : ¬ (((pos rs).length : Nat) : Int) < ((pos rs).length : Int) := by omega
        have HP := hide (And.intro hP hLW)
        clear hP hLW
        go_wp2_with fail
        refine (rflush_any wr HP.out.1.dev (by have := HP.out.1.de; omega) (by have := HP.out.1.pend; omega)).mono ?_
        rintro e W2 ⟨rfl, hL⟩
        have HL := hide hL
        clear hL
        dsimp only
        go_wp2_with fail
        go_ret
        obtain ⟨F2, d1, d2, d3⟩ := HL.out
        have hr : writeS D fst bs (pos rs) = Dk.flush := by
          rw [HP.out.1.law, List.drop_eq_nil_of_le (Nat.le_refl _)]
          rfl
        rw [HF.out, hr]
        refine ⟨rfl, F2, d1, HP.out.1.turned.then_ d2 fun k hk hF => ?_, fun k hk => ?_⟩
        · rcases HP.out.1.foot k hF with h | h
          · exact h
          · have := HZ.out.1; omega
        · have := HP.out.2
          have := HZ.out.1
          rcases d3 k hk with h | h
          · rcases HP.out.1.foot k h with h | h
            · exact .inl h
            · exact .inr (by omega)
          · exact .inr (by omega)
  · have hbw : Below w.heap.size w w1 := HD.out.2.2.2.2.2.next hb1
    have HB := hide hbw
    have hput : D.put l a d bs rs = (2, D) := by rw [Dv.put, hE]; rfl
    clear hb1 hbw hE
    dsimp only
    go_wp2_with fail
    go_ret
    rw [hput]
    exact ⟨rfl, F, HD.out.1.below HB.out, Turned.of_below HB.out F, fun k hk => .inl hk⟩
end Go.Proofs.Ytajeohmmobgcjaa
end
section
namespace Go.Proofs.Ytajeohmmobgcjaa
open Go Go.RowKit
set_option maxRecDepth 100000
set_option maxHeartbeats 1000000 in
theorem rreadB_any {D : Dv} {F : Nat → Prop} {g : Nat} (l a d n : Int) (h64 : rightP l a d → d ≤ 64) (hn : -9223372036854775808 ≤ n ∧ n ≤ 9223372036854775807) (v : Value) (rs : List Run) (hlen : rs.length ≤ 1000000) (w : World)
    (hd : RefAt w F g D) (hpe : D.pend.length ≤ 90000) (hrs : RunsM w w.heap.size v rs) :
    Calls Try.prog 49 #[.pointer (some ⟨g, 0, none⟩), .agg #[.int .i64 l, .int .i64 a, .int .i64 d], .int .i64 n, v] w (GetQ (D.get l a d n rs) w) := by
  have hb0 : Below w.heap.size w (w.alloc (.cells #[.int .i64 l, .int .i64 a, .int .i64 d] 23)) := (Below.refl _ w).alloc (Nat.le_refl _) _
  have HD := hide (And.intro hd (And.intro hrs (And.intro h64 hb0)))
  clear hd hrs h64 hb0
  go_enter Try.func49, Try.ntmps49
  go_wp2_with fail
  refine (places_any l a d n HD.out.2.2.1 hn v rs hlen _ (HD.out.2.1.below HD.out.2.2.2) (HD.out.1.below HD.out.2.2.2)).mono ?_
  rintro e w1 ⟨hb1, ⟨hE, o, rfl, ho⟩ | ⟨hE, o, rfl⟩⟩
  · have hbw : Below w.heap.size w w1 := HD.out.2.2.2.next hb1
    obtain ⟨Ao, co, rfl⟩ := owned_slice ho
    have hsu : apartP l a d rs ∧ 0 ≤ n ∧ ((pos rs).length : Int) = needP n ∧ secs l a d ≤ (D.kept.length : Int) := by
      by_cases h : apartP l a d rs ∧ 0 ≤ n ∧ ((pos rs).length : Int) = needP n ∧ secs l a d ≤ (D.kept.length : Int)
      · exact h
      · rw [suitsE, if_neg h] at hE
        cases hE
    obtain ⟨hap, hn0, hneed, hsec⟩ := hsu
    obtain ⟨m, rfl⟩ : ∃ m : Nat, n = (m : Int) := ⟨n.toNat, by omega⟩
    have hfst : 0 ≤ firstS l a d ∧ firstS l a d ≤ 8192 ∧ firstS l a d + d = secs l a d := by
      have hR := hap.1
      have h1 := hR.1
      have h2 := hR.2.1
      have h3 := hR.2.2.1
      have h4 := hR.2.2.2
      rw [firstS, if_pos hR, secs, if_pos hR]
      unfold inW at h1 h2 h3
      omega
    have hcnt := apart_count hap
    have hd1 := apart_d hap
    have hd64 := HD.out.2.2.1 hap.1
    have hNN : (pos rs).length ≤ 64 := by omega
    obtain ⟨fst, hfs⟩ : ∃ fst : Nat, (fst : Int) = firstS l a d := ⟨(firstS l a d).toNat, by omega⟩
    rw [← hfs] at ho hfst
    have hml : m ≤ 64 * (pos rs).length := by
      rw [needP] at hneed
      split at hneed <;> omega
    have hx : ∀ p ∈ pos rs, fst + p < D.kept.length := fun p hp => by
      have := pos_lt hap.2.1 p hp
      omega
    have hget : D.get l a d m rs = if D.dn = true ∧ pos rs ≠ [] then (10, []) else (0, (D.gather fst (pos rs)).take m) := by
      rw [Dv.get, if_pos hE, show (firstS l a d).toNat = fst by omega, Int.toNat_natCast]
    have HF := hide hget
    have HX := hide (And.intro hx (And.intro hml (And.intro hbw ho)))
    obtain ⟨i8, hi, hz0, hz1, hz2⟩ := info_parts info_u8
    clear hx hml hbw ho hget hap hneed hsec hcnt hE hfs hb1
    dsimp only
    go_wp2_with fail
    go_loopw [12, 13] (fun u x wr => ∃ i : Nat, i ≤ (pos rs).length ∧ x = .int .i64 (i : Int) ∧ wr.ownsRow w1.heap.size 5 1 u (64 * i) (bv (D.gather fst ((pos rs).take i))) ∧ Below w1.heap.size w1 wr ∧ (D.dn = true → i = 0)) (fun _ x _ => (pos rs).length - (intOf x).toNat)
    case atStart => exact ⟨0, by omega, rfl, World.ownsRow_nil _ _ _ _, Below.refl _ _, fun _ => rfl⟩
    case round =>
      obtain ⟨i, hi', rfl, hov, hb, hdz⟩ := hrel
      have n1 : (0 : Int) ≤ (i : Int) := by omega
      have n3 : (i : Int) ≤ 64 := by omega
      have n4 : ((pos rs).length : Int) ≤ 64 := by omega
      have hrl := owned_keepN HX.out.2.2.2 (w' := wr) fun k _ hl => hb.block k hl
      by_cases hi2 : i < (pos rs).length
      · obtain ⟨p, hp⟩ : ∃ p, (pos rs)[i]? = some p := ⟨_, List.getElem?_eq_getElem hi2⟩
        have hpx := HX.out.1 p (List.mem_of_getElem? hp)
        obtain ⟨hq, cq, hAo⟩ := owned_placeN hrl (by omega)
        injection hAo with e1 _ e2
        subst e1 e2
        have hcl : wr.cell? ⟨hq, i, none⟩ = some (.int .i64 ((fst : Int) + (p : Int))) := by
          have h := own_range hrl i 1 [.int .i64 ((fst : Int) + (p : Int))] (by
            have h1 : (placeC (fst : Int) (pos rs))[i]? = some (.int .i64 ((fst : Int) + (p : Int))) := by simp [placeC, hp]
            obtain ⟨h2, h3⟩ := List.getElem?_eq_some_iff.1 h1
            rw [List.drop_eq_getElem_cons h2, h3]
            rfl)
          exact h 0 _ rfl
        have n2 : (i : Int) < ((pos rs).length : Int) := by omega
        have hdev : RefAt wr F g D := (HD.out.1.below HX.out.2.2.1).keep hb.size fun k hk _ => hb.block k hk
        have htk : (pos rs).take (i + 1) = (pos rs).take i ++ [p] := by
          rw [List.take_add_one, hp]
          rfl
        have HW := hide (And.intro hov (And.intro hb (And.intro hdz (And.intro htk hpx))))
        clear hov hb hdz htk hrl hp hpx
        by_cases hdn : D.dn = true
        · go_wp2_with fail
          refine (rread_down ((fst : Int) + (p : Int)) wr hdev hdn).mono ?_
          rintro e w2 ⟨rfl, rfl⟩
          dsimp only
          go_wp2_with fail
          refine bodyPost_ret (v := .tuple #[.slice none 0 0, .int .i64 10]) (by simp [results, Try.f49, go_sem]) rfl ?_
          rw [HF.out, if_pos ⟨hdn, fun h => by rw [h] at hi2; simp at hi2⟩]
          exact ⟨_, rfl, World.ownsRow_nil _ _ _ _, HX.out.2.2.1.next HW.out.2.1⟩
        · have hr := rread_ok (fst + p) HW.out.2.2.2.2 wr hdev (by simpa using hdn) (by omega)
          rw [Int.natCast_add] at hr
          clear hdev
          go_wp2_with fail
          refine hr.mono ?_
          rintro e w2 ⟨vb, rfl, hob, hb2⟩
          have h64b : (D.read (fst + p)).length = 64 := by
            have := hob.1
            rwa [bvL] at this
          obtain ⟨kb, cb, rfl⟩ := owned_placeN hob (by omega)
          have hsr := owned_src0 (l := D.read (fst + p)) (A := some ⟨kb, 0, none⟩) (cap := cb) (by rw [h64b]; exact hob)
          rw [h64b] at hsr
          have hov2 := owned_keepN HW.out.1 (w' := w2) fun k _ hl => hb2.block k hl
          have H2 := hide (And.intro hsr (And.intro hov2 hb2))
          clear hob h64b hsr hov2 hb2 hr
          dsimp only
          go_wp2_with (at_builtin; refine wpList_app rfl _ _ 48 rfl w1.heap.size 5 i8 (.int .u8 0) 1 Try.underlying48 hi hz0 hz1 hz2 rfl u12 (64 * i) (bv (D.gather fst ((pos rs).take i))) H2.out.2.1 (some ⟨kb, 0, none⟩) 64 cb (bv (D.read (fst + p))) H2.out.1 ?a1 ?a2 ?a3 rfl rfl ?_)
          case a1 => simp only [maxLen]; omega
          case a2 => omega
          case a3 => have := HW.out.2.1.size; have := H2.out.2.2.size; omega
          intro v' w3 ho3 hg3 _ _
          have HO := hide (And.intro ho3 hg3)
          clear ho3 hg3
          go_wp2_with fail
          refine ⟨⟨i + 1, by omega, by go_num, ?_, ?_, fun h => absurd h hdn⟩, by simp [intOf]; omega⟩
          · rw [HW.out.2.2.2.1, gather_one, show 64 * (i + 1) = 64 * i + 64 by omega, show bv (D.gather fst ((pos rs).take i) ++ D.read (fst + p)) = bv (D.gather fst ((pos rs).take i)) ++ bv (D.read (fst + p)) by simp [bv]]
            exact HO.out.1
          · exact (HW.out.2.1.next H2.out.2.2).grown HO.out.2 (by have := HW.out.2.1.size; have := H2.out.2.2.size; omega) fun k hk => (owned_ltN H2.out.2.1 hk).1
      · obtain rfl : i = (pos rs).length := by omega
        have n2 : ¬ (((pos rs).length : Nat) : Int) < ((pos rs).length : Int) := by omega
        rw [List.take_length] at hov
        obtain ⟨A1, cc1, rfl⟩ := owned_slice hov
        have hmc : m ≤ cc1 := by
          have := HX.out.2.1
          rcases owned_form hov with ⟨e, h0, _⟩ | ⟨g, cap, cur, e, _, h2, _⟩
          · omega
          · injection e with _ _ e
            omega
        have hs1 := run_slice_to (P := Try.prog) 48 5 Try.underlying48 size5 A1 (64 * (pos rs).length) cc1 m hmc
        have HW := hide (And.intro hov (And.intro hb hdz))
        clear hov hb hdz hmc hrl
        go_wp2_with fail
        refine bodyPost_ret (v := .tuple #[.slice A1 m cc1, .int .i64 0]) (by simp [results, Try.f49, go_sem]) rfl ?_
        obtain ⟨ho, hb, hdz⟩ := HW.out
        rw [HF.out, if_neg (fun h => h.2 (List.eq_nil_of_length_eq_zero (hdz h.1)))]
        have hglen : (D.gather fst (pos rs)).length = 64 * (pos rs).length := by
          have h := ho.1
          rw [bvL] at h
          omega
        have hcut : wr.ownsRow w1.heap.size 5 1 (.slice A1 m cc1) m (bv ((D.gather fst (pos rs)).take m)) := by
          have e : bv ((D.gather fst (pos rs)).take m) = (bv (D.gather fst (pos rs))).take m := by simp [bv, List.map_take]
          have hml := HX.out.2.1
          rw [e]
          rcases owned_form ho with ⟨e, h0, h2⟩ | ⟨g, cap, cur, e, _⟩
          · injection e with e1 e2 e3
            subst e1 e3
            obtain rfl : m = 0 := by omega
            rw [List.take_zero]
            exact World.ownsRow_nil _ _ _ _
          · injection e with e1 e2 e3
            subst e1 e3
            exact own_cut ho hml
        have hlt : ((D.gather fst (pos rs)).take m).length = m := by rw [List.length_take]; have := HX.out.2.1; omega
        refine ⟨.slice A1 m cc1, rfl, ?_, HX.out.2.2.1.next hb⟩
        show (_ : World).ownsRow _ _ _ _ ((D.gather fst (pos rs)).take m).length _
        rw [hlt]
        exact owned_baseN hcut fun k hk => by have := (owned_ltN hcut hk).1; have := HX.out.2.2.1.size; omega
  · have hbw : Below w.heap.size w w1 := HD.out.2.2.2.next hb1
    have HB := hide hbw
    have hget : D.get l a d n rs = (2, []) := by rw [Dv.get, hE]; rfl
    clear hb1 hbw hE
    dsimp only
    go_wp2_with fail
    refine bodyPost_ret (v := .tuple #[.slice none 0 0, .int .i64 2]) (by simp [results, Try.f49, go_sem]) rfl ?_
    rw [hget]
    exact ⟨_, rfl, World.ownsRow_nil _ _ _ _, HB.out⟩
end Go.Proofs.Ytajeohmmobgcjaa
end
