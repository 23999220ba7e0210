/- spenceref07: Write. spenceref07: Read. The walk of spencekit.Pick: the remainder, from nought on. spencelaw04: a deed is the same of both. spencelaw07: BlobWrites. spencelaw07: BlobWrites tells true of whatever puts. -/
import Derived.Test.YtfppddnfdinipaaMBE8
import Derived.Test.YtfppddnfdinipaaMBE7
import Derived.Test.YtfppddnfdinipaaMBE5
import Derived.Test.YtfppddnfdinipaaMBE1
import Derived.Deep.RegionHeld3
import Derived.Test.YtfppddnfdinipaaMBE2
import Derived.Deep.CutRange
section
namespace Go.Proofs.Ytfppddnfdinipaa
open Go Go.RowKit
set_option maxRecDepth 100000
section
variable {P : Program} (t e : TypeId) (ht : P.underlying t = some (.slice e)) (hs : (P.info? e).map (·.size) = some 1)
include ht hs
theorem run_slice_both (A : Option Addr) (len cap lo hi : Nat) (h1 : lo ≤ hi) (h2 : hi ≤ cap) (w : World) :
    (Instr.sliceAt t (.slice A len cap) (some (.int .i64 (lo : Int))) (some (.int .i64 (hi : Int))) none).run P w = .ok (.slice (if cap = lo then A else A.map (·.add lo)) (hi - lo) (cap - lo)) w := by
  have e2 : P.elem t = e := by simp [Program.elem, ht]
  rw [run_sliceAt_slice w t _ _ _ _ (by rw [e2]; exact ht)]
  have h := run_slice_lh (P := P) w t A len cap (by rw [e2]; exact ht) .i64 .i64 (lo : Int) (hi : Int) (by omega) (by omega) (by omega)
  rw [h, e2]
  cases hi : P.info? e with
  | none => simp [hi] at hs
  | some i =>
    have h1 : i.size = 1 := by simpa [hi] using hs
    simp [sizeOf, typeInfo, hi, h1, sliced]
end
def RPutQ (F : Nat → Prop) (g : Nat) (r : Int × Dv) (w : World) (e : Ending) (w' : World) : Prop := e = .returned (.int .i64 r.1) ∧ RLeft w F g r.2 w'
/-- what the loop of Write goes on with -/
structure RPutAt (F : Nat → Prop) (g : Nat) (w W : World) (L : Nat) (D : Dv) (fst : Int) (bs : List UInt8) (ps : List Nat) (A : Option Addr) (c : Nat) (v : Value) (i : Nat) (F' : Nat → Prop) (Dk : Dv) : Prop where
  dev : RefAt W F' g Dk
  foot : ∀ k, F' k → F k ∨ L ≤ k
  turned : Turned F w W
  de : Dk.de ≤ D.de + (i : Int)
  pend : Dk.pend.length ≤ D.pend.length + i
  row : W.ownsRow w.heap.size 3 1 v ps.length (placeC fst ps)
  src : Src W A bs.length c (bv bs)
  law : writeS D fst bs ps = writeS Dk fst (bs.drop (64 * i)) (ps.drop i)
theorem RPutAt.next {F F' : Nat → Prop} {g L c i p : Nat} {w W W2 : World} {D Dk : Dv} {fst : Int} {bs : List UInt8} {ps : List Nat} {A : Option Addr} {v : Value} (h : RPutAt F g w W L D fst bs ps A c v i F' Dk) (hp : ps[i]? = some p)
    (hL : RLeft W F' g (Dk.write (fst + (p : Int)) ((bs.drop (64 * i)).take 64)).2 W2) (h0 : (Dk.write (fst + (p : Int)) ((bs.drop (64 * i)).take 64)).1 = 0) (hwL : w.heap.size ≤ L) (hLW : L ≤ W.heap.size) (hv : ∀ k, v.ownBlock = some k → k < L ∧ ¬ F k) (hA : ∀ ad, A = some ad → 0 < bs.length → ad.block < w.heap.size ∧ ¬ F ad.block) :
    ∃ F2, RPutAt F g w W2 L D fst bs ps A c v (i + 1) F2 (Dk.write (fst + (p : Int)) ((bs.drop (64 * i)).take 64)).2 := by
  obtain ⟨F2, h1, h2, h3⟩ := hL
  have hw := write_more Dk (fst + (p : Int)) ((bs.drop (64 * i)).take 64)
  have hde := h.de
  have hpe := h.pend
  have hnot : ∀ k, k < L → ¬ F k → ¬ F' k := fun k hk hF hF' => by
    rcases h.foot k hF' with h | h
    · exact hF h
    · omega
  refine ⟨F2, h1, fun k hk => ?_, h.turned.then_ h2 fun k hk hF => ?_, by omega, by omega, owned_keepN h.row fun k hk hl => h2.block k hl (hnot k (hv k hk).1 (hv k hk).2), ⟨h.src.len, h.src.none_, h.src.one, fun ad ha j u hu => ?_⟩, ?_⟩
  · rcases h3 k hk with h4 | h4
    · exact h.foot k h4
    · exact .inr (by omega)
  · rcases h.foot k hF with h | h
    · exact h
    · omega
  · have hlt := (List.getElem?_eq_some_iff.1 hu).1
    rw [bvL] at hlt
    obtain ⟨k1, k2⟩ := hA ad ha (by omega)
    have hbk : (ad.add j).block = ad.block := by cases j <;> simp [Addr.add]
    rw [World.cell?_of_block (h2.block (ad.add j).block (by rw [hbk]; omega) (hnot _ (by rw [hbk]; omega) (by rw [hbk]; exact k2)))]
    exact h.src.cells ad ha j u hu
  · rw [h.law]
    have hd : ps.drop i = p :: ps.drop (i + 1) := by
      obtain ⟨hi, he⟩ := List.getElem?_eq_some_iff.1 hp
      rw [List.drop_eq_getElem_cons hi, he]
    rw [hd, writeS, if_pos h0, List.drop_drop]
    rfl
theorem Src.cut {W : World} {A : Option Addr} {c : Nat} {l : List UInt8} (h : Src W A l.length c (bv l)) (hc : l.length ≤ c) (k m : Nat) (hm : m = ((l.drop k).take 64).length) : Src W (if c = k then A else A.map (·.add k)) m (c - k) (bv ((l.drop k).take 64)) := by
  subst hm
  exact (h.drop k hc).take 64
theorem rwstep {F F' : Nat → Prop} {g L c i p m C2 : Nat} {w W : World} {D Dk : Dv} {fst : Int} {bs : List UInt8} {ps : List Nat} {A A2 : Option Addr} {v : Value} (h : RPutAt F g w W L D fst bs ps A c v i F' Dk) (hm : m = ((bs.drop (64 * i)).take 64).length) (hA2 : A2 = if c = 64 * i then A else A.map (·.add (64 * i))) (hC2 : C2 = c - 64 * i) (hc : bs.length ≤ c)
    (hi : i ≤ 64) (hde : D.de ≤ 900000000) (hpe : D.pend.length ≤ 90000) (hA : (∀ k, v.ownBlock = some k → k < L ∧ ¬ F k) ∧ ∀ ad, A = some ad → 0 < bs.length → ad.block < w.heap.size ∧ ¬ F ad.block) (hx : 0 ≤ fst + (p : Int) ∧ fst + (p : Int) ≤ 100000) (nq : Nat) (hwL : w.heap.size ≤ L := by assumption) :
    Calls Try.prog 133 #[.pointer (some ⟨g, 0, none⟩), .int .i64 (fst + (p : Int)), .slice A2 m C2] (W.drewN nq) fun e w' => e = .returned (.int .i64 (Dk.write (fst + (p : Int)) ((bs.drop (64 * i)).take 64)).1) ∧ RLeft W F' g (Dk.write (fst + (p : Int)) ((bs.drop (64 * i)).take 64)).2 w' := by
  subst hC2
  have hsr := h.src.cut hc (64 * i) m hm
  rw [← hA2] at hsr
  have hde2 := h.de
  have hpe2 := h.pend
  have hlen : ((bs.drop (64 * i)).take 64).length ≤ 64 := List.length_take_le ..
  subst hm
  refine (rwrite_any (fst + (p : Int)) ((bs.drop (64 * i)).take 64) A2 (c - 64 * i) (W.drewN nq) (h.dev.keep (Nat.le_refl _) fun _ _ _ => rfl) (by omega) (by omega) (by omega) (by omega) ⟨hsr.len, hsr.none_, hsr.one, hsr.cells⟩ fun ad ha h0 hF => ?_).mono ?_
  · have h1 : 0 < bs.length := by rw [List.length_take, List.length_drop] at h0; omega
    have h2 : ∃ ad', A = some ad' ∧ ad'.block = ad.block := by
      rw [ha] at hA2
      split at hA2
      · exact ⟨ad, hA2.symm, rfl⟩
      · obtain ⟨ad', e1, e2⟩ := Option.map_eq_some_iff.1 hA2.symm
        exact ⟨ad', e1, by rw [← e2]; cases hq : 64 * i <;> simp [Addr.add]⟩
    obtain ⟨ad', e1, e2⟩ := h2
    obtain ⟨k1, k2⟩ := hA.2 ad' e1 h1
    rw [e2] at k1 k2
    rcases h.foot _ hF with h | h
    · exact k2 h
    · omega
  · rintro e w' ⟨he, F2, d1, d2, d3⟩
    exact ⟨he, F2, d1, ⟨d2.os, d2.tape, d2.output, d2.size, d2.block⟩, d3⟩
set_option maxHeartbeats 1000000 in
theorem rwriteB_any {D : Dv} {F : Nat → Prop} {g : Nat} (l a d : Int) (h64 : rightP l a d → d ≤ 64) (bs : List UInt8) (hbs : bs.length ≤ 1000000) (A : Option Addr) (cap : Nat) (hcap : bs.length ≤ cap) (v : Value) (rs : List Run) (hlen : rs.length ≤ 1000000) (w : World)
    (hd : RefAt w F g D) (hde : D.de ≤ 900000000) (hpe : D.pend.length ≤ 90000) (hrs : RunsM w w.heap.size v rs) (hs : Src w A bs.length cap (bv bs)) (hsb : ∀ ad, A = some ad → 0 < bs.length → ¬ F ad.block) :
    Calls Try.prog 82 #[.pointer (some ⟨g, 0, none⟩), .agg #[.int .i64 l, .int .i64 a, .int .i64 d], .slice A bs.length cap, v] w (RPutQ F g (D.put l a d bs rs) w) := by
  have hb0 : Below w.heap.size w (w.alloc (.cells #[.int .i64 l, .int .i64 a, .int .i64 d] 64)) := (Below.refl _ w).alloc (Nat.le_refl _) _
  have HD := hide (And.intro hd (And.intro hrs (And.intro hs (And.intro hsb (And.intro h64 hb0)))))
  clear hd hrs hs hsb h64 hb0
  go_enter Try.func82, Try.ntmps82
  go_wp2_with fail
  refine (places_any l a d (bs.length : Int) HD.out.2.2.2.2.1 (by omega) v rs hlen _ (HD.out.2.1.below HD.out.2.2.2.2.2) (HD.out.1.below HD.out.2.2.2.2.2)).mono ?_
  rintro e w1 ⟨hb1, ⟨hE, o, rfl, ho⟩ | ⟨hE, o, rfl⟩⟩
  · have hbw : Below w.heap.size w w1 := HD.out.2.2.2.2.2.next hb1
    obtain ⟨Ao, co, rfl⟩ := owned_slice ho
    have hap : apartP l a d rs ∧ ((pos rs).length : Int) = needP bs.length := by
      by_cases h : apartP l a d rs ∧ 0 ≤ (bs.length : Int) ∧ ((pos rs).length : Int) = needP bs.length ∧ secs l a d ≤ (D.kept.length : Int)
      · exact ⟨h.1, h.2.2.1⟩
      · rw [suitsE, if_neg h] at hE
        cases hE
    have hput : D.put l a d bs rs = writeS D (firstS l a d) bs (pos rs) := by rw [Dv.put, if_pos hE]
    have hfst : 0 ≤ firstS l a d ∧ firstS l a d ≤ 8192 := by
      have hR := hap.1.1
      have h1 := hR.1
      have h2 := hR.2.1
      have h3 := hR.2.2.1
      have h4 := hR.2.2.2
      rw [firstS, if_pos hR]
      unfold inW at h1 h2 h3
      omega
    have hNN : (pos rs).length ≤ 64 := by
      have h1 := apart_count hap.1
      have h2 := HD.out.2.2.2.2.1 hap.1.1
      omega
    have hpl : ∀ x ∈ pos rs, x < 64 := fun x hx => by
      have h1 := pos_lt hap.1.2.1 x hx
      have h2 := HD.out.2.2.2.2.1 hap.1.1
      omega
    obtain ⟨fst, hfs⟩ : ∃ fst, fst = firstS l a d := ⟨_, rfl⟩
    rw [← hfs] at hput ho hfst
    have hneed := hap.2
    rw [needP] at hneed
    have hP0 : RPutAt F g w w1 w1.heap.size D fst bs (pos rs) A cap (.slice Ao (pos rs).length co) 0 F D :=
      ⟨HD.out.1.below hbw, fun k hk => .inl hk, Turned.of_below hbw F, by simp, by simp, owned_baseN ho fun k hk => by have := (owned_ltN ho hk).1; rw [size_alloc] at this; omega, ⟨HD.out.2.2.1.len, HD.out.2.2.1.none_, HD.out.2.2.1.one, fun ad ha j u hu => by
        have h := HD.out.2.2.1.cells ad ha j u hu
        exact (hbw.cell (World.block_lt_of_cell? w _ h)).trans h⟩, by simp⟩
    have hv : ∀ k, (Value.slice Ao (pos rs).length co).ownBlock = some k → k < w1.heap.size ∧ ¬ F k := fun k hk => by
      have h := owned_ltN ho hk
      rw [size_alloc] at h
      exact ⟨h.2, fun hF => by have := HD.out.1.lt k hF; omega⟩
    have hA : ∀ ad, A = some ad → 0 < bs.length → ad.block < w.heap.size ∧ ¬ F ad.block := fun ad ha h0 => by
      refine ⟨?_, HD.out.2.2.2.1 ad ha h0⟩
      obtain ⟨u, hu⟩ : ∃ u, (bv bs)[0]? = some u := ⟨_, List.getElem?_eq_getElem (by rw [bvL]; exact h0)⟩
      have h := World.block_lt_of_cell? w _ (HD.out.2.2.1.cells ad ha 0 _ hu)
      simpa [Addr.add] using h
    have hwL := hbw.size
    have HF := hide hput
    obtain ⟨L, hL⟩ : ∃ L, L = w1.heap.size := ⟨_, rfl⟩
    rw [← hL] at hP0 hv hwL
    have HP0 := hide (And.intro hP0 (show L ≤ w1.heap.size by omega))
    have HZ := hide (And.intro hwL (And.intro hv hA))
    have HPL := hide hpl
    have HNEED := hide hneed
    clear hneed hP0 hv hA hwL hput hap hpl hfs hbw hb1 ho hL hE
    dsimp only
    go_wp2_with fail
    go_loopw [11] (fun x wr => ∃ (i : Nat) (F' : Nat → Prop) (Dk : Dv), i ≤ (pos rs).length ∧ x = .int .i64 (i : Int) ∧ RPutAt F g w wr L D fst bs (pos rs) A cap (.slice Ao (pos rs).length co) i F' Dk ∧ L ≤ wr.heap.size) (fun x _ => (pos rs).length - (intOf x).toNat)
    case atStart => exact ⟨0, F, D, by omega, rfl, HP0.out⟩
    case round =>
      obtain ⟨i, F', Dk, hi, rfl, hP, hLW⟩ := hrel
      have n1 : (0 : Int) ≤ (i : Int) := by omega
      by_cases hi2 : i < (pos rs).length
      · obtain ⟨p, hp⟩ : ∃ p, (pos rs)[i]? = some p := ⟨_, List.getElem?_eq_getElem hi2⟩
        have hp64 := HPL.out p (List.mem_of_getElem? hp)
        have hlo : 64 * i < bs.length := by
          have hneed := HNEED.out
          split at hneed <;> omega
        obtain ⟨hq, cq, hAo⟩ := owned_placeN hP.row (by omega)
        injection hAo with e1 _ e2
        subst e1 e2
        have hcl : wr.cell? ⟨hq, i, none⟩ = some (.int .i64 (fst + (p : Int))) := by
          have h := own_range hP.row i 1 [.int .i64 (fst + (p : Int))] (by
            have h1 : (placeC fst (pos rs))[i]? = some (.int .i64 (fst + (p : Int))) := by simp [placeC, hp]
            obtain ⟨h2, h3⟩ := List.getElem?_eq_some_iff.1 h1
            rw [List.drop_eq_getElem_cons h2, h3]
            rfl)
          exact h 0 _ rfl
        have n2 : (i : Int) < ((pos rs).length : Int) := by omega
        have n3 : (i : Int) ≤ 64 := by omega
        have n4 : ((pos rs).length : Int) ≤ 64 := by omega
        have n5 : (bs.length : Int) ≤ 1000000 := by omega
        obtain ⟨m, hm⟩ : ∃ m, m = ((bs.drop (64 * i)).take 64).length := ⟨_, rfl⟩
        have hm2 : m = min 64 (bs.length - 64 * i) := by rw [hm, List.length_take, List.length_drop]
        obtain ⟨A2, hA2⟩ : ∃ A2, A2 = (if cap = 64 * i then A else A.map (·.add (64 * i))) := ⟨_, rfl⟩
        obtain ⟨C2, hC2⟩ : ∃ C2, C2 = cap - 64 * i := ⟨_, rfl⟩
        have HA2 := hide (And.intro hA2 hC2)
        have e64 : ((64 * i : Nat) : Int) = 64 * (i : Int) := by omega
        have HP := hide hP
        have HM := hide (And.intro hm (And.intro hp hLW))
        have HE := hide e64
        clear hP hLW hm hp hA2 hC2
        by_cases hle : 64 * i + 64 ≤ bs.length
        · have q1 : 64 * (i : Int) + 64 ≤ (bs.length : Int) := by omega
          have hs1 : ∀ w, (Instr.sliceAt 66 (.slice A bs.length cap) (some (.int .i64 (64 * (i : Int)))) (some (.int .i64 (64 * (i : Int) + 64))) none).run Try.prog w = .ok (.slice A2 m C2) w := fun w => by
            have h := run_slice_both (P := Try.prog) 66 5 Try.underlying66 size5 A bs.length cap (64 * i) (64 * i + 64) (by omega) (by omega) w
            rw [e64, show ((64 * i + 64 : Nat) : Int) = 64 * (i : Int) + 64 by omega, show 64 * i + 64 - 64 * i = m by omega] at h
            rw [HA2.out.1, HA2.out.2]
            exact h
          clear hm2 e64
          go_wp2_with fail
          refine wp_quiet_tail_drewN 15 (by kernel_rfl) (by kernel_rfl) ?_
          simp only [List.take_succ_cons, List.take_zero, List.drop_succ_cons, List.drop_zero]
          repeat (go_big_quiet_step (fail))
          refine wpQuiet_nil ?_
          intro nq
          go_wp2_with fail
          refine (rwstep HP.out HM.out.1 HA2.out.1 HA2.out.2 hcap (by omega) hde hpe HZ.out.2 ⟨by omega, by omega⟩ nq HZ.out.1).mono ?_
          rintro e W2 ⟨rfl, hL⟩
          have HL := hide hL
          clear hL
          by_cases h0 : (Dk.write (fst + (p : Int)) ((bs.drop (64 * i)).take 64)).1 = 0
          · rw [h0]
            have hnext := HP.out.next HM.out.2.1 HL.out h0 HZ.out.1 HM.out.2.2 HZ.out.2.1 HZ.out.2.2
            have HN := hide hnext
            have hLW : L ≤ W2.heap.size := by
              obtain ⟨_, _, ht, _⟩ := HL.out
              exact Nat.le_trans HM.out.2.2 ht.size
            clear h0 hnext
            dsimp only
            go_wp2_with fail
            obtain ⟨F2, hn2⟩ := HN.out
            exact ⟨⟨i + 1, F2, _, by omega, by go_num, hn2, hLW⟩, by simp [intOf]; omega⟩
          · obtain ⟨E, hE⟩ : ∃ E, E = (Dk.write (fst + (p : Int)) ((bs.drop (64 * i)).take 64)).1 := ⟨_, rfl⟩
            rw [← hE] at h0 ⊢
            have h0b : (E != 0) = true := by simpa using h0
            have H0 := hide (And.intro h0 hE)
            clear h0 hE
            dsimp only
            go_wp2_with fail
            go_ret
            obtain ⟨F2, d1, d2, d3⟩ := HL.out
            have hr : writeS D fst bs (pos rs) = Dk.write (fst + (p : Int)) ((bs.drop (64 * i)).take 64) := by
              rw [HP.out.law]
              obtain ⟨hi, he⟩ := List.getElem?_eq_some_iff.1 HM.out.2.1
              rw [List.drop_eq_getElem_cons hi, he, writeS, if_neg (by rw [← H0.out.2]; exact H0.out.1)]
            rw [HF.out, hr]
            refine ⟨by rw [H0.out.2]; rfl, F2, d1, HP.out.turned.then_ d2 fun k hk hF => ?_, fun k hk => ?_⟩
            · rcases HP.out.foot k hF with h | h
              · exact h
              · have := HZ.out.1; omega
            · have := HM.out.2.2
              have := HZ.out.1
              rcases d3 k hk with h | h
              · rcases HP.out.foot k h with h | h
                · exact .inl h
                · exact .inr (by omega)
              · exact .inr (by omega)
        · have q1 : ¬ 64 * (i : Int) + 64 ≤ (bs.length : Int) := by omega
          have hs1 : ∀ w, (Instr.sliceAt 66 (.slice A bs.length cap) (some (.int .i64 (64 * (i : Int)))) (some (.int .i64 ((bs.length : Int)))) none).run Try.prog w = .ok (.slice A2 m C2) w := fun w => by
            have h := run_slice_both (P := Try.prog) 66 5 Try.underlying66 size5 A bs.length cap (64 * i) (bs.length) (by omega) (by omega) w
            rw [e64, show ((bs.length : Nat) : Int) = (bs.length : Int) by omega, show bs.length - 64 * i = m by omega] at h
            rw [HA2.out.1, HA2.out.2]
            exact h
          clear hm2 e64
          go_wp2_with fail
          refine wp_quiet_tail_drewN 15 (by kernel_rfl) (by kernel_rfl) ?_
          simp only [List.take_succ_cons, List.take_zero, List.drop_succ_cons, List.drop_zero]
          repeat (go_big_quiet_step (fail))
          refine wpQuiet_nil ?_
          intro nq
          go_wp2_with fail
          refine (rwstep HP.out HM.out.1 HA2.out.1 HA2.out.2 hcap (by omega) hde hpe HZ.out.2 ⟨by omega, by omega⟩ nq HZ.out.1).mono ?_
          rintro e W2 ⟨rfl, hL⟩
          have HL := hide hL
          clear hL
          by_cases h0 : (Dk.write (fst + (p : Int)) ((bs.drop (64 * i)).take 64)).1 = 0
          · rw [h0]
            have hnext := HP.out.next HM.out.2.1 HL.out h0 HZ.out.1 HM.out.2.2 HZ.out.2.1 HZ.out.2.2
            have HN := hide hnext
            have hLW : L ≤ W2.heap.size := by
              obtain ⟨_, _, ht, _⟩ := HL.out
              exact Nat.le_trans HM.out.2.2 ht.size
            clear h0 hnext
            dsimp only
            go_wp2_with fail
            obtain ⟨F2, hn2⟩ := HN.out
            exact ⟨⟨i + 1, F2, _, by omega, by go_num, hn2, hLW⟩, by simp [intOf]; omega⟩
          · obtain ⟨E, hE⟩ : ∃ E, E = (Dk.write (fst + (p : Int)) ((bs.drop (64 * i)).take 64)).1 := ⟨_, rfl⟩
            rw [← hE] at h0 ⊢
            have h0b : (E != 0) = true := by simpa using h0
            have H0 := hide (And.intro h0 hE)
            clear h0 hE
            dsimp only
            go_wp2_with fail
            go_ret
            obtain ⟨F2, d1, d2, d3⟩ := HL.out
            have hr : writeS D fst bs (pos rs) = Dk.write (fst + (p : Int)) ((bs.drop (64 * i)).take 64) := by
              rw [HP.out.law]
              obtain ⟨hi, he⟩ := List.getElem?_eq_some_iff.1 HM.out.2.1
              rw [List.drop_eq_getElem_cons hi, he, writeS, if_neg (by rw [← H0.out.2]; exact H0.out.1)]
            rw [HF.out, hr]
            refine ⟨by rw [H0.out.2]; rfl, F2, d1, HP.out.turned.then_ d2 fun k hk hF => ?_, fun k hk => ?_⟩
            · rcases HP.out.foot k hF with h | h
              · exact h
              · have := HZ.out.1; omega
            · have := HM.out.2.2
              have := HZ.out.1
              rcases d3 k hk with h | h
              · rcases HP.out.foot k h with h | h
                · exact .inl h
                · exact .inr (by omega)
              · exact .inr (by omega)
      · obtain rfl : i = (pos rs).length := by omega
        have n2 : ¬ (((pos rs).length : Nat) : Int) < ((pos rs).length : Int) := by omega
        have HP := hide (And.intro hP hLW)
        clear hP hLW
        go_wp2_with fail
        refine (rflush_any wr HP.out.1.dev (by have := HP.out.1.de; omega) (by have := HP.out.1.pend; omega)).mono ?_
        rintro e W2 ⟨rfl, hL⟩
        have HL := hide hL
        clear hL
        dsimp only
        go_wp2_with fail
        go_ret
        obtain ⟨F2, d1, d2, d3⟩ := HL.out
        have hr : writeS D fst bs (pos rs) = Dk.flush := by
          rw [HP.out.1.law, List.drop_eq_nil_of_le (Nat.le_refl _)]
          rfl
        rw [HF.out, hr]
        refine ⟨rfl, F2, d1, HP.out.1.turned.then_ d2 fun k hk hF => ?_, fun k hk => ?_⟩
        · rcases HP.out.1.foot k hF with h | h
          · exact h
          · have := HZ.out.1; omega
        · have := HP.out.2
          have := HZ.out.1
          rcases d3 k hk with h | h
          · rcases HP.out.1.foot k h with h | h
            · exact .inl h
            · exact .inr (by omega)
          · exact .inr (by omega)
  · have hbw : Below w.heap.size w w1 := HD.out.2.2.2.2.2.next hb1
    have HB := hide hbw
    have hput : D.put l a d bs rs = (2, D) := by rw [Dv.put, hE]; rfl
    clear hb1 hbw hE
    dsimp only
    go_wp2_with fail
    go_ret
    rw [hput]
    exact ⟨rfl, F, HD.out.1.below HB.out, Turned.of_below HB.out F, fun k hk => .inl hk⟩
end Go.Proofs.Ytfppddnfdinipaa
end
section
namespace Go.Proofs.Ytfppddnfdinipaa
open Go Go.RowKit
set_option maxRecDepth 100000
set_option maxHeartbeats 1000000 in
theorem rreadB_any {D : Dv} {F : Nat → Prop} {g : Nat} (l a d n : Int) (h64 : rightP l a d → d ≤ 64) (hn : -9223372036854775808 ≤ n ∧ n ≤ 9223372036854775807) (v : Value) (rs : List Run) (hlen : rs.length ≤ 1000000) (w : World)
    (hd : RefAt w F g D) (hpe : D.pend.length ≤ 90000) (hrs : RunsM w w.heap.size v rs) :
    Calls Try.prog 85 #[.pointer (some ⟨g, 0, none⟩), .agg #[.int .i64 l, .int .i64 a, .int .i64 d], .int .i64 n, v] w (GetQ (D.get l a d n rs) w) := by
  have hb0 : Below w.heap.size w (w.alloc (.cells #[.int .i64 l, .int .i64 a, .int .i64 d] 64)) := (Below.refl _ w).alloc (Nat.le_refl _) _
  have HD := hide (And.intro hd (And.intro hrs (And.intro h64 hb0)))
  clear hd hrs h64 hb0
  go_enter Try.func85, Try.ntmps85
  go_wp2_with fail
  refine (places_any l a d n HD.out.2.2.1 hn v rs hlen _ (HD.out.2.1.below HD.out.2.2.2) (HD.out.1.below HD.out.2.2.2)).mono ?_
  rintro e w1 ⟨hb1, ⟨hE, o, rfl, ho⟩ | ⟨hE, o, rfl⟩⟩
  · have hbw : Below w.heap.size w w1 := HD.out.2.2.2.next hb1
    obtain ⟨Ao, co, rfl⟩ := owned_slice ho
    have hsu : apartP l a d rs ∧ 0 ≤ n ∧ ((pos rs).length : Int) = needP n ∧ secs l a d ≤ (D.kept.length : Int) := by
      by_cases h : apartP l a d rs ∧ 0 ≤ n ∧ ((pos rs).length : Int) = needP n ∧ secs l a d ≤ (D.kept.length : Int)
      · exact h
      · rw [suitsE, if_neg h] at hE
        cases hE
    obtain ⟨hap, hn0, hneed, hsec⟩ := hsu
    obtain ⟨m, rfl⟩ : ∃ m : Nat, n = (m : Int) := ⟨n.toNat, by omega⟩
    have hfst : 0 ≤ firstS l a d ∧ firstS l a d ≤ 8192 ∧ firstS l a d + d = secs l a d := by
      have hR := hap.1
      have h1 := hR.1
      have h2 := hR.2.1
      have h3 := hR.2.2.1
      have h4 := hR.2.2.2
      rw [firstS, if_pos hR, secs, if_pos hR]
      unfold inW at h1 h2 h3
      omega
    have hcnt := apart_count hap
    have hd1 := apart_d hap
    have hd64 := HD.out.2.2.1 hap.1
    have hNN : (pos rs).length ≤ 64 := by omega
    obtain ⟨fst, hfs⟩ : ∃ fst : Nat, (fst : Int) = firstS l a d := ⟨(firstS l a d).toNat, by omega⟩
    rw [← hfs] at ho hfst
    have hml : m ≤ 64 * (pos rs).length := by
      rw [needP] at hneed
      split at hneed <;> omega
    have hx : ∀ p ∈ pos rs, fst + p < D.kept.length := fun p hp => by
      have := pos_lt hap.2.1 p hp
      omega
    have hget : D.get l a d m rs = if D.dn = true ∧ pos rs ≠ [] then (10, []) else (0, (D.gather fst (pos rs)).take m) := by
      rw [Dv.get, if_pos hE, show (firstS l a d).toNat = fst by omega, Int.toNat_natCast]
    have HF := hide hget
    have HX := hide (And.intro hx (And.intro hml (And.intro hbw ho)))
    obtain ⟨i8, hi, hz0, hz1, hz2⟩ := info_parts info_u8
    clear hx hml hbw ho hget hap hneed hsec hcnt hE hfs hb1
    dsimp only
    go_wp2_with fail
    go_loopw [12, 13] (fun u x wr => ∃ i : Nat, i ≤ (pos rs).length ∧ x = .int .i64 (i : Int) ∧ wr.ownsRow w1.heap.size 5 1 u (64 * i) (bv (D.gather fst ((pos rs).take i))) ∧ Below w1.heap.size w1 wr ∧ (D.dn = true → i = 0)) (fun _ x _ => (pos rs).length - (intOf x).toNat)
    case atStart => exact ⟨0, by omega, rfl, World.ownsRow_nil _ _ _ _, Below.refl _ _, fun _ => rfl⟩
    case round =>
      obtain ⟨i, hi', rfl, hov, hb, hdz⟩ := hrel
      have n1 : (0 : Int) ≤ (i : Int) := by omega
      have n3 : (i : Int) ≤ 64 := by omega
      have n4 : ((pos rs).length : Int) ≤ 64 := by omega
      have hrl := owned_keepN HX.out.2.2.2 (w' := wr) fun k _ hl => hb.block k hl
      by_cases hi2 : i < (pos rs).length
      · obtain ⟨p, hp⟩ : ∃ p, (pos rs)[i]? = some p := ⟨_, List.getElem?_eq_getElem hi2⟩
        have hpx := HX.out.1 p (List.mem_of_getElem? hp)
        obtain ⟨hq, cq, hAo⟩ := owned_placeN hrl (by omega)
        injection hAo with e1 _ e2
        subst e1 e2
        have hcl : wr.cell? ⟨hq, i, none⟩ = some (.int .i64 ((fst : Int) + (p : Int))) := by
          have h := own_range hrl i 1 [.int .i64 ((fst : Int) + (p : Int))] (by
            have h1 : (placeC (fst : Int) (pos rs))[i]? = some (.int .i64 ((fst : Int) + (p : Int))) := by simp [placeC, hp]
            obtain ⟨h2, h3⟩ := List.getElem?_eq_some_iff.1 h1
            rw [List.drop_eq_getElem_cons h2, h3]
            rfl)
          exact h 0 _ rfl
        have n2 : (i : Int) < ((pos rs).length : Int) := by omega
        have hdev : RefAt wr F g D := (HD.out.1.below HX.out.2.2.1).keep hb.size fun k hk _ => hb.block k hk
        have htk : (pos rs).take (i + 1) = (pos rs).take i ++ [p] := by
          rw [List.take_add_one, hp]
          rfl
        have HW := hide (And.intro hov (And.intro hb (And.intro hdz (And.intro htk hpx))))
        clear hov hb hdz htk hrl hp hpx
        by_cases hdn : D.dn = true
        · go_wp2_with fail
          refine (rread_down ((fst : Int) + (p : Int)) wr hdev hdn).mono ?_
          rintro e w2 ⟨rfl, rfl⟩
          dsimp only
          go_wp2_with fail
          refine bodyPost_ret (v := .tuple #[.slice none 0 0, .int .i64 10]) (by simp [results, Try.f85, go_sem]) rfl ?_
          rw [HF.out, if_pos ⟨hdn, fun h => by rw [h] at hi2; simp at hi2⟩]
          exact ⟨_, rfl, World.ownsRow_nil _ _ _ _, HX.out.2.2.1.next HW.out.2.1⟩
        · have hr := rread_ok (fst + p) HW.out.2.2.2.2 wr hdev (by simpa using hdn) (by omega)
          rw [Int.natCast_add] at hr
          clear hdev
          go_wp2_with fail
          refine hr.mono ?_
          rintro e w2 ⟨vb, rfl, hob, hb2⟩
          have h64b : (D.read (fst + p)).length = 64 := by
            have := hob.1
            rwa [bvL] at this
          obtain ⟨kb, cb, rfl⟩ := owned_placeN hob (by omega)
          have hsr := owned_src0 (l := D.read (fst + p)) (A := some ⟨kb, 0, none⟩) (cap := cb) (by rw [h64b]; exact hob)
          rw [h64b] at hsr
          have hov2 := owned_keepN HW.out.1 (w' := w2) fun k _ hl => hb2.block k hl
          have H2 := hide (And.intro hsr (And.intro hov2 hb2))
          clear hob h64b hsr hov2 hb2 hr
          dsimp only
          go_wp2_with (at_builtin; refine wpList_app rfl _ _ 66 rfl w1.heap.size 5 i8 (.int .u8 0) 1 Try.underlying66 hi hz0 hz1 hz2 rfl u12 (64 * i) (bv (D.gather fst ((pos rs).take i))) H2.out.2.1 (some ⟨kb, 0, none⟩) 64 cb (bv (D.read (fst + p))) H2.out.1 ?a1 ?a2 ?a3 rfl rfl ?_)
          case a1 => simp only [maxLen]; omega
          case a2 => omega
          case a3 => have := HW.out.2.1.size; have := H2.out.2.2.size; omega
          intro v' w3 ho3 hg3 _ _
          have HO := hide (And.intro ho3 hg3)
          clear ho3 hg3
          go_wp2_with fail
          refine ⟨⟨i + 1, by omega, by go_num, ?_, ?_, fun h => absurd h hdn⟩, by simp [intOf]; omega⟩
          · rw [HW.out.2.2.2.1, gather_one, show 64 * (i + 1) = 64 * i + 64 by omega, show bv (D.gather fst ((pos rs).take i) ++ D.read (fst + p)) = bv (D.gather fst ((pos rs).take i)) ++ bv (D.read (fst + p)) by simp [bv]]
            exact HO.out.1
          · exact (HW.out.2.1.next H2.out.2.2).grown HO.out.2 (by have := HW.out.2.1.size; have := H2.out.2.2.size; omega) fun k hk => (owned_ltN H2.out.2.1 hk).1
      · obtain rfl : i = (pos rs).length := by omega
        have n2 : ¬ (((pos rs).length : Nat) : Int) < ((pos rs).length : Int) := by omega
        rw [List.take_length] at hov
        obtain ⟨A1, cc1, rfl⟩ := owned_slice hov
        have hmc : m ≤ cc1 := by
          have := HX.out.2.1
          rcases owned_form hov with ⟨e, h0, _⟩ | ⟨g, cap, cur, e, _, h2, _⟩
          · omega
          · injection e with _ _ e
            omega
        have hs1 := run_slice_to (P := Try.prog) 66 5 Try.underlying66 size5 A1 (64 * (pos rs).length) cc1 m hmc
        have HW := hide (And.intro hov (And.intro hb hdz))
        clear hov hb hdz hmc hrl
        go_wp2_with fail
        refine bodyPost_ret (v := .tuple #[.slice A1 m cc1, .int .i64 0]) (by simp [results, Try.f85, go_sem]) rfl ?_
        obtain ⟨ho, hb, hdz⟩ := HW.out
        rw [HF.out, if_neg (fun h => h.2 (List.eq_nil_of_length_eq_zero (hdz h.1)))]
        have hglen : (D.gather fst (pos rs)).length = 64 * (pos rs).length := by
          have h := ho.1
          rw [bvL] at h
          omega
        have hcut : wr.ownsRow w1.heap.size 5 1 (.slice A1 m cc1) m (bv ((D.gather fst (pos rs)).take m)) := by
          have e : bv ((D.gather fst (pos rs)).take m) = (bv (D.gather fst (pos rs))).take m := by simp [bv, List.map_take]
          have hml := HX.out.2.1
          rw [e]
          rcases owned_form ho with ⟨e, h0, h2⟩ | ⟨g, cap, cur, e, _⟩
          · injection e with e1 e2 e3
            subst e1 e3
            obtain rfl : m = 0 := by omega
            rw [List.take_zero]
            exact World.ownsRow_nil _ _ _ _
          · injection e with e1 e2 e3
            subst e1 e3
            exact own_cut ho hml
        have hlt : ((D.gather fst (pos rs)).take m).length = m := by rw [List.length_take]; have := HX.out.2.1; omega
        refine ⟨.slice A1 m cc1, rfl, ?_, HX.out.2.2.1.next hb⟩
        show (_ : World).ownsRow _ _ _ _ ((D.gather fst (pos rs)).take m).length _
        rw [hlt]
        exact owned_baseN hcut fun k hk => by have := (owned_ltN hcut hk).1; have := HX.out.2.2.1.size; omega
  · have hbw : Below w.heap.size w w1 := HD.out.2.2.2.next hb1
    have HB := hide hbw
    have hget : D.get l a d n rs = (2, []) := by rw [Dv.get, hE]; rfl
    clear hb1 hbw hE
    dsimp only
    go_wp2_with fail
    refine bodyPost_ret (v := .tuple #[.slice none 0 0, .int .i64 2]) (by simp [results, Try.f85, go_sem]) rfl ?_
    rw [hget]
    exact ⟨_, rfl, World.ownsRow_nil _ _ _ _, HB.out⟩
end Go.Proofs.Ytfppddnfdinipaa
end
section
namespace Go.Proofs.Ytfppddnfdinipaa
open Go.RowKit
set_option maxHeartbeats 400000 in
theorem pick_any (x n : Int) (w : World) (h1 : 1 ≤ n) (h2 : n ≤ 4294967296) (_hx : -9223372036854775808 ≤ x ∧ x ≤ 9223372036854775807) :
    Calls Try.prog 36 #[.int .i64 x, .int .i64 n] w fun e w' => e = .returned (.int .i64 (x % n)) ∧ w = w' := by
  have hlt : x % n < n := Int.emod_lt_of_pos _ (by omega)
  have hge : 0 ≤ x % n := Int.emod_nonneg _ (by omega)
  by_cases h : x.tmod n < 0
  · have hr : x.tmod n + n = x % n := by
      rw [Int.tmod_eq_emod]
      split
      · rename_i h3
        rw [Int.tmod_eq_emod, if_pos h3] at h; omega
      · rw [Int.natAbs_of_nonneg (by omega)]; omega
    go_enter Try.func36, Try.ntmps36
    go_wp2
    go_ret
    refine ⟨ret_int ?_, rfl⟩
    first | rfl | rw [hr] | (rw [hr]; exact IntWalk.wrap64_in _ (by omega))
  · have hr : x.tmod n = x % n := by
      rw [Int.tmod_eq_emod] at h ⊢
      split
      · omega
      · rename_i h3
        rw [if_neg h3, Int.natAbs_of_nonneg (by omega)] at h
        omega
    go_enter Try.func36, Try.ntmps36
    go_wp2
    go_ret
    exact ⟨ret_int (by first | rfl | exact hr), rfl⟩

end Go.Proofs.Ytfppddnfdinipaa
end
section
namespace Go.Proofs.Ytfppddnfdinipaa
open Go Go.RowKit
/-- a deed more, at most -/
structure Grows (D D' : Dv) : Prop where
  kept : D'.kept.length = D.kept.length
  pend : D'.pend.length ≤ D.pend.length + 1
  de : D'.de ≤ D.de + 1
theorem Grows.refl (D : Dv) : Grows D D := ⟨rfl, by omega, by omega⟩
theorem tick_de (de fu : Int) (dn : Bool) : (tick de fu dn).2.1 ≤ de + 1 := by
  unfold tick
  split
  · show de ≤ de + 1; omega
  · split <;> exact Int.le_refl _
theorem grows_write (D : Dv) (x : Int) (l : List UInt8) : Grows D (D.write x l).2 := by
  unfold Dv.write
  split
  · exact .refl D
  · split
    · exact .refl D
    · refine ⟨rfl, ?_, tick_de _ _ _⟩
      show (if _ then _ else _ : List _).length ≤ _
      split <;> simp
theorem grows_flush (D : Dv) : Grows D D.flush.2 := by
  unfold Dv.flush
  split
  · exact .refl D
  · refine ⟨?_, ?_, tick_de _ _ _⟩
    · show (if _ then _ else _ : List _).length = _
      split <;> simp [settle_len]
    · show (if _ then _ else _ : List _).length ≤ _
      split <;> simp
theorem grows_fuse (D : Dv) (x : Int) : Grows D (D.fuse x).2 := by
  unfold Dv.fuse
  split
  · exact .refl D
  · exact ⟨rfl, by simp, by show D.de ≤ D.de + 1; omega⟩
theorem grows_crash (D : Dv) : Grows D D.crash.2 := by
  unfold Dv.crash
  split
  · exact .refl D
  · exact ⟨rfl, by simp, by show D.de ≤ D.de + 1; omega⟩
theorem grows_wake (D : Dv) (x : Int) : Grows D (D.wake x).2 := by
  unfold Dv.wake
  split
  · exact ⟨settle_len .., by simp, by show D.de ≤ D.de + 1; omega⟩
  · exact .refl D
theorem grows_spoil (D : Dv) (x b : Int) : Grows D (D.spoil x b).2 := by
  unfold Dv.spoil
  split
  · exact ⟨by simp, by simp, by show D.de ≤ D.de + 1; omega⟩
  · exact .refl D
/-- what a deed of both leaves -/
def Done (R : Nat) (w0 : World) (g r : Nat) (D : Dv) (w' : World) : Prop := ∃ Fd' Fr' D', Two R w0 w' Fd' Fr' g r D' D' ∧ Grows D D'
section
variable {R g r : Nat} {w0 w w' : World} {Fd Fr : Nat → Prop} {D E D' E' : Dv}
theorem Two.dev2 (h : Two R w0 w Fd Fr g r D E) (hR : R ≤ w0.heap.size) (hl : Left w Fd g D' w') : ∃ F', Two R w0 w' F' Fr g r D' E ∧ ∀ q, q < w.heap.size → ¬ Fd q → w'.heap[q]? = w.heap[q]? ∧ ¬ F' q := by
  obtain ⟨F', h1, h2, h3⟩ := h.mine.deal2 hR hl
  refine ⟨F', ⟨h1, h.ref.keep h2.size fun k hk hf => h2.block k hk fun hd => h.apart k hd hf, h.low, fun k hk hf => ?_⟩, fun q hq hn => ⟨h2.block q hq hn, fun hf => ?_⟩⟩
  · rcases h3 k hk with hd | hn
    · exact h.apart k hd hf
    · have := h.ref.lt k hf; omega
  · rcases h3 q hf with hd | hd
    · exact hn hd
    · omega
theorem Two.doc2 (h : Two R w0 w Fd Fr g r D E) (hR : R ≤ w0.heap.size) (hl : RLeft w Fr r E' w') : ∃ F', Two R w0 w' Fd F' g r D E' ∧ ∀ q, q < w.heap.size → ¬ Fr q → w'.heap[q]? = w.heap[q]? ∧ ¬ F' q := by
  obtain ⟨F', h1, h2, h3⟩ := hl
  have hs := h.mine.bel.size
  refine ⟨F', ⟨⟨h.mine.dev.keep fun k hk hf => h2.block k hk fun hr => h.apart k hf hr, ⟨h2.os.trans h.mine.bel.os, h2.tape.trans h.mine.bel.tape, h2.output.trans h.mine.bel.output, Nat.le_trans hs h2.size, fun k hk => (h2.block k (by omega) (fun hf => by have := h.low k hf; omega)).trans (h.mine.bel.block k hk)⟩, h.mine.low⟩, h1, fun k hk => ?_, fun k hk hf => ?_⟩, fun q hq hn => ⟨h2.block q hq hn, fun hf => ?_⟩⟩
  · rcases h3 k hk with h3 | h3
    · exact h.low k h3
    · omega
  · rcases h3 k hf with hr | hn
    · exact h.apart k hk hr
    · have := h.mine.dev.lt k hk; omega
  · rcases h3 q hf with hd | hd
    · exact hn hd
    · omega
theorem Two.turn (h : Two R w0 w Fd Fr g r D E) (hR : R ≤ w0.heap.size) {q : Nat} (hd : ¬ Fd q) (hr : ¬ Fr q) (hq : R ≤ q) (ht : Turned (fun k => k = q) w w') : Two R w0 w' Fd Fr g r D E := by
  have hs := h.mine.bel.size
  refine ⟨⟨h.mine.dev.keep fun k hk hf => ht.block k hk (fun e => hd (by rw [← show k = q from e]; exact hf)), ⟨ht.os.trans h.mine.bel.os, ht.tape.trans h.mine.bel.tape, ht.output.trans h.mine.bel.output, Nat.le_trans hs ht.size, fun k hk => (ht.block k (by omega) (fun e => by have e : k = q := e; omega)).trans (h.mine.bel.block k hk)⟩, h.mine.low⟩, h.ref.keep ht.size fun k hk hf => ht.block k hk (fun e => hr (by rw [← show k = q from e]; exact hf)), h.low, h.apart⟩
theorem lent_src {q n : Nat} {l : List UInt8} (hb : Blk w q 5 (bv (l ++ marks)).toArray) (hn : l.length = n) : Src w (some ⟨q, 0, none⟩) n (n + 12) (bv l) :=
  ⟨by rw [bvL, hn], (fun h => (by cases h)), bv1 l, fun ad had j u hu => by
    injection had with had
    subst had
    rw [Addr.add_mid, Nat.zero_add, hb.cell]
    have hj : j < (bv l).length := (List.getElem?_eq_some_iff.1 hu).1
    rw [bvA, List.getElem?_toArray, List.getElem?_append_left hj]
    exact hu⟩
theorem lent_own {q : Nat} {l : List UInt8} (hb : Blk w q 5 (bv (l ++ marks)).toArray) (hl : l.length ≤ 10000) : w.ownsRow 0 5 1 (.slice (some ⟨q, 0, none⟩) l.length (l.length + 12)) l.length (bv l) := by
  have hm : marks.length = 12 := by simp [marks]
  refine ⟨by rw [bvL]; omega, .inr ⟨q, l.length + 12, _, rfl, Nat.zero_le _, hb, by omega, by simp only [maxLen]; omega, ?_, ?_⟩⟩
  · rw [List.size_toArray, bvL, List.length_append, hm]
    omega
  · show (bv (l ++ marks)).take (l.length * 1) = bv l
    rw [bvA, Nat.mul_one, List.take_left' (bvL l)]
theorem keep_cell {q i : Nat} {v : Value} (hq : w'.heap[q]? = w.heap[q]?) (hc : w.cell? ⟨q, i, none⟩ = some v) : w'.cell? ⟨q, i, none⟩ = some v := (World.cell?_of_block hq).trans hc
theorem heap_lt {q : Nat} (h : w'.heap[q]? = w.heap[q]?) (hq : q < w.heap.size) : q < w'.heap.size := by
  rcases Nat.lt_or_ge q w'.heap.size with h2 | h2
  · exact h2
  · rw [Array.getElem?_eq_none h2, Array.getElem?_eq_getElem hq] at h
    cases h
end
set_option maxRecDepth 100000
section
variable {R g r : Nat} {w0 : World} {Fd Fr : Nat → Prop} {D : Dv}
end
end Go.Proofs.Ytfppddnfdinipaa
end
section
namespace Go.Proofs.Ytfppddnfdinipaa
open Go Go.RowKit
set_option maxRecDepth 100000
theorem flush_more (D : Dv) : D.flush.2.de ≤ D.de + 1 ∧ D.flush.2.pend.length ≤ D.pend.length ∧ D.flush.2.kept.length = D.kept.length := by
  unfold Dv.flush
  by_cases h1 : D.dn = true
  · rw [if_pos h1]
    exact ⟨(by show D.de ≤ _; omega), Nat.le_refl _, rfl⟩
  · rw [if_neg h1]
    refine ⟨?_, ?_, ?_⟩
    · show (tick D.de D.fu D.dn).2.1 ≤ _
      unfold tick
      split
      · show D.de ≤ _; omega
      · split <;> (show D.de + 1 ≤ _; omega)
    · show (if (tick D.de D.fu D.dn).1 = 0 then [] else D.pend).length ≤ _
      split
      · simp
      · exact Nat.le_refl _
    · show (if (tick D.de D.fu D.dn).1 = 0 then settleL (fun _ => true) 0 D.pend D.kept else D.kept).length = _
      split
      · rw [settle_len]
      · rfl
theorem writeS_more (fst : Int) : ∀ (ps : List Nat) (D : Dv) (l : List UInt8), (writeS D fst l ps).2.de ≤ D.de + ps.length + 1 ∧ (writeS D fst l ps).2.pend.length ≤ D.pend.length + ps.length ∧ (writeS D fst l ps).2.kept.length = D.kept.length
  | [], D, l => by
    have := flush_more D
    exact ⟨by show D.flush.2.de ≤ _; simp; omega, this.2.1, this.2.2⟩
  | p :: ps, D, l => by
    have h := write_more D (fst + (p : Int)) (l.take 64)
    rw [writeS]
    split
    · have h2 := writeS_more fst ps (D.write (fst + (p : Int)) (l.take 64)).2 (l.drop 64)
      rw [h.2.2] at h2
      refine ⟨?_, ?_, h2.2.2⟩
      · rw [List.length_cons]
        omega
      · rw [List.length_cons]
        omega
    · refine ⟨?_, ?_, by rw [h.2.2]⟩
      · rw [List.length_cons]
        omega
      · rw [List.length_cons]
        omega
theorem put_more (D : Dv) (l a d : Int) (h64 : rightP l a d → d ≤ 64) (b : List UInt8) (rs : List Run) : (D.put l a d b rs).2.de ≤ D.de + 100 ∧ (D.put l a d b rs).2.pend.length ≤ D.pend.length + 100 ∧ (D.put l a d b rs).2.kept.length = D.kept.length := by
  unfold Dv.put
  split
  · rename_i h
    have hap : apartP l a d rs := by
      by_cases h2 : apartP l a d rs
      · exact h2
      · rw [suitsE, if_neg (fun h3 => h2 h3.1)] at h
        cases h
    have h1 := apart_count hap
    have h2 := h64 hap.1
    have h3 := writeS_more (firstS l a d) (pos rs) D b
    exact ⟨by omega, by omega, h3.2.2⟩
  · exact ⟨(by show D.de ≤ _; omega), (by show D.pend.length ≤ _; omega), rfl⟩
theorem bytesAt_grow {w w' : World} {B : Nat} {v : Value} {l : List UInt8} (h : BytesAt w B v l) (ha : ∀ k, k < B → w'.heap[k]? = w.heap[k]?) : BytesAt w' B v l := h.alike ha
/-- what the law goes on with: both devices tell the same -/
structure WrAt (w W : World) (Fd Fr : Nat → Prop) (g r : Nat) (D : Dv) (i : Nat) : Prop where
  two : Two w.heap.size w W Fd Fr g r D D
  de : D.de ≤ 100 * (i : Int)
  pend : D.pend.length ≤ 100 * i
theorem keepR {a b c d e f g : Prop} (h : a ∧ b ∧ c ∧ d ∧ e ∧ f ∧ g) : b ∧ c ∧ e ∧ f ∧ g := ⟨h.2.1, h.2.2.1, h.2.2.2.2⟩
theorem keep5 {a b c d e f g : Prop} (h : a ∧ b ∧ c ∧ d ∧ e ∧ f ∧ g) : a ∧ b ∧ e ∧ f ∧ g := ⟨h.1, h.2.1, h.2.2.2.2⟩
section
variable {R S g r gi : Nat} {w0 W : World} {Fd Fr : Nat → Prop} {D E : Dv}
theorem runs_sep {Ar : Option Addr} {cr : Nat} {rs : List Run} (h : RunsM W S (.slice Ar rs.length cr) rs) (hS : S ≤ R) (hlow : ∀ k, Fd k → R ≤ k) : ∀ ad, Ar = some ad → 0 < rs.length → ¬ Fd ad.block := by
  intro ad ha h0 hF
  obtain ⟨A', c', hv, _, _, hA, _⟩ := h
  injection hv with e1 _ _
  subst e1
  obtain ⟨b, off, e, hb, _⟩ := hA h0
  rw [ha] at e
  injection e with e
  subst e
  have h1 := hlow _ hF
  have h1 : R ≤ b := h1
  omega
theorem wcall1 (h : Two R w0 W Fd Fr g r D E) (hR : R ≤ w0.heap.size) (l a d : Int) (h64 : rightP l a d → d ≤ 64) (b : List UInt8) (hb : b.length ≤ 10000) (Ar : Option Addr) (cr : Nat) (rs : List Run) (hl : rs.length ≤ 10000) (hde : D.de ≤ 100000) (hpe : D.pend.length ≤ 10000)
    (hblk : Blk W gi 5 (bv (b ++ marks)).toArray) (hgi : ¬ Fd gi) (hruns : RunsM W S (.slice Ar rs.length cr) rs) (hS : S ≤ R) (k : Nat) :
    Calls Try.prog 35 #[.pointer (some ⟨g, 0, none⟩), .agg #[.int .i64 l, .int .i64 a, .int .i64 d], .slice (some ⟨gi, 0, none⟩) b.length (b.length + 12), .slice Ar rs.length cr] (W.drewN k) fun e w' => e = .returned (.int .i64 (D.put l a d b rs).1) ∧ ∃ F', Two R w0 w' F' Fr g r (D.put l a d b rs).2 E ∧ ∀ q, q < W.heap.size → ¬ Fd q → w'.heap[q]? = W.heap[q]? ∧ ¬ F' q := by
  have hs := lent_src hblk rfl
  have hRW : R ≤ W.heap.size := Nat.le_trans hR h.mine.bel.size
  refine (bwrite_any l a d h64 b (by omega) (some ⟨gi, 0, none⟩) (b.length + 12) (by omega) Ar cr rs (by omega) (W.drewN k) (h.mine.dev.keep fun _ _ _ => rfl) (by omega) (by omega) ((hruns.alike fun _ _ => rfl).widen (by show S ≤ W.heap.size; omega)) (runs_sep hruns hS h.mine.low) ⟨hs.len, hs.none_, hs.one, hs.cells⟩ (fun ad ha _ hF => by injection ha with ha; subst ha; exact hgi hF)).mono ?_
  rintro e w' ⟨rfl, hL⟩
  exact ⟨rfl, h.dev2 hR hL.of_draw⟩
theorem wcall2 (h : Two R w0 W Fd Fr g r D E) (hR : R ≤ w0.heap.size) (l a d : Int) (h64 : rightP l a d → d ≤ 64) (b : List UInt8) (hb : b.length ≤ 10000) (Ab : Option Addr) (cb : Nat) (Ar : Option Addr) (cr : Nat) (rs : List Run) (hl : rs.length ≤ 10000) (hde : E.de ≤ 100000) (hpe : E.pend.length ≤ 10000)
    (hbytes : BytesAt W S (.slice Ab b.length cb) b) (hnil : Ab = none → cb = 0) (hruns : RunsM W S (.slice Ar rs.length cr) rs) (hS : S ≤ R) :
    Calls Try.prog 82 #[.pointer (some ⟨r, 0, none⟩), .agg #[.int .i64 l, .int .i64 a, .int .i64 d], .slice Ab b.length cb, .slice Ar rs.length cr] W fun e w' => e = .returned (.int .i64 (E.put l a d b rs).1) ∧ ∃ F', Two R w0 w' Fd F' g r D (E.put l a d b rs).2 ∧ ∀ q, q < W.heap.size → ¬ Fr q → w'.heap[q]? = W.heap[q]? ∧ ¬ F' q := by
  have hs := bv_src hbytes hnil
  have hRW : R ≤ W.heap.size := Nat.le_trans hR h.mine.bel.size
  obtain ⟨A', c', hv, hcc, hA⟩ := id hbytes
  injection hv with e1 _ e2
  subst e1 e2
  refine (rwriteB_any l a d h64 b (by omega) Ab cb hcc _ rs (by omega) W h.ref (by omega) (by omega) (hruns.widen (by omega)) hs (fun ad ha h0 hF => ?_)).mono ?_
  · obtain ⟨bb, off, e, hlt, _⟩ := hA h0
    rw [ha] at e
    injection e with e
    subst e
    have h1 := h.low _ hF
    have h1 : R ≤ bb := h1
    omega
  · rintro e w' ⟨rfl, hL⟩
    exact ⟨rfl, h.doc2 hR hL⟩
theorem get_len (D : Dv) (l a d n : Int) (h64 : rightP l a d → d ≤ 64) (rs : List Run) : (D.get l a d n rs).2.length ≤ 5000 := by
  unfold Dv.get
  split
  · rename_i h
    have hsu : apartP l a d rs ∧ 0 ≤ n ∧ ((pos rs).length : Int) = needP n := by
      by_cases h2 : apartP l a d rs ∧ 0 ≤ n ∧ ((pos rs).length : Int) = needP n ∧ secs l a d ≤ (D.kept.length : Int)
      · exact ⟨h2.1, h2.2.1, h2.2.2.1⟩
      · rw [suitsE, if_neg h2] at h
        cases h
    have h1 := apart_count hsu.1
    have h2 := h64 hsu.1.1
    have h3 := hsu.2.2
    split
    · simp
    · show (List.take _ _).length ≤ _
      rw [List.length_take]
      rw [needP] at h3
      split at h3 <;> omega
  · simp
theorem rcall1 (h : Two R w0 W Fd Fr g r D E) (hR : R ≤ w0.heap.size) (l a d n : Int) (h64 : rightP l a d → d ≤ 64) (hn : -9223372036854775808 ≤ n ∧ n ≤ 9223372036854775807) (Ar : Option Addr) (cr : Nat) (rs : List Run) (hl : rs.length ≤ 10000) (hpe : D.pend.length ≤ 10000)
    (hruns : RunsM W S (.slice Ar rs.length cr) rs) (hS : S ≤ R) (k : Nat) :
    Calls Try.prog 39 #[.pointer (some ⟨g, 0, none⟩), .agg #[.int .i64 l, .int .i64 a, .int .i64 d], .int .i64 n, .slice Ar rs.length cr] (W.drewN k) fun e w' => ∃ o, e = .returned (.tuple #[o, .int .i64 (D.get l a d n rs).1]) ∧ w'.ownsRow W.heap.size 5 1 o (D.get l a d n rs).2.length (bv (D.get l a d n rs).2) ∧ Two R w0 w' Fd Fr g r D E ∧ Below W.heap.size W w' := by
  have hRW : R ≤ W.heap.size := Nat.le_trans hR h.mine.bel.size
  refine (bread_any l a d n h64 hn Ar cr rs (by omega) (W.drewN k) (h.mine.dev.keep fun _ _ _ => rfl) (by omega) ((hruns.alike fun _ _ => rfl).widen (by show S ≤ W.heap.size; omega))).mono ?_
  rintro e w' ⟨o, rfl, ho, hb⟩
  have hb' : Below W.heap.size W w' := ⟨hb.os, hb.tape, hb.output, hb.size, hb.block⟩
  exact ⟨o, rfl, ho, h.grow hR hb', hb'⟩
theorem rcall2 (h : Two R w0 W Fd Fr g r D E) (hR : R ≤ w0.heap.size) (l a d n : Int) (h64 : rightP l a d → d ≤ 64) (hn : -9223372036854775808 ≤ n ∧ n ≤ 9223372036854775807) (Ar : Option Addr) (cr : Nat) (rs : List Run) (hl : rs.length ≤ 10000) (hpe : E.pend.length ≤ 10000)
    (hruns : RunsM W S (.slice Ar rs.length cr) rs) (hS : S ≤ R) (k : Nat) :
    Calls Try.prog 85 #[.pointer (some ⟨r, 0, none⟩), .agg #[.int .i64 l, .int .i64 a, .int .i64 d], .int .i64 n, .slice Ar rs.length cr] (W.drewN k) fun e w' => ∃ o, e = .returned (.tuple #[o, .int .i64 (E.get l a d n rs).1]) ∧ w'.ownsRow W.heap.size 5 1 o (E.get l a d n rs).2.length (bv (E.get l a d n rs).2) ∧ Two R w0 w' Fd Fr g r D E ∧ Below W.heap.size W w' := by
  have hRW : R ≤ W.heap.size := Nat.le_trans hR h.mine.bel.size
  refine (rreadB_any l a d n h64 hn _ rs (by omega) (W.drewN k) (h.ref.keep (Nat.le_refl _) fun _ _ _ => rfl) (by omega) ((hruns.alike fun _ _ => rfl).widen (by show S ≤ W.heap.size; omega))).mono ?_
  rintro e w' ⟨o, rfl, ho, hb⟩
  have hb' : Below W.heap.size W w' := ⟨hb.os, hb.tape, hb.output, hb.size, hb.block⟩
  exact ⟨o, rfl, ho, h.grow hR hb', hb'⟩
/-- bytes of one's own are overwritten -/
theorem two_over {w' : World} {v : Value} {B m : Nat} {xs : List Value} (h : Two R w0 W Fd Fr g r D E) (hR : R ≤ w0.heap.size) (ho : W.ownsRow B 5 1 v m xs) (hB : R ≤ B ∧ (∀ k, Fd k → k < B) ∧ ∀ k, Fr k → k < B) (ht : Turned (fun k => v.ownBlock = some k) W w') : Two R w0 w' Fd Fr g r D E := by
  cases hv : v.ownBlock with
  | none =>
    rw [hv] at ht
    exact h.grow hR ⟨ht.os, ht.tape, ht.output, ht.size, fun k hk => ht.block k hk (fun e => by cases e)⟩
  | some q =>
    have hq := (owned_ltN ho hv).1
    rw [hv] at ht
    refine h.turn hR (fun hf => by have := hB.2.1 q hf; omega) (fun hf => by have := hB.2.2 q hf; omega) (by omega) (ht.mono fun k _ e => ?_)
    injection e with e
    exact e.symm
theorem fuse_more (D : Dv) (x : Int) : (D.fuse x).2.de = D.de ∧ (D.fuse x).2.pend = D.pend := by
  unfold Dv.fuse
  split <;> exact ⟨rfl, rfl⟩
theorem wake_more (D : Dv) (x : Int) : (D.wake x).2.de = D.de ∧ (D.wake x).2.pend.length ≤ D.pend.length := by
  unfold Dv.wake
  split
  · exact ⟨rfl, by simp⟩
  · exact ⟨rfl, Nat.le_refl _⟩
end
set_option maxHeartbeats 4000000 in
theorem writes_in (l a d more : Int) (hm : -1 ≤ more ∧ more ≤ 3) (ls : List Put) (hlen : ls.length ≤ 60) (hload : load ls ≤ 4000) (hsec : secs l a d ≤ 60) (hnew : 1 ≤ secs l a d + more) (v : Value) (w : World) (hv : PutsM w w.heap.size v ls) :
    Calls Try.prog 43 #[.agg #[.int .i64 l, .int .i64 a, .int .i64 d], .int .i64 more, v] w fun e w' => e = .returned (.bool true) ∧ Below w.heap.size w w' := by
  have h64 : rightP l a d → d ≤ 64 := fun h => by
    have h1 := h.1
    have h2 := h.2.1
    rw [secs, if_pos h] at hsec
    unfold inW at h1 h2
    omega
  obtain ⟨Ap, cp, rfl, hrest⟩ := id hv
  obtain ⟨w0, hw0⟩ : ∃ w0, w0 = w.alloc (.cells #[.int .i64 l, .int .i64 a, .int .i64 d] 64) := ⟨_, rfl⟩
  have hb0 : Below w.heap.size w w0 := by rw [hw0]; exact (Below.refl _ w).alloc (Nat.le_refl _) _
  have hsh : Blk w0 w.heap.size 64 #[.int .i64 l, .int .i64 a, .int .i64 d] := by rw [hw0]; exact Blk.new _ _ _
  have hs0 : w0.heap.size = w.heap.size + 1 := by rw [hw0, size_alloc]
  have HV := hide (And.intro hv (And.intro hb0 (And.intro hsh (And.intro hs0 h64))))
  have c0 := hsh.cell 0
  have c1 := hsh.cell 1
  have c2 := hsh.cell 2
  have hlt := hsh.lt
  clear hrest hv hb0 h64 hsh hs0
  go_enter Try.func43, Try.ntmps43
  go_wp2_with fail
  rw [← hw0]
  have HW0 := hide hw0
  clear hw0
  go_loopw [7, 8] (fun m x wr => ∃ k : Nat, k ≤ ls.length ∧ x = .int .i64 (k : Int) ∧ m = .int .i64 ((load (ls.take k) : Nat) : Int) ∧ Below w0.heap.size w0 wr) (fun _ x _ => ls.length - (intOf x).toNat)
  case atStart => exact ⟨0, by omega, rfl, rfl, Below.refl _ _⟩
  case round =>
    obtain ⟨k, hk, rfl, rfl, hb⟩ := hrel
    have HB := hide hb
    have n2 : (0 : Int) ≤ (k : Int) := by omega
    have n5 : (k : Int) ≤ 60 := by omega
    have hml := load_take_le ls k
    have p0 : (0 : Int) ≤ ((load (ls.take k) : Nat) : Int) := by omega
    have p1 : ((load (ls.take k) : Nat) : Int) ≤ 4000 := by omega
    clear hb
    by_cases hk2 : k < ls.length
    · have n1 : (k : Int) < (ls.length : Int) := by omega
      have n3 : (k : Int) < 60 := by omega
      obtain ⟨p, hp⟩ : ∃ p, ls[k]? = some p := ⟨_, List.getElem?_eq_getElem hk2⟩
      obtain ⟨A', c', hvv, _, hA⟩ := HV.out.1
      injection hvv with e1 _ e2
      subst e1 e2
      obtain ⟨bb, off, rfl, hbb, hcs⟩ := hA (by omega)
      have hpc := (hcs k p hp).alike hbb fun j hj => ((HB.out.block j (by have := HV.out.2.2.2.1; omega)).trans (HV.out.2.1.block j hj))
      obtain ⟨Ab, cb, q0, _, _⟩ := hpc.c0
      obtain ⟨Ar, cr, q1, _⟩ := hpc.c1
      have hbl : bb < wr.heap.size := World.block_lt_of_cell? wr _ q0
      have hlt2 := load_take ls k p hp
      have hlg := load_get ls k p hp
      have p2 : (0 : Int) ≤ (p.b.length : Int) := by omega
      have p3 : (p.b.length : Int) ≤ 4000 := by omega
      have p4 : (0 : Int) ≤ (p.rs.length : Int) := by omega
      have p5 : (p.rs.length : Int) ≤ 4000 := by omega
      have HL := hide hlt2
      generalize load (ls.take k) = M at p0 p1 HL ⊢
      clear hpc hcs hA hp hlt2 hlg hml
      go_wp2_with fail
      go_quiet (fail)
      go_wp2_with fail
      refine ⟨⟨k + 1, by omega, by go_num, ?_, below_drewN HB.out _⟩, by simp [intOf]; omega⟩
      rw [HL.out]
      congr 1
      omega
    · obtain rfl : k = ls.length := by omega
      have n1 : ¬ ((ls.length : Nat) : Int) < (ls.length : Int) := by omega
      rw [List.take_length]
      clear hml
      have p6 : ((load ls : Nat) : Int) ≤ 4000 := by omega
      have p7 : ¬ (60 : Int) < (ls.length : Int) := by omega
      have hsh := HV.out.2.2.1.below HB.out HV.out.2.2.1.lt
      have c0 := hsh.cell 0
      have c1 := hsh.cell 1
      have c2 := hsh.cell 2
      have hlt := hsh.lt
      clear hsh
      go_wp2_with fail
      refine (rsecs_any l a d _).mono ?_
      rintro e w1 ⟨rfl, hb1⟩
      have H1 := hide (HB.out.next hb1)
      clear hb1 c0 c1 c2 hlt HB
      have hsh := HV.out.2.2.1.below H1.out HV.out.2.2.1.lt
      have c0 := hsh.cell 0
      have c1 := hsh.cell 1
      have c2 := hsh.cell 2
      have hlt := hsh.lt
      clear hsh
      have q1 : ¬ (60 : Int) < secs l a d := by omega
      have q2 : ¬ more < -1 := by omega
      have q3 : ¬ (3 : Int) < more := by omega
      dsimp only
      go_wp2_with fail
      refine (rsecs_any l a d _).mono ?_
      rintro e w2 ⟨rfl, hb2⟩
      have H2 := hide (H1.out.next hb2)
      clear hb2 c0 c1 c2 hlt H1
      have q4 : (0 : Int) ≤ secs l a d + more := by omega
      have q5 : secs l a d + more ≤ 63 := by omega
      obtain ⟨K, hK⟩ : ∃ K : Nat, secs l a d + more = (K : Int) := ⟨(secs l a d + more).toNat, by omega⟩
      have hK1 : 1 ≤ K ∧ K ≤ 8192 := by omega
      dsimp only
      go_wp2_with fail
      refine (newDev_any K hK1 w2).mono ?_
      rintro e w3 ⟨g, Fd, rfl, hdv, hb3, hFd⟩
      have H3 := hide (And.intro (H2.out.next hb3) (And.intro hdv (And.intro H2.out.size hFd)))
      clear hdv hb3 hFd H2
      have hsh := HV.out.2.2.1.below H3.out.1 HV.out.2.2.1.lt
      have c0 := hsh.cell 0
      have c1 := hsh.cell 1
      have c2 := hsh.cell 2
      have hlt := hsh.lt
      clear hsh
      dsimp only
      go_wp2_with fail
      refine (rsecs_any l a d _).mono ?_
      rintro e w4 ⟨rfl, hb4⟩
      have H4 := hide (And.intro (H3.out.1.next hb4) (H3.out.2.1.keep fun k hk _ => hb4.block k hk))
      have hs34 := hb4.size
      clear hb4 c0 c1 c2 hlt
      dsimp only
      go_wp2_with fail
      refine (rnew_any K hK1 w4).mono ?_
      rintro e w5 ⟨r, Fr, rfl, hrf, hb5, hFr⟩
      have hW : WrAt w0 w5 Fd Fr g r (Dv.new K) 0 := by
        have hlow : ∀ k, Fd k → w0.heap.size ≤ k := fun k hk => by have := H3.out.2.2.2 k hk; have := H3.out.2.2.1; omega
        refine ⟨⟨⟨H4.out.2.keep fun k hk _ => hb5.block k hk, H4.out.1.next hb5, hlow⟩, hrf, fun k hk => by have := hFr k hk; have := H4.out.1.size; omega, fun k hk hf => ?_⟩, by simp [Dv.new], by simp [Dv.new]⟩
        have h1 := hFr k hf
        have h2 := H4.out.2.lt k hk
        omega
      have HW := hide hW
      clear hrf hb5 hFr hW hs34 H3 H4
      dsimp only
      go_wp2_with fail
      go_loopw [13] (fun x wr => ∃ (i : Nat) (Fd Fr : Nat → Prop) (D : Dv), i ≤ ls.length ∧ x = .int .i64 (i : Int) ∧ WrAt w0 wr Fd Fr g r D i) (fun x _ => ls.length - (intOf x).toNat)
      case atStart => exact ⟨0, Fd, Fr, Dv.new K, by omega, rfl, HW.out⟩
      case round =>
        obtain ⟨i, Fd', Fr', D, hi, rfl, hw⟩ := hrel
        have HX := hide hw
        clear hw
        have m1 : (0 : Int) ≤ (i : Int) := by omega
        have m2 : (i : Int) ≤ 60 := by omega
        by_cases hi2 : i < ls.length
        · have n1 : (i : Int) < (ls.length : Int) := by omega
          obtain ⟨p, hp⟩ : ∃ p, ls[i]? = some p := ⟨_, List.getElem?_eq_getElem hi2⟩
          have hlg := load_get ls i p hp
          obtain ⟨A', c', hvv, _, hA⟩ := HV.out.1
          injection hvv with e1 _ e2
          subst e1 e2
          obtain ⟨bb, off, rfl, hbb, hcs⟩ := hA (by omega)
          have hpc := hcs i p hp
          obtain ⟨Ab, cb, q0, q0b, q0n⟩ := hpc.c0
          obtain ⟨Ar, cr, q1', q1r⟩ := hpc.c1
          have hal : ∀ W, Below w0.heap.size w0 W → Alike w.heap.size w W := fun W hW k hk => (hW.block k (by have := HV.out.2.2.2.1; omega)).trans (HV.out.2.1.block k hk)
          have HP : Hid (∀ W, Below w0.heap.size w0 W → W.cell? ⟨bb, off + i * 4, none⟩ = some (.slice Ab p.b.length cb) ∧ W.cell? ⟨bb, off + i * 4 + 1, none⟩ = some (.slice Ar p.rs.length cr) ∧ W.cell? ⟨bb, off + i * 4 + 2, none⟩ = some (.int .i64 p.many) ∧ W.cell? ⟨bb, off + i * 4 + 3, none⟩ = some (.int .i64 p.n) ∧ W.cell? ⟨w.heap.size, 0, none⟩ = some (.int .i64 l) ∧ W.cell? ⟨w.heap.size, 1, none⟩ = some (.int .i64 a) ∧ W.cell? ⟨w.heap.size, 2, none⟩ = some (.int .i64 d)) := hide fun W hW => by
            have hsh := HV.out.2.2.1.below hW HV.out.2.2.1.lt
            exact ⟨((hal W hW).cell (p := ⟨bb, off + i * 4, none⟩) hbb).trans q0, ((hal W hW).cell (p := ⟨bb, off + i * 4 + 1, none⟩) hbb).trans q1', ((hal W hW).cell (p := ⟨bb, off + i * 4 + 2, none⟩) hbb).trans hpc.c2, ((hal W hW).cell (p := ⟨bb, off + i * 4 + 3, none⟩) hbb).trans hpc.c3, hsh.cell 0, hsh.cell 1, hsh.cell 2⟩
          have HPR : Hid (∀ W, Below w0.heap.size w0 W → BytesAt W w.heap.size (.slice Ab p.b.length cb) p.b ∧ RunsM W w.heap.size (.slice Ar p.rs.length cr) p.rs) := hide fun W hW => ⟨q0b.alike (hal W hW), q1r.alike (hal W hW)⟩
          have HPK := hide (And.intro hpc.k2 (And.intro hpc.k3 (And.intro q0n hlg)))
          have hlt0 : bb < w0.heap.size := by have := HV.out.2.2.2.1; omega
          have hlts : w.heap.size < w0.heap.size := by have := HV.out.2.2.2.1; omega
          have p3 : (p.b.length : Int) ≤ 4000 := by omega
          clear hpc hcs hA hp hlg q0 q0b q1' q1r hal q0n
          obtain ⟨k0, k1, k2, k3, s0, s1, s2⟩ := HP.out wr HX.out.two.mine.bel
          have hltb : bb < wr.heap.size := World.block_lt_of_cell? wr _ k0
          have hlts' : w.heap.size < wr.heap.size := World.block_lt_of_cell? wr _ s0
          go_wp2_with fail
          refine (lentBytes_any p.b (by omega) Ab p.b.length cb w.heap.size wr (by omega) (HPR.out wr HX.out.two.mine.bel).1 (fun h => by have h1 := (HPR.out wr HX.out.two.mine.bel).1; have h2 := HPK.out.2.2.1 h; obtain ⟨_, _, e, e2, _⟩ := h1; injection e with _ _ e; omega)).mono ?_
          rintro e wa ⟨gi, rfl, hgi, hbk, hba⟩
          have hta := HX.out.two.grow (Nat.le_refl _) hba
          have HA : Hid (Two w0.heap.size w0 wa Fd' Fr' g r D D ∧ Blk wa gi 5 (bv (p.b ++ marks)).toArray ∧ ¬ Fd' gi ∧ ¬ Fr' gi) := hide ⟨hta, hbk, fun h => by have := HX.out.two.mine.dev.lt gi h; omega, fun h => by have := HX.out.two.ref.lt gi h; omega⟩
          have HD := hide (And.intro HX.out.de HX.out.pend)
          have HGI := hide (show w0.heap.size ≤ gi by have := HX.out.two.mine.bel.size; omega)
          clear hta hbk hba hgi k0 k1 k2 k3 s0 s1 s2 hltb hlts'
          obtain ⟨k0, k1, k2, k3, s0, s1, s2⟩ := HP.out wa HA.out.1.mine.bel
          have hltb : bb < wa.heap.size := World.block_lt_of_cell? wa _ k0
          have hlts' : w.heap.size < wa.heap.size := World.block_lt_of_cell? wa _ s0
          dsimp only
          go_upto_if 106 with fail
          go_cut [106] from 89 to 250 (fun _ wx => ∃ (FA FB : Nat → Prop) (DA : Dv), Two w0.heap.size w0 wx FA FB g r DA DA ∧ Blk wx gi 5 (bv (p.b ++ marks)).toArray ∧ ¬ FA gi ∧ ¬ FB gi ∧ DA.de ≤ 100 * (i : Int) ∧ DA.pend.length ≤ 100 * i)
          case first =>
            by_cases hN : 0 < p.n
            · go_wp2_with fail
              refine (fuseDev_any p.n HPK.out.2.1.2 wa HA.out.1.mine.dev).mono ?_
              rintro e wf ⟨rfl, hL⟩
              obtain ⟨FA, hTA, hqA⟩ := HA.out.1.dev2 (Nat.le_refl _) hL
              have hgA := hqA gi HA.out.2.1.lt HA.out.2.2.1
              have HF := hide (And.intro hTA (And.intro (show Blk wf gi 5 (bv (p.b ++ marks)).toArray from hgA.1.trans HA.out.2.1) (And.intro hgA.2 HA.out.2.2.2)))
              clear hL hTA hqA hgA
              clear k0 k1 k2 k3 s0 s1 s2 hltb hlts'
              obtain ⟨k0, k1, k2, k3, s0, s1, s2⟩ := HP.out wf HF.out.1.mine.bel
              have hltb : bb < wf.heap.size := World.block_lt_of_cell? wf _ k0
              have hlts' : w.heap.size < wf.heap.size := World.block_lt_of_cell? wf _ s0
              dsimp only
              go_wp2_with fail
              refine (rfuse_any p.n HPK.out.2.1.2 wf HF.out.1.ref).mono ?_
              rintro e wg ⟨rfl, hL⟩
              obtain ⟨FG, hTG, hqG⟩ := HF.out.1.doc2 (Nat.le_refl _) hL
              have hgG := hqG gi HF.out.2.1.lt HF.out.2.2.2
              obtain ⟨DA, hDA⟩ : ∃ DA, DA = (D.fuse p.n).2 := ⟨_, rfl⟩
              have hfm := fuse_more D p.n
              rw [← hDA] at hTG hfm
              have HG := hide (And.intro hTG (And.intro (show Blk wg gi 5 (bv (p.b ++ marks)).toArray from hgG.1.trans HF.out.2.1) (And.intro HF.out.2.2.1 hgG.2)))
              have HDA := hide (show DA.de ≤ 100 * (i : Int) ∧ DA.pend.length ≤ 100 * i by rw [hfm.1, hfm.2]; exact HD.out)
              clear hL hTG hqG hgG hDA hfm
              dsimp only
              go_wp2_with fail
              go_meet
              exact ⟨FA, FG, DA, HG.out.1, HG.out.2.1, HG.out.2.2.1, HG.out.2.2.2, HDA.out.1, HDA.out.2⟩
            · go_wp2_with fail
              go_meet
              exact ⟨_, _, D, HA.out.1, HA.out.2.1, HA.out.2.2.1, HA.out.2.2.2, HD.out.1, HD.out.2⟩
          case rest =>
            obtain ⟨F2, FG, DA, h1, h2, h3, h4, h5, h6⟩ := hcut
            have HG := hide (And.intro h1 (And.intro h2 (And.intro h3 h4)))
            have HDA := hide (And.intro h5 h6)
            clear h1 h2 h3 h4 h5 h6 HA HD
            clear k0 k1 k2 k3 s0 s1 s2 hltb hlts'
            obtain ⟨k0, k1, k2, k3, s0, s1, s2⟩ := HP.out wc HG.out.1.mine.bel
            have hltb : bb < wc.heap.size := World.block_lt_of_cell? wc _ k0
            have hlts' : w.heap.size < wc.heap.size := World.block_lt_of_cell? wc _ s0
            go_wp2_with fail
            go_region_held3 (fun w' => w'.cell? ⟨bb, off + i * 4, none⟩ = some (.slice Ab p.b.length cb) ∧ w'.cell? ⟨bb, off + i * 4 + 1, none⟩ = some (.slice Ar p.rs.length cr) ∧ w'.cell? ⟨w.heap.size, 0, none⟩ = some (.int .i64 l) ∧ w'.cell? ⟨w.heap.size, 1, none⟩ = some (.int .i64 a) ∧ w'.cell? ⟨w.heap.size, 2, none⟩ = some (.int .i64 d))
              (first | go_keep | exact hkeep | exact hkeep2)
              (first
                | (go_at_call 35; refine (wcall1 HG.out.1 (Nat.le_refl _) l a d HV.out.2.2.2.2 p.b (by omega) Ar cr p.rs (by have := HPK.out.2.2.2; omega) (by have := HDA.out.1; omega) (by have := HDA.out.2; omega) HG.out.2.1 HG.out.2.2.1 (HPR.out wc HG.out.1.mine.bel).2 (by omega) _).mono ?_; rintro e w2 ⟨rfl, F2, hT2, hq2⟩; have hkeep := keep5 (HP.out w2 hT2.mine.bel); have hg2 := hq2 gi HG.out.2.1.lt HG.out.2.2.1; have H2 := hide (And.intro hT2 (And.intro (show Blk w2 gi 5 (bv (p.b ++ marks)).toArray from hg2.1.trans HG.out.2.1) (And.intro hg2.2 HG.out.2.2.2))); clear hT2 hq2 hg2)
                | (go_at_call 82; refine (wcall2 H2.out.1 (Nat.le_refl _) l a d HV.out.2.2.2.2 p.b (by omega) Ab cb Ar cr p.rs (by have := HPK.out.2.2.2; omega) (by have := HDA.out.1; omega) (by have := HDA.out.2; omega) (HPR.out w2 H2.out.1.mine.bel).1 HPK.out.2.2.1 (HPR.out w2 H2.out.1.mine.bel).2 (by omega)).mono ?_; rintro e w3 ⟨rfl, F3, hT3, hq3⟩; have hkeep2 := keep5 (HP.out w3 hT3.mine.bel); have hg3 := hq3 gi H2.out.2.1.lt H2.out.2.2.2; have H3 := hide (And.intro hT3 (And.intro (show Blk w3 gi 5 (bv (p.b ++ marks)).toArray from hg3.1.trans H2.out.2.1) (And.intro H2.out.2.2.1 hg3.2))); clear hT3 hq3 hg3)
                | (go_at_call 83; refine (keptBytes_any p.b (by omega) Ab p.b.length cb gi w.heap.size _ (HPR.out w3 H3.out.1.mine.bel).1 H3.out.2.1).mono ?_; rintro e w4 ⟨rfl, k4, rfl⟩))
            have hT4 := H3.out.1.grow (Nat.le_refl _) (below_drewN (Below.refl _ w3) k4)
            have hB4 : Blk (w3.drewN k4) gi 5 (bv (p.b ++ marks)).toArray := H3.out.2.1
            have H4 := hide (And.intro hT4 (And.intro (lent_own hB4 (by omega)) H3.out.2.2))
            clear hT4 hB4 hkeep hkeep2
            clear k0 k1 k2 k3 s0 s1 s2 hltb hlts'
            go_wp2_with fail
            refine (overBytes_any 0 p.b.length (by omega) _ _ (w3.drewN k4) H4.out.2.1).mono ?_
            rintro e w5 ⟨rfl, ht5⟩
            have hT5 := H4.out.1.turn (Nat.le_refl _) H4.out.2.2.1 H4.out.2.2.2 HGI.out (ht5.mono fun k _ h => by injection h with h; exact h.symm)
            obtain ⟨DB, hDB⟩ : ∃ DB, DB = (DA.put l a d p.b p.rs).2 := ⟨_, rfl⟩
            rw [← hDB] at hT5
            have hpm := put_more DA l a d HV.out.2.2.2.2 p.b p.rs
            rw [← hDB] at hpm
            have H5 := hide (And.intro hT5 (And.intro (show DB.de ≤ 100 * ((i : Int) + 1) by have := HDA.out.1; omega) (show DB.pend.length ≤ 100 * (i + 1) by have := HDA.out.2; omega)))
            clear ht5 hT5 hDB hpm
            obtain ⟨k0, k1, k2, k3, s0, s1, s2⟩ := HP.out w5 H5.out.1.mine.bel
            have hltb : bb < w5.heap.size := World.block_lt_of_cell? w5 _ k0
            have hlts' : w.heap.size < w5.heap.size := World.block_lt_of_cell? w5 _ s0
            dsimp only
            go_upto_if 161 with fail
            go_cut [15, 16, 17, 18] from 89 to 250 (fun _ _ _ _ wx => ∃ (FA FB : Nat → Prop), Two w0.heap.size w0 wx FA FB g r DB DB)
            case first =>
              by_cases hM : -1 ≤ p.many
              · go_wp2_with fail
                go_region_held3 (fun w' => w'.cell? ⟨bb, off + i * 4 + 1, none⟩ = some (.slice Ar p.rs.length cr) ∧ w'.cell? ⟨bb, off + i * 4 + 2, none⟩ = some (.int .i64 p.many) ∧ w'.cell? ⟨w.heap.size, 0, none⟩ = some (.int .i64 l) ∧ w'.cell? ⟨w.heap.size, 1, none⟩ = some (.int .i64 a) ∧ w'.cell? ⟨w.heap.size, 2, none⟩ = some (.int .i64 d))
                  (first | go_keep | exact hkeep | exact hkeep2)
                  (first | (go_at_call 39; refine (rcall1 H5.out.1 (Nat.le_refl _) l a d p.many HV.out.2.2.2.2 HPK.out.1 Ar cr p.rs (by have := HPK.out.2.2.2; omega) (by have := H5.out.2.2; omega) (HPR.out w5 H5.out.1.mine.bel).2 (by omega) _).mono ?_; rintro e w6 ⟨o1, rfl, ho, hT, hb⟩; have hkeep := keepR (HP.out w6 hT.mine.bel); have Hw6 := hide (And.intro hT (And.intro ho hb)); clear ho hT hb))
                clear k0 k1 k2 k3 s0 s1 s2 hltb hlts' hkeep
                obtain ⟨k0, k1, k2, k3, s0, s1, s2⟩ := HP.out w6 Hw6.out.1.mine.bel
                have hltb : bb < w6.heap.size := World.block_lt_of_cell? w6 _ k0
                have hlts' : w.heap.size < w6.heap.size := World.block_lt_of_cell? w6 _ s0
                go_wp2_with fail
                go_region_held3 (fun w' => w'.cell? ⟨bb, off + i * 4 + 1, none⟩ = some (.slice Ar p.rs.length cr) ∧ w'.cell? ⟨bb, off + i * 4 + 2, none⟩ = some (.int .i64 p.many) ∧ w'.cell? ⟨w.heap.size, 0, none⟩ = some (.int .i64 l) ∧ w'.cell? ⟨w.heap.size, 1, none⟩ = some (.int .i64 a) ∧ w'.cell? ⟨w.heap.size, 2, none⟩ = some (.int .i64 d))
                  (first | go_keep | exact hkeep | exact hkeep2)
                  (first | (go_at_call 85; refine (rcall2 Hw6.out.1 (Nat.le_refl _) l a d p.many HV.out.2.2.2.2 HPK.out.1 Ar cr p.rs (by have := HPK.out.2.2.2; omega) (by have := H5.out.2.2; omega) (HPR.out w6 Hw6.out.1.mine.bel).2 (by omega) _).mono ?_; rintro e w7 ⟨o2, rfl, ho, hT, hb⟩; have hkeep := keepR (HP.out w7 hT.mine.bel); have Hw7 := hide (And.intro hT (And.intro ho hb)); clear ho hT hb))
                clear k0 k1 k2 k3 s0 s1 s2 hltb hlts' hkeep
                have hgl := get_len DB l a d p.many HV.out.2.2.2.2 p.rs
                have ho7 := owned_keepN Hw6.out.2.1 (w' := w7) fun k _ hl => Hw7.out.2.2.block k hl
                have H7 := hide (And.intro Hw7.out.1 (And.intro ho7 (And.intro (bytesAt_owned ho7) (bytesAt_owned Hw7.out.2.1))))
                have hlow : w0.heap.size ≤ w5.heap.size ∧ (∀ k, F2 k → k < w5.heap.size) ∧ ∀ k, F3 k → k < w5.heap.size := ⟨H5.out.1.mine.bel.size, H5.out.1.mine.dev.lt, H5.out.1.ref.lt⟩
                have HLW := hide hlow
                clear ho7 hlow
                generalize hG : (DB.get l a d p.many p.rs).2 = G at hgl H7
                generalize (DB.get l a d p.many p.rs).1 = GE
                clear hG
                go_wp2_with fail
                refine (sameBytes_any G G (by omega) (by omega) _ _ _ w7 H7.out.2.2.1 H7.out.2.2.2).mono ?_
                rintro e w8 ⟨rfl, k8, rfl⟩
                rw [decide_eq_true rfl]
                have H8 := hide (And.intro (H7.out.1.grow (Nat.le_refl _) (below_drewN (Below.refl _ w7) k8)) (show (w7.drewN k8).ownsRow w5.heap.size 5 1 o1 G.length (bv G) from H7.out.2.1))
                dsimp only
                go_wp2_with fail
                refine (overBytes_any _ G.length (by omega) o1 _ (w7.drewN k8) H8.out.2).mono ?_
                rintro e w9 ⟨rfl, ht9⟩
                have H9 := hide (And.intro (two_over H8.out.1 (Nat.le_refl _) H8.out.2 HLW.out ht9) H5.out.2)
                clear ht9 H8 H7 Hw6 Hw7 H5 hgl HLW
                dsimp only
                go_wp2_with fail
                go_meet
                exact ⟨_, _, H9.out.1⟩
              · go_wp2_with fail
                go_meet
                exact ⟨_, _, H5.out.1⟩
            case rest =>
              obtain ⟨FA5, FB5, hT9⟩ := hcut
              have H9 := hide (And.intro hT9 H5.out.2)
              clear hT9 H5
              clear k0 k1 k2 k3 s0 s1 s2 hltb hlts'
              obtain ⟨k0, k1, k2, k3, s0, s1, s2⟩ := HP.out wc H9.out.1.mine.bel
              have hltb : bb < wc.heap.size := World.block_lt_of_cell? wc _ k0
              have hlts' : w.heap.size < wc.heap.size := World.block_lt_of_cell? wc _ s0
              go_wp2_with fail
              have href := H9.out.1.ref
              obtain ⟨ra, cra, vw, us, hr⟩ := href
              have HR := hide hr
              clear hr
              have hnk := HR.out.ok.n2
              have hn1 := HR.out.ok.n1
              let VK : Value → World → Prop := fun u W' => ∃ k cap, u = .slice (some ⟨k, 0, none⟩) (DB.kept.length * 64) cap ∧ wc.heap.size ≤ k ∧ W'.ownsRow wc.heap.size 5 1 u (DB.kept.length * 64) (bv DB.kept.flatten)
              have hL : ∀ p ∈ ([(206, VK)] : MadeL), MadeOk p.2 := by
                intro p hp
                obtain rfl := List.mem_singleton.1 hp
                refine ⟨?_, ?_⟩
                · rintro u W1 W2 ⟨k, cap, rfl, h1, h2⟩ hx2
                  exact ⟨k, cap, rfl, h1, owned_keepN h2 fun j _ hl => hx2.block j hl⟩
                · rintro u W1 ⟨k, cap, rfl, h1, h2⟩
                  exact ⟨k, rfl, (owned_ltN h2 rfl).2⟩
              refine wp_made 27 [(206, VK)] (by kernel_rfl) (by kernel_rfl) hL (by simp) (by simp) ?_
              simp only [List.take_succ_cons, List.take_zero, List.drop_succ_cons, List.drop_zero]
              refine made_val (.pointer (some ⟨g, 0, none⟩)) (by kernel_rfl) (by kernel_rfl) (by kernel_rfl) (fun _ _ => by kernel_rfl) ?_
              simp only [Act.put, List.setIfInBounds_toArray, List.set_cons_zero, List.set_cons_succ]
              refine made_newcall 206 VK 86 #[.pointer (some ⟨g, 0, none⟩)] hL (by kernel_rfl) (by kernel_rfl) rfl rfl (fun _ => by kernel_rfl) (fun W2 hW => ?hk1) ?_
              case hk1 =>
                refine (keptDev_any W2 (H9.out.1.grow (Nat.le_refl _) hW).mine.dev).mono ?_
                rintro e W3 ⟨v, rfl, ho, hb3⟩
                obtain ⟨k, cap, hv⟩ := owned_placeN ho (by omega)
                have hk := (owned_ltN ho (g := k) (by rw [hv]; rfl)).1
                have hsz : wc.heap.size ≤ W2.heap.size := hW.size
                exact ⟨v, k, rfl, hb3, ⟨k, cap, hv, by omega, owned_baseN ho fun j hj => by have := (owned_ltN ho hj).1; omega⟩, by rw [hv]; rfl, hk⟩
              simp only [Act.put, List.setIfInBounds_toArray, List.set_cons_zero, List.set_cons_succ]
              refine made_val (.pointer (some ⟨r, 0, none⟩)) (by kernel_rfl) (by kernel_rfl) (by kernel_rfl) (fun _ _ => by kernel_rfl) ?_
              simp only [Act.put, List.setIfInBounds_toArray, List.set_cons_zero, List.set_cons_succ]
              refine made_val (.pointer (some ⟨r, 0, none⟩)) (by kernel_rfl) (by kernel_rfl) (by kernel_rfl) (fun _ _ => by kernel_rfl) ?_
              simp only [Act.put, List.setIfInBounds_toArray, List.set_cons_zero, List.set_cons_succ]
              refine made_val (.pointer (some ⟨r, 0, none⟩)) (by kernel_rfl) (by kernel_rfl) (by kernel_rfl) (fun _ _ => by kernel_rfl) ?_
              simp only [Act.put, List.setIfInBounds_toArray, List.set_cons_zero, List.set_cons_succ]
              refine made_val (.slice (some ⟨ra, 0, none⟩) (DB.kept.length * 64) cra) (by kernel_rfl) (by kernel_rfl) (by kernel_rfl) (fun W hW => exec_load_slice (o := ⟨some 210, _, _, _, _, _⟩) 66 5 (.tmp 209) rfl ⟨r, 0, none⟩ rfl _ W Try.underlying66 (((HR.out.blk.below hW HR.out.blk.lt).cell 0).trans (rdv0 ..))) ?_
              simp only [Act.put, List.setIfInBounds_toArray, List.set_cons_zero, List.set_cons_succ]
              refine made_call1 206 VK (.bool true) 40 (fun u => #[u, .slice (some ⟨ra, 0, none⟩) (DB.kept.length * 64) cra]) (by kernel_rfl) rfl (by kernel_rfl) (by kernel_rfl) (fun u W => by kernel_rfl) (fun u W2 hW hu => ?hk2) ?_
              case hk2 =>
                obtain ⟨k, cap, rfl, hk, ho⟩ := hu
                have hfl : DB.kept.flatten.length = DB.kept.length * 64 := flat_len _ HR.out.ok.k64
                have hR2 := HR.out.keep hW.size (fun k hk _ => hW.block k hk)
                have hby4 : BytesAt W2 W2.heap.size (.slice (some ⟨k, 0, none⟩) (DB.kept.length * 64) cap) DB.kept.flatten := by
                  have h := ho
                  rw [← hfl] at h ⊢
                  exact bytesAt_owned h
                have hby5 : BytesAt W2 W2.heap.size (.slice (some ⟨ra, 0, none⟩) (DB.kept.length * 64) cra) DB.kept.flatten := by
                  have h := hR2.all
                  rw [kept_bv] at h
                  have e : DB.kept.length * 64 = DB.kept.flatten.length := hfl.symm
                  rw [e] at h ⊢
                  exact bytesAt_owned h
                refine (sameBytes_any DB.kept.flatten DB.kept.flatten (by omega) (by omega) _ _ _ W2 hby4 hby5).mono ?_
                rintro e w6 ⟨rfl, k6, rfl⟩
                rw [decide_eq_true rfl]
                exact ⟨rfl, below_drewN (Below.refl _ _) _⟩
              simp only [Act.put, List.setIfInBounds_toArray, List.set_cons_zero, List.set_cons_succ]
              refine made_val (.bool false) (by kernel_rfl) (by kernel_rfl) (by kernel_rfl) (fun _ _ => by kernel_rfl) ?_
              simp only [Act.put, List.setIfInBounds_toArray, List.set_cons_zero, List.set_cons_succ]
              refine made_val (.bool false) (by kernel_rfl) (by kernel_rfl) (by kernel_rfl) (fun _ _ => by kernel_rfl) ?_
              simp only [Act.put, List.setIfInBounds_toArray, List.set_cons_zero, List.set_cons_succ]
              refine made_val (.pointer (some ⟨g, 0, none⟩)) (by kernel_rfl) (by kernel_rfl) (by kernel_rfl) (fun _ _ => by kernel_rfl) ?_
              simp only [Act.put, List.setIfInBounds_toArray, List.set_cons_zero, List.set_cons_succ]
              refine made_call (.agg #[.int .i64 (DB.kept.length : Int), .int .i64 (DB.pend.length : Int), .int .i64 DB.de, .bool DB.dn]) 87 #[.pointer (some ⟨g, 0, none⟩)] (by kernel_rfl) (by kernel_rfl) (by kernel_rfl) (fun W => by kernel_rfl) (fun W hW => statDev_any W (H9.out.1.grow (Nat.le_refl _) hW).mine.dev) ?_
              simp only [Act.put, List.setIfInBounds_toArray, List.set_cons_zero, List.set_cons_succ]
              refine made_val (.int .i64 DB.de) (by kernel_rfl) (by kernel_rfl) (by kernel_rfl) (fun _ _ => by kernel_rfl) ?_
              simp only [Act.put, List.setIfInBounds_toArray, List.set_cons_zero, List.set_cons_succ]
              refine made_val (.pointer (some ⟨r, 0, none⟩)) (by kernel_rfl) (by kernel_rfl) (by kernel_rfl) (fun _ _ => by kernel_rfl) ?_
              simp only [Act.put, List.setIfInBounds_toArray, List.set_cons_zero, List.set_cons_succ]
              refine made_val (.pointer (some ⟨r, 0, none⟩)) (by kernel_rfl) (by kernel_rfl) (by kernel_rfl) (fun _ _ => by kernel_rfl) ?_
              simp only [Act.put, List.setIfInBounds_toArray, List.set_cons_zero, List.set_cons_succ]
              refine made_val (.pointer (some ⟨r, 2, none⟩)) (by kernel_rfl) (by kernel_rfl) (by kernel_rfl) (fun _ _ => by kernel_rfl) ?_
              simp only [Act.put, List.setIfInBounds_toArray, List.set_cons_zero, List.set_cons_succ]
              refine made_val (.int .i64 DB.de) (by kernel_rfl) (by kernel_rfl) (by kernel_rfl) (fun W hW => exec_load_cell (o := ⟨some 220, _, _, _, _, _⟩) 3 (.tmp 219) rfl ⟨r, 2, none⟩ rfl _ _ W Try.underlying3 rfl (((HR.out.blk.below hW HR.out.blk.lt).cell 2).trans (rdv2 ..))) ?_
              simp only [Act.put, List.setIfInBounds_toArray, List.set_cons_zero, List.set_cons_succ]
              refine made_val (.bool false) (by kernel_rfl) (by kernel_rfl) (by kernel_rfl) (fun W hW => ?hs3) ?_
              case hs3 => go_simp
              simp only [Act.put, List.setIfInBounds_toArray, List.set_cons_zero, List.set_cons_succ]
              refine made_val (.bool false) (by kernel_rfl) (by kernel_rfl) (by kernel_rfl) (fun _ _ => by kernel_rfl) ?_
              simp only [Act.put, List.setIfInBounds_toArray, List.set_cons_zero, List.set_cons_succ]
              refine made_val (.bool false) (by kernel_rfl) (by kernel_rfl) (by kernel_rfl) (fun _ _ => by kernel_rfl) ?_
              simp only [Act.put, List.setIfInBounds_toArray, List.set_cons_zero, List.set_cons_succ]
              refine made_val (.pointer (some ⟨g, 0, none⟩)) (by kernel_rfl) (by kernel_rfl) (by kernel_rfl) (fun _ _ => by kernel_rfl) ?_
              simp only [Act.put, List.setIfInBounds_toArray, List.set_cons_zero, List.set_cons_succ]
              refine made_call (.agg #[.int .i64 (DB.kept.length : Int), .int .i64 (DB.pend.length : Int), .int .i64 DB.de, .bool DB.dn]) 87 #[.pointer (some ⟨g, 0, none⟩)] (by kernel_rfl) (by kernel_rfl) (by kernel_rfl) (fun W => by kernel_rfl) (fun W hW => statDev_any W (H9.out.1.grow (Nat.le_refl _) hW).mine.dev) ?_
              simp only [Act.put, List.setIfInBounds_toArray, List.set_cons_zero, List.set_cons_succ]
              refine made_val (.bool DB.dn) (by kernel_rfl) (by kernel_rfl) (by kernel_rfl) (fun _ _ => by kernel_rfl) ?_
              simp only [Act.put, List.setIfInBounds_toArray, List.set_cons_zero, List.set_cons_succ]
              refine made_val (.pointer (some ⟨r, 0, none⟩)) (by kernel_rfl) (by kernel_rfl) (by kernel_rfl) (fun _ _ => by kernel_rfl) ?_
              simp only [Act.put, List.setIfInBounds_toArray, List.set_cons_zero, List.set_cons_succ]
              refine made_val (.pointer (some ⟨r, 0, none⟩)) (by kernel_rfl) (by kernel_rfl) (by kernel_rfl) (fun _ _ => by kernel_rfl) ?_
              simp only [Act.put, List.setIfInBounds_toArray, List.set_cons_zero, List.set_cons_succ]
              refine made_val (.pointer (some ⟨r, 4, none⟩)) (by kernel_rfl) (by kernel_rfl) (by kernel_rfl) (fun _ _ => by kernel_rfl) ?_
              simp only [Act.put, List.setIfInBounds_toArray, List.set_cons_zero, List.set_cons_succ]
              refine made_val (.bool DB.dn) (by kernel_rfl) (by kernel_rfl) (by kernel_rfl) (fun W hW => exec_load_cell (o := ⟨some 230, _, _, _, _, _⟩) 4 (.tmp 229) rfl ⟨r, 4, none⟩ rfl _ _ W Try.underlying4 rfl (((HR.out.blk.below hW HR.out.blk.lt).cell 4).trans (rdv4 ..))) ?_
              simp only [Act.put, List.setIfInBounds_toArray, List.set_cons_zero, List.set_cons_succ]
              refine made_val (.bool false) (by kernel_rfl) (by kernel_rfl) (by kernel_rfl) (fun W hW => ?hs4) ?_
              case hs4 => go_simp
              simp only [Act.put, List.setIfInBounds_toArray, List.set_cons_zero, List.set_cons_succ]
              show ∀ w', _ → _
              intro wz hbz
              simp only [ended]
              rintro u _ _
              simp only [Act.put, List.setIfInBounds_toArray, List.set_cons_zero, List.set_cons_succ]
              have HZ := hide (And.intro (H9.out.1.grow (Nat.le_refl _) hbz) H9.out.2)
              clear hbz
              clear hL HR H9 hnk hn1
              clear k0 k1 k2 k3 s0 s1 s2 hltb hlts'
              obtain ⟨k0, k1, k2, k3, s0, s1, s2⟩ := HP.out wz HZ.out.1.mine.bel
              have hltb : bb < wz.heap.size := World.block_lt_of_cell? wz _ k0
              have hlts' : w.heap.size < wz.heap.size := World.block_lt_of_cell? wz _ s0
              obtain ⟨ra2, cra2, vw2, us2, hr2⟩ := HZ.out.1.ref
              have d4 := (hr2.blk.cell 4).trans (rdv4 ..)
              have hltr := hr2.blk.lt
              clear hr2
              have hcase : Hid (DB.dn = true) ∨ Hid (DB.dn = false) := by
                cases DB.dn
                · exact .inr rfl
                · exact .inl rfl
              rcases hcase with HDN | HDN
              · rw [HDN.out] at d4
                go_wp2_with fail
                refine (wake_any p.n wz HZ.out.1.mine.dev (by have := HZ.out.2.2; omega)).mono ?_
                rintro e wf ⟨rfl, hLf⟩
                obtain ⟨FW, hTW, _⟩ := HZ.out.1.dev2 (Nat.le_refl _) hLf
                have HF := hide (And.intro hTW trivial)
                clear hLf hTW d4 hltr
                clear k0 k1 k2 k3 s0 s1 s2 hltb hlts'
                obtain ⟨k0, k1, k2, k3, s0, s1, s2⟩ := HP.out wf HF.out.1.mine.bel
                have hltb : bb < wf.heap.size := World.block_lt_of_cell? wf _ k0
                have hlts' : w.heap.size < wf.heap.size := World.block_lt_of_cell? wf _ s0
                dsimp only
                go_wp2_with fail
                refine (rwake_any p.n HPK.out.2.1 wf HF.out.1.ref (by have := HZ.out.2.2; omega)).mono ?_
                rintro e wg ⟨rfl, hLg⟩
                obtain ⟨FV, hTV, _⟩ := HF.out.1.doc2 (Nat.le_refl _) hLg
                have hwm := wake_more DB p.n
                have HE := hide (show WrAt w0 wg FW FV g r (DB.wake p.n).2 (i + 1) from ⟨hTV, by rw [hwm.1]; have := HZ.out.2.1; omega, by have := HZ.out.2.2; omega⟩)
                clear hLg hTV hwm
                dsimp only
                go_wp2_with fail
                go_roundw
                case rel => exact ⟨i + 1, FW, FV, (DB.wake p.n).2, by omega, by go_num, HE.out⟩
                case measure => simp [intOf]; omega
              · rw [HDN.out] at d4
                go_wp2_with fail
                go_roundw
                case rel => exact ⟨i + 1, _, _, DB, by omega, by go_num, ⟨HZ.out.1, by have := HZ.out.2.1; omega, HZ.out.2.2⟩⟩
                case measure => simp [intOf]; omega
        · obtain rfl : i = ls.length := by omega
          have m3 : ¬ ((ls.length : Nat) : Int) < (ls.length : Int) := by omega
          go_wp2_with fail
          refine (awake7_any _).mono ?_
          rintro e w6 ⟨rfl, hb6⟩
          have H6 := hide hb6
          clear hb6
          dsimp only
          go_wp2_with fail
          go_ret
          have hbl := HX.out.two.mine.bel
          have hs0 := HV.out.2.2.2.1
          have hs6 := H6.out.size
          have hsw := hbl.size
          refine ⟨rfl, HV.out.2.1.trans ⟨H6.out.os.trans hbl.os, H6.out.tape.trans hbl.tape, H6.out.output.trans hbl.output, by omega, fun k hk => ?_⟩⟩
          exact (H6.out.block k (by omega)).trans (hbl.block k (by omega))
end Go.Proofs.Ytfppddnfdinipaa
end
section
namespace Go.Proofs.Ytfppddnfdinipaa
open Go Go.RowKit
set_option maxRecDepth 100000
theorem secs_ge (l a d : Int) : 0 ≤ secs l a d := by
  unfold secs
  split
  · rename_i h
    have h1 := h.1
    have h2 := h.2.1
    have h3 := h.2.2
    unfold inW at h1 h2 h3
    omega
  · omega
theorem load_leC (ls : List Put) (C : Nat) (h : ∀ p ∈ ls, p.b.length + 10 * p.rs.length ≤ C) : ∀ k, load (ls.take k) ≤ k * C
  | 0 => by simp [load]
  | k + 1 => by
    have h1 := load_leC ls C h k
    rw [Nat.succ_mul]
    cases hp : ls[k]? with
    | none =>
      have h2 : ls.length ≤ k := List.getElem?_eq_none_iff.1 hp
      rw [List.take_of_length_le (by omega)] at h1
      rw [List.take_of_length_le (by omega)]
      omega
    | some p =>
      have h3 := load_take ls k p hp
      have h4 := h p (List.mem_of_getElem? hp)
      omega
theorem load_le (ls : List Put) (h : ∀ p ∈ ls, p.b.length ≤ 140737488355328 ∧ p.rs.length ≤ 140737488355328) (k : Nat) : load (ls.take k) ≤ k * 1548112371908608 :=
  load_leC ls _ (fun p hp => by have := h p hp; omega) k
set_option maxHeartbeats 4000000 in
theorem writes_out (l a d more : Int) (hmr : -9223372036854775808 ≤ more ∧ more ≤ 9223372036854775807) (ls : List Put) (hln : ls.length ≤ 140737488355328) (hps : ∀ p ∈ ls, p.b.length ≤ 140737488355328 ∧ p.rs.length ≤ 140737488355328)
    (hbad : ls.length ≤ 60 → load ls ≤ 4000 → secs l a d ≤ 60 → -1 ≤ more ∧ more ≤ 3 → secs l a d + more < 1) (v : Value) (w : World) (hv : PutsM w w.heap.size v ls) :
    Calls Try.prog 43 #[.agg #[.int .i64 l, .int .i64 a, .int .i64 d], .int .i64 more, v] w fun e w' => e = .returned (.bool true) ∧ Below w.heap.size w w' := by
  obtain ⟨Ap, cp, rfl, hrest⟩ := id hv
  obtain ⟨w0, hw0⟩ : ∃ w0, w0 = w.alloc (.cells #[.int .i64 l, .int .i64 a, .int .i64 d] 64) := ⟨_, rfl⟩
  have hb0 : Below w.heap.size w w0 := by rw [hw0]; exact (Below.refl _ w).alloc (Nat.le_refl _) _
  have hsh : Blk w0 w.heap.size 64 #[.int .i64 l, .int .i64 a, .int .i64 d] := by rw [hw0]; exact Blk.new _ _ _
  have hs0 : w0.heap.size = w.heap.size + 1 := by rw [hw0, size_alloc]
  have HV := hide (And.intro hv (And.intro hb0 (And.intro hsh hs0)))
  have HLD := hide (load_le ls hps)
  clear hrest hv hb0 hsh hs0 hps
  go_enter Try.func43, Try.ntmps43
  go_wp2_with fail
  rw [← hw0]
  have HW0 := hide hw0
  clear hw0
  go_loopw [7, 8] (fun m x wr => ∃ k : Nat, k ≤ ls.length ∧ k ≤ 60 ∧ x = .int .i64 (k : Int) ∧ m = .int .i64 ((load (ls.take k) : Nat) : Int) ∧ Below w0.heap.size w0 wr) (fun _ x _ => ls.length - (intOf x).toNat)
  case atStart => exact ⟨0, by omega, by omega, rfl, rfl, Below.refl _ _⟩
  case round =>
    obtain ⟨k, hk, hk60, rfl, rfl, hb⟩ := hrel
    have HB := hide hb
    have n2 : (0 : Int) ≤ (k : Int) := by omega
    have n5 : (k : Int) ≤ 60 := by omega
    have hml := HLD.out k
    have p0 : (0 : Int) ≤ ((load (ls.take k) : Nat) : Int) := by omega
    have p1 : ((load (ls.take k) : Nat) : Int) ≤ 92886742314516480 := by omega
    clear hb hml
    by_cases hk2 : k < ls.length
    · have n1 : (k : Int) < (ls.length : Int) := by omega
      by_cases hk3 : k < 60
      · have n3 : (k : Int) < 60 := by omega
        obtain ⟨p, hp⟩ : ∃ p, ls[k]? = some p := ⟨_, List.getElem?_eq_getElem hk2⟩
        obtain ⟨A', c', hvv, _, hA⟩ := HV.out.1
        injection hvv with e1 _ e2
        subst e1 e2
        obtain ⟨bb, off, rfl, hbb, hcs⟩ := hA (by omega)
        have hpc := (hcs k p hp).alike hbb fun j hj => ((HB.out.block j (by have := HV.out.2.2.2; omega)).trans (HV.out.2.1.block j hj))
        obtain ⟨Ab, cb, q0, _, _⟩ := hpc.c0
        obtain ⟨Ar, cr, q1, _⟩ := hpc.c1
        have hbl : bb < wr.heap.size := World.block_lt_of_cell? wr _ q0
        have hlt2 := load_take ls k p hp
        have hlg := HLD.out (k + 1)
        rw [hlt2] at hlg
        have p2 : (0 : Int) ≤ (p.b.length : Int) := by omega
        have p3 : (p.b.length : Int) ≤ 94434854686425088 := by omega
        have p4 : (0 : Int) ≤ (p.rs.length : Int) := by omega
        have p5 : (p.rs.length : Int) ≤ 94434854686425088 := by omega
        have HL := hide hlt2
        generalize load (ls.take k) = M at p0 p1 HL ⊢
        clear hpc hcs hA hp hlt2 hlg
        go_wp2_with fail
        go_quiet (fail)
        go_wp2_with fail
        refine ⟨⟨k + 1, by omega, by omega, by go_num, ?_, below_drewN HB.out _⟩, by simp [intOf]; omega⟩
        rw [HL.out]
        congr 1
        omega
      · obtain rfl : k = 60 := by omega
        have n4 : (60 : Int) < (ls.length : Int) := by omega
        generalize load (ls.take 60) = M at p0 p1
        go_wp2_with fail
        refine (awake7_any _).mono ?_
        rintro e w9 ⟨rfl, hb9⟩
        have H9 := hide (HB.out.next hb9)
        clear hb9
        dsimp only
        go_wp2_with fail
        go_ret
        exact ⟨rfl, HV.out.2.1.trans (Below.mono H9.out (by have := HV.out.2.2.2; omega))⟩
    · obtain rfl : k = ls.length := by omega
      have n1 : ¬ ((ls.length : Nat) : Int) < (ls.length : Int) := by omega
      have p7 : ¬ (60 : Int) < (ls.length : Int) := by omega
      rw [List.take_length] at p0 p1 ⊢
      generalize load ls = M at p0 p1 hbad ⊢
      by_cases hM : 4000 < M
      · have q0 : (4000 : Int) < (M : Int) := by omega
        go_wp2_with fail
        refine (awake7_any _).mono ?_
        rintro e w9 ⟨rfl, hb9⟩
        have H9 := hide (HB.out.next hb9)
        clear hb9
        dsimp only
        go_wp2_with fail
        go_ret
        exact ⟨rfl, HV.out.2.1.trans (Below.mono H9.out (by have := HV.out.2.2.2; omega))⟩
      · have q0 : ¬ (4000 : Int) < (M : Int) := by omega
        have hsh := HV.out.2.2.1.below HB.out HV.out.2.2.1.lt
        have c0 := hsh.cell 0
        have c1 := hsh.cell 1
        have c2 := hsh.cell 2
        have hlt := hsh.lt
        clear hsh
        go_wp2_with fail
        refine (rsecs_any l a d _).mono ?_
        rintro e w1 ⟨rfl, hb1⟩
        have H1 := hide (HB.out.next hb1)
        clear hb1
        clear c0 c1 c2 hlt
        dsimp only
        by_cases hs1 : 60 < secs l a d
        · go_wp2_with fail
          refine (awake7_any _).mono ?_
          rintro e w9 ⟨rfl, hb9⟩
          have H9 := hide (H1.out.next hb9)
          clear hb9
          dsimp only
          go_wp2_with fail
          go_ret
          exact ⟨rfl, HV.out.2.1.trans (Below.mono H9.out (by have := HV.out.2.2.2; omega))⟩
        · by_cases hs2 : more < -1
          · go_wp2_with fail
            refine (awake7_any _).mono ?_
            rintro e w9 ⟨rfl, hb9⟩
            have H9 := hide (H1.out.next hb9)
            clear hb9
            dsimp only
            go_wp2_with fail
            go_ret
            exact ⟨rfl, HV.out.2.1.trans (Below.mono H9.out (by have := HV.out.2.2.2; omega))⟩
          · by_cases hs3 : 3 < more
            · go_wp2_with fail
              refine (awake7_any _).mono ?_
              rintro e w9 ⟨rfl, hb9⟩
              have H9 := hide (H1.out.next hb9)
              clear hb9
              dsimp only
              go_wp2_with fail
              go_ret
              exact ⟨rfl, HV.out.2.1.trans (Below.mono H9.out (by have := HV.out.2.2.2; omega))⟩
            · have HBAD := hide (hbad (by omega) (by omega) (by omega) ⟨by omega, by omega⟩)
              have hs4 := secs_ge l a d
              have hs5 : -9223372036854775808 ≤ secs l a d + more ∧ secs l a d + more ≤ 9223372036854775807 := by omega
              have hsh := HV.out.2.2.1.below H1.out HV.out.2.2.1.lt
              have c0 := hsh.cell 0
              have c1 := hsh.cell 1
              have c2 := hsh.cell 2
              have hlt := hsh.lt
              clear hsh
              go_wp2_with fail
              refine (rsecs_any l a d _).mono ?_
              rintro e w2 ⟨rfl, hb2⟩
              have H2 := hide (H1.out.next hb2)
              clear hb2
              clear c0 c1 c2 hlt
              dsimp only
              go_wp2_with fail
              refine (new_bad (secs l a d + more) (by have := HBAD.out; omega) w2).mono ?_
              rintro e w3 ⟨rfl, rfl⟩
              have hsh := HV.out.2.2.1.below H2.out HV.out.2.2.1.lt
              have c0 := hsh.cell 0
              have c1 := hsh.cell 1
              have c2 := hsh.cell 2
              have hlt := hsh.lt
              clear hsh
              dsimp only
              go_wp2_with fail
              refine (rsecs_any l a d _).mono ?_
              rintro e w4 ⟨rfl, hb4⟩
              have H4 := hide (H2.out.next hb4)
              clear hb4
              clear c0 c1 c2 hlt
              dsimp only
              go_wp2_with fail
              refine (rnew_bad (secs l a d + more) (by have := HBAD.out; omega) w4).mono ?_
              rintro e w5 ⟨rfl, rfl⟩
              dsimp only
              go_wp2_with fail
              refine (awake7_any _).mono ?_
              rintro e w9 ⟨rfl, hb9⟩
              have H9 := hide (H4.out.next hb9)
              clear hb9
              dsimp only
              go_wp2_with fail
              go_ret
              exact ⟨rfl, HV.out.2.1.trans (Below.mono H9.out (by have := HV.out.2.2.2; omega))⟩
theorem writes_any (l a d more : Int) (hmr : -9223372036854775808 ≤ more ∧ more ≤ 9223372036854775807) (ls : List Put) (hln : ls.length ≤ 140737488355328) (hps : ∀ p ∈ ls, p.b.length ≤ 140737488355328 ∧ p.rs.length ≤ 140737488355328) (v : Value) (w : World) (hv : PutsM w w.heap.size v ls) :
    Calls Try.prog 43 #[.agg #[.int .i64 l, .int .i64 a, .int .i64 d], .int .i64 more, v] w fun e w' => e = .returned (.bool true) ∧ Below w.heap.size w w' := by
  by_cases h : ls.length ≤ 60 ∧ load ls ≤ 4000 ∧ secs l a d ≤ 60 ∧ (-1 ≤ more ∧ more ≤ 3) ∧ 1 ≤ secs l a d + more
  · exact writes_in l a d more h.2.2.2.1 ls h.1 h.2.1 h.2.2.1 h.2.2.2.2 v w hv
  · exact writes_out l a d more hmr ls hln hps (fun h1 h2 h3 h4 => by
      by_cases h5 : 1 ≤ secs l a d + more
      · exact absurd ⟨h1, h2, h3, h4, h5⟩ h
      · omega) v w hv
end Go.Proofs.Ytfppddnfdinipaa
end
