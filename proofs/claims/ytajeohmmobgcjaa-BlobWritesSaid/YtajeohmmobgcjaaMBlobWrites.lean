/- spencelaw07: BlobWrites. -/
import Derived.Test.YtajeohmmobgcjaaMRBlobE
import Derived.Test.YtajeohmmobgcjaaMPutsM
import Derived.Test.YtajeohmmobgcjaaMDevDo2
import Derived.Test.YtajeohmmobgcjaaMLentKept
import Derived.Deep.CutRange
namespace Go.Proofs.Ytajeohmmobgcjaa
open Go Go.RowKit
set_option maxRecDepth 100000
theorem flush_more (D : Dv) : D.flush.2.de ≤ D.de + 1 ∧ D.flush.2.pend.length ≤ D.pend.length ∧ D.flush.2.kept.length = D.kept.length := by
  unfold Dv.flush
  by_cases h1 : D.dn = true
  · rw [if_pos h1]
    exact ⟨(by show D.de ≤ _; omega), Nat.le_refl _, rfl⟩
  · rw [if_neg h1]
    refine ⟨?_, ?_, ?_⟩
    · show (tick D.de D.fu D.dn).2.1 ≤ _
      unfold tick
      split
      · show D.de ≤ _; omega
      · split <;> (show D.de + 1 ≤ _; omega)
    · show (if (tick D.de D.fu D.dn).1 = 0 then [] else D.pend).length ≤ _
      split
      · simp
      · exact Nat.le_refl _
    · show (if (tick D.de D.fu D.dn).1 = 0 then settleL (fun _ => true) 0 D.pend D.kept else D.kept).length = _
      split
      · rw [settle_len]
      · rfl
theorem writeS_more (fst : Int) : ∀ (ps : List Nat) (D : Dv) (l : List UInt8), (writeS D fst l ps).2.de ≤ D.de + ps.length + 1 ∧ (writeS D fst l ps).2.pend.length ≤ D.pend.length + ps.length ∧ (writeS D fst l ps).2.kept.length = D.kept.length
  | [], D, l => by
    have := flush_more D
    exact ⟨by show D.flush.2.de ≤ _; simp; omega, this.2.1, this.2.2⟩
  | p :: ps, D, l => by
    have h := write_more D (fst + (p : Int)) (l.take 64)
    rw [writeS]
    split
    · have h2 := writeS_more fst ps (D.write (fst + (p : Int)) (l.take 64)).2 (l.drop 64)
      rw [h.2.2] at h2
      refine ⟨?_, ?_, h2.2.2⟩
      · rw [List.length_cons]
        omega
      · rw [List.length_cons]
        omega
    · refine ⟨?_, ?_, by rw [h.2.2]⟩
      · rw [List.length_cons]
        omega
      · rw [List.length_cons]
        omega
theorem put_more (D : Dv) (l a d : Int) (h64 : rightP l a d → d ≤ 64) (b : List UInt8) (rs : List Run) : (D.put l a d b rs).2.de ≤ D.de + 100 ∧ (D.put l a d b rs).2.pend.length ≤ D.pend.length + 100 ∧ (D.put l a d b rs).2.kept.length = D.kept.length := by
  unfold Dv.put
  split
  · rename_i h
    have hap : apartP l a d rs := by
      by_cases h2 : apartP l a d rs
      · exact h2
      · rw [suitsE, if_neg (fun h3 => h2 h3.1)] at h
        cases h
    have h1 := apart_count hap
    have h2 := h64 hap.1
    have h3 := writeS_more (firstS l a d) (pos rs) D b
    exact ⟨by omega, by omega, h3.2.2⟩
  · exact ⟨(by show D.de ≤ _; omega), (by show D.pend.length ≤ _; omega), rfl⟩
theorem bytesAt_grow {w w' : World} {B : Nat} {v : Value} {l : List UInt8} (h : BytesAt w B v l) (ha : ∀ k, k < B → w'.heap[k]? = w.heap[k]?) : BytesAt w' B v l := h.alike ha
/-- what the law goes on with: both devices tell the same -/
structure WrAt (w W : World) (Fd Fr : Nat → Prop) (g r : Nat) (D : Dv) (i : Nat) : Prop where
  two : Two w.heap.size w W Fd Fr g r D D
  de : D.de ≤ 100 * (i : Int)
  pend : D.pend.length ≤ 100 * i
theorem keepR {a b c d e f g : Prop} (h : a ∧ b ∧ c ∧ d ∧ e ∧ f ∧ g) : b ∧ c ∧ e ∧ f ∧ g := ⟨h.2.1, h.2.2.1, h.2.2.2.2⟩
theorem keep5 {a b c d e f g : Prop} (h : a ∧ b ∧ c ∧ d ∧ e ∧ f ∧ g) : a ∧ b ∧ e ∧ f ∧ g := ⟨h.1, h.2.1, h.2.2.2.2⟩
section
variable {R S g r gi : Nat} {w0 W : World} {Fd Fr : Nat → Prop} {D E : Dv}
theorem runs_sep {Ar : Option Addr} {cr : Nat} {rs : List Run} (h : RunsM W S (.slice Ar rs.length cr) rs) (hS : S ≤ R) (hlow : ∀ k, Fd k → R ≤ k) : ∀ ad, Ar = some ad → 0 < rs.length → ¬ Fd ad.block := by
  intro ad ha h0 hF
  obtain ⟨A', c', hv, _, _, hA, _⟩ := h
  injection hv with e1 _ _
  subst e1
  obtain ⟨b, off, e, hb, _⟩ := hA h0
  rw [ha] at e
  injection e with e
  subst e
  have h1 := hlow _ hF
  have h1 : R ≤ b := h1
  omega
theorem wcall1 (h : Two R w0 W Fd Fr g r D E) (hR : R ≤ w0.heap.size) (l a d : Int) (h64 : rightP l a d → d ≤ 64) (b : List UInt8) (hb : b.length ≤ 10000) (Ar : Option Addr) (cr : Nat) (rs : List Run) (hl : rs.length ≤ 10000) (hde : D.de ≤ 100000) (hpe : D.pend.length ≤ 10000)
    (hblk : Blk W gi 5 (bv (b ++ marks)).toArray) (hgi : ¬ Fd gi) (hruns : RunsM W S (.slice Ar rs.length cr) rs) (hS : S ≤ R) (k : Nat) :
    Calls Try.prog 42 #[.pointer (some ⟨g, 0, none⟩), .agg #[.int .i64 l, .int .i64 a, .int .i64 d], .slice (some ⟨gi, 0, none⟩) b.length (b.length + 12), .slice Ar rs.length cr] (W.drewN k) fun e w' => e = .returned (.int .i64 (D.put l a d b rs).1) ∧ ∃ F', Two R w0 w' F' Fr g r (D.put l a d b rs).2 E ∧ ∀ q, q < W.heap.size → ¬ Fd q → w'.heap[q]? = W.heap[q]? ∧ ¬ F' q := by
  have hs := lent_src hblk rfl
  have hRW : R ≤ W.heap.size := Nat.le_trans hR h.mine.bel.size
  refine (bwrite_any l a d h64 b (by omega) (some ⟨gi, 0, none⟩) (b.length + 12) (by omega) Ar cr rs (by omega) (W.drewN k) (h.mine.dev.keep fun _ _ _ => rfl) (by omega) (by omega) ((hruns.alike fun _ _ => rfl).widen (by show S ≤ W.heap.size; omega)) (runs_sep hruns hS h.mine.low) ⟨hs.len, hs.none_, hs.one, hs.cells⟩ (fun ad ha _ hF => by injection ha with ha; subst ha; exact hgi hF)).mono ?_
  rintro e w' ⟨rfl, hL⟩
  exact ⟨rfl, h.dev2 hR hL.of_draw⟩
theorem wcall2 (h : Two R w0 W Fd Fr g r D E) (hR : R ≤ w0.heap.size) (l a d : Int) (h64 : rightP l a d → d ≤ 64) (b : List UInt8) (hb : b.length ≤ 10000) (Ab : Option Addr) (cb : Nat) (Ar : Option Addr) (cr : Nat) (rs : List Run) (hl : rs.length ≤ 10000) (hde : E.de ≤ 100000) (hpe : E.pend.length ≤ 10000)
    (hbytes : BytesAt W S (.slice Ab b.length cb) b) (hnil : Ab = none → cb = 0) (hruns : RunsM W S (.slice Ar rs.length cr) rs) (hS : S ≤ R) :
    Calls Try.prog 46 #[.pointer (some ⟨r, 0, none⟩), .agg #[.int .i64 l, .int .i64 a, .int .i64 d], .slice Ab b.length cb, .slice Ar rs.length cr] W fun e w' => e = .returned (.int .i64 (E.put l a d b rs).1) ∧ ∃ F', Two R w0 w' Fd F' g r D (E.put l a d b rs).2 ∧ ∀ q, q < W.heap.size → ¬ Fr q → w'.heap[q]? = W.heap[q]? ∧ ¬ F' q := by
  have hs := bv_src hbytes hnil
  have hRW : R ≤ W.heap.size := Nat.le_trans hR h.mine.bel.size
  obtain ⟨A', c', hv, hcc, hA⟩ := id hbytes
  injection hv with e1 _ e2
  subst e1 e2
  refine (rwriteB_any l a d h64 b (by omega) Ab cb hcc _ rs (by omega) W h.ref (by omega) (by omega) (hruns.widen (by omega)) hs (fun ad ha h0 hF => ?_)).mono ?_
  · obtain ⟨bb, off, e, hlt, _⟩ := hA h0
    rw [ha] at e
    injection e with e
    subst e
    have h1 := h.low _ hF
    have h1 : R ≤ bb := h1
    omega
  · rintro e w' ⟨rfl, hL⟩
    exact ⟨rfl, h.doc2 hR hL⟩
theorem get_len (D : Dv) (l a d n : Int) (h64 : rightP l a d → d ≤ 64) (rs : List Run) : (D.get l a d n rs).2.length ≤ 5000 := by
  unfold Dv.get
  split
  · rename_i h
    have hsu : apartP l a d rs ∧ 0 ≤ n ∧ ((pos rs).length : Int) = needP n := by
      by_cases h2 : apartP l a d rs ∧ 0 ≤ n ∧ ((pos rs).length : Int) = needP n ∧ secs l a d ≤ (D.kept.length : Int)
      · exact ⟨h2.1, h2.2.1, h2.2.2.1⟩
      · rw [suitsE, if_neg h2] at h
        cases h
    have h1 := apart_count hsu.1
    have h2 := h64 hsu.1.1
    have h3 := hsu.2.2
    split
    · simp
    · show (List.take _ _).length ≤ _
      rw [List.length_take]
      rw [needP] at h3
      split at h3 <;> omega
  · simp
theorem rcall1 (h : Two R w0 W Fd Fr g r D E) (hR : R ≤ w0.heap.size) (l a d n : Int) (h64 : rightP l a d → d ≤ 64) (hn : -9223372036854775808 ≤ n ∧ n ≤ 9223372036854775807) (Ar : Option Addr) (cr : Nat) (rs : List Run) (hl : rs.length ≤ 10000) (hpe : D.pend.length ≤ 10000)
    (hruns : RunsM W S (.slice Ar rs.length cr) rs) (hS : S ≤ R) (k : Nat) :
    Calls Try.prog 43 #[.pointer (some ⟨g, 0, none⟩), .agg #[.int .i64 l, .int .i64 a, .int .i64 d], .int .i64 n, .slice Ar rs.length cr] (W.drewN k) fun e w' => ∃ o, e = .returned (.tuple #[o, .int .i64 (D.get l a d n rs).1]) ∧ w'.ownsRow W.heap.size 5 1 o (D.get l a d n rs).2.length (bv (D.get l a d n rs).2) ∧ Two R w0 w' Fd Fr g r D E ∧ Below W.heap.size W w' := by
  have hRW : R ≤ W.heap.size := Nat.le_trans hR h.mine.bel.size
  refine (bread_any l a d n h64 hn Ar cr rs (by omega) (W.drewN k) (h.mine.dev.keep fun _ _ _ => rfl) (by omega) ((hruns.alike fun _ _ => rfl).widen (by show S ≤ W.heap.size; omega))).mono ?_
  rintro e w' ⟨o, rfl, ho, hb⟩
  have hb' : Below W.heap.size W w' := ⟨hb.os, hb.tape, hb.output, hb.size, hb.block⟩
  exact ⟨o, rfl, ho, h.grow hR hb', hb'⟩
theorem rcall2 (h : Two R w0 W Fd Fr g r D E) (hR : R ≤ w0.heap.size) (l a d n : Int) (h64 : rightP l a d → d ≤ 64) (hn : -9223372036854775808 ≤ n ∧ n ≤ 9223372036854775807) (Ar : Option Addr) (cr : Nat) (rs : List Run) (hl : rs.length ≤ 10000) (hpe : E.pend.length ≤ 10000)
    (hruns : RunsM W S (.slice Ar rs.length cr) rs) (hS : S ≤ R) (k : Nat) :
    Calls Try.prog 49 #[.pointer (some ⟨r, 0, none⟩), .agg #[.int .i64 l, .int .i64 a, .int .i64 d], .int .i64 n, .slice Ar rs.length cr] (W.drewN k) fun e w' => ∃ o, e = .returned (.tuple #[o, .int .i64 (E.get l a d n rs).1]) ∧ w'.ownsRow W.heap.size 5 1 o (E.get l a d n rs).2.length (bv (E.get l a d n rs).2) ∧ Two R w0 w' Fd Fr g r D E ∧ Below W.heap.size W w' := by
  have hRW : R ≤ W.heap.size := Nat.le_trans hR h.mine.bel.size
  refine (rreadB_any l a d n h64 hn _ rs (by omega) (W.drewN k) (h.ref.keep (Nat.le_refl _) fun _ _ _ => rfl) (by omega) ((hruns.alike fun _ _ => rfl).widen (by show S ≤ W.heap.size; omega))).mono ?_
  rintro e w' ⟨o, rfl, ho, hb⟩
  have hb' : Below W.heap.size W w' := ⟨hb.os, hb.tape, hb.output, hb.size, hb.block⟩
  exact ⟨o, rfl, ho, h.grow hR hb', hb'⟩
/-- bytes of one's own are overwritten -/
theorem two_over {w' : World} {v : Value} {B m : Nat} {xs : List Value} (h : Two R w0 W Fd Fr g r D E) (hR : R ≤ w0.heap.size) (ho : W.ownsRow B 5 1 v m xs) (hB : R ≤ B ∧ (∀ k, Fd k → k < B) ∧ ∀ k, Fr k → k < B) (ht : Turned (fun k => v.ownBlock = some k) W w') : Two R w0 w' Fd Fr g r D E := by
  cases hv : v.ownBlock with
  | none =>
    rw [hv] at ht
    exact h.grow hR ⟨ht.os, ht.tape, ht.output, ht.size, fun k hk => ht.block k hk (fun e => by cases e)⟩
  | some q =>
    have hq := (owned_ltN ho hv).1
    rw [hv] at ht
    refine h.turn hR (fun hf => by have := hB.2.1 q hf; omega) (fun hf => by have := hB.2.2 q hf; omega) (by omega) (ht.mono fun k _ e => ?_)
    injection e with e
    exact e.symm
theorem fuse_more (D : Dv) (x : Int) : (D.fuse x).2.de = D.de ∧ (D.fuse x).2.pend = D.pend := by
  unfold Dv.fuse
  split <;> exact ⟨rfl, rfl⟩
theorem wake_more (D : Dv) (x : Int) : (D.wake x).2.de = D.de ∧ (D.wake x).2.pend.length ≤ D.pend.length := by
  unfold Dv.wake
  split
  · exact ⟨rfl, by simp⟩
  · exact ⟨rfl, Nat.le_refl _⟩
end
set_option maxHeartbeats 4000000 in
theorem writes_in (l a d more : Int) (hm : -1 ≤ more ∧ more ≤ 3) (ls : List Put) (hlen : ls.length ≤ 60) (hload : load ls ≤ 4000) (hsec : secs l a d ≤ 60) (hnew : 1 ≤ secs l a d + more) (v : Value) (w : World) (hv : PutsM w w.heap.size v ls) :
    Calls Try.prog 10 #[.agg #[.int .i64 l, .int .i64 a, .int .i64 d], .int .i64 more, v] w fun e w' => e = .returned (.bool true) ∧ Below w.heap.size w w' := by
  have h64 : rightP l a d → d ≤ 64 := fun h => by
    have h1 := h.1
    have h2 := h.2.1
    rw [secs, if_pos h] at hsec
    unfold inW at h1 h2
    omega
  obtain ⟨Ap, cp, rfl, hrest⟩ := id hv
  obtain ⟨w0, hw0⟩ : ∃ w0, w0 = w.alloc (.cells #[.int .i64 l, .int .i64 a, .int .i64 d] 23) := ⟨_, rfl⟩
  have hb0 : Below w.heap.size w w0 := by rw [hw0]; exact (Below.refl _ w).alloc (Nat.le_refl _) _
  have hsh : Blk w0 w.heap.size 23 #[.int .i64 l, .int .i64 a, .int .i64 d] := by rw [hw0]; exact Blk.new _ _ _
  have hs0 : w0.heap.size = w.heap.size + 1 := by rw [hw0, size_alloc]
  have HV := hide (And.intro hv (And.intro hb0 (And.intro hsh (And.intro hs0 h64))))
  have c0 := hsh.cell 0
  have c1 := hsh.cell 1
  have c2 := hsh.cell 2
  have hlt := hsh.lt
  clear hrest hv hb0 h64 hsh hs0
  go_enter Try.func10, Try.ntmps10
  go_wp2_with fail
  rw [← hw0]
  have HW0 := hide hw0
  clear hw0
  go_loopw [7, 8] (fun m x wr => ∃ k : Nat, k ≤ ls.length ∧ x = .int .i64 (k : Int) ∧ m = .int .i64 ((load (ls.take k) : Nat) : Int) ∧ Below w0.heap.size w0 wr) (fun _ x _ => ls.length - (intOf x).toNat)
  case atStart => exact ⟨0, by omega, rfl, rfl, Below.refl _ _⟩
  case round =>
    obtain ⟨k, hk, rfl, rfl, hb⟩ := hrel
    have HB := hide hb
    have n2 : (0 : Int) ≤ (k : Int) := by omega
    have n5 : (k : Int) ≤ 60 := by omega
    have hml := load_take_le ls k
    have p0 : (0 : Int) ≤ ((load (ls.take k) : Nat) : Int) := by omega
    have p1 : ((load (ls.take k) : Nat) : Int) ≤ 4000 := by omega
    clear hb
    by_cases hk2 : k < ls.length
    · have n1 : (k : Int) < (ls.length : Int) := by omega
      have n3 : (k : Int) < 60 := by omega
      obtain ⟨p, hp⟩ : ∃ p, ls[k]? = some p := ⟨_, List.getElem?_eq_getElem hk2⟩
      obtain ⟨A', c', hvv, _, hA⟩ := HV.out.1
      injection hvv with e1 _ e2
      subst e1 e2
      obtain ⟨bb, off, rfl, hbb, hcs⟩ := hA (by omega)
      have hpc := (hcs k p hp).alike hbb fun j hj => ((HB.out.block j (by have := HV.out.2.2.2.1; omega)).trans (HV.out.2.1.block j hj))
      obtain ⟨Ab, cb, q0, _, _⟩ := hpc.c0
      obtain ⟨Ar, cr, q1, _⟩ := hpc.c1
      have hbl : bb < wr.heap.size := World.block_lt_of_cell? wr _ q0
      have hlt2 := load_take ls k p hp
      have hlg := load_get ls k p hp
      have p2 : (0 : Int) ≤ (p.b.length : Int) := by omega
      have p3 : (p.b.length : Int) ≤ 4000 := by omega
      have p4 : (0 : Int) ≤ (p.rs.length : Int) := by omega
      have p5 : (p.rs.length : Int) ≤ 4000 := by omega
      have HL := hide hlt2
      generalize load (ls.take k) = M at p0 p1 HL ⊢
      clear hpc hcs hA hp hlt2 hlg hml
      go_wp2_with fail
      go_quiet (fail)
      go_wp2_with fail
      refine ⟨⟨k + 1, by omega, by go_num, ?_, below_drewN HB.out _⟩, by simp [intOf]; omega⟩
      rw [HL.out]
      congr 1
      omega
    · obtain rfl : k = ls.length := by omega
      have n1 : ¬ ((ls.length : Nat) : Int) < (ls.length : Int) := by omega
      rw [List.take_length]
      clear hml
      have p6 : ((load ls : Nat) : Int) ≤ 4000 := by omega
      have p7 : ¬ (60 : Int) < (ls.length : Int) := by omega
      have hsh := HV.out.2.2.1.below HB.out HV.out.2.2.1.lt
      have c0 := hsh.cell 0
      have c1 := hsh.cell 1
      have c2 := hsh.cell 2
      have hlt := hsh.lt
      clear hsh
      go_wp2_with fail
      refine (rsecs_any l a d _).mono ?_
      rintro e w1 ⟨rfl, hb1⟩
      have H1 := hide (HB.out.next hb1)
      clear hb1 c0 c1 c2 hlt HB
      have hsh := HV.out.2.2.1.below H1.out HV.out.2.2.1.lt
      have c0 := hsh.cell 0
      have c1 := hsh.cell 1
      have c2 := hsh.cell 2
      have hlt := hsh.lt
      clear hsh
      have q1 : ¬ (60 : Int) < secs l a d := by omega
      have q2 : ¬ more < -1 := by omega
      have q3 : ¬ (3 : Int) < more := by omega
      dsimp only
      go_wp2_with fail
      refine (rsecs_any l a d _).mono ?_
      rintro e w2 ⟨rfl, hb2⟩
      have H2 := hide (H1.out.next hb2)
      clear hb2 c0 c1 c2 hlt H1
      have q4 : (0 : Int) ≤ secs l a d + more := by omega
      have q5 : secs l a d + more ≤ 63 := by omega
      obtain ⟨K, hK⟩ : ∃ K : Nat, secs l a d + more = (K : Int) := ⟨(secs l a d + more).toNat, by omega⟩
      have hK1 : 1 ≤ K ∧ K ≤ 8192 := by omega
      dsimp only
      go_wp2_with fail
      refine (newDev_any K hK1 w2).mono ?_
      rintro e w3 ⟨g, Fd, rfl, hdv, hb3, hFd⟩
      have H3 := hide (And.intro (H2.out.next hb3) (And.intro hdv (And.intro H2.out.size hFd)))
      clear hdv hb3 hFd H2
      have hsh := HV.out.2.2.1.below H3.out.1 HV.out.2.2.1.lt
      have c0 := hsh.cell 0
      have c1 := hsh.cell 1
      have c2 := hsh.cell 2
      have hlt := hsh.lt
      clear hsh
      dsimp only
      go_wp2_with fail
      refine (rsecs_any l a d _).mono ?_
      rintro e w4 ⟨rfl, hb4⟩
      have H4 := hide (And.intro (H3.out.1.next hb4) (H3.out.2.1.keep fun k hk _ => hb4.block k hk))
      have hs34 := hb4.size
      clear hb4 c0 c1 c2 hlt
      dsimp only
      go_wp2_with fail
      refine (rnew_any K hK1 w4).mono ?_
      rintro e w5 ⟨r, Fr, rfl, hrf, hb5, hFr⟩
      have hW : WrAt w0 w5 Fd Fr g r (Dv.new K) 0 := by
        have hlow : ∀ k, Fd k → w0.heap.size ≤ k := fun k hk => by have := H3.out.2.2.2 k hk; have := H3.out.2.2.1; omega
        refine ⟨⟨⟨H4.out.2.keep fun k hk _ => hb5.block k hk, H4.out.1.next hb5, hlow⟩, hrf, fun k hk => by have := hFr k hk; have := H4.out.1.size; omega, fun k hk hf => ?_⟩, by simp [Dv.new], by simp [Dv.new]⟩
        have h1 := hFr k hf
        have h2 := H4.out.2.lt k hk
        omega
      have HW := hide hW
      clear hrf hb5 hFr hW hs34 H3 H4
      dsimp only
      go_wp2_with fail
      go_loopw [13] (fun x wr => ∃ (i : Nat) (Fd Fr : Nat → Prop) (D : Dv), i ≤ ls.length ∧ x = .int .i64 (i : Int) ∧ WrAt w0 wr Fd Fr g r D i) (fun x _ => ls.length - (intOf x).toNat)
      case atStart => exact ⟨0, Fd, Fr, Dv.new K, by omega, rfl, HW.out⟩
      case round =>
        obtain ⟨i, Fd', Fr', D, hi, rfl, hw⟩ := hrel
        have HX := hide hw
        clear hw
        have m1 : (0 : Int) ≤ (i : Int) := by omega
        have m2 : (i : Int) ≤ 60 := by omega
        by_cases hi2 : i < ls.length
        · have n1 : (i : Int) < (ls.length : Int) := by omega
          obtain ⟨p, hp⟩ : ∃ p, ls[i]? = some p := ⟨_, List.getElem?_eq_getElem hi2⟩
          have hlg := load_get ls i p hp
          obtain ⟨A', c', hvv, _, hA⟩ := HV.out.1
          injection hvv with e1 _ e2
          subst e1 e2
          obtain ⟨bb, off, rfl, hbb, hcs⟩ := hA (by omega)
          have hpc := hcs i p hp
          obtain ⟨Ab, cb, q0, q0b, q0n⟩ := hpc.c0
          obtain ⟨Ar, cr, q1', q1r⟩ := hpc.c1
          have hal : ∀ W, Below w0.heap.size w0 W → Alike w.heap.size w W := fun W hW k hk => (hW.block k (by have := HV.out.2.2.2.1; omega)).trans (HV.out.2.1.block k hk)
          have HP : Hid (∀ W, Below w0.heap.size w0 W → W.cell? ⟨bb, off + i * 4, none⟩ = some (.slice Ab p.b.length cb) ∧ W.cell? ⟨bb, off + i * 4 + 1, none⟩ = some (.slice Ar p.rs.length cr) ∧ W.cell? ⟨bb, off + i * 4 + 2, none⟩ = some (.int .i64 p.many) ∧ W.cell? ⟨bb, off + i * 4 + 3, none⟩ = some (.int .i64 p.n) ∧ W.cell? ⟨w.heap.size, 0, none⟩ = some (.int .i64 l) ∧ W.cell? ⟨w.heap.size, 1, none⟩ = some (.int .i64 a) ∧ W.cell? ⟨w.heap.size, 2, none⟩ = some (.int .i64 d)) := hide fun W hW => by
            have hsh := HV.out.2.2.1.below hW HV.out.2.2.1.lt
            exact ⟨((hal W hW).cell (p := ⟨bb, off + i * 4, none⟩) hbb).trans q0, ((hal W hW).cell (p := ⟨bb, off + i * 4 + 1, none⟩) hbb).trans q1', ((hal W hW).cell (p := ⟨bb, off + i * 4 + 2, none⟩) hbb).trans hpc.c2, ((hal W hW).cell (p := ⟨bb, off + i * 4 + 3, none⟩) hbb).trans hpc.c3, hsh.cell 0, hsh.cell 1, hsh.cell 2⟩
          have HPR : Hid (∀ W, Below w0.heap.size w0 W → BytesAt W w.heap.size (.slice Ab p.b.length cb) p.b ∧ RunsM W w.heap.size (.slice Ar p.rs.length cr) p.rs) := hide fun W hW => ⟨q0b.alike (hal W hW), q1r.alike (hal W hW)⟩
          have HPK := hide (And.intro hpc.k2 (And.intro hpc.k3 (And.intro q0n hlg)))
          have hlt0 : bb < w0.heap.size := by have := HV.out.2.2.2.1; omega
          have hlts : w.heap.size < w0.heap.size := by have := HV.out.2.2.2.1; omega
          have p3 : (p.b.length : Int) ≤ 4000 := by omega
          clear hpc hcs hA hp hlg q0 q0b q1' q1r hal q0n
          obtain ⟨k0, k1, k2, k3, s0, s1, s2⟩ := HP.out wr HX.out.two.mine.bel
          have hltb : bb < wr.heap.size := World.block_lt_of_cell? wr _ k0
          have hlts' : w.heap.size < wr.heap.size := World.block_lt_of_cell? wr _ s0
          go_wp2_with fail
          refine (lentBytes_any p.b (by omega) Ab p.b.length cb w.heap.size wr (by omega) (HPR.out wr HX.out.two.mine.bel).1 (fun h => by have h1 := (HPR.out wr HX.out.two.mine.bel).1; have h2 := HPK.out.2.2.1 h; obtain ⟨_, _, e, e2, _⟩ := h1; injection e with _ _ e; omega)).mono ?_
          rintro e wa ⟨gi, rfl, hgi, hbk, hba⟩
          have hta := HX.out.two.grow (Nat.le_refl _) hba
          have HA : Hid (Two w0.heap.size w0 wa Fd' Fr' g r D D ∧ Blk wa gi 5 (bv (p.b ++ marks)).toArray ∧ ¬ Fd' gi ∧ ¬ Fr' gi) := hide ⟨hta, hbk, fun h => by have := HX.out.two.mine.dev.lt gi h; omega, fun h => by have := HX.out.two.ref.lt gi h; omega⟩
          have HD := hide (And.intro HX.out.de HX.out.pend)
          have HGI := hide (show w0.heap.size ≤ gi by have := HX.out.two.mine.bel.size; omega)
          clear hta hbk hba hgi k0 k1 k2 k3 s0 s1 s2 hltb hlts'
          obtain ⟨k0, k1, k2, k3, s0, s1, s2⟩ := HP.out wa HA.out.1.mine.bel
          have hltb : bb < wa.heap.size := World.block_lt_of_cell? wa _ k0
          have hlts' : w.heap.size < wa.heap.size := World.block_lt_of_cell? wa _ s0
          dsimp only
          go_upto_if 106 with fail
          go_cut [106] from 89 to 250 (fun _ wx => ∃ (FA FB : Nat → Prop) (DA : Dv), Two w0.heap.size w0 wx FA FB g r DA DA ∧ Blk wx gi 5 (bv (p.b ++ marks)).toArray ∧ ¬ FA gi ∧ ¬ FB gi ∧ DA.de ≤ 100 * (i : Int) ∧ DA.pend.length ≤ 100 * i)
          case first =>
            by_cases hN : 0 < p.n
            · go_wp2_with fail
              refine (fuseDev_any p.n HPK.out.2.1.2 wa HA.out.1.mine.dev).mono ?_
              rintro e wf ⟨rfl, hL⟩
              obtain ⟨FA, hTA, hqA⟩ := HA.out.1.dev2 (Nat.le_refl _) hL
              have hgA := hqA gi HA.out.2.1.lt HA.out.2.2.1
              have HF := hide (And.intro hTA (And.intro (show Blk wf gi 5 (bv (p.b ++ marks)).toArray from hgA.1.trans HA.out.2.1) (And.intro hgA.2 HA.out.2.2.2)))
              clear hL hTA hqA hgA
              clear k0 k1 k2 k3 s0 s1 s2 hltb hlts'
              obtain ⟨k0, k1, k2, k3, s0, s1, s2⟩ := HP.out wf HF.out.1.mine.bel
              have hltb : bb < wf.heap.size := World.block_lt_of_cell? wf _ k0
              have hlts' : w.heap.size < wf.heap.size := World.block_lt_of_cell? wf _ s0
              dsimp only
              go_wp2_with fail
              refine (rfuse_any p.n HPK.out.2.1.2 wf HF.out.1.ref).mono ?_
              rintro e wg ⟨rfl, hL⟩
              obtain ⟨FG, hTG, hqG⟩ := HF.out.1.doc2 (Nat.le_refl _) hL
              have hgG := hqG gi HF.out.2.1.lt HF.out.2.2.2
              obtain ⟨DA, hDA⟩ : ∃ DA, DA = (D.fuse p.n).2 := ⟨_, rfl⟩
              have hfm := fuse_more D p.n
              rw [← hDA] at hTG hfm
              have HG := hide (And.intro hTG (And.intro (show Blk wg gi 5 (bv (p.b ++ marks)).toArray from hgG.1.trans HF.out.2.1) (And.intro HF.out.2.2.1 hgG.2)))
              have HDA := hide (show DA.de ≤ 100 * (i : Int) ∧ DA.pend.length ≤ 100 * i by rw [hfm.1, hfm.2]; exact HD.out)
              clear hL hTG hqG hgG hDA hfm
              dsimp only
              go_wp2_with fail
              go_meet
              exact ⟨FA, FG, DA, HG.out.1, HG.out.2.1, HG.out.2.2.1, HG.out.2.2.2, HDA.out.1, HDA.out.2⟩
            · go_wp2_with fail
              go_meet
              exact ⟨_, _, D, HA.out.1, HA.out.2.1, HA.out.2.2.1, HA.out.2.2.2, HD.out.1, HD.out.2⟩
          case rest =>
            obtain ⟨F2, FG, DA, h1, h2, h3, h4, h5, h6⟩ := hcut
            have HG := hide (And.intro h1 (And.intro h2 (And.intro h3 h4)))
            have HDA := hide (And.intro h5 h6)
            clear h1 h2 h3 h4 h5 h6 HA HD
            clear k0 k1 k2 k3 s0 s1 s2 hltb hlts'
            obtain ⟨k0, k1, k2, k3, s0, s1, s2⟩ := HP.out wc HG.out.1.mine.bel
            have hltb : bb < wc.heap.size := World.block_lt_of_cell? wc _ k0
            have hlts' : w.heap.size < wc.heap.size := World.block_lt_of_cell? wc _ s0
            go_wp2_with fail
            go_region_held3 (fun w' => w'.cell? ⟨bb, off + i * 4, none⟩ = some (.slice Ab p.b.length cb) ∧ w'.cell? ⟨bb, off + i * 4 + 1, none⟩ = some (.slice Ar p.rs.length cr) ∧ w'.cell? ⟨w.heap.size, 0, none⟩ = some (.int .i64 l) ∧ w'.cell? ⟨w.heap.size, 1, none⟩ = some (.int .i64 a) ∧ w'.cell? ⟨w.heap.size, 2, none⟩ = some (.int .i64 d))
              (first | go_keep | exact hkeep | exact hkeep2)
              (first
                | (go_at_call 42; refine (wcall1 HG.out.1 (Nat.le_refl _) l a d HV.out.2.2.2.2 p.b (by omega) Ar cr p.rs (by have := HPK.out.2.2.2; omega) (by have := HDA.out.1; omega) (by have := HDA.out.2; omega) HG.out.2.1 HG.out.2.2.1 (HPR.out wc HG.out.1.mine.bel).2 (by omega) _).mono ?_; rintro e w2 ⟨rfl, F2, hT2, hq2⟩; have hkeep := keep5 (HP.out w2 hT2.mine.bel); have hg2 := hq2 gi HG.out.2.1.lt HG.out.2.2.1; have H2 := hide (And.intro hT2 (And.intro (show Blk w2 gi 5 (bv (p.b ++ marks)).toArray from hg2.1.trans HG.out.2.1) (And.intro hg2.2 HG.out.2.2.2))); clear hT2 hq2 hg2)
                | (go_at_call 46; refine (wcall2 H2.out.1 (Nat.le_refl _) l a d HV.out.2.2.2.2 p.b (by omega) Ab cb Ar cr p.rs (by have := HPK.out.2.2.2; omega) (by have := HDA.out.1; omega) (by have := HDA.out.2; omega) (HPR.out w2 H2.out.1.mine.bel).1 HPK.out.2.2.1 (HPR.out w2 H2.out.1.mine.bel).2 (by omega)).mono ?_; rintro e w3 ⟨rfl, F3, hT3, hq3⟩; have hkeep2 := keep5 (HP.out w3 hT3.mine.bel); have hg3 := hq3 gi H2.out.2.1.lt H2.out.2.2.2; have H3 := hide (And.intro hT3 (And.intro (show Blk w3 gi 5 (bv (p.b ++ marks)).toArray from hg3.1.trans H2.out.2.1) (And.intro H2.out.2.2.1 hg3.2))); clear hT3 hq3 hg3)
                | (go_at_call 47; refine (keptBytes_any p.b (by omega) Ab p.b.length cb gi w.heap.size _ (HPR.out w3 H3.out.1.mine.bel).1 H3.out.2.1).mono ?_; rintro e w4 ⟨rfl, k4, rfl⟩))
            have hT4 := H3.out.1.grow (Nat.le_refl _) (below_drewN (Below.refl _ w3) k4)
            have hB4 : Blk (w3.drewN k4) gi 5 (bv (p.b ++ marks)).toArray := H3.out.2.1
            have H4 := hide (And.intro hT4 (And.intro (lent_own hB4 (by omega)) H3.out.2.2))
            clear hT4 hB4 hkeep hkeep2
            clear k0 k1 k2 k3 s0 s1 s2 hltb hlts'
            go_wp2_with fail
            refine (overBytes_any 0 p.b.length (by omega) _ _ (w3.drewN k4) H4.out.2.1).mono ?_
            rintro e w5 ⟨rfl, ht5⟩
            have hT5 := H4.out.1.turn (Nat.le_refl _) H4.out.2.2.1 H4.out.2.2.2 HGI.out (ht5.mono fun k _ h => by injection h with h; exact h.symm)
            obtain ⟨DB, hDB⟩ : ∃ DB, DB = (DA.put l a d p.b p.rs).2 := ⟨_, rfl⟩
            rw [← hDB] at hT5
            have hpm := put_more DA l a d HV.out.2.2.2.2 p.b p.rs
            rw [← hDB] at hpm
            have H5 := hide (And.intro hT5 (And.intro (show DB.de ≤ 100 * ((i : Int) + 1) by have := HDA.out.1; omega) (show DB.pend.length ≤ 100 * (i + 1) by have := HDA.out.2; omega)))
            clear ht5 hT5 hDB hpm
            obtain ⟨k0, k1, k2, k3, s0, s1, s2⟩ := HP.out w5 H5.out.1.mine.bel
            have hltb : bb < w5.heap.size := World.block_lt_of_cell? w5 _ k0
            have hlts' : w.heap.size < w5.heap.size := World.block_lt_of_cell? w5 _ s0
            dsimp only
            go_upto_if 161 with fail
            go_cut [15, 16, 17, 18] from 89 to 250 (fun _ _ _ _ wx => ∃ (FA FB : Nat → Prop), Two w0.heap.size w0 wx FA FB g r DB DB)
            case first =>
              by_cases hM : -1 ≤ p.many
              · go_wp2_with fail
                go_region_held3 (fun w' => w'.cell? ⟨bb, off + i * 4 + 1, none⟩ = some (.slice Ar p.rs.length cr) ∧ w'.cell? ⟨bb, off + i * 4 + 2, none⟩ = some (.int .i64 p.many) ∧ w'.cell? ⟨w.heap.size, 0, none⟩ = some (.int .i64 l) ∧ w'.cell? ⟨w.heap.size, 1, none⟩ = some (.int .i64 a) ∧ w'.cell? ⟨w.heap.size, 2, none⟩ = some (.int .i64 d))
                  (first | go_keep | exact hkeep | exact hkeep2)
                  (first | (go_at_call 43; refine (rcall1 H5.out.1 (Nat.le_refl _) l a d p.many HV.out.2.2.2.2 HPK.out.1 Ar cr p.rs (by have := HPK.out.2.2.2; omega) (by have := H5.out.2.2; omega) (HPR.out w5 H5.out.1.mine.bel).2 (by omega) _).mono ?_; rintro e w6 ⟨o1, rfl, ho, hT, hb⟩; have hkeep := keepR (HP.out w6 hT.mine.bel); have Hw6 := hide (And.intro hT (And.intro ho hb)); clear ho hT hb))
                clear k0 k1 k2 k3 s0 s1 s2 hltb hlts' hkeep
                obtain ⟨k0, k1, k2, k3, s0, s1, s2⟩ := HP.out w6 Hw6.out.1.mine.bel
                have hltb : bb < w6.heap.size := World.block_lt_of_cell? w6 _ k0
                have hlts' : w.heap.size < w6.heap.size := World.block_lt_of_cell? w6 _ s0
                go_wp2_with fail
                go_region_held3 (fun w' => w'.cell? ⟨bb, off + i * 4 + 1, none⟩ = some (.slice Ar p.rs.length cr) ∧ w'.cell? ⟨bb, off + i * 4 + 2, none⟩ = some (.int .i64 p.many) ∧ w'.cell? ⟨w.heap.size, 0, none⟩ = some (.int .i64 l) ∧ w'.cell? ⟨w.heap.size, 1, none⟩ = some (.int .i64 a) ∧ w'.cell? ⟨w.heap.size, 2, none⟩ = some (.int .i64 d))
                  (first | go_keep | exact hkeep | exact hkeep2)
                  (first | (go_at_call 49; refine (rcall2 Hw6.out.1 (Nat.le_refl _) l a d p.many HV.out.2.2.2.2 HPK.out.1 Ar cr p.rs (by have := HPK.out.2.2.2; omega) (by have := H5.out.2.2; omega) (HPR.out w6 Hw6.out.1.mine.bel).2 (by omega) _).mono ?_; rintro e w7 ⟨o2, rfl, ho, hT, hb⟩; have hkeep := keepR (HP.out w7 hT.mine.bel); have Hw7 := hide (And.intro hT (And.intro ho hb)); clear ho hT hb))
                clear k0 k1 k2 k3 s0 s1 s2 hltb hlts' hkeep
                have hgl := get_len DB l a d p.many HV.out.2.2.2.2 p.rs
                have ho7 := owned_keepN Hw6.out.2.1 (w' := w7) fun k _ hl => Hw7.out.2.2.block k hl
                have H7 := hide (And.intro Hw7.out.1 (And.intro ho7 (And.intro (bytesAt_owned ho7) (bytesAt_owned Hw7.out.2.1))))
                have hlow : w0.heap.size ≤ w5.heap.size ∧ (∀ k, F2 k → k < w5.heap.size) ∧ ∀ k, F3 k → k < w5.heap.size := ⟨H5.out.1.mine.bel.size, H5.out.1.mine.dev.lt, H5.out.1.ref.lt⟩
                have HLW := hide hlow
                clear ho7 hlow
                generalize hG : (DB.get l a d p.many p.rs).2 = G at hgl H7
                generalize (DB.get l a d p.many p.rs).1 = GE
                clear hG
                go_wp2_with fail
                refine (sameBytes_any G G (by omega) (by omega) _ _ _ w7 H7.out.2.2.1 H7.out.2.2.2).mono ?_
                rintro e w8 ⟨rfl, k8, rfl⟩
                rw [decide_eq_true rfl]
                have H8 := hide (And.intro (H7.out.1.grow (Nat.le_refl _) (below_drewN (Below.refl _ w7) k8)) (show (w7.drewN k8).ownsRow w5.heap.size 5 1 o1 G.length (bv G) from H7.out.2.1))
                dsimp only
                go_wp2_with fail
                refine (overBytes_any _ G.length (by omega) o1 _ (w7.drewN k8) H8.out.2).mono ?_
                rintro e w9 ⟨rfl, ht9⟩
                have H9 := hide (And.intro (two_over H8.out.1 (Nat.le_refl _) H8.out.2 HLW.out ht9) H5.out.2)
                clear ht9 H8 H7 Hw6 Hw7 H5 hgl HLW
                dsimp only
                go_wp2_with fail
                go_meet
                exact ⟨_, _, H9.out.1⟩
              · go_wp2_with fail
                go_meet
                exact ⟨_, _, H5.out.1⟩
            case rest =>
              obtain ⟨FA5, FB5, hT9⟩ := hcut
              have H9 := hide (And.intro hT9 H5.out.2)
              clear hT9 H5
              clear k0 k1 k2 k3 s0 s1 s2 hltb hlts'
              obtain ⟨k0, k1, k2, k3, s0, s1, s2⟩ := HP.out wc H9.out.1.mine.bel
              have hltb : bb < wc.heap.size := World.block_lt_of_cell? wc _ k0
              have hlts' : w.heap.size < wc.heap.size := World.block_lt_of_cell? wc _ s0
              go_wp2_with fail
              have href := H9.out.1.ref
              obtain ⟨ra, cra, vw, us, hr⟩ := href
              have HR := hide hr
              clear hr
              have hnk := HR.out.ok.n2
              have hn1 := HR.out.ok.n1
              let VK : Value → World → Prop := fun u W' => ∃ k cap, u = .slice (some ⟨k, 0, none⟩) (DB.kept.length * 64) cap ∧ wc.heap.size ≤ k ∧ W'.ownsRow wc.heap.size 5 1 u (DB.kept.length * 64) (bv DB.kept.flatten)
              have hL : ∀ p ∈ ([(206, VK)] : MadeL), MadeOk p.2 := by
                intro p hp
                obtain rfl := List.mem_singleton.1 hp
                refine ⟨?_, ?_⟩
                · rintro u W1 W2 ⟨k, cap, rfl, h1, h2⟩ hx2
                  exact ⟨k, cap, rfl, h1, owned_keepN h2 fun j _ hl => hx2.block j hl⟩
                · rintro u W1 ⟨k, cap, rfl, h1, h2⟩
                  exact ⟨k, rfl, (owned_ltN h2 rfl).2⟩
              refine wp_made 27 [(206, VK)] (by kernel_rfl) (by kernel_rfl) hL (by simp) (by simp) ?_
              simp only [List.take_succ_cons, List.take_zero, List.drop_succ_cons, List.drop_zero]
              refine made_val (.pointer (some ⟨g, 0, none⟩)) (by kernel_rfl) (by kernel_rfl) (by kernel_rfl) (fun _ _ => by kernel_rfl) ?_
              simp only [Act.put, List.setIfInBounds_toArray, List.set_cons_zero, List.set_cons_succ]
              refine made_newcall 206 VK 30 #[.pointer (some ⟨g, 0, none⟩)] hL (by kernel_rfl) (by kernel_rfl) rfl rfl (fun _ => by kernel_rfl) (fun W2 hW => ?hk1) ?_
              case hk1 =>
                refine (keptDev_any W2 (H9.out.1.grow (Nat.le_refl _) hW).mine.dev).mono ?_
                rintro e W3 ⟨v, rfl, ho, hb3⟩
                obtain ⟨k, cap, hv⟩ := owned_placeN ho (by omega)
                have hk := (owned_ltN ho (g := k) (by rw [hv]; rfl)).1
                have hsz : wc.heap.size ≤ W2.heap.size := hW.size
                exact ⟨v, k, rfl, hb3, ⟨k, cap, hv, by omega, owned_baseN ho fun j hj => by have := (owned_ltN ho hj).1; omega⟩, by rw [hv]; rfl, hk⟩
              simp only [Act.put, List.setIfInBounds_toArray, List.set_cons_zero, List.set_cons_succ]
              refine made_val (.pointer (some ⟨r, 0, none⟩)) (by kernel_rfl) (by kernel_rfl) (by kernel_rfl) (fun _ _ => by kernel_rfl) ?_
              simp only [Act.put, List.setIfInBounds_toArray, List.set_cons_zero, List.set_cons_succ]
              refine made_val (.pointer (some ⟨r, 0, none⟩)) (by kernel_rfl) (by kernel_rfl) (by kernel_rfl) (fun _ _ => by kernel_rfl) ?_
              simp only [Act.put, List.setIfInBounds_toArray, List.set_cons_zero, List.set_cons_succ]
              refine made_val (.pointer (some ⟨r, 0, none⟩)) (by kernel_rfl) (by kernel_rfl) (by kernel_rfl) (fun _ _ => by kernel_rfl) ?_
              simp only [Act.put, List.setIfInBounds_toArray, List.set_cons_zero, List.set_cons_succ]
              refine made_val (.slice (some ⟨ra, 0, none⟩) (DB.kept.length * 64) cra) (by kernel_rfl) (by kernel_rfl) (by kernel_rfl) (fun W hW => exec_load_slice (o := ⟨some 210, _, _, _, _, _⟩) 48 5 (.tmp 209) rfl ⟨r, 0, none⟩ rfl _ W Try.underlying48 (((HR.out.blk.below hW HR.out.blk.lt).cell 0).trans (rdv0 ..))) ?_
              simp only [Act.put, List.setIfInBounds_toArray, List.set_cons_zero, List.set_cons_succ]
              refine made_call1 206 VK (.bool true) 31 (fun u => #[u, .slice (some ⟨ra, 0, none⟩) (DB.kept.length * 64) cra]) (by kernel_rfl) rfl (by kernel_rfl) (by kernel_rfl) (fun u W => by kernel_rfl) (fun u W2 hW hu => ?hk2) ?_
              case hk2 =>
                obtain ⟨k, cap, rfl, hk, ho⟩ := hu
                have hfl : DB.kept.flatten.length = DB.kept.length * 64 := flat_len _ HR.out.ok.k64
                have hR2 := HR.out.keep hW.size (fun k hk _ => hW.block k hk)
                have hby4 : BytesAt W2 W2.heap.size (.slice (some ⟨k, 0, none⟩) (DB.kept.length * 64) cap) DB.kept.flatten := by
                  have h := ho
                  rw [← hfl] at h ⊢
                  exact bytesAt_owned h
                have hby5 : BytesAt W2 W2.heap.size (.slice (some ⟨ra, 0, none⟩) (DB.kept.length * 64) cra) DB.kept.flatten := by
                  have h := hR2.all
                  rw [kept_bv] at h
                  have e : DB.kept.length * 64 = DB.kept.flatten.length := hfl.symm
                  rw [e] at h ⊢
                  exact bytesAt_owned h
                refine (sameBytes_any DB.kept.flatten DB.kept.flatten (by omega) (by omega) _ _ _ W2 hby4 hby5).mono ?_
                rintro e w6 ⟨rfl, k6, rfl⟩
                rw [decide_eq_true rfl]
                exact ⟨rfl, below_drewN (Below.refl _ _) _⟩
              simp only [Act.put, List.setIfInBounds_toArray, List.set_cons_zero, List.set_cons_succ]
              refine made_val (.bool false) (by kernel_rfl) (by kernel_rfl) (by kernel_rfl) (fun _ _ => by kernel_rfl) ?_
              simp only [Act.put, List.setIfInBounds_toArray, List.set_cons_zero, List.set_cons_succ]
              refine made_val (.bool false) (by kernel_rfl) (by kernel_rfl) (by kernel_rfl) (fun _ _ => by kernel_rfl) ?_
              simp only [Act.put, List.setIfInBounds_toArray, List.set_cons_zero, List.set_cons_succ]
              refine made_val (.pointer (some ⟨g, 0, none⟩)) (by kernel_rfl) (by kernel_rfl) (by kernel_rfl) (fun _ _ => by kernel_rfl) ?_
              simp only [Act.put, List.setIfInBounds_toArray, List.set_cons_zero, List.set_cons_succ]
              refine made_call (.agg #[.int .i64 (DB.kept.length : Int), .int .i64 (DB.pend.length : Int), .int .i64 DB.de, .bool DB.dn]) 36 #[.pointer (some ⟨g, 0, none⟩)] (by kernel_rfl) (by kernel_rfl) (by kernel_rfl) (fun W => by kernel_rfl) (fun W hW => statDev_any W (H9.out.1.grow (Nat.le_refl _) hW).mine.dev) ?_
              simp only [Act.put, List.setIfInBounds_toArray, List.set_cons_zero, List.set_cons_succ]
              refine made_val (.int .i64 DB.de) (by kernel_rfl) (by kernel_rfl) (by kernel_rfl) (fun _ _ => by kernel_rfl) ?_
              simp only [Act.put, List.setIfInBounds_toArray, List.set_cons_zero, List.set_cons_succ]
              refine made_val (.pointer (some ⟨r, 0, none⟩)) (by kernel_rfl) (by kernel_rfl) (by kernel_rfl) (fun _ _ => by kernel_rfl) ?_
              simp only [Act.put, List.setIfInBounds_toArray, List.set_cons_zero, List.set_cons_succ]
              refine made_val (.pointer (some ⟨r, 0, none⟩)) (by kernel_rfl) (by kernel_rfl) (by kernel_rfl) (fun _ _ => by kernel_rfl) ?_
              simp only [Act.put, List.setIfInBounds_toArray, List.set_cons_zero, List.set_cons_succ]
              refine made_val (.pointer (some ⟨r, 2, none⟩)) (by kernel_rfl) (by kernel_rfl) (by kernel_rfl) (fun _ _ => by kernel_rfl) ?_
              simp only [Act.put, List.setIfInBounds_toArray, List.set_cons_zero, List.set_cons_succ]
              refine made_val (.int .i64 DB.de) (by kernel_rfl) (by kernel_rfl) (by kernel_rfl) (fun W hW => exec_load_cell (o := ⟨some 220, _, _, _, _, _⟩) 3 (.tmp 219) rfl ⟨r, 2, none⟩ rfl _ _ W Try.underlying3 rfl (((HR.out.blk.below hW HR.out.blk.lt).cell 2).trans (rdv2 ..))) ?_
              simp only [Act.put, List.setIfInBounds_toArray, List.set_cons_zero, List.set_cons_succ]
              refine made_val (.bool false) (by kernel_rfl) (by kernel_rfl) (by kernel_rfl) (fun W hW => ?hs3) ?_
              case hs3 => go_simp
              simp only [Act.put, List.setIfInBounds_toArray, List.set_cons_zero, List.set_cons_succ]
              refine made_val (.bool false) (by kernel_rfl) (by kernel_rfl) (by kernel_rfl) (fun _ _ => by kernel_rfl) ?_
              simp only [Act.put, List.setIfInBounds_toArray, List.set_cons_zero, List.set_cons_succ]
              refine made_val (.bool false) (by kernel_rfl) (by kernel_rfl) (by kernel_rfl) (fun _ _ => by kernel_rfl) ?_
              simp only [Act.put, List.setIfInBounds_toArray, List.set_cons_zero, List.set_cons_succ]
              refine made_val (.pointer (some ⟨g, 0, none⟩)) (by kernel_rfl) (by kernel_rfl) (by kernel_rfl) (fun _ _ => by kernel_rfl) ?_
              simp only [Act.put, List.setIfInBounds_toArray, List.set_cons_zero, List.set_cons_succ]
              refine made_call (.agg #[.int .i64 (DB.kept.length : Int), .int .i64 (DB.pend.length : Int), .int .i64 DB.de, .bool DB.dn]) 36 #[.pointer (some ⟨g, 0, none⟩)] (by kernel_rfl) (by kernel_rfl) (by kernel_rfl) (fun W => by kernel_rfl) (fun W hW => statDev_any W (H9.out.1.grow (Nat.le_refl _) hW).mine.dev) ?_
              simp only [Act.put, List.setIfInBounds_toArray, List.set_cons_zero, List.set_cons_succ]
              refine made_val (.bool DB.dn) (by kernel_rfl) (by kernel_rfl) (by kernel_rfl) (fun _ _ => by kernel_rfl) ?_
              simp only [Act.put, List.setIfInBounds_toArray, List.set_cons_zero, List.set_cons_succ]
              refine made_val (.pointer (some ⟨r, 0, none⟩)) (by kernel_rfl) (by kernel_rfl) (by kernel_rfl) (fun _ _ => by kernel_rfl) ?_
              simp only [Act.put, List.setIfInBounds_toArray, List.set_cons_zero, List.set_cons_succ]
              refine made_val (.pointer (some ⟨r, 0, none⟩)) (by kernel_rfl) (by kernel_rfl) (by kernel_rfl) (fun _ _ => by kernel_rfl) ?_
              simp only [Act.put, List.setIfInBounds_toArray, List.set_cons_zero, List.set_cons_succ]
              refine made_val (.pointer (some ⟨r, 4, none⟩)) (by kernel_rfl) (by kernel_rfl) (by kernel_rfl) (fun _ _ => by kernel_rfl) ?_
              simp only [Act.put, List.setIfInBounds_toArray, List.set_cons_zero, List.set_cons_succ]
              refine made_val (.bool DB.dn) (by kernel_rfl) (by kernel_rfl) (by kernel_rfl) (fun W hW => exec_load_cell (o := ⟨some 230, _, _, _, _, _⟩) 4 (.tmp 229) rfl ⟨r, 4, none⟩ rfl _ _ W Try.underlying4 rfl (((HR.out.blk.below hW HR.out.blk.lt).cell 4).trans (rdv4 ..))) ?_
              simp only [Act.put, List.setIfInBounds_toArray, List.set_cons_zero, List.set_cons_succ]
              refine made_val (.bool false) (by kernel_rfl) (by kernel_rfl) (by kernel_rfl) (fun W hW => ?hs4) ?_
              case hs4 => go_simp
              simp only [Act.put, List.setIfInBounds_toArray, List.set_cons_zero, List.set_cons_succ]
              show ∀ w', _ → _
              intro wz hbz
              simp only [ended]
              rintro u _ _
              simp only [Act.put, List.setIfInBounds_toArray, List.set_cons_zero, List.set_cons_succ]
              have HZ := hide (And.intro (H9.out.1.grow (Nat.le_refl _) hbz) H9.out.2)
              clear hbz
              clear hL HR H9 hnk hn1
              clear k0 k1 k2 k3 s0 s1 s2 hltb hlts'
              obtain ⟨k0, k1, k2, k3, s0, s1, s2⟩ := HP.out wz HZ.out.1.mine.bel
              have hltb : bb < wz.heap.size := World.block_lt_of_cell? wz _ k0
              have hlts' : w.heap.size < wz.heap.size := World.block_lt_of_cell? wz _ s0
              obtain ⟨ra2, cra2, vw2, us2, hr2⟩ := HZ.out.1.ref
              have d4 := (hr2.blk.cell 4).trans (rdv4 ..)
              have hltr := hr2.blk.lt
              clear hr2
              have hcase : Hid (DB.dn = true) ∨ Hid (DB.dn = false) := by
                cases DB.dn
                · exact .inr rfl
                · exact .inl rfl
              rcases hcase with HDN | HDN
              · rw [HDN.out] at d4
                go_wp2_with fail
                refine (wake_any p.n wz HZ.out.1.mine.dev (by have := HZ.out.2.2; omega)).mono ?_
                rintro e wf ⟨rfl, hLf⟩
                obtain ⟨FW, hTW, _⟩ := HZ.out.1.dev2 (Nat.le_refl _) hLf
                have HF := hide (And.intro hTW trivial)
                clear hLf hTW d4 hltr
                clear k0 k1 k2 k3 s0 s1 s2 hltb hlts'
                obtain ⟨k0, k1, k2, k3, s0, s1, s2⟩ := HP.out wf HF.out.1.mine.bel
                have hltb : bb < wf.heap.size := World.block_lt_of_cell? wf _ k0
                have hlts' : w.heap.size < wf.heap.size := World.block_lt_of_cell? wf _ s0
                dsimp only
                go_wp2_with fail
                refine (rwake_any p.n HPK.out.2.1 wf HF.out.1.ref (by have := HZ.out.2.2; omega)).mono ?_
                rintro e wg ⟨rfl, hLg⟩
                obtain ⟨FV, hTV, _⟩ := HF.out.1.doc2 (Nat.le_refl _) hLg
                have hwm := wake_more DB p.n
                have HE := hide (show WrAt w0 wg FW FV g r (DB.wake p.n).2 (i + 1) from ⟨hTV, by rw [hwm.1]; have := HZ.out.2.1; omega, by have := HZ.out.2.2; omega⟩)
                clear hLg hTV hwm
                dsimp only
                go_wp2_with fail
                go_roundw
                case rel => exact ⟨i + 1, FW, FV, (DB.wake p.n).2, by omega, by go_num, HE.out⟩
                case measure => simp [intOf]; omega
              · rw [HDN.out] at d4
                go_wp2_with fail
                go_roundw
                case rel => exact ⟨i + 1, _, _, DB, by omega, by go_num, ⟨HZ.out.1, by have := HZ.out.2.1; omega, HZ.out.2.2⟩⟩
                case measure => simp [intOf]; omega
        · obtain rfl : i = ls.length := by omega
          have m3 : ¬ ((ls.length : Nat) : Int) < (ls.length : Int) := by omega
          go_wp2_with fail
          refine (awake7_any _).mono ?_
          rintro e w6 ⟨rfl, hb6⟩
          have H6 := hide hb6
          clear hb6
          dsimp only
          go_wp2_with fail
          go_ret
          have hbl := HX.out.two.mine.bel
          have hs0 := HV.out.2.2.2.1
          have hs6 := H6.out.size
          have hsw := hbl.size
          refine ⟨rfl, HV.out.2.1.trans ⟨H6.out.os.trans hbl.os, H6.out.tape.trans hbl.tape, H6.out.output.trans hbl.output, by omega, fun k hk => ?_⟩⟩
          exact (H6.out.block k (by omega)).trans (hbl.block k (by omega))
end Go.Proofs.Ytajeohmmobgcjaa
