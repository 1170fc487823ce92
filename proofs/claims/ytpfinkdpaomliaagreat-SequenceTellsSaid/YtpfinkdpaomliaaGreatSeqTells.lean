/-
  'SequenceTells': it says yes, whatever it is handed.
-/
import Derived.Test.YtpfinkdpaomliaaGreatAwake
import Derived.Test.YtpfinkdpaomliaaGreatSame
import Derived.Test.YtpfinkdpaomliaaGreatRefMake
import Derived.Test.YtpfinkdpaomliaaGreatConv
namespace Go.Proofs.YtpfinkdpaomliaaGreat
open Go.RowKit

theorem few_any (w : World) (ao bo : Option Addr) (m c n c1 : Nat) (hm : m ≤ maxLen) (hn : n ≤ maxLen) :
    Calls Tryz.prog 8 #[.slice ao m c, .slice bo n c1] w fun e w' => e = .returned (.bool (decide (m ≤ 1010 ∧ n ≤ 100))) ∧ w' = w := by
  unfold maxLen at hm hn
  have hcase : (m ≤ 1010 ∧ n ≤ 100) ∨ (m ≤ 1010 ∧ ¬ n ≤ 100) ∨ ¬ m ≤ 1010 := by omega
  go_enter Tryz.func8, Tryz.ntmps8
  rcases hcase with ⟨h1, h2⟩ | ⟨h1, h2⟩ | h1
  · have r1 : decide ((m : Int) ≤ 1010) = true := by simp; omega
    have r2 : decide ((n : Int) ≤ 100) = true := by simp; omega
    go_wp2_with fail
    go_ret
    exact ⟨by simp [h1, h2], rfl⟩
  · have r1 : decide ((m : Int) ≤ 1010) = true := by simp; omega
    have r2 : decide ((n : Int) ≤ 100) = false := by simp; omega
    go_wp2_with fail
    go_ret
    exact ⟨by simp [h1, h2], rfl⟩
  · have r1 : decide ((m : Int) ≤ 1010) = false := by simp; omega
    go_wp2_with fail
    go_ret
    exact ⟨by simp [h1], rfl⟩

theorem best_len {l : List Stop} {caps : List Int} (hv : goodVols l) : ∀ k s, bestP l caps k = some s → s.length ≤ l.length
  | 0, s, h => by cases h
  | k + 1, s, h => by
    cases hg : goodB l caps (k + 1) with
    | true =>
      rw [best_yes hg] at h
      cases h
      have := final_len (caps := caps) (most := k + 1) hv
      omega
    | false =>
      rw [best_no hg] at h
      exact best_len hv k s h
theorem make_lens (l : List Stop) (caps : List Int) : (makeP l caps).2.caps.length ≤ caps.length ∧ (makeP l caps).2.seats.length ≤ l.length ∧ (makeP l caps).2.first.length ≤ caps.length ∧ (makeP l caps).2.second.length ≤ caps.length := by
  have hno : (noPlan.caps.length ≤ caps.length ∧ noPlan.seats.length ≤ l.length ∧ noPlan.first.length ≤ caps.length ∧ noPlan.second.length ≤ caps.length) := ⟨Nat.zero_le _, Nat.zero_le _, Nat.zero_le _, Nat.zero_le _⟩
  unfold makeP
  split
  · exact hno
  · split
    · exact hno
    · split
      · exact hno
      · rename_i hw
        have hv : goodVols l := wrong_vols (by simpa using hw)
        cases hb : bestP l caps (startM l caps) with
        | none => exact hno
        | some s =>
          have := best_len hv _ _ hb
          refine ⟨Nat.le_refl _, this, ?_, ?_⟩
          · show (loadsP _ _).length ≤ _
            rw [loadsP_len]; exact Nat.le_refl _
          · show (loadsP _ _).length ≤ _
            rw [loadsP_len]; exact Nat.le_refl _
theorem ints_front {w : World} {ao : Option Addr} {n k : Nat} {xs ys : List Int} (h : Ints w ao (n + k) (xs ++ ys)) (hl : xs.length = n) : Ints w ao n xs := by
  refine ⟨?_, hl⟩
  rcases h.rd with h0 | ⟨g, off, e, hg, hc⟩
  · exact .inl (by omega)
  · refine .inr ⟨g, off, e, hg, fun i hi => ?_⟩
    rw [hc i (by omega)]
    unfold intF
    rw [List.getD_eq_getElem?_getD, List.getD_eq_getElem?_getD, List.getElem?_append_left (by omega)]

def R3t (m B : Nat) (w0 : World) (u52 : Value) (wr : World) : Prop := ∃ i : Nat, i ≤ m ∧ u52 = .int .i64 i ∧ Below B w0 wr

set_option maxRecDepth 1000000 in
set_option maxHeartbeats 2000000 in
theorem seqTells_any (w : World) (ao bo : Option Addr) (m c n c1 : Nat) (l : List Stop) (caps : List Int) (h : Stops w ao m l) (hc : Ints w bo n caps) (hm : m ≤ maxLen) (hn : n ≤ maxLen) :
    Calls Tryz.prog 3 #[.slice ao m c, .slice bo n c1] w fun e w' => e = .returned (.bool true) ∧ Below w.heap.size w w' := by
  have Hf := Lib.hid (few_any w ao bo m c n c1 hm hn)
  by_cases hfew : m ≤ 1010 ∧ n ≤ 100
  · rw [decide_eq_true hfew] at Hf
    obtain ⟨hm2, hn2⟩ := hfew
    clear hm hn
    obtain ⟨i0, hi0, hz0, hz1, hz2⟩ := info_parts (show (Tryz.prog.info? 43).map (fun i => (i.zero, i.size, i.bytes)) = some (some (.agg #[.int .i64 0, .int .i64 0]), 2, 16) by kernel_rfl)
    have hs0 : Sl (w.alloc (.cells #[] 43)) 43 2 (some ⟨w.heap.size, 0, none⟩) 0 0 (cellsF 2 stopC stopD []) := Sl.nil _ _ _ _ _
    have h1 := h.below ((Below.refl w.heap.size w).alloc (Nat.le_refl _) (.cells #[] 43))
    go_enter Tryz.func3, Tryz.ntmps3
    go_wp2_with (first
      | (go_at_call 8; refine Hf.out.mono ?_; rintro e w' ⟨rfl, he⟩; rw [he])
      | (at_builtin; refine wpList_append_of _ rfl (.tmp 17) (.tmp 18) 22 22 rfl 43 i0 _ 2 16 Tryz.underlying22 hi0 hz0 hz1 hz2 rfl rfl hs0 (.slice ao m c) rfl m (l.flatMap stopC) (rdL_src stopE Tryz.underlying22 h1 c) (by unfold maxLen; omega) (by omega) ?_))
    intro ao1 cap1 w1 ha1
    have own1 : OwnL 2 stopC stopD 43 w.heap.size w1 ao1 m cap1 l := by
      have := ownL_all (d := stopD) stopE hs0 (fun g hg => by simp [rowOf] at hg) (B := w.heap.size) (by simp) l (h1.len.symm) rfl (by simpa using ha1)
      simpa using this
    have hb1 : Below w.heap.size w w1 := ((Below.refl _ _).alloc (Nat.le_refl _) _).grown ha1.grown (by simp) fun g hg => by simp [rowOf] at hg
    clear ha1 hs0 h1
    have hLent := LentInts_any w1 bo n c1 caps (hc.below hb1) (by omega)
    have HLent := Lib.hid hLent
    clear hLent
    go_upto_region 4 with (go_at_call 10; refine HLent.out.mono ?_; rintro e w2 ⟨g, cap, rfl, own2, hb2⟩)
    have hB2 := hb1.trans (hb2.mono (B' := w.heap.size) hb1.size)
    have own1 := own1.below hb2
    have hcv := Lib.hid (convStops_any w2 ao m c l (h.below hB2) (by omega))
    go_upto_region 5 with (first
      | (go_at_call 12; refine hcv.out.mono ?_; rintro e w3 ⟨ao3, cap3, rfl, own3, hb3⟩
         have hB3 := hB2.trans (hb3.mono (B' := w.heap.size) hB2.size))
      | (go_at_call 11; refine (refMake_any w3 ao3 bo m cap3 n c1 l caps own3.rd (hc.below hB3) (by omega) (by omega)).mono ?_; rintro e w4 ⟨⟨v, rfl, b0, n0, d0, b1, n1, d1, b2, n2, d2, b3, n3, d3, rfl, r0, r1, r2, r3⟩, hb4⟩))
    have hB4 := hB3.trans (hb4.mono (B' := w.heap.size) hB3.size)
    have hbx := heap_alloc_new w4 (.cells #[.slice b0 n0 d0, .slice b1 n1 d1, .slice b2 n2 d2, .slice b3 n3 d3] 29)
    have hb45 := (Below.refl w4.heap.size w4).alloc (Nat.le_refl _) (.cells #[.slice b0 n0 d0, .slice b1 n1 d1, .slice b2 n2 d2, .slice b3 n3 d3] 29)
    have hb25 : Below w2.heap.size w2 (w4.alloc (.cells #[.slice b0 n0 d0, .slice b1 n1 d1, .slice b2 n2 d2, .slice b3 n3 d3] 29)) := (hb3.trans (hb4.mono (B' := w2.heap.size) hb3.size)).trans (hb45.mono (Nat.le_trans hb3.size hb4.size))
    have hB5 := hB4.trans (hb45.mono (B' := w.heap.size) hB4.size)
    have hsz5 : (w4.alloc (.cells #[.slice b0 n0 d0, .slice b1 n1 d1, .slice b2 n2 d2, .slice b3 n3 d3] 29)).heap.size = w4.heap.size + 1 := by simp
    have own2b := own2.below hb25
    have own1b := own1.below hb25
    have s0 := r0.below hb45
    have s1 := r1.below hb45
    have s2 := r2.below hb45
    have s3 := r3.below hb45
    have hgl : g < w2.heap.size := own2.sl.row_lt g (rowOf_at _ _ (by have := own2.sl.1; omega))
    have hgB : w1.heap.size ≤ g := own2.row g (rowOf_at _ _ (by have := own2.sl.1; omega))
    have hs12 := hb1.size
    have hs23 := hb3.size
    have hs34 := hb4.size
    clear r0 r1 r2 r3 hb45 own3 own1 own2 hcv HLent Hf
    generalize w4.alloc (.cells #[.slice b0 n0 d0, .slice b1 n1 d1, .slice b2 n2 d2, .slice b3 n3 d3] 29) = W5 at *
    generalize w4.heap.size = bx at *
    have hmk := make_any W5 ao (some ⟨g, 0, none⟩) m c n cap l caps (h.below hB5) (ints_front own2b.ints hc.len) (by omega) (by omega)
    obtain ⟨L0, L1, L2, L3⟩ := make_lens l caps
    have hlm : l.length = m := h.len
    have hcn : caps.length = n := hc.len
    generalize makeP l caps = r at *
    obtain ⟨er, p⟩ := r
    simp only at L0 L1 L2 L3
    have Hmk := Lib.hid hmk
    clear hmk
    go_upto_region 6 with (go_at_call 13; refine Hmk.out.mono ?_; rintro e w6 ⟨⟨v, rfl, hop⟩, hb6⟩; obtain ⟨a0, m0, c0, a1, m1, c1', a2, m2, c2, a3, m3, c3, rfl, o0, o1, o2, o3, od⟩ := id hop)
    obtain rfl : m0 = n0 := o0.len.symm.trans s0.len
    obtain rfl : m1 = n1 := o1.len.symm.trans s1.len
    obtain rfl : m2 = n2 := o2.len.symm.trans s2.len
    obtain rfl : m3 = n3 := o3.len.symm.trans s3.len
    have hl0 := o0.len
    have hl1 := o1.len
    have hl2 := o2.len
    have hl3 := o3.len
    have hb67 := (Below.refl w6.heap.size w6).alloc (Nat.le_refl _) (.cells #[.slice a0 m0 c0, .slice a1 m1 c1', .slice a2 m2 c2, .slice a3 m3 c3] 36)
    have hbp := heap_alloc_new w6 (.cells #[.slice a0 m0 c0, .slice a1 m1 c1', .slice a2 m2 c2, .slice a3 m3 c3] 36)
    have hb57 := hb6.trans (hb67.mono (B' := W5.heap.size) hb6.size)
    have hB7 := hB5.trans (hb57.mono (B' := w.heap.size) hB5.size)
    have hsz7 : (w6.alloc (.cells #[.slice a0 m0 c0, .slice a1 m1 c1', .slice a2 m2 c2, .slice a3 m3 c3] 36)).heap.size = w6.heap.size + 1 := by simp
    have hbx7 := (hb57.block bx (by omega)).trans hbx
    have t0 := o0.below hb67
    have t1 := o1.below hb67
    have t2 := o2.below hb67
    have t3 := o3.below hb67
    have u0 := s0.below hb57
    have u1 := s1.below hb57
    have u2 := s2.below hb57
    have u3 := s3.below hb57
    have hop7 := hop.below hb67
    have own2c := own2b.below hb57
    have own1c := own1b.below hb57
    have hs56 := hb6.size
    clear o0 o1 o2 o3 s0 s1 s2 s3 hop own2b own1b hb57 hb67 hb6 hbx Hmk hB5 hb25 hB3 hB4 hB2 hb3 hb4 hb2
    generalize w6.alloc (.cells #[.slice a0 m0 c0, .slice a1 m1 c1', .slice a2 m2 c2, .slice a3 m3 c3] 36) = W7 at *
    generalize w6.heap.size = bp at *
    have hbq : bx < bp := by omega
    have hgq : g < bx := by omega
    have hrow : ∀ q, rowOf a0 c0 = some q → some q ≠ some g := fun q hq e => by cases e; have := t0.row g hq; omega
    obtain ⟨p0, p1, p2, p3, _⟩ := four_at hbp
    obtain ⟨q0, q1, q2, q3, _⟩ := four_at hbx7
    have r1 : (er != er) = false := by simp
    have Hsame := Lib.hid (same_any W7 a0 a1 a2 a3 b0 b1 b2 b3 m0 c0 m1 c1' m2 c2 m3 c3 d0 d1 d2 d3 p t0.ints t1.rd t2.ints t3.ints u0.ints u1.rd u2.ints u3.ints (by omega) (by omega) (by omega) (by omega))
    have hgB2 := hgB
    go_wp2_with (first
      | (go_at_call 14; refine Hsame.out.mono ?_; rintro e w8 ⟨rfl, hb8⟩; have hB8 := hB7.trans (hb8.mono (B' := w.heap.size) hB7.size); have own2d := own2c.below hb8)
      | (go_at_call 15; refine (KeptInts_any w8 g cap bo n c1 caps own2d.sl (hc.below hB8) (by omega)).mono ?_; rintro e w9 ⟨rfl, hb9⟩))
    have hb79 := hb8.trans (hb9.mono (B' := W7.heap.size) hb8.size)
    have hB9 := hB7.trans (hb79.mono (B' := w.heap.size) hB7.size)
    have hz9 := hb79.size
    have Hat : Hid (∀ W, Below w9.heap.size w9 W → W7.heap.size ≤ W.heap.size ∧ Below w.heap.size w W ∧ W.heap[bp]? = some (.cells #[.slice a0 m0 c0, .slice a1 m1 c1', .slice a2 m2 c2, .slice a3 m3 c3] 36 (0, 0)) ∧ W.heap[bx]? = some (.cells #[.slice b0 m0 d0, .slice b1 m1 d1, .slice b2 m2 d2, .slice b3 m3 d3] 29 (0, 0)) ∧
        (OwnI W5.heap.size W a0 m0 c0 p.caps ∧ OwnSeats 64 W5.heap.size W a1 m1 c1' p.seats ∧ OwnI W5.heap.size W a2 m2 c2 p.first ∧ OwnI W5.heap.size W a3 m3 c3 p.second) ∧
        (OwnI w3.heap.size W b0 m0 d0 p.caps ∧ OwnSeats 65 w3.heap.size W b1 m1 d1 p.seats ∧ OwnI w3.heap.size W b2 m2 d2 p.first ∧ OwnI w3.heap.size W b3 m3 d3 p.second) ∧
        OwnI w1.heap.size W (some ⟨g, 0, none⟩) (n + 12) cap (caps ++ marks 1) ∧ OwnL 2 stopC stopD 43 w.heap.size W ao1 m cap1 l) := fun W hW => by
      have hx := hb79.trans (hW.mono (B' := W7.heap.size) hz9)
      exact ⟨Nat.le_trans hz9 hW.size, hB9.trans (hW.mono (B' := w.heap.size) hB9.size), (hx.block _ (by omega)).trans hbp, (hx.block _ (by omega)).trans hbx7, ⟨t0.below hx, t1.below hx, t2.below hx, t3.below hx⟩, ⟨u0.below hx, u1.below hx, u2.below hx, u3.below hx⟩, own2c.below hx, own1c.below hx⟩
    clear t0 t1 t2 t3 u0 u1 u2 u3 own2c own1c own2d hop7 hb8 hb9 hb79 hB7 hB8 hB9 p0 p1 p2 p3 q0 q1 q2 q3 hbp hbx7 Hsame hb1
    go_loopw [52] (R3t m w9.heap.size w9) (fun u52 _ => m - (intOf u52).toNat)
    case atStart => exact ⟨0, Nat.zero_le _, rfl, Below.refl _ _⟩
    case round =>
      obtain ⟨i, hi, rfl, hb⟩ := hrel
      obtain ⟨hz, hB, hp, hq, ⟨t0, t1, t2, t3⟩, ⟨u0, u1, u2, u3⟩, own2, own1⟩ := Hat.out wr hb
      by_cases hlt : i < m
      · obtain ⟨g1, f1, rfl, hg1, x0, x1⟩ := Stops.at (h.below hB) hlt
        obtain ⟨g2, f2, rfl, hg2, y0, y1⟩ := Stops.at own1.rd hlt
        clear t0 t1 t2 t3 u0 u1 u2 u3 own2 own1 hp hq
        generalize (l.getD i stopD).1 = v0 at *
        generalize (l.getD i stopD).2 = v1 at *
        have hi0 : (0 : Int) ≤ (i : Int) := by omega
        have hi1 : (i : Int) < (m : Int) := by omega
        go_wp2_with fail
        go_quiet (fail)
        go_wp2_with fail
        go_roundw
        case rel => exact ⟨i + 1, hlt, by go_num, below_drewN hb _⟩
        case measure => simp [intOf] <;> omega
      · obtain rfl : i = m := by omega
        have hov := Lib.hid (OverInts_any wr g n cap _ own2.sl own2.len (by omega))
        clear own2 own1
        go_upto_region 15 with (go_at_call 16; refine hov.out.mono ?_; rintro e w11 ⟨rfl, _, hgr⟩)
        have hp11 := (hgr.block bp (by omega) (by simp; omega)).trans hp
        have hq11 := (hgr.block bx (by omega) (by simp; omega)).trans hq
        have hs11 := hgr.size
        have T0 : OwnI W5.heap.size w11 a0 m0 c0 p.caps := ⟨t0.sl.grown hgr (fun q hq e => by cases e; have := t0.row _ hq; omega), t0.len, t0.row⟩
        have T1 := t1.grown hgr (fun q hq e => by cases e; have := t1.row _ hq; omega)
        have T2 : OwnI W5.heap.size w11 a2 m2 c2 p.first := ⟨t2.sl.grown hgr (fun q hq e => by cases e; have := t2.row _ hq; omega), t2.len, t2.row⟩
        have T3 : OwnI W5.heap.size w11 a3 m3 c3 p.second := ⟨t3.sl.grown hgr (fun q hq e => by cases e; have := t3.row _ hq; omega), t3.len, t3.row⟩
        have U0 := (⟨u0.sl.grown hgr (fun q hq e => by cases e; have := u0.row _ hq; omega), u0.len, u0.row⟩ : OwnI w3.heap.size w11 b0 m0 d0 p.caps).ints
        have U1 := (u1.grown hgr (fun q hq e => by cases e; have := u1.row _ hq; omega)).rd
        have U2 := (⟨u2.sl.grown hgr (fun q hq e => by cases e; have := u2.row _ hq; omega), u2.len, u2.row⟩ : OwnI w3.heap.size w11 b2 m2 d2 p.first).ints
        have U3 := (⟨u3.sl.grown hgr (fun q hq e => by cases e; have := u3.row _ hq; omega), u3.len, u3.row⟩ : OwnI w3.heap.size w11 b3 m3 d3 p.second).ints
        have hB11 : Below w.heap.size w w11 := hB.grown hgr hB.size (fun q e => by cases e; omega)
        clear t0 t1 t2 t3 u0 u1 u2 u3 hov hp hq
        obtain ⟨p0, p1, p2, p3, _⟩ := four_at hp11
        obtain ⟨q0, q1, q2, q3, _⟩ := four_at hq11
        have Hsame := Lib.hid (same_any w11 a0 a1 a2 a3 b0 b1 b2 b3 m0 c0 m1 c1' m2 c2 m3 c3 d0 d1 d2 d3 p T0.ints T1.rd T2.ints T3.ints U0 U1 U2 U3 (by omega) (by omega) (by omega) (by omega))
        have hop : OwnPlan W5.heap.size w11 (.agg #[.slice a0 m0 c0, .slice a1 m1 c1', .slice a2 m2 c2, .slice a3 m3 c3]) p := ⟨_, _, _, _, _, _, _, _, _, _, _, _, rfl, T0, T1, T2, T3, od⟩
        have Hop := Lib.hid hop
        clear hop T0 T1 T2 T3 U0 U1 U2 U3
        go_wp2_with (first
          | (go_at_call 14; refine Hsame.out.mono ?_; rintro e w12 ⟨rfl, hb12⟩
             have hx0 := (hb12.block bp (by omega)).trans hp11
             clear p0 p1 p2 p3 q0 q1 q2 q3
             obtain ⟨p0, p1, p2, p3, _⟩ := four_at hx0
             have hs12 := hb12.size)
          | (go_at_call 17; refine (own_any w12 _ W5.heap.size p (Hop.out.below hb12) (by omega) (by omega) (by omega) (by omega)).mono ?_; rintro e w13 ⟨rfl, hb13⟩)
          | (go_at_call 9; refine (awake_any w13).mono ?_; rintro e w14 ⟨rfl, hb14⟩))
        go_ret
        have hs13 := hb13.size
        exact ⟨rfl, ((hB11.trans (hb12.mono (B' := w.heap.size) hB11.size)).trans (hb13.mono (B' := w.heap.size) (by omega))).trans (hb14.mono (by omega))⟩
  · rw [decide_eq_false hfew] at Hf
    go_enter Tryz.func3, Tryz.ntmps3
    go_wp2_with (first
      | (go_at_call 8; refine Hf.out.mono ?_; rintro e w' ⟨rfl, he⟩; rw [he])
      | (go_at_call 9; refine (awake_any _).mono ?_; rintro e w1 ⟨rfl, hb1⟩))
    go_ret
    exact ⟨rfl, hb1⟩
end Go.Proofs.YtpfinkdpaomliaaGreat
