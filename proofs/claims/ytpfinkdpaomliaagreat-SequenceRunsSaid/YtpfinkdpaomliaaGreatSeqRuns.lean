/-
  'SequenceRuns': it says yes, whatever it is handed.
-/
import Derived.Test.YtpfinkdpaomliaaGreatAwake
import Derived.Test.YtpfinkdpaomliaaGreatRuns
namespace Go.Proofs.YtpfinkdpaomliaaGreat
open Go.RowKit

theorem ints_front' {w : World} {ao : Option Addr} {n k : Nat} {xs ys : List Int} (h : Ints w ao (n + k) (xs ++ ys)) (hl : xs.length = n) : Ints w ao n xs := by
  refine ⟨?_, hl⟩
  rcases h.rd with h0 | ⟨g, off, e, hg, hc⟩
  · exact .inl (by omega)
  · refine .inr ⟨g, off, e, hg, fun i hi => ?_⟩
    rw [hc i (by omega)]
    unfold intF
    rw [List.getD_eq_getElem?_getD, List.getD_eq_getElem?_getD, List.getElem?_append_left (by omega)]

set_option maxRecDepth 1000000 in
set_option maxHeartbeats 8000000 in
theorem seqRuns_any (w : World) (a0 a1 a2 a3 ai : Option Addr) (n c0 m c1 n2 c2 n3 c3 mi ci : Nat) (p : PlanP) (items : List Int) (hc : Ints w a0 n p.caps) (h : Seats w a1 m p.seats) (hf : Ints w a2 n2 p.first) (hg : Ints w a3 n3 p.second) (hit : Ints w ai mi items)
    (hwf : WfI items) (hwf2 : ∀ i, i < m → (Lit.int .i64 (Seat.stop (p.seats.getD i seatD))).wf = true) :
    Calls Tryz.prog 4 #[.agg #[.slice a0 n c0, .slice a1 m c1, .slice a2 n2 c2, .slice a3 n3 c3], .slice ai mi ci] w fun e w' => e = .returned (.bool true) ∧ Below w.heap.size w w' := by
  have hcl := hc.len
  have hsl := h.len
  have hil := hit.len
  have hb0 : Below w.heap.size w (w.alloc (.cells #[.slice a0 n c0, .slice a1 m c1, .slice a2 n2 c2, .slice a3 n3 c3] 36)) := (Below.refl _ _).alloc (Nat.le_refl _) _
  have hpl := heap_alloc_new w (.cells #[.slice a0 n c0, .slice a1 m c1, .slice a2 n2 c2, .slice a3 n3 c3] 36)
  have hsz0 : (w.alloc (.cells #[.slice a0 n c0, .slice a1 m c1, .slice a2 n2 c2, .slice a3 n3 c3] 36)).heap.size = w.heap.size + 1 := by simp
  obtain ⟨p0, p1, p2, p3, _⟩ := four_at hpl
  by_cases hfew : m ≤ 60 ∧ n ≤ 100 ∧ n2 ≤ 100 ∧ n3 ≤ 100 ∧ mi ≤ 2010
  · obtain ⟨hm, hn, hn2, hn3, hmi⟩ := hfew
    have Hgiven := Lib.hid (given_any _ a0 a1 a2 a3 n c0 m c1 n2 c2 n3 c3 p (hc.below hb0) (h.below hb0) (hf.below hb0) (hg.below hb0) (by omega) (by omega) (by omega) (by omega))
    go_enter Tryz.func4, Tryz.ntmps4
    go_upto_region 3 with fail
    have Hb0 := Lib.hid hb0
    clear hb0
    generalize w.alloc (.cells #[.slice a0 n c0, .slice a1 m c1, .slice a2 n2 c2, .slice a3 n3 c3] 36) = w0 at *
    have Hlent : Hid (∀ W, Below w0.heap.size w0 W → Calls Tryz.prog 10 #[.slice ai mi ci] W fun e w' => ∃ g cap, e = .returned (.slice (some ⟨g, 0, none⟩) mi cap) ∧ OwnI W.heap.size w' (some ⟨g, 0, none⟩) (mi + 12) cap (items ++ marks 1) ∧ Below W.heap.size W w') := fun W hW =>
      LentInts_any W ai mi ci items (hit.below (Hb0.out.trans (hW.mono (by omega)))) (by omega)
    go_upto_region 4 with (first
      | (go_at_call 18; refine Hgiven.out.mono ?_; rintro e w1 ⟨⟨v, rfl, b0, d0, b1, d1, b2, d2, b3, d3, rfl, x0, x1, x2, x3⟩, hb1⟩)
      | (go_at_call 10; refine (Hlent.out w1 hb1).mono ?_; rintro e w2 ⟨g, cap, rfl, own2, hb2⟩))
    have hB2 : Below w0.heap.size w0 w2 := hb1.trans (hb2.mono hb1.size)
    have hbq := heap_alloc_new w2 (.cells #[.slice b0 n d0, .slice b1 m d1, .slice b2 n2 d2, .slice b3 n3 d3] 29)
    have hb23 := (Below.refl w2.heap.size w2).alloc (Nat.le_refl _) (.cells #[.slice b0 n d0, .slice b1 m d1, .slice b2 n2 d2, .slice b3 n3 d3] 29)
    have y0 := ((x0.below hb2).below hb23).ints
    have y1 := ((x1.below hb2).below hb23).rd
    have y2 := ((x2.below hb2).below hb23).ints
    have y3 := ((x3.below hb2).below hb23).ints
    have own3 := own2.below hb23
    have hB3 := hB2.trans (hb23.mono (B' := w0.heap.size) hB2.size)
    have hsz3 : (w2.alloc (.cells #[.slice b0 n d0, .slice b1 m d1, .slice b2 n2 d2, .slice b3 n3 d3] 29)).heap.size = w2.heap.size + 1 := by simp
    have hz02 := hB2.size
    clear x0 x1 x2 x3 own2 hb1 hb2 hb23 hB2 Hgiven Hlent p0 p1 p2 p3
    generalize w2.alloc (.cells #[.slice b0 n d0, .slice b1 m d1, .slice b2 n2 d2, .slice b3 n3 d3] 29) = w3 at *
    generalize w2.heap.size = bq at *
    have hw3 := Hb0.out.trans (hB3.mono (B' := w.heap.size) (by omega))
    have Hrs := Lib.hid (refSort_any w3 b0 b1 b2 b3 ai n d0 m d1 n2 d2 n3 d3 mi ci p items y0 y1 y2 y3 (hit.below hw3) (by omega) (by omega) (by omega) (by omega) (by omega))
    obtain ⟨q0, q1, q2, q3, _⟩ := four_at hbq
    obtain ⟨p0, p1, p2, p3, _⟩ := four_at ((hB3.block _ (by omega)).trans hpl)
    go_upto_region 5 with (go_at_call 19; refine Hrs.out.mono ?_; rintro e w4 ⟨hres, hb4⟩; obtain ⟨t1, t2, t3, ts1, ts2, rfl, k1, k2, k3, k4, k5⟩ := refU hres)
    have hbr := heap_alloc_new w4 (.cells #[.slice t1.ao t1.n t1.cap, .slice t2.ao t2.n t2.cap, .slice t3.ao t3.n t3.cap] 49)
    have hb45 := (Below.refl w4.heap.size w4).alloc (Nat.le_refl _) (.cells #[.slice t1.ao t1.n t1.cap, .slice t2.ao t2.n t2.cap, .slice t3.ao t3.n t3.cap] 49)
    have hsz5 : (w4.alloc (.cells #[.slice t1.ao t1.n t1.cap, .slice t2.ao t2.n t2.cap, .slice t3.ao t3.n t3.cap] 49)).heap.size = w4.heap.size + 1 := by simp
    have hb35 := hb4.trans (hb45.mono (B' := w3.heap.size) hb4.size)
    have hz34 := hb4.size
    have k1 := k1.below hb45
    have k2 := k2.below hb45
    have k3 := k3.below hb45
    have k4 := k4.below hb45
    have k5 := k5.below hb45
    have y0 := y0.below hb35
    have y1 := y1.below hb35
    have y2 := y2.below hb35
    have y3 := y3.below hb35
    have own5 := own3.below hb35
    have hbq5 := (hb35.block _ (by omega)).trans hbq
    have hB5 := hB3.trans (hb35.mono (B' := w0.heap.size) hB3.size)
    have hz03 := hB3.size
    clear hres hb4 hb45 hb35 own3 hbq Hrs p0 p1 p2 p3 q0 q1 q2 q3 hw3 hB3
    generalize w4.alloc (.cells #[.slice t1.ao t1.n t1.cap, .slice t2.ao t2.n t2.cap, .slice t3.ao t3.n t3.cap] 49) = w5 at *
    generalize w4.heap.size = br at *
    have hw5 := Hb0.out.trans (hB5.mono (B' := w.heap.size) (by omega))
    have Hs := Lib.hid (sort_any2 w5 a0 a1 a2 a3 (some ⟨g, 0, none⟩) n c0 m c1 n2 c2 n3 c3 mi cap p items (hc.below hw5) (h.below hw5) (hf.below hw5) (hg.below hw5) (ints_front' own5.ints hil) hwf hwf2 (by omega) (by omega) (by omega) (by omega) (by omega))
    obtain ⟨p0, p1, p2, p3, _⟩ := four_at ((hB5.block _ (by omega)).trans hpl)
    go_upto_region 6 with (go_at_call 20; refine Hs.out.mono ?_; rintro e w6 ⟨hres, hb6⟩; obtain ⟨s1, s2, s3, ss1, ss2, M, S, rfl, o1, o2, o3, o4, o5, hBM, hMS, hr1, hr2⟩ := runU hres)
    have hbs := heap_alloc_new w6 (.cells #[.slice s1.ao s1.n s1.cap, .slice s2.ao s2.n s2.cap, .slice s3.ao s3.n s3.cap] 52)
    have hb67 := (Below.refl w6.heap.size w6).alloc (Nat.le_refl _) (.cells #[.slice s1.ao s1.n s1.cap, .slice s2.ao s2.n s2.cap, .slice s3.ao s3.n s3.cap] 52)
    have hsz7 : (w6.alloc (.cells #[.slice s1.ao s1.n s1.cap, .slice s2.ao s2.n s2.cap, .slice s3.ao s3.n s3.cap] 52)).heap.size = w6.heap.size + 1 := by simp
    have hb57 := hb6.trans (hb67.mono (B' := w5.heap.size) hb6.size)
    have hz56 := hb6.size
    have o1 := o1.below hb67
    have o2 := o2.below hb67
    have o3 := o3.below hb67
    have o4 := o4.below hb67
    have o5 := o5.below hb67
    have k1 := k1.below hb57
    have k2 := k2.below hb57
    have k3 := k3.below hb57
    have k4 := k4.below hb57
    have k5 := k5.below hb57
    have y0 := y0.below hb57
    have y1 := y1.below hb57
    have y2 := y2.below hb57
    have y3 := y3.below hb57
    have own7 := own5.below hb57
    have hbq7 := (hb57.block _ (by omega)).trans hbq5
    have hbr7 := (hb57.block _ (by omega)).trans hbr
    have hB7 := hB5.trans (hb57.mono (B' := w0.heap.size) hB5.size)
    have hz05 := hB5.size
    clear hres hb6 hb67 hb57 own5 hbq5 hbr Hs p0 p1 p2 p3 hw5 hB5
    generalize w6.alloc (.cells #[.slice s1.ao s1.n s1.cap, .slice s2.ao s2.n s2.cap, .slice s3.ao s3.n s3.cap] 52) = w7 at *
    generalize w6.heap.size = bs at *
    obtain ⟨ls1, ls2, ls3, ls4, ls5⟩ := sort_lens p items
    have e1 : s1.n = t1.n := o1.len.symm.trans (o2.len.trans (k2.len.symm.trans k1.len))
    have e2 : s2.n = t2.n := o3.len.symm.trans (o4.len.trans (k4.len.symm.trans k3.len))
    have e3 : s3.n = t3.n := o5.len.symm.trans k5.len
    have f1 : s1.n = (RF1 p items).length := o1.len.symm.trans o2.len
    have f2 : s2.n = (RF2 p items).length := o3.len.symm.trans o4.len
    have f3 : s3.n = (RYS p items).length := o5.len.symm
    obtain ⟨u1, n1, v1⟩ := s1
    obtain ⟨u2, n2', v2⟩ := s2
    obtain ⟨u3, n3', v3⟩ := s3
    obtain ⟨u1', n1', v1'⟩ := t1
    obtain ⟨u2', n2'', v2'⟩ := t2
    obtain ⟨u3', n3'', v3'⟩ := t3
    replace e1 : n1 = n1' := e1
    replace e2 : n2' = n2'' := e2
    replace e3 : n3' = n3'' := e3
    replace f1 : n1 = (RF1 p items).length := f1
    replace f2 : n2' = (RF2 p items).length := f2
    replace f3 : n3' = (RYS p items).length := f3
    subst e1 e2 e3
    have Hbase : Hid (∀ W, Below w7.heap.size w7 W → w7.heap.size ≤ W.heap.size ∧ Below w.heap.size w W ∧ W.heap[w.heap.size]? = some (.cells #[.slice a0 n c0, .slice a1 m c1, .slice a2 n2 c2, .slice a3 n3 c3] 36 (0, 0)) ∧
        W.heap[bq]? = some (.cells #[.slice b0 n d0, .slice b1 m d1, .slice b2 n2 d2, .slice b3 n3 d3] 29 (0, 0)) ∧ W.heap[br]? = some (.cells #[.slice u1' n1 v1', .slice u2' n2' v2', .slice u3' n3' v3'] 49 (0, 0)) ∧
        W.heap[bs]? = some (.cells #[.slice u1 n1 v1, .slice u2 n2' v2, .slice u3 n3' v3] 52 (0, 0))) := fun W hW =>
      ⟨hW.size, Hb0.out.trans ((hB7.trans (hW.mono (by omega))).mono (by omega)), (hW.block _ (by omega)).trans ((hB7.block _ (by omega)).trans hpl), (hW.block _ (by omega)).trans hbq7, (hW.block _ (by omega)).trans hbr7, (hW.block _ (by omega)).trans hbs⟩
    have Hl1 : Hid (∀ W, Below w7.heap.size w7 W → Calls Tryz.prog 21 #[.slice u1 n1 v1, .slice u1' n1 v1'] W fun e w' => e = .returned (.bool true) ∧ Below W.heap.size W w') := fun W hW =>
      lists_any W u1 u1' n1 v1 v1' ss1 ts1 _ (o1.rd.below hW) (o2.rd.below hW) (k1.below hW) (k2.below hW) (by omega) (fun k _ => by have := ls4 k; omega)
    have Hl2 : Hid (∀ W, Below w7.heap.size w7 W → Calls Tryz.prog 21 #[.slice u2 n2' v2, .slice u2' n2' v2'] W fun e w' => e = .returned (.bool true) ∧ Below W.heap.size W w') := fun W hW =>
      lists_any W u2 u2' n2' v2 v2' ss2 ts2 _ (o3.rd.below hW) (o4.rd.below hW) (k3.below hW) (k4.below hW) (by omega) (fun k _ => by have := ls5 k; omega)
    have Hl3 : Hid (∀ W, Below w7.heap.size w7 W → Calls Tryz.prog 22 #[.slice u3 n3' v3, .slice u3' n3' v3'] W fun e w' => e = .returned (.bool true) ∧ Below W.heap.size W w') := fun W hW => by
      have := SameInts_any W u3 u3' n3' v3 n3' v3' _ _ (o5.ints.below hW) (k5.below hW) (by omega) (by omega)
      rw [decide_eq_true rfl] at this
      exact this
    have Hl4 : Hid (∀ W, Below w7.heap.size w7 W → Calls Tryz.prog 15 #[.slice (some ⟨g, 0, none⟩) mi cap, .slice ai mi ci] W fun e w' => e = .returned (.bool true) ∧ Below W.heap.size W w') := fun W hW =>
      KeptInts_any W g cap ai mi ci items (own7.below hW).sl (hit.below (Hbase.out W hW).2.1) (by omega)
    have Hl5 : Hid (∀ W, Below w7.heap.size w7 W → Calls Tryz.prog 14 #[.agg #[.slice a0 n c0, .slice a1 m c1, .slice a2 n2 c2, .slice a3 n3 c3], .agg #[.slice b0 n d0, .slice b1 m d1, .slice b2 n2 d2, .slice b3 n3 d3]] W fun e w' => e = .returned (.bool true) ∧ Below W.heap.size W w') := fun W hW =>
      same_any W a0 a1 a2 a3 b0 b1 b2 b3 n c0 m c1 n2 c2 n3 c3 d0 d1 d2 d3 p (hc.below (Hbase.out W hW).2.1) (h.below (Hbase.out W hW).2.1) (hf.below (Hbase.out W hW).2.1) (hg.below (Hbase.out W hW).2.1) (y0.below hW) (y1.below hW) (y2.below hW) (y3.below hW) (by omega) (by omega) (by omega) (by omega)
    have hlens : ∀ k, (((([RYS p items] ++ RF1 p items) ++ RF2 p items).getD k []).length ≤ 1048576) := getD_all (P := fun l => l.length ≤ 1048576) (getD_all (P := fun l => l.length ≤ 1048576) (fun k => by
      cases k with
      | zero => show (RYS p items).length ≤ _; omega
      | succ k => show ([] : List Int).length ≤ _; exact Nat.zero_le _) (fun k => by have := ls4 k; omega)) (fun k => by have := ls5 k; omega)
    have Ho1 := Lib.hid o1
    have Ho2 := Lib.hid o2
    have Ho3 := Lib.hid o3
    have Ho4 := Lib.hid o4
    have Ho5 := Lib.hid o5
    have Hr1 := Lib.hid hr1
    have Hr2 := Lib.hid hr2
    have r1 : (sortErr p items != sortErr p items) = false := by simp
    generalize sortErr p items = er at *
    clear hc h hf hg hit o1 o2 o3 o4 o5 k1 k2 k3 k4 k5 y0 y1 y2 y3 own7 hpl hbq7 hbr7 hbs hB7 hr1 hr2 ls4 ls5
    have g1 : n1 ≤ 100 := by omega
    have g2 : n2' ≤ 100 := by omega
    have g3 : n3' ≤ 2010 := by omega
    have F1' := Lib.hid f1
    have F2' := Lib.hid f2
    clear f1 f2 f3 ls1 ls2 ls3
    obtain ⟨hz, hbw, hp, hq, hr, hs⟩ := Hbase.out w7 (Below.refl _ _)
    obtain ⟨z0, z1, z2, _⟩ := three_at hs
    obtain ⟨t0, t1, t2, _⟩ := three_at hr
    clear hp hq hr hs
    go_upto_region 8 with (first
      | (go_at_call_of 21 (Value.slice u1 n1 v1); refine (Hl1.out _ (Below.refl _ _)).mono ?_; rintro e w8 ⟨rfl, hb8⟩
         clear z0 z1 z2 t0 t1 t2
         obtain ⟨hz8, _, _, _, hr, hs⟩ := Hbase.out w8 hb8
         obtain ⟨z0, z1, z2, _⟩ := three_at hs
         obtain ⟨t0, t1, t2, _⟩ := three_at hr)
      | (go_at_call_of 21 (Value.slice u2 n2' v2); refine (Hl2.out w8 hb8).mono ?_; rintro e w9 ⟨rfl, hx⟩
         have hb9 := hb8.trans (hx.mono hz8)
         clear z0 z1 z2 t0 t1 t2 hr hs hx
         obtain ⟨hz9, _, _, _, hr, hs⟩ := Hbase.out w9 hb9
         obtain ⟨z0, z1, z2, _⟩ := three_at hs
         obtain ⟨t0, t1, t2, _⟩ := three_at hr)
      | (go_at_call 22; refine (Hl3.out w9 hb9).mono ?_; rintro e w10 ⟨rfl, hx⟩
         have hb10 := hb9.trans (hx.mono hz9)
         clear z0 z1 z2 t0 t1 t2 hr hs hx
         have hz10 := hb10.size)
      | (go_at_call 15; refine (Hl4.out w10 hb10).mono ?_; rintro e w11 ⟨rfl, hx⟩
         have hb11 := hb10.trans (hx.mono hz10)
         clear hx
         obtain ⟨hz11, _, hp, hq, _⟩ := Hbase.out w11 hb11
         obtain ⟨p0, p1, p2, p3, _⟩ := four_at hp
         obtain ⟨q0, q1, q2, q3, _⟩ := four_at hq)
      | (go_at_call 14; refine (Hl5.out w11 hb11).mono ?_; rintro e w12 ⟨rfl, hx⟩
         have hb12 := hb11.trans (hx.mono hz11)
         clear p0 p1 p2 p3 q0 q1 q2 q3 hp hq hx
         obtain ⟨hz12, hbw12, _, _, _, hs⟩ := Hbase.out w12 hb12
         obtain ⟨z0, z1, z2, _⟩ := three_at hs))
    clear Hl1 Hl2 Hl3 Hl4 Hl5 hb8 hb9 hb10 hb11 hz8 hz9 hz10 hz11 hbw hz
    obtain ⟨iS, hiS, hi0, hi1, hi2⟩ := info_parts (show (Tryz.prog.info? 23).map (fun i => (i.zero, i.size, i.bytes)) = some (some (.slice none 0 0), 1, 24) by kernel_rfl)
    have Hone : Hid (OwnL 1 slcC slcD 23 w12.heap.size (w12.drew.alloc (.cells #[.slice u3 n3' v3] 23)) (some ⟨w12.heap.size, 0, none⟩) 1 1 [⟨u3, n3', v3⟩]) := ownS_one w12.drew ⟨u3, n3', v3⟩
    have hba : Below w12.heap.size w12 (w12.drew.alloc (.cells #[.slice u3 n3' v3] 23)) := ((Below.refl _ _).drew).alloc (Nat.le_refl _) _
    have Hrd1 : Hid (∀ W, Below w12.heap.size w12 W → RdL 1 slcC slcD W u1 n1 ss1) := fun W hW => Ho1.out.rd.below (hb12.trans (hW.mono hz12))
    have Hrd2 : Hid (∀ W, Below w12.heap.size w12 W → RdL 1 slcC slcD W u2 n2' ss2) := fun W hW => Ho3.out.rd.below (hb12.trans (hW.mono hz12))
    have Hlen1 : Hid (ss1.length = n1) := Ho1.out.len
    have Hlen2 : Hid (ss2.length = n2') := Ho3.out.len
    have HFam : Hid (∀ W, Below w12.heap.size w12 W → Fam w5.heap.size W (([⟨u3, n3', v3⟩] ++ ss1) ++ ss2) (([RYS p items] ++ RF1 p items) ++ RF2 p items)) := fun W hW => by
      have hx := hb12.trans (hW.mono hz12)
      have g5 := (Ho5.out.mono (show w5.heap.size ≤ S by omega)).below hx
      have g2 := Ho2.out.below hx
      have g4 := (Ho4.out.mono hBM).below hx
      refine fam_append (fam_append (fam_one g5) g2 fun j k hj hk g hg hy => ?_) g4 fun j k hj hk g hg hy => ?_
      · have : j = 0 := by simp at hj; omega
        subst this
        have q1 := Ho5.out.row g hg
        have q2 := Hr1.out k hk g hy
        omega
      · have hl1 := Hlen1.out
        by_cases e : j = 0
        · subst e
          have q1 := Ho5.out.row g hg
          have q2 := Hr2.out k hk g hy
          omega
        · have e2 : rowAt ([⟨u3, n3', v3⟩] ++ ss1) j = rowAt ss1 (j - 1) := by
            unfold rowAt
            rw [getD_app_r _ _ _ _ (by simp; omega)]
            rfl
          rw [e2] at hg
          have hj1 : j - 1 < (RF1 p items).length := by have := F1'.out; simp at hj; omega
          have q1 := Hr1.out _ hj1 g hg
          have q2 := Ho4.out.row_ge hk hy
          omega
    have Hlens := Lib.hid hlens
    have Hs12 := Lib.hid hs
    have hz5 : w5.heap.size ≤ w12.heap.size := by omega
    have hbsz : bs < w12.heap.size := by omega
    have HS : Hid (∀ W : World, W.heap[bs]? = some (.cells #[.slice u1 n1 v1, .slice u2 n2' v2, .slice u3 n3' v3] 52 (0, 0)) → W.cell? ⟨bs, 0, none⟩ = some (.slice u1 n1 v1) ∧ W.cell? ⟨bs, 1, none⟩ = some (.slice u2 n2' v2) ∧ W.cell? ⟨bs, 2, none⟩ = some (.slice u3 n3' v3)) := fun W hW => by
      obtain ⟨a, b, c, _⟩ := three_at hW
      exact ⟨a, b, c⟩
    clear hs hb12 hlens hz12
    go_region_held3 (fun w' => w'.cell? ⟨bs, 0, none⟩ = some (.slice u1 n1 v1) ∧ w'.cell? ⟨bs, 1, none⟩ = some (.slice u2 n2' v2) ∧ w'.cell? ⟨bs, 2, none⟩ = some (.slice u3 n3' v3)) (first | go_keep | exact hS13 | exact hS14 | exact hS15 | exact hS16)
      ((first
        | (refine step_append_of (by rfl) _ _ 47 47 (by rfl) 23 iS _ 1 24 Tryz.underlying47 hiS hi0 hi1 hi2 rfl (by rfl) Hone.out.sl (.slice u1 n1 v1) (by rfl) n1 (ss1.flatMap slcC) (rdL_src slcE Tryz.underlying47 (Hrd1.out _ hba) v1) (by unfold maxLen; omega) (by omega) ?_; intro ao13 cap13 w13 ha13; have hown13 := ownS_app Hone.out (by simp) rfl Hlen1.out rfl (fun j hj => by simp) ha13; have hb13 := hba.grown ha13.grown (by simp) (fun g hg => Hone.out.row g hg); have hk13 := (hb13.block bs hbsz).trans Hs12.out; have hS13 := HS.out w13 hk13; clear ha13)
        | (refine step_append_of (by rfl) _ _ 47 47 (by rfl) 23 iS _ 1 24 Tryz.underlying47 hiS hi0 hi1 hi2 rfl (by rfl) hown13.sl (.slice u2 n2' v2) (by rfl) n2' (ss2.flatMap slcC) (rdL_src slcE Tryz.underlying47 (Hrd2.out _ hb13) v2) (by unfold maxLen; omega) (by omega) ?_; intro ao14 cap14 w14 ha14; have hown14 := ownS_app hown13 hb13.size rfl Hlen2.out rfl (fun j hj => by simp) ha14; have hb14 := hb13.grown ha14.grown hb13.size (fun g hg => hown13.row g hg); have hk14 := (hb14.block bs hbsz).trans Hs12.out; have hS14 := HS.out w14 hk14; clear ha14)
        | (go_at_call 23; refine (apart_fam2 w14 w5.heap.size (1 + n1 + n2') cap14 ao14 _ _ (hown14.mono hz5) (HFam.out w14 hb14) (Nat.le_trans hz5 hb14.size) (by omega) (fun k _ => Hlens.out k)).mono ?_; rintro e w15 ⟨rfl, hb15, hk⟩; have hk15 := hk bs _ 52 hk14 (by decide); have hS15 := HS.out w15 hk15)
        | (go_at_call 9; refine (awake_any w15).mono ?_; rintro e w16 ⟨rfl, hb16⟩; have hk16 := (hb16.block bs (Array.getElem?_eq_some_iff.1 hk15).1).trans hk15; have hS16 := HS.out w16 hk16)))
    go_wp2_with fail
    go_ret
    exact ⟨rfl, ((hbw12.trans (hb14.mono (B' := w.heap.size) hbw12.size)).trans (hb15.mono (B' := w.heap.size) (by omega))).trans (hb16.mono (by have := hb14.size; have := hb15.size; have := hbw12.size; omega))⟩
  · have hcase : 60 < m ∨ (¬ 60 < m ∧ 100 < n) ∨ (¬ 60 < m ∧ ¬ 100 < n ∧ 100 < n2) ∨ (¬ 60 < m ∧ ¬ 100 < n ∧ ¬ 100 < n2 ∧ 100 < n3) ∨ (¬ 60 < m ∧ ¬ 100 < n ∧ ¬ 100 < n2 ∧ ¬ 100 < n3 ∧ 2010 < mi) := by omega
    clear hfew hc h hf hg hit hcl hsl hil
    go_enter Tryz.func4, Tryz.ntmps4
    rcases hcase with g1 | ⟨g1, g2⟩ | ⟨g1, g2, g3⟩ | ⟨g1, g2, g3, g4⟩ | ⟨g1, g2, g3, g4, g5⟩
    all_goals
      go_wp2_with (go_at_call 9; refine (awake_any _).mono ?_; rintro e w1 ⟨rfl, hb1⟩)
      go_ret
      exact ⟨rfl, hb0.trans (hb1.mono (by omega))⟩
end Go.Proofs.YtpfinkdpaomliaaGreat
