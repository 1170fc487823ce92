/-
  'Make' of the package.
-/
import Derived.Test.YtpfinkdpaomliaaGreatAlong
import Derived.Lib.MinMax
import Derived.Stop.RegionWithIn
import Derived.Test.YtpfinkdpaomliaaGreatMarks
namespace Go.Proofs.YtpfinkdpaomliaaGreat
open Go.RowKit Go.Shelf
attribute [local go_sem] Oper.semAt_some

/-- Where the search stands. -/
def Inv13 (l : List Stop) (caps : List Int) (ao bo : Option Addr) (m c n c1 br : Nat) (w1 : World) (a : Act) (wr : World) : Prop :=
  ∃ (most : Nat) (Ds : List Nat) (U : Nat → Value), a = { tmps := ((List.range 95).map U).toArray, defers := marksOf Ds } ∧ U 0 = .slice ao m c ∧ U 1 = .slice bo n c1 ∧ U 4 = .pointer (some ⟨br, 0, none⟩) ∧ U 10 = .int .i64 (most : Int) ∧
    most ≤ n ∧ most ≤ m ∧ bestP l caps (cutM l most) = bestP l caps (startM l caps) ∧ Below w1.heap.size w1 wr ∧ Marked wr Ds ∧ Ds.Nodup ∧ ∀ D ∈ Ds, w1.heap.size ≤ D
theorem frame_of (T : Array Value) (k : Nat) (h : T.size = k) : T = ((List.range k).map fun i => T.getD i undef).toArray := by
  subst h
  apply Array.ext
  · simp
  · intro i h1 h2
    simp [h1]
theorem Inv13.mk {l : List Stop} {caps : List Int} {ao bo : Option Addr} {m c n c1 br : Nat} {w1 : World} {wr : World} {T : Array Value} {most : Nat} {Ds : List Nat} (hs : T.size = 95) (h0 : T.getD 0 undef = .slice ao m c) (h1 : T.getD 1 undef = .slice bo n c1) (h4 : T.getD 4 undef = .pointer (some ⟨br, 0, none⟩)) (h10 : T.getD 10 undef = .int .i64 (most : Int))
    (hr : most ≤ n ∧ most ≤ m ∧ bestP l caps (cutM l most) = bestP l caps (startM l caps) ∧ Below w1.heap.size w1 wr ∧ Marked wr Ds ∧ Ds.Nodup ∧ ∀ D ∈ Ds, w1.heap.size ≤ D) : Inv13 l caps ao bo m c n c1 br w1 { tmps := T, defers := marksOf Ds } wr :=
  ⟨most, Ds, fun i => T.getD i undef, by rw [← frame_of T 95 hs], h0, h1, h4, h10, hr⟩

/-- Between two rounds: the seats so far, in a box. -/
def I13 (n0 : Nat) (w3 : World) (pre : List Seat) (W : World) : Prop :=
  ∃ ar cap, W.heap[n0 + 1]? = some (.cells #[.slice ar pre.length cap] 34 (0, 0)) ∧ OwnSeats 64 n0 W ar pre.length cap pre ∧ Kp3 n0 (n0 + 1 + 1) (n0 + 1 + 1 + 1 + 1) (n0 + 1 + 1 + 1) w3 W
theorem I13_own (n0 : Nat) (w3 : World) (hs : w3.heap.size = n0 + 5) : OwnFrom w3.heap.size (I13 n0 w3) := by
  rintro pre A B row ⟨ar, cap, h1, h2, h3⟩ hg hr
  have hlt : n0 + 1 < A.heap.size := (Array.getElem?_eq_some_iff.1 h1).1
  refine ⟨ar, cap, (grownBy_keeps_cells hg (fun r e => (hr r e).2) h1 rfl).trans h1, h2.grown hg (fun g hg' e => ?_), h3.trans ⟨?_, ?_, ?_, ?_, ?_⟩⟩
  · obtain ⟨cur, hc⟩ := h2.sl.cells_at g hg'
    obtain ⟨_, o, ho, hn⟩ := hr g e.symm
    rw [ho] at hc
    cases hc
    cases hn
  · exact (Below.refl n0 A).grown hg (by omega) (fun g e => by have := (hr g e).1; omega)
  · exact hg.block _ (by have := h3.below.size; omega) (fun e => by have := (hr _ e.symm).1; omega)
  · exact hg.block _ (by have := h3.below.size; omega) (fun e => by have := (hr _ e.symm).1; omega)
  · exact hg.block _ (by have := h3.below.size; omega) (fun e => by have := (hr _ e.symm).1; omega)
  · intro b cur fr hb
    exact (grownBy_keeps_cells hg (fun r e => (hr r e).2) hb rfl).trans hb

set_option pp.deepTerms true in
set_option pp.maxSteps 1000000 in
set_option maxRecDepth 1000000 in
set_option maxHeartbeats 4000000 in
theorem make_any (w : World) (ao bo : Option Addr) (m c n c1 : Nat) (l : List Stop) (caps : List Int) (h : Stops w ao m l) (hc : Ints w bo n caps) (hm : m ≤ 1048576) (hn : n ≤ 1048576) :
    Calls Tryz.prog 13 #[.slice ao m c, .slice bo n c1] w fun e w' => MakeO w.heap.size w' e (makeP l caps) ∧ Below w.heap.size w w' := by
  have Hl := Lib.hid h.len
  have Hcl := Lib.hid hc.len
  have hb0 : Below w.heap.size w (w.alloc (.cells #[.slice none 0 0, .slice none 0 0, .slice none 0 0, .slice none 0 0] 36)) := (Below.refl _ _).alloc (Nat.le_refl _) _
  have hc1 := hc.below hb0
  have h1 := h.below hb0
  have f39 : Fence.wide.fn 39 := trivial
  have f40 : Fence.wide.fn 40 := trivial
  have f41 : Fence.wide.fn 41 := trivial
  have f42 : Fence.wide.fn 42 := trivial
  have f43 : Fence.wide.fn 43 := trivial
  have f44 : Fence.wide.fn 44 := trivial
  obtain ⟨i0, hi0, hz0, hz1, hz2⟩ := info_parts (show (Tryz.prog.info? 64).map (fun i => (i.zero, i.size, i.bytes)) = some (some (.agg #[.int .i64 0, .int .i64 0, .int .i64 0, .int .i64 0]), 4, 32) by kernel_rfl)
  have hmk64 : m ≤ 1000 → ∀ w : World, (Instr.makeSlice 34 (.int .i64 0) (.int .i64 (m : Int))).run Tryz.prog w = .ok (.slice (some ⟨w.heap.size, 0, none⟩) 0 m) (w.alloc (.cells (madeCells #[.int .i64 0, .int .i64 0, .int .i64 0, .int .i64 0] (m * 4)) 64)) := fun hm w => by
    have hr := run_make (P := Tryz.prog) w 34 64 i0 _ Tryz.underlying34 hi0 hz0 .i64 .i64 0 (m : Int) (by omega) (by omega) (by rw [hz2]; omega) (by omega)
    rw [hz1] at hr
    simpa [Value.cells] using hr
  refine (callsIn_wide (n := 5)).1 ?_
  refine callsIn_of_wp_marks Tryz.func13 rfl trivial ?_ rfl
  simp only [Tryz.ntmps13, List.size_toArray, List.length_cons, List.length_nil, Nat.reduceAdd, Nat.reduceSub, Array.replicate_succ, Array.replicate_zero, List.push_toArray, List.append_toArray, List.nil_append, List.cons_append]
  by_cases hmc : machineP caps = true
  · have Hmc := Lib.hid hmc
    have hmach := machine_caps hmc
    rw [Hcl.out] at hmach
    clear hmc
    by_cases hlen : 1000 < m
    · have E : Hid (makeP l caps = (5, noPlan)) := by show _ = _; unfold makeP; rw [if_neg (by rw [Hmc.out]; decide), if_pos (by rw [Hl.out]; exact hlen)]
      gi_wp2_with (gi_at_call 39; refine (callsIn_wide.2 (machine_any _ _ _ _ _ hc1 hn)).mono ?_; rintro e w' ⟨rfl, rfl⟩; rw [Hmc.out])
      exact ⟨.tuple #[.agg #[.slice none 0 0, .slice none 0 0, .slice none 0 0, .slice none 0 0], .int .i64 5], by simp [results, Tryz.results13, go_sem], ⟨_, by rw [E.out], by rw [E.out]; exact OwnPlan.none _ _⟩, hb0⟩
    · by_cases hm0 : m = 0
      · subst hm0
        have hl0 : l = [] := List.eq_nil_of_length_eq_zero Hl.out
        subst hl0
        have E := Lib.hid (make_empty Hmc.out)
        have Ew : Hid (wrongT (wrongP []) = .tuple #[.int .i64 0, .bool false]) := rfl
        have hres := heap_alloc_new w (.cells #[.slice none 0 0, .slice none 0 0, .slice none 0 0, .slice none 0 0] 36)
        have hbk : Hid (∀ w1, Below (w.alloc (.cells #[.slice none 0 0, .slice none 0 0, .slice none 0 0, .slice none 0 0] 36)).heap.size (w.alloc (.cells #[.slice none 0 0, .slice none 0 0, .slice none 0 0, .slice none 0 0] 36)) w1 →
            w1.heap[w.heap.size]? = some (.cells #[.slice none 0 0, .slice none 0 0, .slice none 0 0, .slice none 0 0] 36 (0, 0))) := fun w1 hx => (hx.block _ (by simp)).trans hres
        have hsz0 : (w.alloc (.cells #[.slice none 0 0, .slice none 0 0, .slice none 0 0, .slice none 0 0] 36)).heap.size = w.heap.size + 1 := by simp
        have Hb0 := Lib.hid hb0
        clear hres hb0
        have Hsz0 := Lib.hid hsz0
        clear hsz0
        gi_wp2_with (first
          | (gi_at_call 39; refine (callsIn_wide.2 (machine_any _ _ _ _ _ hc1 hn)).mono ?_; rintro e w' ⟨rfl, rfl⟩; rw [Hmc.out])
          | (gi_at_call 40; refine (callsIn_wide.2 (wrong_any _ _ _ _ _ h1 hm)).mono ?_; rintro e w1 ⟨rfl, hb1⟩; rw [Ew.out])
          | (gi_at_call 41; refine (callsIn_wide.2 (loads_any w1 none 0 0 n [] (RdL.nil _ _) (by omega) (fun x hx => (by cases hx)) hmach.1.1 hn)).mono ?_; rintro e w5 ⟨B1, B2, rfl, hB12, hf1, hf2, hb5⟩; have hc5 := (hc1.below hb1).below hb5; have hbo : bo.isSome = true := (by obtain ⟨g, off, e, _⟩ := hc5.at (show 0 < n by omega); rw [e]; rfl))
          | (gi_at_call 42; refine (callsIn_wide.2 (clone_any _ bo n c1 caps hc5 hn hbo)).mono ?_; rintro e w6 ⟨ao6, cap6, rfl, hown6, hb6⟩; have hb16 := hb1.trans ((hb5.trans (hb6.mono hb5.size)).mono hb1.size); have hbk6 := hbk.out _ hb16; obtain ⟨z0, z1, z2, z3, z4, z5, z6, z7⟩ := four_at hbk6))
        have hs1 := hb1.size
        have hs5 := hb5.size
        have hs6 := hb6.size
        rw [Hsz0.out] at hs1
        have hlw : w.heap.size < w1.heap.size := by omega
        have o0 := (hown6.mono (B' := w1.heap.size) (by omega)).set4 hlw (.slice ao6 n cap6) (.slice none 0 0) (.slice (some ⟨B1, 0, none⟩) n n) (.slice (some ⟨B2, 0, none⟩) n n)
        have o2 := (hf1.below hb6).set4 hlw (.slice ao6 n cap6) (.slice none 0 0) (.slice (some ⟨B1, 0, none⟩) n n) (.slice (some ⟨B2, 0, none⟩) n n)
        have o3 := (hf2.below hb6).set4 hlw (.slice ao6 n cap6) (.slice none 0 0) (.slice (some ⟨B1, 0, none⟩) n n) (.slice (some ⟨B2, 0, none⟩) n n)
        have hd : Dist 3 (pick3 ao6 (some ⟨B1, 0, none⟩) (some ⟨B2, 0, none⟩)) (pick3 cap6 n n) := by
          refine dist3_of (fun g hg hg' => ?_) (fun g hg hg' => ?_) (fun g hg hg' => ?_)
          · have a1 : w5.heap.size ≤ g := hown6.row g hg
            have := hf1.sl.row_lt g hg'
            omega
          · have a1 : w5.heap.size ≤ g := hown6.row g hg
            have := hf2.sl.row_lt g hg'
            omega
          · exact hB12 ((rowOf_new hg).symm.trans (rowOf_new hg'))
        have hbf := below_set4 (Hb0.out.trans (hb16.mono (by rw [Hsz0.out]; omega))) (Nat.le_refl w.heap.size) (.slice ao6 n cap6) (.slice none 0 0) (.slice (some ⟨B1, 0, none⟩) n n) (.slice (some ⟨B2, 0, none⟩) n n)
        refine ⟨.tuple #[.agg #[.slice ao6 n cap6, .slice none 0 0, .slice (some ⟨B1, 0, none⟩) n n, .slice (some ⟨B2, 0, none⟩) n n], .int .i64 0], by simp [results, Tryz.results13, go_sem, z0, z1, z2, z3], ⟨_, by rw [E.out], ?_⟩, hbf⟩
        rw [E.out]
        refine ⟨_, _, _, _, _, _, _, _, _, _, _, _, rfl, o0.mono (by omega), OwnL.nil _ _ _ _, ?_, ?_, hd⟩
        · show OwnI _ _ _ _ _ (loadsP caps.length _)
          rw [Hcl.out]; exact o2.mono (by omega)
        · show OwnI _ _ _ _ _ (loadsP caps.length _)
          rw [Hcl.out]; exact o3.mono (by omega)
      · have hwr : Hid (wrongT (wrongP l) = .tuple #[.int .i64 0, .bool false] ∧ wrongP l = none ∨ (∃ k : Nat, wrongT (wrongP l) = .tuple #[.int .i64 (k : Int), .bool true]) ∧ (wrongP l).isSome = true) := by
          cases wrongP l with
          | none => exact .inl ⟨rfl, rfl⟩
          | some k => exact .inr ⟨⟨k, rfl⟩, rfl⟩
        rcases hwr.out with ⟨ew, en⟩ | ⟨⟨k, ew⟩, es⟩
        · have Ew := Lib.hid ew
          have Hv := Lib.hid (wrong_vols en)
          have En := Lib.hid en
          clear ew en hwr
          gi_wp2_with (first
            | (gi_at_call 39; refine (callsIn_wide.2 (machine_any _ _ _ _ _ hc1 hn)).mono ?_; rintro e w' ⟨rfl, rfl⟩; rw [Hmc.out])
            | (gi_at_call 40; refine (callsIn_wide.2 (wrong_any _ _ _ _ _ h1 hm)).mono ?_; rintro e w1 ⟨rfl, hb1⟩; rw [Ew.out]))
          obtain ⟨M, hM⟩ : ∃ M : Nat, M = min n m := ⟨_, rfl⟩
          have hM2 : min (n : Int) (m : Int) = (M : Int) := by rw [hM]; omega
          rw [hM2]
          have E : Hid (makeP l caps = pickP caps (bestP l caps (startM l caps))) := by
            show _ = _
            unfold makeP
            rw [if_neg (by rw [Hmc.out]; decide), if_neg (by rw [Hl.out]; exact hlen), if_neg (by rw [En.out]; decide)]
          have hstart : startM l caps = M := by unfold startM; rw [Hl.out, Hcl.out, if_neg hm0, hM]
          have Hstart := Lib.hid hstart
          have hres := heap_alloc_new w (.cells #[.slice none 0 0, .slice none 0 0, .slice none 0 0, .slice none 0 0] 36)
          have Hres := Lib.hid ((hb1.block _ (by simp)).trans hres)
          have hlt1 : w.heap.size < w1.heap.size := by have := hb1.size; simp at this; omega
          have hs1 := h1.below hb1
          have hc2 := hc1.below hb1
          have Hb1 : Hid (Below w.heap.size w w1) := hb0.trans (hb1.mono (by simp))
          have hMn : M ≤ n := by omega
          have hMm : M ≤ m := by omega
          clear hM hM2 hres hb0 hb1 h1 hc1 hstart
          refine wpIn_loop (Inv13 l caps ao bo m c n c1 w.heap.size w1) (fun a _ => (intOf (a.tmps.getD 10 undef)).toNat) ?_ ?_
          · exact Inv13.mk (most := M) (Ds := []) rfl rfl rfl rfl rfl ⟨hMn, hMm, by unfold cutM; rw [Hl.out, if_neg hm0, Nat.min_eq_left hMm, Hstart.out], Below.refl _ _, fun D hD => (by cases hD), List.nodup_nil, fun D hD => (by cases hD)⟩
          · rintro a wr ⟨most, Ds, U, rfl, U0, U1, U4, U10, hmn, hmm, htg, hb, hmk, hnd, hDs⟩
            have hT : ((List.range 95).map U).toArray = #[U 0, U 1, U 2, U 3, U 4, U 5, U 6, U 7, U 8, U 9, U 10, U 11, U 12, U 13, U 14, U 15, U 16, U 17, U 18, U 19, U 20, U 21, U 22, U 23, U 24, U 25, U 26, U 27, U 28, U 29, U 30, U 31, U 32, U 33, U 34, U 35, U 36, U 37, U 38, U 39, U 40, U 41, U 42, U 43, U 44, U 45, U 46, U 47, U 48, U 49, U 50, U 51, U 52, U 53, U 54, U 55, U 56, U 57, U 58, U 59, U 60, U 61, U 62, U 63, U 64, U 65, U 66, U 67, U 68, U 69, U 70, U 71, U 72, U 73, U 74, U 75, U 76, U 77, U 78, U 79, U 80, U 81, U 82, U 83, U 84, U 85, U 86, U 87, U 88, U 89, U 90, U 91, U 92, U 93, U 94] := rfl
            rw [hT, U0, U1, U4, U10]
            clear hT U0 U1 U4 U10
            have Htg := Lib.hid htg
            clear htg
            have hsz1 := hb.size
            cases most with
            | zero =>
              have E2 : Hid (makeP l caps = (4, noPlan)) := by
                show _ = _
                rw [E.out, ← Htg.out, show cutM l 0 = 0 by unfold cutM; split <;> omega]
                rfl
              have hbk := (hb.block _ hlt1).trans Hres.out
              obtain ⟨z0, z1, z2, z3, z4, z5, z6, z7⟩ := four_at hbk
              have hset := set4_block hbk (.slice none 0 0) (.slice none 0 0) (.slice none 0 0) (.slice none 0 0)
              have hmk2 := hmk.set4 hbk (.slice none 0 0) (.slice none 0 0) (.slice none 0 0) (.slice none 0 0)
              obtain ⟨y0, y1, y2, y3, _, _, _, _⟩ := four_at ((shut_cells hmk2 hset rfl).trans hset)
              have hbs := shut_below (B := w.heap.size) _ _ (fun D hD => by have := hDs D hD; omega) hmk2 hnd
              have hbf := (below_set4 (Hb1.out.trans (hb.mono (by omega))) (Nat.le_refl w.heap.size) (.slice none 0 0) (.slice none 0 0) (.slice none 0 0) (.slice none 0 0)).trans hbs
              have Hset := Lib.hid hset
              clear hset hbk hbs
              gi_wp2
              refine leaves_marks Ds _ hmk2 hnd ⟨.tuple #[.agg #[.slice none 0 0, .slice none 0 0, .slice none 0 0, .slice none 0 0], .int .i64 4], ?_, ⟨_, by rw [E2.out], by rw [E2.out]; exact OwnPlan.none _ _⟩, hbf⟩
              simp [results, Tryz.results13, go_sem, y0, y1, y2, y3]
            | succ k =>
              have hmk64 := hmk64 (by omega)
              have hkk : (((k + 1 : Nat) : Int)) = (k : Int) + 1 := by omega
              rw [hkk]
              gi_wp2_with (gi_at_call 43; have hal := along_in (5 - 1) ao bo m c n c1 (k + 1) ((wr.alloc (.cells (madeCells #[.int .i64 0, .int .i64 0, .int .i64 0, .int .i64 0] (m * 4)) 64)).alloc (.cells #[.slice (some ⟨wr.heap.size, 0, none⟩) 0 m] 34)); rw [hkk] at hal; refine hal.mono ?_; clear hal; rintro e w' ⟨rfl, rfl⟩)
              obtain ⟨w3, hw3⟩ : ∃ w3, ((((wr.alloc (.cells (madeCells #[.int .i64 0, .int .i64 0, .int .i64 0, .int .i64 0] (m * 4)) 64)).alloc (.cells #[.slice (some ⟨wr.heap.size, 0, none⟩) 0 m] 34)).alloc (.cells #[.slice ao m c] 22)).alloc (.cells #[.slice bo n c1] 23)).alloc (.cells #[.int .i64 ((k : Int) + 1)] 3) = w3 := ⟨_, rfl⟩
              obtain ⟨r0, r1, r2, r3, r4, hb3, hsz3⟩ := five_blocks wr _ _ _ _ _ w3 hw3
              rw [hw3]
              clear hw3
              have hsW := hs1.below hb
              have hcW := hc2.below hb
              have hown0 : OwnSeats 64 wr.heap.size w3 (some ⟨wr.heap.size, 0, none⟩) 0 m [] :=
                ⟨⟨Nat.zero_le _, by unfold maxLen; omega, .inr ⟨_, _, rfl, r0, by simp [size_madeCells], fun i hi => absurd hi (by omega)⟩⟩, rfl, fun g hg => by rw [rowOf_new hg]; exact Nat.le_refl _⟩
              refine wpIn_rangeFunc_ownH rfl (by omega) (gf := 67) (lb := #[.pointer (some ⟨wr.heap.size + 1 + 1, 0, none⟩), .pointer (some ⟨wr.heap.size + 1 + 1 + 1 + 1, 0, none⟩), .pointer (some ⟨wr.heap.size + 1 + 1 + 1, 0, none⟩)]) rfl trivial (enters_of Tryz.func67 (by kernel_rfl) rfl)
                (along_stops (5 - 1) (by omega) (wr.heap.size + 1 + 1) (wr.heap.size + 1 + 1 + 1 + 1) (wr.heap.size + 1 + 1 + 1) ao bo m c n c1 (k + 1) l caps wr w3 hsW hcW Hv.out (by omega) hmach.1.1 hmach.1.2 (by omega) hmach.2 hb3 r2 (by rw [r4, hkk]) r3)
                (fun h k => Kp3.trans h k) (kp3_b (by omega) (by omega) (by omega) (by omega)) (Below.refl _ _) (fun _ => rfl)
                (I13 wr.heap.size w3) (fun _ _ _ => False) (I13_own _ _ hsz3) (fun _ _ _ _ _ hs _ _ => hs) ⟨_, _, r1, hown0, Kp3.refl _ _ _ _ _⟩
                (fun x a' W => ∃ Bx, W.heap[Bx]? = some (.cells #[.int .i64 (Seat.stop x), .int .i64 (Seat.vol x), .int .i64 (Seat.first x), .int .i64 (Seat.second x)] 64 (0, 0)) ∧ a' = { tmps := #[.slice ao m c, .slice bo n c1, U 2, U 3, .pointer (some ⟨w.heap.size, 0, none⟩), U 5, U 6, U 7, U 8, U 9, .int .i64 ((k : Int) + 1), .pointer (some ⟨wr.heap.size + 1, 0, none⟩), .pointer (some ⟨Bx, 0, none⟩), U 13, U 14, U 15, U 16, U 17, U 18, U 19, U 20, U 21, U 22, U 23, U 24, U 25, U 26, U 27, U 28, U 29, U 30, U 31, U 32, U 33, U 34, U 35, U 36, U 37, U 38, U 39, U 40, U 41, U 42, U 43, U 44, U 45, U 46, U 47, U 48, U 49, U 50, .int .i64 ((k : Int) + 1), .bool true, U 53, U 54, .slice ao m c, .int .i64 (m : Int), .slice (some ⟨wr.heap.size, 0, none⟩) 0 m, .slice ao m c, .slice bo n c1, .int .i64 ((k : Int) + 1), .func (.func 67) #[] #[.pointer (some ⟨wr.heap.size + 1 + 1, 0, none⟩), .pointer (some ⟨wr.heap.size + 1 + 1 + 1 + 1, 0, none⟩), .pointer (some ⟨wr.heap.size + 1 + 1 + 1, 0, none⟩)], .agg #[.int .i64 (Seat.stop x), .int .i64 (Seat.vol x), .int .i64 (Seat.first x), .int .i64 (Seat.second x)], U 63, U 64, U 65, U 66, U 67, U 68, U 69, U 70, U 71, U 72, U 73, U 74, U 75, U 76, U 77, U 78, U 79, U 80, U 81, U 82, U 83, U 84, U 85, U 86, U 87, U 88, U 89, U 90, U 91, U 92, U 93, U 94], defers := [] })
                (fun x a' _ X Y row hs hg hr => by obtain ⟨Bx, h1, h2⟩ := hs; exact ⟨Bx, (grownBy_keeps_cells hg (fun r e => (hr r e).2) h1 rfl).trans h1, h2⟩)
                ?assign ?body ?done ?stop
              case assign =>
                rintro l1 pre x W K ⟨ar, cap, h1, h2, h3⟩ hK
                unfold seatV
                gi_wp2
                have hs3 := h3.below.size
                have kp : Kp3 wr.heap.size (wr.heap.size + 1 + 1) (wr.heap.size + 1 + 1 + 1 + 1) (wr.heap.size + 1 + 1 + 1) W (W.alloc (.cells #[.int .i64 (Seat.stop x), .int .i64 (Seat.vol x), .int .i64 (Seat.first x), .int .i64 (Seat.second x)] 64)) := kp3_alloc (by omega) (by omega) (by omega) (by omega) _
                exact hK _ _ ((KeepsOthers.alloc _ _).from _) kp ⟨ar, cap, (Below.heap_alloc W _ _ (Array.getElem?_eq_some_iff.1 h1).1).trans h1, h2.alloc _, h3.trans kp⟩ ⟨W.heap.size, heap_alloc_new W _, rfl⟩
              case body =>
                rintro l1 pre x a' W hl ⟨r, hr⟩ ⟨ar, cap, h1, h2, h3⟩ ⟨Bx, hBx, rfl⟩ hlt
                have hs3 := h3.below.size
                have x0 : W.cell? ⟨wr.heap.size + 1, 0, none⟩ = some (.slice ar pre.length cap) := by simp [World.cell?, h1]
                have xf : W.frozen? ⟨wr.heap.size + 1, 0, none⟩ = false := by simp [World.frozen?, h1]
                obtain ⟨y0, y1, y2, y3, _, _, _, _⟩ := four_at hBx
                have H1 := Lib.hid h1
                have HBx := Lib.hid hBx
                clear h1 hBx
                have hlp : pre.length < m := hlt
                gi_wp2_with (gi_at_builtin; refine wpListIn_append_sl _ rfl (.tmp 63) (.tmp 65) 34 rfl 64 i0 _ 4 32 Tryz.underlying34 hi0 hz0 hz1 hz2 rfl rfl (h2.sl.alloc _) ⟨W.heap.size, 0, none⟩ 1 1 (seatC x) rfl rfl (news_at W (seatC x) 64 _ rfl) (seatE.one _) (by unfold maxLen; omega) (by omega) ?_)
                intro ar2 cap2 w5 ha
                have ha' : Appended (W.alloc (.cells (seatC x).toArray 64)) w5 64 4 ar pre.length cap ar2 (pre.length + 1) cap2 (fun j => if j < pre.length * 4 then cellsF 4 seatC seatD pre j else (seatC x)[j - pre.length * 4]?.getD undef) := ha
                clear ha
                have hgr := ha'.grown
                have hown5 := ownL_app seatE (h2.alloc _) (by simp; omega) x rfl rfl ha'
                have hrows : ∀ g, rowOf ar cap = some g → wr.heap.size ≤ g ∧ ∃ cur, (W.alloc (.cells (seatC x).toArray 64)).heap[g]? = some (.cells cur 64 (0, 0)) := fun g hg => ⟨h2.row g hg, (h2.sl.alloc _).cells_at g hg⟩
                have kal : Kp3 wr.heap.size (wr.heap.size + 1 + 1) (wr.heap.size + 1 + 1 + 1 + 1) (wr.heap.size + 1 + 1 + 1) W (W.alloc (.cells (seatC x).toArray 64)) := kp3_alloc (by omega) (by omega) (by omega) (by omega) _
                have hne : ∀ g, rowOf ar cap = some g → g ≠ wr.heap.size + 1 ∧ g ≠ wr.heap.size + 1 + 1 ∧ g ≠ wr.heap.size + 1 + 1 + 1 + 1 ∧ g ≠ wr.heap.size + 1 + 1 + 1 := by
                  intro g hg
                  obtain ⟨_, cur, hcur⟩ := hrows g hg
                  refine ⟨?_, ?_, ?_, ?_⟩
                  · rintro rfl; rw [Below.heap_alloc _ _ _ (by omega), H1.out] at hcur; cases hcur
                  · rintro rfl; rw [(h3.trans kal).k1, r2] at hcur; cases hcur
                  · rintro rfl; rw [(h3.trans kal).k2, r4] at hcur; cases hcur
                  · rintro rfl; rw [(h3.trans kal).k3, r3] at hcur; cases hcur
                have kap := kp3_grown (n₀ := wr.heap.size) (b1 := wr.heap.size + 1 + 1) (b2 := wr.heap.size + 1 + 1 + 1 + 1) (b3 := wr.heap.size + 1 + 1 + 1) hgr (by simp; omega) (by simp; omega) (by simp; omega) (by simp; omega)
                  (fun g hg => ⟨(hrows g hg).1, (hne g hg).2.1, (hne g hg).2.2.1, (hne g hg).2.2.2, _, _, _, (hrows g hg).2.choose_spec, by decide⟩)
                have H5 : w5.heap[wr.heap.size + 1]? = some (.cells #[.slice ar pre.length cap] 34 (0, 0)) :=
                  (hgr.block _ (by simp; omega) (fun e => (hne _ e.symm).1 rfl)).trans ((Below.heap_alloc _ _ _ (by omega)).trans H1.out)
                have hs5 := hgr.size
                simp at hs5
                have kst : Kp3 wr.heap.size (wr.heap.size + 1 + 1) (wr.heap.size + 1 + 1 + 1 + 1) (wr.heap.size + 1 + 1 + 1) w5 (w5.setCell ⟨wr.heap.size + 1, 0, none⟩ (.slice ar2 (pre.length + 1) cap2)) :=
                  kp3_grown (grownBy_setCell w5 ⟨wr.heap.size + 1, 0, none⟩ _) (by omega) (by omega) (by omega) (by omega) (fun g hg => by cases hg; exact ⟨by simp <;> omega, by simp <;> omega, by simp <;> omega, by simp <;> omega, _, _, _, H5, by decide⟩)
                have kall := (kal.trans kap).trans kst
                have kf : KeepsFrom w3.heap.size W (w5.setCell ⟨wr.heap.size + 1, 0, none⟩ (.slice ar2 (pre.length + 1) cap2)) :=
                  (((KeepsOthers.alloc W (.cells (seatC x).toArray 64)).trans (KeepsOthers.of_grownBy hgr (fun j o hj ho => by obtain ⟨_, cur, hcur⟩ := hrows j hj; rw [hcur] at ho; cases ho; rfl))).trans (KeepsOthers.setCell _ _ _)).from _
                have hI5 : I13 wr.heap.size w3 (pre ++ [x]) (w5.setCell ⟨wr.heap.size + 1, 0, none⟩ (.slice ar2 (pre.length + 1) cap2)) := by
                  refine ⟨ar2, cap2, ?_, ?_, h3.trans kall⟩
                  · have := one_put H5 (.slice ar2 (pre.length + 1) cap2)
                    simpa using this
                  · have hfar : ∀ g, rowOf ar2 cap2 = some g → some g ≠ some (wr.heap.size + 1) := by
                      intro g hg e
                      cases e
                      obtain ⟨cur, hcur⟩ := hown5.sl.cells_at _ hg
                      rw [H5] at hcur
                      cases hcur
                    have := hown5.grown (grownBy_setCell w5 ⟨wr.heap.size + 1, 0, none⟩ (.slice ar2 (pre.length + 1) cap2)) hfar
                    simpa using this
                obtain ⟨z0, z1⟩ := one_at H5
                have Hk := Lib.hid kall
                have Hf := Lib.hid kf
                have Hi := Lib.hid hI5
                clear ha' hgr hown5 hrows kal hne kap kst kall kf hI5 h2 h3 H5
                gi_wp2
                exact ⟨Hf.out, Hk.out, Hi.out⟩
              case done =>
                rintro D zs W hD rfl ⟨ar, cap, h1, h2, h3⟩ hK
                have hs3 := h3.below.size
                obtain ⟨x0, xf⟩ := one_at h1
                have hbW : Below wr.heap.size wr W := hb3.trans h3.below
                have hmk2 : Marked W (D :: Ds) := fun D' hD' => by
                  rcases List.mem_cons.1 hD' with rfl | hD'
                  · exact hK
                  · exact (hmk.below hbW (hmk.lt)) D' hD'
                have hnd2 : (D :: Ds).Nodup := List.nodup_cons.2 ⟨fun hx => by have := hmk.lt D hx; omega, hnd⟩
                have hDs2 : ∀ D' ∈ D :: Ds, w1.heap.size ≤ D' := fun D' hD' => by
                  rcases List.mem_cons.1 hD' with rfl | hD'
                  · omega
                  · exact hDs D' hD'
                have hcut := cut_here (l := l) (k := k) (by rw [Hl.out]; omega)
                have Hgood : Hid (goodB l caps (k + 1) = true → makeP l caps = (0, planOf caps (finalSq l caps (k + 1)).out)) := by
                  intro hg
                  rw [E.out, ← Htg.out, hcut.1, best_yes hg]
                  rfl
                have Hbad : Hid (goodB l caps (k + 1) = false → bestP l caps (cutM l k) = bestP l caps (startM l caps)) := by
                  intro hg
                  rw [← Htg.out, hcut.1, hcut.2, best_no hg]
                have Hfl := Lib.hid (final_len (caps := caps) (most := k + 1) Hv.out)
                have Hin : Hid (InSeats n (finalSq l caps (k + 1)).out) := by
                  show InSeats _ _
                  rw [← Hcl.out]
                  exact final_in Hv.out (by rw [Hcl.out]; exact hmn)
                clear hcut
                have hmarks : ({ target := .collected D, args := #[] } : Deferred) :: marksOf Ds = marksOf (D :: Ds) := rfl
                rw [hmarks]
                clear hmarks
                by_cases hfull : (finalSq l caps (k + 1)).next = m
                · have hlen2 : (finalSq l caps (k + 1)).out.length = m := by rw [Hfl.out.1]; exact hfull
                  have hov := over_good (l := l) (caps := caps) (most := k + 1) (fun i hi => by have := hmach.2 i (by rw [Hcl.out] at hi; exact hi); omega) (by rw [Hl.out]; exact hfull)
                  rw [Hcl.out] at hov
                  have hwt : Hid (wrongT (overP caps (loadsP n (firsts (finalSq l caps (k + 1)).out)) (loadsP n (seconds (finalSq l caps (k + 1)).out))) = .tuple #[.int .i64 0, .bool false] ∧ goodB l caps (k + 1) = true ∨
                      (∃ q : Nat, wrongT (overP caps (loadsP n (firsts (finalSq l caps (k + 1)).out)) (loadsP n (seconds (finalSq l caps (k + 1)).out))) = .tuple #[.int .i64 (q : Int), .bool true]) ∧ goodB l caps (k + 1) = false) := by
                    cases ho : overP caps (loadsP n (firsts (finalSq l caps (k + 1)).out)) (loadsP n (seconds (finalSq l caps (k + 1)).out)) with
                    | none => rw [ho] at hov; exact .inl ⟨rfl, by simpa using hov⟩
                    | some q => rw [ho] at hov; exact .inr ⟨⟨q, rfl⟩, by simpa using hov⟩
                  have Hfull := Lib.hid hfull
                  clear hfull hov
                  rw [hlen2] at x0 h2 h1
                  have hrdS := h2.rd
                  have hcW2 := hcW.below hbW
                  have hlo := loads_any W ar m cap n _ hrdS (by omega) Hin.out hmach.1.1 hn
                  have Hlo := Lib.hid hlo
                  have H1 := Lib.hid h1
                  clear hlo h1 hlen2
                  rcases hwt.out with ⟨ew, eg⟩ | ⟨⟨q, ew⟩, eg⟩
                  · have Ew := Lib.hid ew
                    have E2 := Lib.hid (Hgood.out eg)
                    clear ew eg hwt
                    gi_wp2_with (first
                      | (gi_at_call 41; refine (callsIn_wide.2 Hlo.out).mono ?_; rintro e w5 ⟨B1, B2, rfl, hB12, hf1, hf2, hb5⟩; have hc5 := hcW2.below hb5)
                      | (gi_at_call 44; refine (callsIn_wide.2 (over_any _ _ _ _ n _ _ _ _ _ _ hc5 hf1.ints hf2.ints hn)).mono ?_; rintro e w' ⟨rfl, rfl⟩; rw [Ew.out]))
                    have x5 : w5.cell? ⟨wr.heap.size + 1, 0, none⟩ = some (.slice ar m cap) := (hb5.cell (p := ⟨wr.heap.size + 1, 0, none⟩) (by show wr.heap.size + 1 < _; omega)).trans x0
                    have hc5d : Ints w5.drew bo n caps := ⟨hc5.rd, hc5.len⟩
                    have hbo : bo.isSome = true := by
                      obtain ⟨g, off, e, _⟩ := hc5.at (show 0 < n by omega)
                      rw [e]; rfl
                    have hs5 := hb5.size
                    have hbk5 := (hb5.block _ (show w.heap.size < _ by omega)).trans ((hbW.block _ (show w.heap.size < _ by omega)).trans ((hb.block _ hlt1).trans Hres.out))
                    have hclone : Hid (∀ w6, Below w5.heap.size w5 w6 → w6.cell? ⟨wr.heap.size + 1, 0, none⟩ = some (.slice ar m cap) ∧ w6.heap[w.heap.size]? = some (.cells #[.slice none 0 0, .slice none 0 0, .slice none 0 0, .slice none 0 0] 36 (0, 0))) := fun w6 h6 =>
                      ⟨(h6.cell (p := ⟨wr.heap.size + 1, 0, none⟩) (by show wr.heap.size + 1 < _; omega)).trans x5, (h6.block _ (by omega)).trans hbk5⟩
                    have Hbk5 := Lib.hid hbk5
                    clear hbk5
                    refine wpIn_nrm ?_
                    gi_region_with (gi_at_call 42; refine (callsIn_wide.2 (clone_any _ bo n c1 caps hc5d hn hbo)).mono ?_; rintro e w6 ⟨ao6, cap6, rfl, hown6, hb6⟩; obtain ⟨x6, hbk6⟩ := hclone.out _ ⟨hb6.os, hb6.tape, hb6.output, hb6.size, hb6.block⟩; obtain ⟨z0, z1, z2, z3, z4, z5, z6, z7⟩ := four_at hbk6)
                    all_goals
                      unfold nrm
                      gi_wp2
                      have hb6' : Below w5.heap.size w5 w6 := ⟨hb6.os, hb6.tape, hb6.output, hb6.size, hb6.block⟩
                      have hs6 := hb6'.size
                      have hlw : w.heap.size < wr.heap.size := by omega
                      have hmk6 := ((hmk2.below hb5 hmk2.lt).below hb6' (fun D' hD' => by have := (hmk2.below hb5 hmk2.lt).lt D' hD'; omega)).set4 hbk6 (.slice ao6 n cap6) (.slice ar m cap) (.slice (some ⟨B1, 0, none⟩) n n) (.slice (some ⟨B2, 0, none⟩) n n)
                      have hset := set4_block hbk6 (.slice ao6 n cap6) (.slice ar m cap) (.slice (some ⟨B1, 0, none⟩) n n) (.slice (some ⟨B2, 0, none⟩) n n)
                      obtain ⟨y0, y1, y2, y3, _, _, _, _⟩ := four_at ((shut_cells hmk6 hset rfl).trans hset)
                      have o0 := (((hown6.mono (B' := wr.heap.size) (by show wr.heap.size ≤ w5.heap.size; omega)).set4 hlw (.slice ao6 n cap6) (.slice ar m cap) (.slice (some ⟨B1, 0, none⟩) n n) (.slice (some ⟨B2, 0, none⟩) n n)).shut hmk6).mono (B' := w.heap.size) (by omega)
                      have o1 := ((((h2.below hb5).below hb6').set4 hlw (.slice ao6 n cap6) (.slice ar m cap) (.slice (some ⟨B1, 0, none⟩) n n) (.slice (some ⟨B2, 0, none⟩) n n)).shut hmk6).mono (B' := w.heap.size) (by omega)
                      have o2 := ((((hf1.below hb6').mono (B' := wr.heap.size) (by omega)).set4 hlw (.slice ao6 n cap6) (.slice ar m cap) (.slice (some ⟨B1, 0, none⟩) n n) (.slice (some ⟨B2, 0, none⟩) n n)).shut hmk6).mono (B' := w.heap.size) (by omega)
                      have o3 := ((((hf2.below hb6').mono (B' := wr.heap.size) (by omega)).set4 hlw (.slice ao6 n cap6) (.slice ar m cap) (.slice (some ⟨B1, 0, none⟩) n n) (.slice (some ⟨B2, 0, none⟩) n n)).shut hmk6).mono (B' := w.heap.size) (by omega)
                      have hd : Dist 3 (pick3 ao6 (some ⟨B1, 0, none⟩) (some ⟨B2, 0, none⟩)) (pick3 cap6 n n) := by
                        refine dist3_of (fun g hg hg' => ?_) (fun g hg hg' => ?_) (fun g hg hg' => ?_)
                        · have a1 : w5.heap.size ≤ g := hown6.row g hg
                          have := hf1.sl.row_lt g hg'
                          omega
                        · have a1 : w5.heap.size ≤ g := hown6.row g hg
                          have := hf2.sl.row_lt g hg'
                          omega
                        · exact hB12 ((rowOf_new hg).symm.trans (rowOf_new hg'))
                      have hbs := shut_below (B := w.heap.size) _ _ (fun D' hD' => by have := hDs2 D' hD'; omega) hmk6 hnd2
                      have hbf := (below_set4 (Hb1.out.trans (((hb.trans (hbW.mono hsz1)).trans ((hb5.mono (by omega)).trans (hb6'.mono (by omega)))).mono (by omega))) (Nat.le_refl w.heap.size) (.slice ao6 n cap6) (.slice ar m cap) (.slice (some ⟨B1, 0, none⟩) n n) (.slice (some ⟨B2, 0, none⟩) n n)).trans hbs
                      refine leaves_marks (D :: Ds) _ hmk6 hnd2 ⟨.tuple #[.agg #[.slice ao6 n cap6, .slice ar m cap, .slice (some ⟨B1, 0, none⟩) n n, .slice (some ⟨B2, 0, none⟩) n n], .int .i64 0], ?_, ⟨_, by rw [E2.out], by
                        rw [E2.out]
                        refine ⟨_, _, _, _, _, _, _, _, _, _, _, _, rfl, o0, o1, ?_, ?_, hd⟩
                        · show OwnI _ _ _ _ _ (loadsP caps.length _)
                          rw [Hcl.out]; exact o2
                        · show OwnI _ _ _ _ _ (loadsP caps.length _)
                          rw [Hcl.out]; exact o3⟩, hbf⟩
                      simp [results, Tryz.results13, go_sem, y0, y1, y2, y3]
                  · have Ew := Lib.hid ew
                    have Htg2 := Lib.hid (Hbad.out eg)
                    clear ew eg hwt
                    gi_wp2_with (first
                      | (gi_at_call 41; refine (callsIn_wide.2 Hlo.out).mono ?_; rintro e w5 ⟨B1, B2, rfl, hB12, hf1, hf2, hb5⟩; have hc5 := hcW2.below hb5)
                      | (gi_at_call 44; refine (callsIn_wide.2 (over_any _ _ _ _ n _ _ _ _ _ _ hc5 hf1.ints hf2.ints hn)).mono ?_; rintro e w' ⟨rfl, rfl⟩; rw [Ew.out]))
                    exact ⟨Inv13.mk (most := k) (Ds := D :: Ds) rfl rfl rfl rfl rfl ⟨by omega, by omega, Htg2.out, (hb.trans (hbW.mono hsz1)).trans (hb5.mono (by omega)), hmk2.below hb5 hmk2.lt, hnd2, hDs2⟩, by simp [intOf] <;> omega⟩
                · have hlen2 : (finalSq l caps (k + 1)).out.length < m := by rw [Hfl.out.1]; have := Hfl.out.2; rw [Hl.out] at this; omega
                  have Htg2 := Lib.hid (Hbad.out (good_full (by rw [Hl.out]; exact hfull)))
                  have Hfull := Lib.hid hfull
                  clear hfull
                  generalize hq : (finalSq l caps (k + 1)).out.length = q at *
                  gi_wp2
                  exact ⟨Inv13.mk (most := k) (Ds := D :: Ds) rfl rfl rfl rfl rfl ⟨by omega, by omega, Htg2.out, hb.trans (hbW.mono hsz1), hmk2, hnd2, hDs2⟩, by simp [intOf] <;> omega⟩
              case stop =>
                rintro D c pre W _ _ h _
                exact h.elim
        · have E : Hid (makeP l caps = (281, noPlan)) := by show _ = _; unfold makeP; rw [if_neg (by rw [Hmc.out]; decide), if_neg (by rw [Hl.out]; exact hlen), if_pos es]
          have Ew := Lib.hid ew
          clear ew es hwr
          have hres := heap_alloc_new w (.cells #[.slice none 0 0, .slice none 0 0, .slice none 0 0, .slice none 0 0] 36)
          have hbk : Hid (∀ w1, Below (w.alloc (.cells #[.slice none 0 0, .slice none 0 0, .slice none 0 0, .slice none 0 0] 36)).heap.size (w.alloc (.cells #[.slice none 0 0, .slice none 0 0, .slice none 0 0, .slice none 0 0] 36)) w1 →
              w1.heap[w.heap.size]? = some (.cells #[.slice none 0 0, .slice none 0 0, .slice none 0 0, .slice none 0 0] 36 (0, 0))) := fun w1 hx => (hx.block _ (by simp)).trans hres
          have Hb0 := Lib.hid hb0
          clear hres hb0
          gi_wp2_with (first
            | (gi_at_call 39; refine (callsIn_wide.2 (machine_any _ _ _ _ _ hc1 hn)).mono ?_; rintro e w' ⟨rfl, rfl⟩; rw [Hmc.out])
            | (gi_at_call 40; refine (callsIn_wide.2 (wrong_any _ _ _ _ _ h1 hm)).mono ?_; rintro e w1 ⟨rfl, hb1⟩; rw [Ew.out]; obtain ⟨z0, z1, z2, z3, z4, z5, z6, z7⟩ := four_at (hbk.out _ hb1)))
          exact ⟨.tuple #[.agg #[.slice none 0 0, .slice none 0 0, .slice none 0 0, .slice none 0 0], .int .i64 281], by simp [results, Tryz.results13, go_sem, z0, z1, z2, z3], ⟨_, by rw [E.out], by rw [E.out]; exact OwnPlan.none _ _⟩, below_set4 (Hb0.out.trans (hb1.mono (by simp))) (Nat.le_refl _) _ _ _ _⟩
  · have hmc := Bool.eq_false_iff.2 hmc
    have E : Hid (makeP l caps = (280, noPlan)) := by show _ = _; unfold makeP; rw [if_pos hmc]
    have Hmc := Lib.hid hmc
    clear hmc
    gi_wp2_with (gi_at_call 39; refine (callsIn_wide.2 (machine_any _ _ _ _ _ hc1 hn)).mono ?_; rintro e w' ⟨rfl, rfl⟩; rw [Hmc.out])
    exact ⟨.tuple #[.agg #[.slice none 0 0, .slice none 0 0, .slice none 0 0, .slice none 0 0], .int .i64 280], by simp [results, Tryz.results13, go_sem], ⟨_, by rw [E.out], by rw [E.out]; exact OwnPlan.none _ _⟩, hb0⟩
end Go.Proofs.YtpfinkdpaomliaaGreat

