/-
  'Make' of the reference.
-/
import Derived.Test.YtpfinkdpaomliaaGreatMakeLaw
import Derived.Test.YtpfinkdpaomliaaGreatStep
namespace Go.Proofs.YtpfinkdpaomliaaGreat
open Go.RowKit

theorem zero_take (l : List Stop) (i : Nat) (hi : i < l.length) : zeroSeats (l.take (i + 1)) = zeroSeats (l.take i) ++ [((l.getD i stopD).1, (l.getD i stopD).2, 0, 0)] := by
  rw [take_snoc' l stopD i hi]
  unfold zeroSeats
  rw [List.map_append]
  rfl
def R11a (l : List Stop) (m : Nat) (w : World) (u6 u7 : Value) (wr : World) : Prop :=
  ∃ (i : Nat) (ao : Option Addr) (cap : Nat), i ≤ m ∧ u6 = .slice ao i cap ∧ u7 = .int .i64 i ∧ OwnSeats 65 w.heap.size wr ao i cap (zeroSeats (l.take i)) ∧ Below w.heap.size w wr

def R11b (l : List Stop) (caps : List Int) (n : Nat) (w : World) (u8 : Value) (wr : World) : Prop :=
  ∃ most : Nat, most ≤ n ∧ u8 = .int .i64 most ∧ bestP l caps (cutM l most) = bestP l caps (startM l caps) ∧ Below w.heap.size w wr
def R11c (l : List Stop) (caps : List Int) (most n : Nat) (w : World) (u12 u13 : Value) (wr : World) : Prop :=
  ∃ j : Nat, j ≤ n ∧ u13 = .int .i64 j ∧ u12 = .bool (fitsTo l caps most j) ∧ Below w.heap.size w wr

/-- The reference's plan: lists of the call's own. -/
def RefPlan (B : Nat) (w : World) (v : Value) (p : PlanP) : Prop := ∃ a0 n0 c0 a1 n1 c1 a2 n2 c2 a3 n3 c3, v = .agg #[.slice a0 n0 c0, .slice a1 n1 c1, .slice a2 n2 c2, .slice a3 n3 c3] ∧
  OwnI B w a0 n0 c0 p.caps ∧ OwnSeats 65 B w a1 n1 c1 p.seats ∧ OwnI B w a2 n2 c2 p.first ∧ OwnI B w a3 n3 c3 p.second
theorem RefPlan.none (B : Nat) (w : World) : RefPlan B w (.agg #[.slice none 0 0, .slice none 0 0, .slice none 0 0, .slice none 0 0]) noPlan :=
  ⟨_, _, _, _, _, _, _, _, _, _, _, _, rfl, OwnI.nil _ _ _, OwnL.nil _ _ _ _, OwnI.nil _ _ _, OwnI.nil _ _ _⟩
def RefO (B : Nat) (w : World) (e : Ending) (r : Int × PlanP) : Prop := ∃ v, e = .returned (.tuple #[v, .int .i64 r.1]) ∧ RefPlan B w v r.2

set_option maxRecDepth 1000000 in
set_option maxHeartbeats 2000000 in
theorem refMake_any (w : World) (ao bo : Option Addr) (m c n c1 : Nat) (l : List Stop) (caps : List Int) (h : Stops w ao m l) (hc : Ints w bo n caps) (hm : m ≤ 1048576) (hn : n ≤ 1048576) :
    Calls Tryz.prog 11 #[.slice ao m c, .slice bo n c1] w fun e w' => RefO w.heap.size w' e (makeP l caps) ∧ Below w.heap.size w w' := by
  have Hl := Lib.hid h.len
  have Hcl := Lib.hid hc.len
  by_cases hmc : machineP caps = true
  · have Hmc := Lib.hid hmc
    have hmach := machine_caps hmc
    rw [Hcl.out] at hmach
    clear hmc
    have hb0 : Below w.heap.size w (w.alloc (.cells #[.slice none 0 0, .slice none 0 0, .slice none 0 0, .slice none 0 0] 29)) := (Below.refl _ _).alloc (Nat.le_refl _) _
    have hc1 := hc.below hb0
    by_cases hlen : 1000 < m
    · have E : Hid (makeP l caps = (5, noPlan)) := by show _ = _; unfold makeP; rw [if_neg (by rw [Hmc.out]; decide), if_pos (by rw [Hl.out]; exact hlen)]
      go_enter Tryz.func11, Tryz.ntmps11
      go_wp2_with (go_at_call 35; refine (refMachine_any _ _ _ _ _ hc1 hn).mono ?_; rintro e w' ⟨rfl, rfl⟩; rw [Hmc.out])
      exact bodyPost_ret (v := .tuple #[.agg #[.slice none 0 0, .slice none 0 0, .slice none 0 0, .slice none 0 0], .int .i64 5]) (by simp [results, Tryz.results11, go_sem]) rfl ⟨⟨_, by rw [E.out], by rw [E.out]; exact RefPlan.none _ _⟩, hb0⟩
    · obtain ⟨j0, hj0, hy0, hy1, hy2⟩ := info_parts infoI
      obtain ⟨i0, hi0, hz0, hz1, hz2⟩ := info_parts (show (Tryz.prog.info? 65).map (fun i => (i.zero, i.size, i.bytes)) = some (some (.agg #[.int .i64 0, .int .i64 0, .int .i64 0, .int .i64 0]), 4, 32) by kernel_rfl)
      go_enter Tryz.func11, Tryz.ntmps11
      go_wp2_with (go_at_call 35; refine (refMachine_any _ _ _ _ _ hc1 hn).mono ?_; rintro e w' ⟨rfl, rfl⟩; rw [Hmc.out])
      have hres := heap_alloc_new w (.cells #[.slice none 0 0, .slice none 0 0, .slice none 0 0, .slice none 0 0] 29)
      have hsz0 : (w.alloc (.cells #[.slice none 0 0, .slice none 0 0, .slice none 0 0, .slice none 0 0] 29)).heap.size = w.heap.size + 1 := by simp
      have h1 := h.below hb0
      generalize w.alloc (.cells #[.slice none 0 0, .slice none 0 0, .slice none 0 0, .slice none 0 0] 29) = w0 at *
      have Hres := Lib.hid hres
      clear hres
      have Hsz0 := Lib.hid hsz0
      clear hsz0
      have Hb0 := Lib.hid hb0
      clear hb0
      go_loopw [6, 7] (R11a l m w0) (fun _ u7 _ => m - (intOf u7).toNat)
      case atStart => exact ⟨0, none, 0, Nat.zero_le _, rfl, rfl, OwnL.nil _ _ _ _, Below.refl _ _⟩
      case round =>
        obtain ⟨i, ao1, cap1, hi, rfl, rfl, hown, hb⟩ := hrel
        by_cases hlt : i < m
        · obtain ⟨g, off, rfl, hg, hc0, hc1⟩ := Stops.at h1 hlt
          have e0 : wr.cell? ⟨g, off + i * 2, none⟩ = some (.int .i64 (l.getD i stopD).1) := (hb.cell (p := ⟨g, off + i * 2, none⟩) hg).trans hc0
          have e1 : wr.cell? ⟨g, off + i * 2 + 1, none⟩ = some (.int .i64 (l.getD i stopD).2) := (hb.cell (p := ⟨g, off + i * 2 + 1, none⟩) hg).trans hc1
          have Hz := Lib.hid (zero_take l i (by rw [Hl.out]; exact hlt))
          clear hc0 hc1
          generalize (l.getD i stopD).1 = x0 at *
          generalize (l.getD i stopD).2 = x1 at *
          go_wp2_with fail
          have hsz := hb.size
          have hfar : Hid (∀ ao2 n2 cap2 f w2, Appended (wr.alloc (.cells #[.int .i64 x0, .int .i64 x1, .int .i64 0, .int .i64 0] 65)).drew w2 65 4 ao1 i cap1 ao2 n2 cap2 f →
              w2.cell? ⟨g, off + i * 2, none⟩ = some (.int .i64 x0) ∧ w2.cell? ⟨g, off + i * 2 + 1, none⟩ = some (.int .i64 x1)) := by
            intro ao2 n2 cap2 f w2 ha
            have e0' : (wr.alloc (.cells #[.int .i64 x0, .int .i64 x1, .int .i64 0, .int .i64 0] 65)).drew.cell? ⟨g, off + i * 2, none⟩ = some (.int .i64 x0) := (((Below.refl wr.heap.size wr).alloc (Nat.le_refl _) _).drew.cell (p := ⟨g, off + i * 2, none⟩) (by show g < _; omega)).trans e0
            have e1' : (wr.alloc (.cells #[.int .i64 x0, .int .i64 x1, .int .i64 0, .int .i64 0] 65)).drew.cell? ⟨g, off + i * 2 + 1, none⟩ = some (.int .i64 x1) := (((Below.refl wr.heap.size wr).alloc (Nat.le_refl _) _).drew.cell (p := ⟨g, off + i * 2 + 1, none⟩) (by show g < _; omega)).trans e1
            exact ⟨(ha.cell_far (B := w0.heap.size) (by simp; omega) hg hown.row).trans e0', (ha.cell_far (B := w0.heap.size) (by simp; omega) hg hown.row).trans e1'⟩
          have Hnews : Hid (∀ j u, (seatC (x0, x1, 0, 0))[j]? = some u → (wr.alloc (.cells #[.int .i64 x0, .int .i64 x1, .int .i64 0, .int .i64 0] 65)).drew.cell? ((⟨wr.heap.size, 0, none⟩ : Addr).add j) = some u) := news_at wr (seatC (x0, x1, 0, 0)) 65 _ rfl
          have Hsl := Lib.hid ((hown.sl.alloc (.cells #[.int .i64 x0, .int .i64 x1, .int .i64 0, .int .i64 0] 65)).drew)
          go_region_held3 (fun w' => w'.cell? ⟨g, off + i * 2, none⟩ = some (.int .i64 x0) ∧ w'.cell? ⟨g, off + i * 2 + 1, none⟩ = some (.int .i64 x1)) (first | go_keep | exact hS)
            ((refine step_append_sl (by rfl) _ _ 27 (by rfl) 65 i0 _ 4 32 Tryz.underlying27 hi0 hz0 hz1 hz2 rfl (by rfl) Hsl.out ⟨wr.heap.size, 0, none⟩ 1 1 (seatC (x0, x1, 0, 0)) (by rfl) (by rfl) Hnews.out (seatE.one _) (by unfold maxLen; omega) (by omega) ?_; intro ao2 cap2 w2 ha; have hS := hfar.out _ _ _ _ _ ha))
          have hown2 : OwnSeats 65 w0.heap.size w2 ao2 (i + 1) cap2 (zeroSeats (l.take (i + 1))) := by
            rw [Hz.out]
            exact ownL_app seatE (OwnL.drew (hown.alloc _)) (by simp; omega) (x0, x1, 0, 0) rfl rfl (by simpa using ha)
          have hb2 : Below w0.heap.size w0 w2 := ((hb.alloc hsz (.cells #[.int .i64 x0, .int .i64 x1, .int .i64 0, .int .i64 0] 65)).drew).grown ha.grown (by simp; omega) hown.row
          clear ha hS hfar Hnews Hsl hown hb
          go_wp2_with fail
          go_roundw
          case rel => exact ⟨i + 1, ao2, cap2, hlt, rfl, by go_num, hown2, hb2⟩
          case measure => simp [intOf] <;> omega
        · obtain rfl : i = m := by omega
          have Et : Hid (l.take i = l) := List.take_of_length_le (by rw [Hl.out]; exact Nat.le_refl _)
          rw [Et.out] at hown
          have Ht := Lib.hid (stopsOf_zero l)
          have hrd := hown.rd
          have hsz := hb.size
          have hwr : Hid (wrongI (wrongP l) = -1 ∧ wrongP l = none ∨ (∃ k : Nat, k ≤ 1048576 ∧ wrongI (wrongP l) = (k : Int)) ∧ (wrongP l).isSome = true) := by
            cases hw : wrongP l with
            | none => exact .inl ⟨rfl, rfl⟩
            | some k =>
              refine .inr ⟨⟨k, ?_, rfl⟩, rfl⟩
              have := List.mem_of_find?_eq_some hw
              rw [List.mem_range, Hl.out] at this
              omega
          rcases hwr.out with ⟨ew, en⟩ | ⟨⟨k, hk, ew⟩, es⟩
          · have E : Hid (makeP l caps = pickP caps (bestP l caps (startM l caps))) := by
              show _ = _
              unfold makeP
              rw [if_neg (by rw [Hmc.out]; decide), if_neg (by rw [Hl.out]; exact hlen), if_neg (by rw [en]; decide)]
            have Hv := Lib.hid (wrong_vols en)
            have Ew := Lib.hid ew
            clear ew en hwr
            go_wp2_with (go_at_call 36; refine (refWrong_any _ _ _ _ _ hrd (by omega)).mono ?_; rintro e w1 ⟨rfl, hbw⟩; rw [Ht.out, Ew.out])
            have hbk : w1.heap[w.heap.size]? = some (.cells #[.slice none 0 0, .slice none 0 0, .slice none 0 0, .slice none 0 0] 29 (0, 0)) := (hbw.block _ (by rw [Hsz0.out] at hsz; omega)).trans ((hb.block _ (by rw [Hsz0.out]; omega)).trans Hres.out)
            have Hbk := Lib.hid hbk
            clear hbk
            have hrd1 := hrd.below hbw
            have hc2 := (hc1.below hb).below hbw
            have Hfin := Lib.hid (Hb0.out.trans ((hb.trans (hbw.mono hsz)).mono (show w.heap.size ≤ _ by rw [Hsz0.out]; omega)))
            have hlt1 : w.heap.size < w1.heap.size := by have := hbw.size; rw [Hsz0.out] at hsz; omega
            clear hown hrd hb hbw Hb0 h1 hc1
            go_loopw [8] (R11b l caps n w1) (fun u8 _ => (intOf u8).toNat)
            case atStart => exact ⟨n, Nat.le_refl _, rfl, by rw [← Hcl.out, cut_start], Below.refl _ _⟩
            case round =>
              obtain ⟨most, hmost, rfl, htg, hb⟩ := hrel
              have Htg := Lib.hid htg
              clear htg
              have hsz1 := hb.size
              cases most with
              | zero =>
                have E2 : Hid (makeP l caps = (4, noPlan)) := by
                  show _ = _
                  rw [E.out, ← Htg.out, show cutM l 0 = 0 by unfold cutM; split <;> omega]
                  rfl
                obtain ⟨z0, z1, z2, z3, z4, z5, z6, z7⟩ := four_at ((hb.block _ hlt1).trans Hbk.out)
                go_wp2_with fail
                exact bodyPost_ret (v := .tuple #[.agg #[.slice none 0 0, .slice none 0 0, .slice none 0 0, .slice none 0 0], .int .i64 4]) (by simp [results, Tryz.results11, go_sem, z0, z1, z2, z3]) rfl ⟨⟨_, by rw [E2.out], by rw [E2.out]; exact RefPlan.none _ _⟩, below_set4 (Hfin.out.trans (hb.mono (by omega))) (Nat.le_refl _) _ _ _ _⟩
              | succ k =>
                by_cases hsk : i < k + 1 ∧ 0 < i
                · have Htg2 : Hid (bestP l caps (cutM l k) = bestP l caps (startM l caps)) := by
                    show _ = _
                    rw [← Htg.out, cut_skip (by rw [Hl.out]; exact hsk.1) (by rw [Hl.out]; exact hsk.2)]
                  obtain ⟨hs1, hs2⟩ := hsk
                  go_wp2_with fail
                  go_roundw
                  case rel => exact ⟨k, by omega, by go_num, Htg2.out, hb⟩
                  case measure => simp [intOf] <;> omega
                · have hcut := cut_here (l := l) (k := k) (by rw [Hl.out]; exact hsk)
                  have Hgood : Hid (goodB l caps (k + 1) = true → makeP l caps = (0, planOf caps (finalSq l caps (k + 1)).out)) := by
                    intro hg
                    rw [E.out, ← Htg.out, hcut.1, best_yes hg]
                    rfl
                  have Hbad : Hid (goodB l caps (k + 1) = false → bestP l caps (cutM l k) = bestP l caps (startM l caps)) := by
                    intro hg
                    rw [← Htg.out, hcut.1, hcut.2, best_no hg]
                  clear hcut
                  have hcW := hc2.below hb
                  have hrW := hrd1.below hb
                  have hsk2 : (¬ i < k + 1) ∨ (i < k + 1 ∧ ¬ 0 < i) := by omega
                  have Hin : Hid (InSeats n (finalSq l caps (k + 1)).out) := by
                    show InSeats _ _
                    rw [← Hcl.out]
                    exact final_in Hv.out (by rw [Hcl.out]; exact hmost)
                  have Hfl := Lib.hid (final_len (caps := caps) (most := k + 1) Hv.out)
                  have hrule := rule_any wr ao1 bo i cap1 n c1 (k + 1) l caps hrW hcW Hv.out (by omega) hn (by omega) (fun j hj => by have := hmach.2 j hj; omega)
                  rw [show ((k + 1 : Nat) : Int) = (k : Int) + 1 from by omega] at hrule
                  have Hrule := Lib.hid hrule
                  clear hrule
                  by_cases hfull : (finalSq l caps (k + 1)).next = i
                  · have Hd : Hid (decide ((finalSq l caps (k + 1)).next = i) = true) := decide_eq_true hfull
                    have Hgf : Hid (goodB l caps (k + 1) = fitsTo l caps (k + 1) n) := by
                      show _ = _
                      rw [good_fits (by rw [Hl.out]; exact hfull), Hcl.out]
                    have Hfull := Lib.hid hfull
                    clear hfull
                    rcases hsk2 with q1 | ⟨q1, q2⟩
                    all_goals
                      go_wp2_with (first
                        | (go_at_call 37; refine Hrule.out.mono ?_; rintro e w2 ⟨ao2, cap2, zs, rfl, hz, hzf, hbw2⟩; rw [Hd.out]; obtain rfl := hzf Hfull.out; clear hzf; have hcX := hcW.below (hbw2.alloc hbw2.size (.cells #[] 3)))
                        | (at_builtin; refine wpList_append_of _ rfl (.tmp 70) (.tmp 71) 23 23 rfl 3 j0 _ 1 8 Tryz.underlying23 hj0 hy0 hy1 hy2 rfl rfl (Sl.nil _ _ _ _ (intF [])) (.slice bo n c1) rfl n (caps.map (Value.int .i64)) (ints_src Tryz.underlying23 hcX c1) (by unfold maxLen; omega) (by omega) ?_; intro ao3 cap3 w3 ha3; go_loud (obtain ⟨hown3, hb3⟩ := ownI_clone ha3 (Nat.zero_add n) Hcl.out (fun j hj => by simp)); go_loud (have hz3 := hz.below hb3); clear ha3)
                        | (go_at_call 38; (with_reducible refine (refLoads_first w3 ao2 i cap2 n _ hz3.rd (by omega) Hin.out (by omega) hn).mono ?_); rintro e w4 ⟨B1, rfl, hf1, hb4⟩; have hz4 := hz3.below hb4)
                        | (go_at_call 38; (with_reducible refine (refLoads_second w4 ao2 i cap2 n _ hz4.rd (by omega) Hin.out (by omega) hn).mono ?_); rintro e w5 ⟨B2, rfl, hf2, hb5⟩))
                      have hf1' := hf1.below hb5
                      have hf2' := hf2
                      have ho3 := (hown3.below hb4).below hb5
                      have hz5 := hz4.below hb5
                      have hp6 := heap_alloc_new w5 (.cells #[.slice ao3 n cap3, .slice ao2 i cap2, .slice (some ⟨B1, 0, none⟩) n n, .slice (some ⟨B2, 0, none⟩) n n] 29)
                      have hb56 : Below w5.heap.size w5 (w5.alloc (.cells #[.slice ao3 n cap3, .slice ao2 i cap2, .slice (some ⟨B1, 0, none⟩) n n, .slice (some ⟨B2, 0, none⟩) n n] 29)) := (Below.refl _ _).alloc (Nat.le_refl _) _
                      have hs2 := hbw2.size
                      have hs3 := hb3.size
                      have hs4 := hb4.size
                      have hs5 := hb5.size
                      have hb25 := ((hbw2.trans (hb3.mono hs2)).trans (hb4.mono (by omega))).trans (hb5.mono (show wr.heap.size ≤ _ by omega))
                      have hb26 := hb25.trans (hb56.mono (by omega))
                      have hlt6 : w5.heap.size < (w5.alloc (.cells #[.slice ao3 n cap3, .slice ao2 i cap2, .slice (some ⟨B1, 0, none⟩) n n, .slice (some ⟨B2, 0, none⟩) n n] 29)).heap.size := by simp
                      have hf1'' := (hf1'.below hb56).mono (show wr.heap.size ≤ _ by omega)
                      have hf2'' := (hf2'.below hb56).mono (show wr.heap.size ≤ _ by omega)
                      have ho3'' := (ho3.below hb56).mono (show wr.heap.size ≤ _ by omega)
                      have hz5'' := hz5.below hb56
                      have hc6 := hcW.below hb26
                      obtain ⟨wo, rfl⟩ : ∃ wo : World, wo = wr := ⟨_, rfl⟩
                      generalize w5.alloc (.cells #[.slice ao3 n cap3, .slice ao2 i cap2, .slice (some ⟨B1, 0, none⟩) n n, .slice (some ⟨B2, 0, none⟩) n n] 29) = w6 at *
                      generalize w5.heap.size = bp at *
                      have Hp6 := Lib.hid hp6
                      clear hp6 hz hz3 hz4 hz5 hown3 hf1 hf2 hf1' hf2' ho3 hb25 hb56 hb5 hb4 hb3 hbw2 hcX hs2 hs3 hs4 hs5
                      have hfr1 : ∀ a, (intF (loadsP n (firsts (finalSq l caps (k + 1)).out)) a) = .int .i64 ((loadsP n (firsts (finalSq l caps (k + 1)).out)).getD a 0) := fun a => rfl
                      have Hfr1 := Lib.hid hfr1
                      clear hfr1
                      go_loopw [12, 13] (R11c l caps (k + 1) n w6) (fun _ u13 _ => n - (intOf u13).toNat)
                      case atStart => exact ⟨0, Nat.zero_le _, rfl, rfl, Below.refl _ _⟩
                      case round =>
                        obtain ⟨j, hj, rfl, rfl, hb7⟩ := hrel
                        have hs7 := hb7.size
                        obtain ⟨z0, z1, z2, z3, _, _, _, _⟩ := four_at ((hb7.block _ hlt6).trans Hp6.out)
                        by_cases hjn : j < n
                        · obtain ⟨b0, o0, rfl, hb0, hcc⟩ := hc6.at hjn
                          have e1 : wr.cell? ⟨b0, o0 + j, none⟩ = some (.int .i64 (capAt caps j)) := (hb7.cell (p := ⟨b0, o0 + j, none⟩) hb0).trans hcc
                          have e2 : wr.cell? ⟨B1, j, none⟩ = some (.int .i64 (sumAt (firsts (finalSq l caps (k + 1)).out) (j : Int))) := by
                            have h9 := (hf1''.below hb7).sl.cell (i := j) (by omega)
                            rw [Hfr1.out, loadsP_at _ _ hjn] at h9
                            exact h9
                          have Hn := Lib.hid (fits_next l caps (k + 1) j)
                          clear hcc
                          generalize capAt caps j = x at *
                          generalize sumAt (firsts (finalSq l caps (k + 1)).out) (j : Int) = y at *
                          generalize fitsTo l caps (k + 1) j = t at *
                          have hj0 : (0 : Int) ≤ (j : Int) := by omega
                          have hj1 : (j : Int) < (n : Int) := by omega
                          cases t with
                          | true =>
                            by_cases hxy : y ≤ x
                            · have Hn2 : Hid (fitsTo l caps (k + 1) (j + 1) = true) := by show _ = _; rw [Hn.out]; simp [hxy]
                              go_wp2_with fail
                              go_quiet (fail)
                              go_wp2_with fail
                              go_roundw
                              case rel => exact ⟨j + 1, hjn, by go_num, by rw [Hn2.out]; try simp [hxy], below_drewN hb7 _⟩
                              case measure => simp [intOf] <;> omega
                            · have Hn2 : Hid (fitsTo l caps (k + 1) (j + 1) = false) := by show _ = _; rw [Hn.out]; simp [hxy]
                              go_wp2_with fail
                              go_quiet (fail)
                              go_wp2_with fail
                              go_roundw
                              case rel => exact ⟨j + 1, hjn, by go_num, by rw [Hn2.out]; try simp [hxy], below_drewN hb7 _⟩
                              case measure => simp [intOf] <;> omega
                          | false =>
                            have Hn2 : Hid (fitsTo l caps (k + 1) (j + 1) = false) := by show _ = _; rw [Hn.out]; simp
                            go_wp2_with fail
                            go_quiet (fail)
                            go_wp2_with fail
                            go_roundw
                            case rel => exact ⟨j + 1, hjn, by go_num, by rw [Hn2.out]; try simp [hxy], below_drewN hb7 _⟩
                            case measure => simp [intOf] <;> omega
                        · obtain rfl : j = n := by omega
                          generalize hfit : fitsTo l caps (k + 1) j = t
                          cases t with
                          | true =>
                            have E2 := Lib.hid (Hgood.out (Hgf.out.trans hfit))
                            have Hfit := Lib.hid hfit
                            clear hfit
                            obtain ⟨y0, y1, y2, y3, y4, y5, y6, y7⟩ := four_at ((hb7.block _ (show w.heap.size < _ by have := hb26.size; omega)).trans ((hb26.block _ (show w.heap.size < _ by omega)).trans ((hb.block _ hlt1).trans Hbk.out)))
                            have Hr : Hid (∀ v0 v1 v2 v3, RefPlan w.heap.size ((((wr.setCell ⟨w.heap.size, 0, none⟩ v0).setCell ⟨w.heap.size, 1, none⟩ v1).setCell ⟨w.heap.size, 2, none⟩ v2).setCell ⟨w.heap.size, 3, none⟩ v3)
                                (.agg #[.slice ao3 j cap3, .slice ao2 i cap2, .slice (some ⟨B1, 0, none⟩) j j, .slice (some ⟨B2, 0, none⟩) j j]) (planOf caps (finalSq l caps (k + 1)).out)) := by
                              intro v0 v1 v2 v3
                              have hlw : w.heap.size < wo.heap.size := by omega
                              refine ⟨_, _, _, _, _, _, _, _, _, _, _, _, rfl, ((ho3''.below hb7).set4 hlw _ _ _ _).mono (by omega), ((hz5''.below hb7).set4 hlw _ _ _ _).mono (by omega), ?_, ?_⟩
                              · have := ((hf1''.below hb7).set4 hlw v0 v1 v2 v3).mono (B' := w.heap.size) (by omega)
                                rw [← Hcl.out] at this ⊢
                                exact this
                              · have := ((hf2''.below hb7).set4 hlw v0 v1 v2 v3).mono (B' := w.heap.size) (by omega)
                                rw [← Hcl.out] at this ⊢
                                exact this
                            go_wp2_with fail
                            exact bodyPost_ret (v := .tuple #[.agg #[.slice ao3 j cap3, .slice ao2 i cap2, .slice (some ⟨B1, 0, none⟩) j j, .slice (some ⟨B2, 0, none⟩) j j], .int .i64 0]) (by simp [results, Tryz.results11, go_sem, y0, y1, y2, y3]) rfl ⟨⟨_, by rw [E2.out], by rw [E2.out]; exact Hr.out _ _ _ _⟩, below_set4 (Hfin.out.trans ((hb.trans ((hb26.trans (hb7.mono hb26.size)).mono hsz1)).mono (by omega))) (Nat.le_refl _) _ _ _ _⟩
                          | false =>
                            have Htg2 := Lib.hid (Hbad.out (Hgf.out.trans hfit))
                            have Hfit := Lib.hid hfit
                            clear hfit
                            go_wp2_with fail
                            go_roundw
                            case rel => exact ⟨k, by omega, by go_num, Htg2.out, hb.trans ((hb26.trans (hb7.mono hb26.size)).mono hsz1)⟩
                            case measure => simp [intOf] <;> omega
                  · have Hd : Hid (decide ((finalSq l caps (k + 1)).next = i) = false) := decide_eq_false hfull
                    have Htg2 := Lib.hid (Hbad.out (good_full (by rw [Hl.out]; exact hfull)))
                    have Hfull := Lib.hid hfull
                    clear hfull
                    rcases hsk2 with q1 | ⟨q1, q2⟩
                    all_goals
                      go_wp2_with (go_at_call 37; refine Hrule.out.mono ?_; rintro e w2 ⟨ao2, cap2, zs, rfl, hz, hzf, hbw2⟩; rw [Hd.out]; clear hzf)
                      go_roundw
                      case rel => exact ⟨k, by omega, by go_num, Htg2.out, hb.trans (hbw2.mono hsz1)⟩
                      case measure => simp [intOf] <;> omega
          · have E : Hid (makeP l caps = (281, noPlan)) := by show _ = _; unfold makeP; rw [if_neg (by rw [Hmc.out]; decide), if_neg (by rw [Hl.out]; exact hlen), if_pos es]
            have Ew := Lib.hid ew
            clear ew es hwr
            have hbk : Hid (∀ w', Below wr.heap.size wr w' → w'.heap[w.heap.size]? = some (.cells #[.slice none 0 0, .slice none 0 0, .slice none 0 0, .slice none 0 0] 29 (0, 0))) := fun w' hx =>
              (hx.block _ (by rw [Hsz0.out] at hsz; omega)).trans ((hb.block _ (by rw [Hsz0.out]; omega)).trans Hres.out)
            have Hfin : Hid (∀ w', Below wr.heap.size wr w' → Below w.heap.size w w') := fun w' hx => Hb0.out.trans ((hb.trans (hx.mono hsz)).mono (by rw [Hsz0.out]; omega))
            go_wp2_with (go_at_call 36; refine (refWrong_any _ _ _ _ _ hrd (by omega)).mono ?_; rintro e w' ⟨rfl, hbw⟩; rw [Ht.out, Ew.out]; obtain ⟨z0, z1, z2, z3, z4, z5, z6, z7⟩ := four_at (hbk.out _ hbw))
            exact bodyPost_ret (v := .tuple #[.agg #[.slice none 0 0, .slice none 0 0, .slice none 0 0, .slice none 0 0], .int .i64 281]) (by simp [results, Tryz.results11, go_sem, z0, z1, z2, z3]) rfl ⟨⟨_, by rw [E.out], by rw [E.out]; exact RefPlan.none _ _⟩, below_set4 (Hfin.out _ hbw) (Nat.le_refl _) _ _ _ _⟩
  · have hmc := Bool.eq_false_iff.2 hmc
    have E : Hid (makeP l caps = (280, noPlan)) := by show _ = _; unfold makeP; rw [if_pos hmc]
    have hb : Below w.heap.size w (w.alloc (.cells #[.slice none 0 0, .slice none 0 0, .slice none 0 0, .slice none 0 0] 29)) := (Below.refl _ _).alloc (Nat.le_refl _) _
    have hc1 := hc.below hb
    have Hmc := Lib.hid hmc
    clear hmc
    go_enter Tryz.func11, Tryz.ntmps11
    go_wp2_with (go_at_call 35; refine (refMachine_any _ _ _ _ _ hc1 hn).mono ?_; rintro e w' ⟨rfl, rfl⟩; rw [Hmc.out])
    exact bodyPost_ret (v := .tuple #[.agg #[.slice none 0 0, .slice none 0 0, .slice none 0 0, .slice none 0 0], .int .i64 280]) (by simp [results, Tryz.results11, go_sem]) rfl ⟨⟨_, by rw [E.out], by rw [E.out]; exact RefPlan.none _ _⟩, hb⟩
end Go.Proofs.YtpfinkdpaomliaaGreat
