/-
  'Check' of the package.
-/
import Derived.Test.YtpfinkdpaomliaaGreatCheckLaw
namespace Go.Proofs.YtpfinkdpaomliaaGreat
open Go.RowKit

theorem wrongT_none : wrongT none = .tuple #[.int .i64 0, .bool false] := rfl
theorem wrongT_some (i : Nat) : wrongT (some i) = .tuple #[.int .i64 (i : Int), .bool true] := rfl
def R33a (l : List Seat) (m B : Nat) (w0 : World) (u4 u31 : Value) (wr : World) : Prop :=
  ∃ (i : Nat) (ao : Option Addr) (cap : Nat), i ≤ m ∧ u4 = .slice ao i cap ∧ u31 = .int .i64 i ∧ OwnStops 43 B wr ao i cap (stopsOf (l.take i)) ∧ Below B w0 wr
def R33b (p : PlanP) (l1 l2 : List Int) (n : Nat) (w0 : World) (u86 : Value) (wr : World) : Prop :=
  ∃ i : Nat, i ≤ n ∧ u86 = .int .i64 i ∧ (∀ j, j < i → difAt p.first p.second l1 l2 j = false) ∧ Below w0.heap.size w0 wr

set_option maxRecDepth 1000000 in
set_option maxHeartbeats 4000000 in
theorem check_any (w : World) (a0 a1 a2 a3 : Option Addr) (n c0 m c1 n2 c2 n3 c3 : Nat) (p : PlanP) (hc : Ints w a0 n p.caps) (h : Seats w a1 m p.seats) (hf : Ints w a2 n2 p.first) (hg : Ints w a3 n3 p.second)
    (hn : n ≤ 1048576) (hm : m ≤ 1048576) (hn2 : n2 ≤ 1048576) (hn3 : n3 ≤ 1048576) :
    Calls Tryz.prog 33 #[.agg #[.slice a0 n c0, .slice a1 m c1, .slice a2 n2 c2, .slice a3 n3 c3]] w fun e w' => e = .returned (.tuple #[.int .i64 (checkP p).1, .int .i64 (checkP p).2]) ∧ Below w.heap.size w w' := by
  have Hl := Lib.hid h.len
  have Hcl := Lib.hid hc.len
  have Hfl := Lib.hid hf.len
  have Hgl := Lib.hid hg.len
  have hb0 : Below w.heap.size w (w.alloc (.cells #[.slice a0 n c0, .slice a1 m c1, .slice a2 n2 c2, .slice a3 n3 c3] 36)) := (Below.refl _ _).alloc (Nat.le_refl _) _
  have hpl := four_at (heap_alloc_new w (.cells #[.slice a0 n c0, .slice a1 m c1, .slice a2 n2 c2, .slice a3 n3 c3] 36))
  have hc1 := hc.below hb0
  have h1 := h.below hb0
  have hf1 := hf.below hb0
  have hg1 := hg.below hb0
  have Hpl := Lib.hid hpl
  have Hb0 := Lib.hid hb0
  have hsz0 : (w.alloc (.cells #[.slice a0 n c0, .slice a1 m c1, .slice a2 n2 c2, .slice a3 n3 c3] 36)).heap.size = w.heap.size + 1 := by simp
  have Hsz0 := Lib.hid hsz0
  clear hpl hb0 hsz0
  by_cases hmc : machineP p.caps = true
  · have Hmc := Lib.hid hmc
    have hmach := machine_caps hmc
    rw [Hcl.out] at hmach
    clear hmc
    by_cases hlen : 1000 < m
    · have E : Hid (checkP p = (0, 5)) := by show _ = _; unfold checkP; rw [if_neg (by rw [Hmc.out]; decide), if_pos (by rw [Hl.out]; exact hlen)]
      go_enter Tryz.func33, Tryz.ntmps33
      go_wp2_with (go_at_call 39; refine (machine_any _ _ _ _ _ hc1 hn).mono ?_; rintro e w' ⟨rfl, rfl⟩; rw [Hmc.out])
      go_ret2
      exact ⟨by rw [E.out]; rfl, Hb0.out⟩
    · have E : Hid (checkP p = chk2 p n) := by
        show _ = _
        unfold checkP
        rw [if_neg (by rw [Hmc.out]; decide), if_neg (by rw [Hl.out]; exact hlen), Hcl.out]
      obtain ⟨i0, hi0, hz0, hz1, hz2⟩ := info_parts (show (Tryz.prog.info? 43).map (fun i => (i.zero, i.size, i.bytes)) = some (some (.agg #[.int .i64 0, .int .i64 0]), 2, 16) by kernel_rfl)
      have hmk : ∀ w : World, (Instr.makeSlice 22 (.int .i64 0) (.int .i64 (m : Int))).run Tryz.prog w = .ok (.slice (some ⟨w.heap.size, 0, none⟩) 0 m) (w.alloc (.cells (madeCells #[.int .i64 0, .int .i64 0] (m * 2)) 43)) := fun w => by
        have hr := run_make (P := Tryz.prog) w 22 43 i0 _ Tryz.underlying22 hi0 hz0 .i64 .i64 0 (m : Int) (by omega) (by omega) (by rw [hz2]; omega) (by omega)
        rw [hz1] at hr
        simpa [Value.cells] using hr
      go_enter Tryz.func33, Tryz.ntmps33
      go_wp2_with (go_at_call 39; refine (machine_any _ _ _ _ _ hc1 hn).mono ?_; rintro e w' ⟨rfl, rfl⟩; rw [Hmc.out])
      have hown0 : OwnStops 43 (w.heap.size + 1) ((w.alloc (.cells #[.slice a0 n c0, .slice a1 m c1, .slice a2 n2 c2, .slice a3 n3 c3] 36)).alloc (.cells (madeCells #[.int .i64 0, .int .i64 0] (m * 2)) 43)) (some ⟨w.heap.size + 1, 0, none⟩) 0 m (stopsOf (p.seats.take 0)) := by
        have hh := heap_alloc_new (w.alloc (.cells #[.slice a0 n c0, .slice a1 m c1, .slice a2 n2 c2, .slice a3 n3 c3] 36)) (.cells (madeCells #[.int .i64 0, .int .i64 0] (m * 2)) 43)
        rw [Hsz0.out] at hh
        exact ⟨⟨Nat.zero_le _, by unfold maxLen; omega, .inr ⟨_, _, rfl, hh, by simp [size_madeCells], fun i hi => absurd hi (by omega)⟩⟩, rfl, fun g hg => by rw [rowOf_new hg]; exact Nat.le_refl _⟩
      have hb1 : Below (w.heap.size + 1) (w.alloc (.cells #[.slice a0 n c0, .slice a1 m c1, .slice a2 n2 c2, .slice a3 n3 c3] 36)) ((w.alloc (.cells #[.slice a0 n c0, .slice a1 m c1, .slice a2 n2 c2, .slice a3 n3 c3] 36)).alloc (.cells (madeCells #[.int .i64 0, .int .i64 0] (m * 2)) 43)) :=
        (Below.refl _ _).alloc (by rw [Hsz0.out]; omega) _
      generalize w.alloc (.cells #[.slice a0 n c0, .slice a1 m c1, .slice a2 n2 c2, .slice a3 n3 c3] 36) = w0 at *
      go_loopw [4, 31] (R33a p.seats m (w.heap.size + 1) w0) (fun _ u31 _ => m - (intOf u31).toNat)
      case atStart => exact ⟨0, _, _, Nat.zero_le _, rfl, rfl, hown0, hb1⟩
      case round =>
        clear hown0 hb1 hmk
        obtain ⟨i, ao1, cap1, hi, rfl, rfl, hown, hb⟩ := hrel
        have hsz := hb.size
        rw [Hsz0.out] at hsz
        by_cases hlt : i < m
        · obtain ⟨g, off, rfl, hg, e0, e1, e2, e3⟩ := Seats.at (h1.belowAt hb (by rw [Hsz0.out]; exact Nat.le_refl _)) hlt
          have Htk := Lib.hid (stopsOf_take p.seats i (by rw [Hl.out]; exact hlt))
          generalize Seat.stop (p.seats.getD i seatD) = x0 at *
          generalize Seat.vol (p.seats.getD i seatD) = x1 at *
          generalize Seat.first (p.seats.getD i seatD) = x2 at *
          generalize Seat.second (p.seats.getD i seatD) = x3 at *
          have hsl := (hown.alloc (.cells #[.int .i64 x0, .int .i64 x1, .int .i64 x2, .int .i64 x3] 64)).alloc (.cells (stopC (x0, x1)).toArray 43)
          have hb2 := (hb.alloc hsz (.cells #[.int .i64 x0, .int .i64 x1, .int .i64 x2, .int .i64 x3] 64)).alloc (by simp; omega) (.cells (stopC (x0, x1)).toArray 43)
          have hnews := news_at (wr.alloc (.cells #[.int .i64 x0, .int .i64 x1, .int .i64 x2, .int .i64 x3] 64)) (stopC (x0, x1)) 43 (wr.heap.size + 1) (by simp)
          have Hsl := Lib.hid hsl
          have Hnews := Lib.hid hnews
          have Hb2 := Lib.hid hb2
          clear hsl hnews hb2 hown hb
          go_wp2_with (at_builtin; refine wpList_append_sl _ rfl (.tmp 35) (.tmp 41) 22 rfl 43 i0 _ 2 16 Tryz.underlying22 hi0 hz0 hz1 hz2 rfl rfl Hsl.out.sl ⟨wr.heap.size + 1, 0, none⟩ 1 1 (stopC (x0, x1)) rfl rfl Hnews.out (stopE.one _) (by unfold maxLen; omega) (by omega) ?_)
          intro ao2 cap2 w2 ha
          have ha' : Appended ((wr.alloc (.cells #[.int .i64 x0, .int .i64 x1, .int .i64 x2, .int .i64 x3] 64)).alloc (.cells (stopC (x0, x1)).toArray 43)) w2 43 2 ao1 i cap1 ao2 (i + 1) cap2 (fun j => if j < i * 2 then cellsF 2 stopC stopD (stopsOf (p.seats.take i)) j else (stopC (x0, x1))[j - i * 2]?.getD undef) := by
            first | exact ha | (simp at ha; exact ha) | simpa using ha
          have hown2 := ownL_app stopE Hsl.out (by simp; omega) (x0, x1) rfl rfl ha'
          have hb3 := Hb2.out.grown ha'.grown (by simp; omega) Hsl.out.row
          clear ha ha'
          go_wp2_with fail
          go_roundw
          case rel => exact ⟨i + 1, ao2, cap2, hlt, rfl, by go_num, by rw [Htk.out]; exact hown2, hb3⟩
          case measure => simp [intOf] <;> omega
        · obtain rfl : i = m := by omega
          have Et : Hid (p.seats.take i = p.seats) := List.take_of_length_le (by rw [Hl.out]; exact Nat.le_refl _)
          rw [Et.out] at hown
          have hwf := (wrong_any wr ao1 i cap1 _ hown.rd (by omega))
          have Hwf := Lib.hid hwf
          clear hwf
          cases hw : wrongP (stopsOf p.seats) with
          | some k =>
            have E2 : Hid (checkP p = ((k : Int), 281)) := by show _ = _; rw [E.out, chk2_wrong hw]
            rw [hw, wrongT_some] at Hwf
            have Hw := Lib.hid hw
            clear hw
            go_wp2_with (go_at_call 40; refine Hwf.out.mono ?_; rintro e w1 ⟨rfl, hb1⟩)
            go_ret2
            exact ⟨by rw [E2.out]; rfl, Hb0.out.trans ((hb.trans (hb1.mono hsz)).mono (by omega))⟩
          | none =>
            rw [hw, wrongT_none] at Hwf
            have hq : ∀ w', Below wr.heap.size wr w' → (w'.cell? ⟨w.heap.size, 0, none⟩ = some (.slice a0 n c0) ∧ w'.cell? ⟨w.heap.size, 1, none⟩ = some (.slice a1 i c1) ∧ w'.cell? ⟨w.heap.size, 2, none⟩ = some (.slice a2 n2 c2) ∧ w'.cell? ⟨w.heap.size, 3, none⟩ = some (.slice a3 n3 c3)) ∧ Below (w.heap.size + 1) w0 w' := by
              intro w' hx
              have hb4 := hb.trans (hx.mono hsz)
              exact ⟨⟨(hb4.cell (p := ⟨w.heap.size, 0, none⟩) (by simp)).trans Hpl.out.1, (hb4.cell (p := ⟨w.heap.size, 1, none⟩) (by simp)).trans Hpl.out.2.1, (hb4.cell (p := ⟨w.heap.size, 2, none⟩) (by simp)).trans Hpl.out.2.2.1, (hb4.cell (p := ⟨w.heap.size, 3, none⟩) (by simp)).trans Hpl.out.2.2.2.1⟩, hb4⟩
            have Hq := Lib.hid hq
            have Hw := Lib.hid hw
            have Hwn := Lib.hid hw
            clear hq hw
            have hs0 : w0.heap.size ≤ w.heap.size + 1 := by rw [Hsz0.out]; exact Nat.le_refl _
            cases hmis : misP n p.seats with
            | some k =>
              have E2 : Hid (checkP p = ((k : Int), 282)) := by show _ = _; rw [E.out, chk2_mis Hw.out hmis]
              have Hmis := Lib.hid hmis
              clear hmis
              go_wp2_with (first
                | (go_at_call 40; refine Hwf.out.mono ?_; rintro e w1 ⟨rfl, hb1⟩; obtain ⟨⟨q0, q1, q2, q3⟩, hb4⟩ := Hq.out _ hb1; have hs4 := h1.belowAt hb4 hs0)
                | (go_at_call 66; refine (mis_any w1 a0 a1 a2 a3 n c0 i c1 n2 c2 n3 c3 _ hs4 (by omega) hn).mono ?_; rintro e w2 ⟨rfl, hb2⟩; rw [Hmis.out, wrongT_some]))
              go_ret2
              have hs1 := hb1.size
              exact ⟨by rw [E2.out]; rfl, Hb0.out.trans ((hb4.trans (hb2.mono (by omega))).mono (by omega))⟩
            | none =>
              have E2 : Hid (checkP p = midP p) := by show _ = _; rw [E.out, chk2_mid Hw.out hmis]
              have Hmis := Lib.hid hmis
              have Hin := Lib.hid (in_of Hwn.out hmis)
              clear hmis
              have hpre : Hid (∀ w1, Below wr.heap.size wr w1 → ∀ w2, Below w1.heap.size w1 w2 → (w2.cell? ⟨w.heap.size, 0, none⟩ = some (.slice a0 n c0) ∧ w2.cell? ⟨w.heap.size, 1, none⟩ = some (.slice a1 i c1) ∧ w2.cell? ⟨w.heap.size, 2, none⟩ = some (.slice a2 n2 c2) ∧ w2.cell? ⟨w.heap.size, 3, none⟩ = some (.slice a3 n3 c3)) ∧
                  Below (w.heap.size + 1) w0 w2) := fun w1 hx w2 hy => Hq.out w2 (hx.trans (hy.mono hx.size))
              by_cases hn2e : n2 = n ∧ n3 = n
              · obtain ⟨e1, e2⟩ := hn2e
                obtain rfl : n = n2 := e1.symm
                obtain rfl : n = n3 := e2.symm
                clear e1 e2
                have E3 : Hid (checkP p = endP p (loadsP n (firsts p.seats)) (loadsP n (seconds p.seats))) := by
                  show _ = _
                  rw [E2.out]
                  unfold midP
                  rw [if_pos ⟨by rw [Hfl.out, Hcl.out], by rw [Hgl.out, Hcl.out]⟩, Hcl.out]
                go_wp2_with (first
                  | (go_at_call 40; refine Hwf.out.mono ?_; rintro e w1 ⟨rfl, hb1⟩; obtain ⟨⟨q0, q1, q2, q3⟩, hb4⟩ := Hq.out _ hb1; have hs4 := h1.belowAt hb4 hs0)
                  | (go_at_call 66; refine (mis_any w1 a0 a1 a2 a3 n c0 i c1 n c2 n c3 _ hs4 (by omega) hn).mono ?_; rintro e w2 ⟨rfl, hb2⟩; rw [Hmis.out, wrongT_none]; clear q0 q1 q2 q3 hb4 hs4; obtain ⟨⟨q0, q1, q2, q3⟩, hb4⟩ := hpre.out _ hb1 _ hb2; have hs4 := h1.belowAt hb4 hs0)
                  | (go_at_call 41; refine (loads_any w2 a1 i c1 n _ hs4 (by omega) Hin.out hmach.1.1 hn).mono ?_; rintro e w3 ⟨B1, B2, rfl, hB12, hl1, hl2, hb3⟩; clear q0 q1 q2 q3; obtain ⟨⟨q0, q1, q2, q3⟩, hb5⟩ := hpre.out _ hb1 _ (hb2.trans (hb3.mono hb2.size))))
                have hc5 := hc1.belowAt hb5 hs0
                have hf5 := hf1.belowAt hb5 hs0
                have hg5 := hg1.belowAt hb5 hs0
                have hsz5 := hb5.size
                have H3 : Hid (Below w.heap.size w w3) := Hb0.out.trans (hb5.mono (by omega))
                have hr3 : w.heap.size < w3.heap.size := by have := hb1.size; have := hb2.size; have := hb3.size; omega
                have Hqq := Lib.hid (And.intro q0 (And.intro q2 q3))
                clear hb1 hb2 hb3 hb4 hb5 hs4 hpre Hq hb hown q0 q1 q2 q3
                have hl1r := hl1.ints
                have hl2r := hl2.ints
                clear hl1 hl2
                go_loopw [86] (R33b p (loadsP n (firsts p.seats)) (loadsP n (seconds p.seats)) n w3) (fun u86 _ => n - (intOf u86).toNat)
                case atStart => exact ⟨0, Nat.zero_le _, rfl, fun j hj => absurd hj (by omega), Below.refl _ _⟩
                case round =>
                  obtain ⟨j, hj, rfl, hall, hb⟩ := hrel
                  have Hall := Lib.hid hall
                  clear hall
                  have q0 : wr.cell? ⟨w.heap.size, 0, none⟩ = some (.slice a0 n c0) := (hb.cell (p := ⟨w.heap.size, 0, none⟩) hr3).trans Hqq.out.1
                  have q2 : wr.cell? ⟨w.heap.size, 2, none⟩ = some (.slice a2 n c2) := (hb.cell (p := ⟨w.heap.size, 2, none⟩) hr3).trans Hqq.out.2.1
                  have q3 : wr.cell? ⟨w.heap.size, 3, none⟩ = some (.slice a3 n c3) := (hb.cell (p := ⟨w.heap.size, 3, none⟩) hr3).trans Hqq.out.2.2
                  by_cases hlt2 : j < n
                  · obtain ⟨g2, o2, rfl, _, d2⟩ := (hf5.below hb).at hlt2
                    obtain ⟨g3, o3, rfl, _, d3⟩ := (hg5.below hb).at hlt2
                    obtain ⟨g4, o4, ea4, _, d4⟩ := (hl1r.below hb).at hlt2
                    obtain ⟨g5, o5, ea5, _, d5⟩ := (hl2r.below hb).at hlt2
                    cases ea4
                    cases ea5
                    have Hat : Hid (difAt p.first p.second (loadsP n (firsts p.seats)) (loadsP n (seconds p.seats)) j = (decide (p.first.getD j 0 ≠ (loadsP n (firsts p.seats)).getD j 0) || decide (p.second.getD j 0 ≠ (loadsP n (seconds p.seats)).getD j 0))) := rfl
                    have Hyes : Hid (difAt p.first p.second (loadsP n (firsts p.seats)) (loadsP n (seconds p.seats)) j = true → checkP p = ((j : Int), 283)) := fun hx => by
                      rw [E3.out]
                      exact endP_dif (find_some (by rw [Hcl.out]; exact hlt2) hx Hall.out)
                    simp only [Nat.zero_add] at d4 d5
                    generalize p.first.getD j 0 = x at *
                    generalize p.second.getD j 0 = y at *
                    generalize (loadsP n (firsts p.seats)).getD j 0 = x' at *
                    generalize (loadsP n (seconds p.seats)).getD j 0 = y' at *
                    have hj0 : (0 : Int) ≤ (j : Int) := by omega
                    have hj1 : (j : Int) < (n : Int) := by omega
                    by_cases hx : x = x'
                    · subst hx
                      have r1 : (x != x) = false := by simp
                      by_cases hy : y = y'
                      · subst hy
                        have r2 : (y != y) = false := by simp
                        have E4 : Hid (difAt p.first p.second (loadsP n (firsts p.seats)) (loadsP n (seconds p.seats)) j = false) := by show _ = _; rw [Hat.out]; simp
                        go_wp2_with fail
                        go_quiet (fail)
                        go_wp2_with fail
                        go_roundw
                        case rel => exact ⟨j + 1, hlt2, by go_num, fun i hi => (by
                          by_cases e : i = j
                          · subst e; exact E4.out
                          · exact Hall.out i (by omega)), below_drewN hb _⟩
                        case measure => simp [intOf] <;> omega
                      · have r2 : (y != y') = true := by rw [bne_iff_ne]; exact hy
                        have E4 := Lib.hid (Hyes.out (by rw [Hat.out]; simp [hy]))
                        go_wp2_with fail
                        go_quiet (fail)
                        go_wp2_with fail
                        go_ret2
                        exact ⟨by rw [E4.out]; rfl, H3.out.trans ((below_drewN hb _).mono (by omega))⟩
                    · have r1 : (x != x') = true := by rw [bne_iff_ne]; exact hx
                      have E4 := Lib.hid (Hyes.out (by rw [Hat.out]; simp [hx]))
                      go_wp2_with fail
                      go_quiet (fail)
                      go_wp2_with fail
                      go_ret2
                      exact ⟨by rw [E4.out]; rfl, H3.out.trans ((below_drewN hb _).mono (by omega))⟩
                  · obtain rfl : j = n := by omega
                    have hdif : difP p.caps.length p.first p.second (loadsP j (firsts p.seats)) (loadsP j (seconds p.seats)) = none := find_none (fun i hi => Hall.out i (by rw [Hcl.out] at hi; exact hi))
                    have Hdif := Lib.hid hdif
                    clear hdif
                    have hov := over_any wr a0 (some ⟨B1, 0, none⟩) (some ⟨B2, 0, none⟩) j c0 j j p.caps _ _ (hc5.below hb) (hl1r.below hb) (hl2r.below hb) hn
                    cases ho : overP p.caps (loadsP j (firsts p.seats)) (loadsP j (seconds p.seats)) with
                    | none =>
                      rw [ho, wrongT_none] at hov
                      have E4 : Hid (checkP p = (0, 0)) := by show _ = _; rw [E3.out, endP_ok Hdif.out ho]
                      have Hov := Lib.hid hov
                      clear hov ho
                      go_wp2_with (go_at_call 44; refine Hov.out.mono ?_; rintro e w' ⟨rfl, rfl⟩)
                      go_ret2
                      exact ⟨by rw [E4.out]; rfl, H3.out.trans (hb.mono (by omega))⟩
                    | some k =>
                      rw [ho, wrongT_some] at hov
                      have E4 : Hid (checkP p = ((k : Int), 4)) := by show _ = _; rw [E3.out, endP_over Hdif.out ho]
                      have Hov := Lib.hid hov
                      clear hov ho
                      go_wp2_with (go_at_call 44; refine Hov.out.mono ?_; rintro e w' ⟨rfl, rfl⟩)
                      go_ret2
                      exact ⟨by rw [E4.out]; rfl, H3.out.trans (hb.mono (by omega))⟩
              · have E3 : Hid (checkP p = (0, 283)) := by
                  show _ = _
                  rw [E2.out]
                  unfold midP
                  rw [Hfl.out, Hgl.out, Hcl.out, if_neg hn2e]
                have hcase : ((n2 : Int) != (n : Int)) = true ∨ ((n2 : Int) != (n : Int)) = false ∧ ((n3 : Int) != (n : Int)) = true := by
                  by_cases e1 : n2 = n
                  · exact .inr ⟨by rw [e1]; simp, by rw [bne_iff_ne]; exact fun h => hn2e ⟨e1, by omega⟩⟩
                  · exact .inl (by rw [bne_iff_ne]; omega)
                clear hn2e
                rcases hcase with r1 | ⟨r1, r2⟩
                all_goals
                  go_wp2_with (first
                    | (go_at_call 40; refine Hwf.out.mono ?_; rintro e w1 ⟨rfl, hb1⟩; obtain ⟨⟨q0, q1, q2, q3⟩, hb4⟩ := Hq.out _ hb1; have hs4 := h1.belowAt hb4 hs0)
                    | (go_at_call 66; refine (mis_any w1 a0 a1 a2 a3 n c0 i c1 n2 c2 n3 c3 _ hs4 (by omega) hn).mono ?_; rintro e w2 ⟨rfl, hb2⟩; rw [Hmis.out, wrongT_none]; clear q0 q1 q2 q3 hb4 hs4; obtain ⟨⟨q0, q1, q2, q3⟩, hb4⟩ := hpre.out _ hb1 _ hb2))
                  go_ret2
                  exact ⟨by rw [E3.out]; rfl, Hb0.out.trans (hb4.mono (by omega))⟩
  · have hmc := Bool.eq_false_iff.2 hmc
    have E : Hid (checkP p = (0, 280)) := by show _ = _; unfold checkP; rw [if_pos hmc]
    have Hmc := Lib.hid hmc
    clear hmc
    go_enter Tryz.func33, Tryz.ntmps33
    go_wp2_with (go_at_call 39; refine (machine_any _ _ _ _ _ hc1 hn).mono ?_; rintro e w' ⟨rfl, rfl⟩; rw [Hmc.out])
    go_ret2
    exact ⟨by rw [E.out]; rfl, Hb0.out⟩
end Go.Proofs.YtpfinkdpaomliaaGreat
