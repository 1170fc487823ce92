/-
  'Check' of the reference.
-/
import Derived.Test.YtpfinkdpaomliaaGreatRefSortLaw
import Derived.Test.YtpfinkdpaomliaaGreatRefLoads
import Derived.Deep.RegionHeld3
namespace Go.Proofs.YtpfinkdpaomliaaGreat
open Go.RowKit

def R46a (n m B : Nat) (l : List Seat) (w0 : World) (u5 : Value) (wr : World) : Prop := ∃ i : Nat, i ≤ m ∧ u5 = .int .i64 i ∧ (∀ j, j < i → misAt n l j = false) ∧ Below B w0 wr

def R46b (p : PlanP) (l1 l2 : List Int) (n : Nat) (w0 : World) (u : Value) (wr : World) : Prop :=
  ∃ i : Nat, i ≤ n ∧ u = .int .i64 i ∧ (∀ j, j < i → difAt p.first p.second l1 l2 j = false) ∧ Below w0.heap.size w0 wr
def R46c (p : PlanP) (l1 l2 : List Int) (n : Nat) (w0 : World) (u : Value) (wr : World) : Prop :=
  ∃ i : Nat, i ≤ n ∧ u = .int .i64 i ∧ (∀ j, j < i → overAt p.caps l1 l2 j = false) ∧ Below w0.heap.size w0 wr

set_option maxRecDepth 1000000 in
set_option maxHeartbeats 4000000 in
theorem refCheck_any (w : World) (a0 a1 a2 a3 : Option Addr) (n c0 m c1 n2 c2 n3 c3 : Nat) (p : PlanP) (hc : Ints w a0 n p.caps) (h : Seats w a1 m p.seats) (hf : Ints w a2 n2 p.first) (hg : Ints w a3 n3 p.second)
    (hn : n ≤ 1048576) (hm : m ≤ 1048576) (hn2 : n2 ≤ 1048576) (hn3 : n3 ≤ 1048576) :
    Calls Tryz.prog 46 #[.agg #[.slice a0 n c0, .slice a1 m c1, .slice a2 n2 c2, .slice a3 n3 c3]] w fun e w' => e = .returned (.tuple #[.int .i64 (checkP p).1, .int .i64 (checkP p).2]) ∧ Below w.heap.size w w' := by
  have Hl := Lib.hid h.len
  have Hcl := Lib.hid hc.len
  have Hfl := Lib.hid hf.len
  have Hgl := Lib.hid hg.len
  have hb0 : Below w.heap.size w (w.alloc (.cells #[.slice a0 n c0, .slice a1 m c1, .slice a2 n2 c2, .slice a3 n3 c3] 29)) := (Below.refl _ _).alloc (Nat.le_refl _) _
  have hbx := heap_alloc_new w (.cells #[.slice a0 n c0, .slice a1 m c1, .slice a2 n2 c2, .slice a3 n3 c3] 29)
  have hsz0 : (w.alloc (.cells #[.slice a0 n c0, .slice a1 m c1, .slice a2 n2 c2, .slice a3 n3 c3] 29)).heap.size = w.heap.size + 1 := by simp
  have Hbase : Hid (∀ W, Below (w.heap.size + 1) (w.alloc (.cells #[.slice a0 n c0, .slice a1 m c1, .slice a2 n2 c2, .slice a3 n3 c3] 29)) W → Below w.heap.size w W ∧ w.heap.size + 1 ≤ W.heap.size ∧
      (W.cell? ⟨w.heap.size, 0, none⟩ = some (.slice a0 n c0) ∧ W.cell? ⟨w.heap.size, 1, none⟩ = some (.slice a1 m c1) ∧ W.cell? ⟨w.heap.size, 2, none⟩ = some (.slice a2 n2 c2) ∧ W.cell? ⟨w.heap.size, 3, none⟩ = some (.slice a3 n3 c3)) ∧
      Ints W a0 n p.caps ∧ Seats W a1 m p.seats ∧ Ints W a2 n2 p.first ∧ Ints W a3 n3 p.second) := fun W hW => by
    have h1 := hb0.trans (hW.mono (B' := w.heap.size) (by omega))
    obtain ⟨q0, q1, q2, q3, _⟩ := four_at ((hW.block _ (by omega)).trans hbx)
    exact ⟨h1, by have := hW.size; omega, ⟨q0, q1, q2, q3⟩, hc.below h1, h.below h1, hf.below h1, hg.below h1⟩
  have Hsz0 := Lib.hid hsz0
  clear hc h hf hg hbx hb0 hsz0
  obtain ⟨hw0, hz0, ⟨p0, p1, p2, p3⟩, hc, h, hf, hg⟩ := Hbase.out _ (Below.refl _ _)
  have Hmach := Lib.hid (refMachine_any _ a0 n c0 p.caps hc hn)
  by_cases hmc : machineP p.caps = true
  · rw [hmc] at Hmach
    have hmach := machine_caps hmc
    rw [Hcl.out] at hmach
    have Hmc := Lib.hid hmc
    clear hmc
    by_cases hlen : 1000 < m
    · have E : Hid (checkP p = (0, 5)) := by show _ = _; unfold checkP; rw [if_neg (by rw [Hmc.out]; decide), if_pos (by rw [Hl.out]; exact hlen)]
      go_enter Tryz.func46, Tryz.ntmps46
      go_wp2_with (go_at_call 35; refine Hmach.out.mono ?_; rintro e w' ⟨rfl, rfl⟩)
      go_ret2
      exact ⟨by rw [E.out]; rfl, hw0⟩
    · have E : Hid (checkP p = chk2 p n) := by
        show _ = _
        unfold checkP
        rw [if_neg (by rw [Hmc.out]; decide), if_neg (by rw [Hl.out]; exact hlen), Hcl.out]
      have Hwr : Hid (∀ W, Below (w.heap.size + 1) (w.alloc (.cells #[.slice a0 n c0, .slice a1 m c1, .slice a2 n2 c2, .slice a3 n3 c3] 29)) W → Calls Tryz.prog 36 #[.slice a1 m c1] W fun e w' => e = .returned (.int .i64 (wrongI (wrongP (stopsOf p.seats)))) ∧ Below W.heap.size W w') := fun W hW =>
        refWrong_any W a1 m c1 p.seats (Hbase.out W hW).2.2.2.2.1 (by omega)
      cases hw : wrongP (stopsOf p.seats) with
      | some k =>
        have E2 : Hid (checkP p = ((k : Int), 281)) := by show _ = _; rw [E.out, chk2_wrong hw]
        rw [hw] at Hwr
        have r1 : wrongI (some k) = (k : Int) := rfl
        rw [r1] at Hwr
        clear hw r1
        go_enter Tryz.func46, Tryz.ntmps46
        go_upto_region 7 with (first
          | (go_at_call 35; refine Hmach.out.mono ?_; rintro e w' ⟨rfl, rfl⟩)
          | (go_at_call 36; refine (Hwr.out _ (Below.refl _ _)).mono ?_; rintro e w1 ⟨rfl, hb1⟩
             rw [Hsz0.out] at hb1
             clear p0 p1 p2 p3
             obtain ⟨_, hz1, ⟨p0, p1, p2, p3⟩, _⟩ := Hbase.out w1 hb1))
        go_wp2_with (go_at_call 36; refine (Hwr.out w1 hb1).mono ?_; rintro e w2 ⟨rfl, hb2⟩)
        go_ret2
        exact ⟨by rw [E2.out]; rfl, (Hbase.out w2 (hb1.trans (hb2.mono hz1))).1⟩
      | none =>
        rw [hw] at Hwr
        have r1 : wrongI none = -1 := rfl
        rw [r1] at Hwr
        have Hw := Lib.hid hw
        clear hw r1
        go_enter Tryz.func46, Tryz.ntmps46
        go_wp2_with (first
          | (go_at_call 35; refine Hmach.out.mono ?_; rintro e w' ⟨rfl, rfl⟩)
          | (go_at_call 36; refine (Hwr.out _ (Below.refl _ _)).mono ?_; rintro e w1 ⟨rfl, hb1⟩
             rw [Hsz0.out] at hb1
             clear p0 p1 p2 p3
             obtain ⟨_, hz1, ⟨p0, p1, p2, p3⟩, _⟩ := Hbase.out w1 hb1))
        have Hb1 := Lib.hid hb1
        clear p0 p1 p2 p3 hb1 hc h hf hg hw0 hz0
        go_loopw [5] (R46a n m w1.heap.size p.seats w1) (fun u5 _ => m - (intOf u5).toNat)
        case atStart => exact ⟨0, Nat.zero_le _, rfl, fun j hj => absurd hj (by omega), Below.refl _ _⟩
        case round =>
          obtain ⟨i, hi, rfl, hall, hb⟩ := hrel
          have Hall := Lib.hid hall
          clear hall
          obtain ⟨hbw, hz, ⟨p0, p1, p2, p3⟩, hc, h, hf, hg⟩ := Hbase.out wr (Hb1.out.trans (hb.mono hz1))
          by_cases hlt : i < m
          · obtain ⟨g, off, rfl, hg, e0, e1, e2, e3⟩ := Seats.at h hlt
            have Hat : Hid (misAt n p.seats i = (outB n (p.seats.getD i seatD) || (decide (0 < i) && backB (p.seats.getD i seatD) (p.seats.getD (i - 1) seatD)))) := rfl
            have Hyes : Hid (misAt n p.seats i = true → checkP p = ((i : Int), 282)) := fun hx => by rw [E.out]; exact chk2_mis Hw.out (find_some (by rw [Hl.out]; exact hlt) hx Hall.out)
            have Hno : Hid (misAt n p.seats i = false → ∀ j, j < i + 1 → misAt n p.seats j = false) := fun hx j hj => by
              by_cases e : j = i
              · subst e; exact hx
              · exact Hall.out j (by omega)
            have Hob : Hid (outB n (p.seats.getD i seatD) = (decide (Seat.first (p.seats.getD i seatD) < 0) || decide ((n : Int) ≤ Seat.first (p.seats.getD i seatD)) || decide (Seat.second (p.seats.getD i seatD) < 0) || decide ((n : Int) ≤ Seat.second (p.seats.getD i seatD)))) := rfl
            have Hbk : Hid (backB (p.seats.getD i seatD) (p.seats.getD (i - 1) seatD) = (decide (Seat.second (p.seats.getD i seatD) < Seat.second (p.seats.getD (i - 1) seatD)) || (decide (Seat.second (p.seats.getD i seatD) = Seat.second (p.seats.getD (i - 1) seatD)) && decide (Seat.first (p.seats.getD i seatD) ≤ Seat.first (p.seats.getD (i - 1) seatD))))) := rfl
            have Hprev : Hid (∀ j, i = j + 1 → ∃ c d : Int, Seat.first (p.seats.getD j seatD) = c ∧ Seat.second (p.seats.getD j seatD) = d ∧ 0 ≤ c ∧ c < n ∧ 0 ≤ d ∧ d < n ∧ wr.cell? ⟨g, off + j * 4 + 2, none⟩ = some (.int .i64 c) ∧ wr.cell? ⟨g, off + j * 4 + 3, none⟩ = some (.int .i64 d)) := fun j hj => by
              obtain ⟨g', off', eg, _, _, _, f2, f3⟩ := Seats.at h (show j < m by omega)
              cases eg
              have h1 := Hall.out j (by omega)
              unfold misAt outB at h1
              simp only [Bool.or_eq_false_iff, decide_eq_false_iff_not] at h1
              obtain ⟨⟨⟨⟨h3, h4⟩, h5⟩, h6⟩, _⟩ := h1
              exact ⟨_, _, rfl, rfl, by omega, by omega, by omega, by omega, f2, f3⟩
            have hgx : g < wr.heap.size := hg
            have hbx2 : w.heap.size < wr.heap.size := by omega
            clear hc h hf hg
            generalize Seat.first (p.seats.getD i seatD) = a at *
            generalize Seat.second (p.seats.getD i seatD) = b at *
            generalize Seat.stop (p.seats.getD i seatD) = s at *
            generalize Seat.vol (p.seats.getD i seatD) = v at *
            go_wp2_with fail
            have hbx := heap_alloc_new wr (.cells #[.int .i64 s, .int .i64 v, .int .i64 a, .int .i64 b] 65)
            have hbw1 := (Below.refl wr.heap.size wr).alloc (Nat.le_refl _) (.cells #[.int .i64 s, .int .i64 v, .int .i64 a, .int .i64 b] 65)
            obtain ⟨y0, y1, y2, y3, _⟩ := four_at hbx
            have p1' := (hbw1.cell (p := ⟨w.heap.size, 1, none⟩) hbx2).trans p1
            have hbx1 := hb.trans (hbw1.mono hb.size)
            have Hfin : Hid (Below w.heap.size w (wr.alloc (.cells #[.int .i64 s, .int .i64 v, .int .i64 a, .int .i64 b] 65))) := hbw.trans (hbw1.mono (by omega))
            have Hbx1 := Lib.hid hbx1
            have Hbw1 := Lib.hid hbw1
            clear p0 p1 p2 p3 hbx hbx1 hbw1 hbw hb
            generalize wr.alloc (.cells #[.int .i64 s, .int .i64 v, .int .i64 a, .int .i64 b] 65) = wx at *
            have hi0 : (0 : Int) ≤ (i : Int) := by omega
            have hi1 : (i : Int) < (m : Int) := by omega
            rcases out_cases n a b with ⟨e, d1⟩ | ⟨e, d1, d2⟩ | ⟨e, d1, d2, d3⟩ | ⟨e, d1, d2, d3, d4⟩ | ⟨e, d1, d2, d3, d4⟩
            case inr.inr.inr.inr =>
              cases i with
              | zero =>
                have E2 := Lib.hid (Hno.out (by rw [Hat.out, Hob.out, e]; rfl))
                clear e
                go_quiet (fail)
                go_wp2_with fail
                go_roundw
                case rel => exact ⟨1, hlt, rfl, E2.out, below_drewN Hbx1.out _⟩
                case measure => simp [intOf] <;> omega
              | succ j =>
                obtain ⟨c, d, ec, ed, hc0, hc1, hd0, hd1, f2, f3⟩ := Hprev.out j rfl
                have f2' := (Hbw1.out.cell (p := ⟨g, off + j * 4 + 2, none⟩) hgx).trans f2
                have f3' := (Hbw1.out.cell (p := ⟨g, off + j * 4 + 3, none⟩) hgx).trans f3
                simp only [Nat.add_sub_cancel, ec, ed] at Hat Hbk
                have hfit := back_fits (n := (n : Int)) (s := b) (s' := d) (f := a) (f' := c) (by omega) (by omega) (by omega) hd0 hd1 (by omega) (by omega) hc0 hc1
                have hari := back_arith (n := (n : Int)) (s := b) (s' := d) (f := a) (f' := c) (by omega) (by omega) hc0 hc1
                have Hari := Lib.hid hari
                obtain ⟨hq1, hq2⟩ := hfit
                have hj0 : (0 : Int) ≤ (j : Int) := by omega
                have hj1 : (j : Int) < (m : Int) := by omega
                clear hari f2 f3 ec ed
                by_cases hq : (b - d) * n + a - c ≤ 0
                · have E2 := Lib.hid (Hyes.out (by
                    rw [Hat.out, Hob.out, e, Hbk.out]
                    rcases Hari.out.1 hq with h1 | ⟨h1, h2⟩
                    · simp [h1]
                    · simp [h1, h2]))
                  clear e
                  go_quiet (fail)
                  go_wp2_with fail
                  go_ret2
                  exact ⟨by rw [E2.out]; rfl, below_drewN Hfin.out _⟩
                · have E2 := Lib.hid (Hno.out (by
                    rw [Hat.out, Hob.out, e, Hbk.out]
                    have h1 : ¬ (b < d ∨ (b = d ∧ a ≤ c)) := fun h => hq (Hari.out.2 h)
                    simp only [not_or, not_and] at h1
                    simp
                    omega))
                  clear e
                  go_quiet (fail)
                  go_wp2_with fail
                  go_roundw
                  case rel => exact ⟨j + 1 + 1, hlt, by go_num, E2.out, below_drewN Hbx1.out _⟩
                  case measure => simp [intOf] <;> omega
            all_goals
              have E2 := Lib.hid (Hyes.out (by rw [Hat.out, Hob.out, e]; rfl))
              clear e
              go_quiet (fail)
              go_wp2_with fail
              go_ret2
              exact ⟨by rw [E2.out]; rfl, below_drewN Hfin.out _⟩
          · obtain rfl : i = m := by omega
            have Hmis : Hid (misP n p.seats = none) := find_none (fun j hj => Hall.out j (by rw [Hl.out] at hj; exact hj))
            have E2 : Hid (checkP p = midP p) := by show _ = _; rw [E.out, chk2_mid Hw.out Hmis.out]
            have Hin := Lib.hid (in_of Hw.out Hmis.out)
            by_cases hn2e : n2 = n ∧ n3 = n
            · obtain ⟨e1, e2⟩ := hn2e
              obtain rfl : n = n2 := e1.symm
              obtain rfl : n = n3 := e2.symm
              clear e1 e2
              have E3 : Hid (checkP p = endP p (loadsP n (firsts p.seats)) (loadsP n (seconds p.seats))) := by
                show _ = _
                rw [E2.out]
                unfold midP
                rw [if_pos ⟨by rw [Hfl.out, Hcl.out], by rw [Hgl.out, Hcl.out]⟩, Hcl.out]
              have HlF : Hid (∀ W, Below wr.heap.size wr W → Calls Tryz.prog 38 #[.int .i64 n, .slice a1 i c1, .bool false] W fun e w' => ∃ B1, e = .returned (.slice (some ⟨B1, 0, none⟩) n n) ∧
                  OwnI W.heap.size w' (some ⟨B1, 0, none⟩) n n (loadsP n (firsts p.seats)) ∧ Below W.heap.size W w') := fun W hW => refLoads_first W a1 i c1 n p.seats (h.below hW) (by omega) Hin.out hmach.1.1 hn
              have HlS : Hid (∀ W, Below wr.heap.size wr W → Calls Tryz.prog 38 #[.int .i64 n, .slice a1 i c1, .bool true] W fun e w' => ∃ B1, e = .returned (.slice (some ⟨B1, 0, none⟩) n n) ∧
                  OwnI W.heap.size w' (some ⟨B1, 0, none⟩) n n (loadsP n (seconds p.seats)) ∧ Below W.heap.size W w') := fun W hW => refLoads_second W a1 i c1 n p.seats (h.below hW) (by omega) Hin.out hmach.1.1 hn
              have hbx2 : w.heap.size < wr.heap.size := by omega
              have HB := Lib.hid (Hb1.out.trans (hb.mono hz1))
              clear hc h hf hg hb hbw
              go_upto_region 16 with fail
              go_region_held3 (fun w' => w'.cell? ⟨w.heap.size, 1, none⟩ = some (.slice a1 i c1)) (first | go_keep | exact hS1 | exact hS2)
                ((first
                  | (go_at_call_of 38 (Value.bool false); refine (HlF.out _ (Below.refl _ _).drew).mono ?_; rintro e w3 ⟨B1, rfl, hl1, hb3⟩; have hS1 : w3.cell? ⟨w.heap.size, 1, none⟩ = some (.slice a1 i c1) := (hb3.cell (p := ⟨w.heap.size, 1, none⟩) hbx2).trans p1; have hB3 : Below wr.heap.size wr w3 := (Below.refl _ _).drew.trans hb3)
                  | (go_at_call_of 38 (Value.bool true); refine (HlS.out w3 hB3).mono ?_; rintro e w4 ⟨B2, rfl, hl2, hb4⟩; have hS2 : w4.cell? ⟨w.heap.size, 1, none⟩ = some (.slice a1 i c1) := (hb4.cell (p := ⟨w.heap.size, 1, none⟩) (Nat.lt_of_lt_of_le hbx2 hB3.size)).trans hS1)))
              have hB4 : Below wr.heap.size wr w4 := hB3.trans (hb4.mono hB3.size)
              have hl1r := (hl1.below hb4).ints
              have hl2r := hl2.ints
              have Hbase2 : Hid (∀ W, Below w4.heap.size w4 W → Below w.heap.size w W ∧
                  (W.cell? ⟨w.heap.size, 0, none⟩ = some (.slice a0 n c0) ∧ W.cell? ⟨w.heap.size, 1, none⟩ = some (.slice a1 i c1) ∧ W.cell? ⟨w.heap.size, 2, none⟩ = some (.slice a2 n c2) ∧ W.cell? ⟨w.heap.size, 3, none⟩ = some (.slice a3 n c3)) ∧
                  Ints W a0 n p.caps ∧ Ints W a2 n p.first ∧ Ints W a3 n p.second ∧ Ints W (some ⟨B1, 0, none⟩) n (loadsP n (firsts p.seats)) ∧ Ints W (some ⟨B2, 0, none⟩) n (loadsP n (seconds p.seats))) := fun W hW => by
                obtain ⟨h1, _, h3, h4, _, h6, h7⟩ := Hbase.out W (HB.out.trans ((hB4.trans (hW.mono hB4.size)).mono (by omega)))
                exact ⟨h1, h3, h4, h6, h7, hl1r.below hW, hl2r.below hW⟩
              clear p0 p1 p2 p3 hS1 hS2 hl1 hl2 hl1r hl2r hb3 hb4 hB3 hB4 HlF HlS
              go_wp2_with fail
              go_loopw [9] (R46b p (loadsP n (firsts p.seats)) (loadsP n (seconds p.seats)) n w4) (fun u9 _ => n - (intOf u9).toNat)
              case atStart => exact ⟨0, Nat.zero_le _, rfl, fun j hj => absurd hj (by omega), Below.refl _ _⟩
              case round =>
                obtain ⟨j, hj, rfl, hall, hb⟩ := hrel
                have Hall := Lib.hid hall
                clear hall
                obtain ⟨hbw, ⟨p0, p1, p2, p3⟩, hc, hf, hg, hl1, hl2⟩ := Hbase2.out wr hb
                by_cases hlt2 : j < n
                · obtain ⟨g2, o2, rfl, _, d2⟩ := hf.at hlt2
                  obtain ⟨g3, o3, rfl, _, d3⟩ := hg.at hlt2
                  obtain ⟨g4, o4, ea4, _, d4⟩ := hl1.at hlt2
                  obtain ⟨g5, o5, ea5, _, d5⟩ := hl2.at hlt2
                  cases ea4
                  cases ea5
                  have Hat : Hid (difAt p.first p.second (loadsP n (firsts p.seats)) (loadsP n (seconds p.seats)) j = (decide (p.first.getD j 0 ≠ (loadsP n (firsts p.seats)).getD j 0) || decide (p.second.getD j 0 ≠ (loadsP n (seconds p.seats)).getD j 0))) := rfl
                  have Hyes : Hid (difAt p.first p.second (loadsP n (firsts p.seats)) (loadsP n (seconds p.seats)) j = true → checkP p = ((j : Int), 283)) := fun hx => by
                    rw [E3.out]
                    exact endP_dif (find_some (by rw [Hcl.out]; exact hlt2) hx Hall.out)
                  simp only [Nat.zero_add] at d4 d5
                  clear hc hf hg hl1 hl2
                  generalize p.first.getD j 0 = x at *
                  generalize p.second.getD j 0 = y at *
                  generalize (loadsP n (firsts p.seats)).getD j 0 = x' at *
                  generalize (loadsP n (seconds p.seats)).getD j 0 = y' at *
                  have hj0 : (0 : Int) ≤ (j : Int) := by omega
                  have hj1 : (j : Int) < (n : Int) := by omega
                  by_cases hx : x = x'
                  · subst hx
                    have r1 : (x != x) = false := by simp
                    by_cases hy : y = y'
                    · subst hy
                      have r2 : (y != y) = false := by simp
                      have E4 : Hid (difAt p.first p.second (loadsP n (firsts p.seats)) (loadsP n (seconds p.seats)) j = false) := by show _ = _; rw [Hat.out]; simp
                      go_wp2_with fail
                      go_quiet (fail)
                      go_wp2_with fail
                      go_roundw
                      case rel => exact ⟨j + 1, hlt2, by go_num, fun i hi => (by
                        by_cases e : i = j
                        · subst e; exact E4.out
                        · exact Hall.out i (by omega)), below_drewN hb _⟩
                      case measure => simp [intOf] <;> omega
                    · have r2 : (y != y') = true := by rw [bne_iff_ne]; exact hy
                      have E4 := Lib.hid (Hyes.out (by rw [Hat.out]; simp [hy]))
                      go_wp2_with fail
                      go_quiet (fail)
                      go_wp2_with fail
                      go_ret2
                      exact ⟨by rw [E4.out]; rfl, below_drewN hbw _⟩
                  · have r1 : (x != x') = true := by rw [bne_iff_ne]; exact hx
                    have E4 := Lib.hid (Hyes.out (by rw [Hat.out]; simp [hx]))
                    go_wp2_with fail
                    go_quiet (fail)
                    go_wp2_with fail
                    go_ret2
                    exact ⟨by rw [E4.out]; rfl, below_drewN hbw _⟩
                · obtain rfl : j = n := by omega
                  have Hdif : Hid (difP p.caps.length p.first p.second (loadsP j (firsts p.seats)) (loadsP j (seconds p.seats)) = none) := find_none (fun i hi => Hall.out i (by rw [Hcl.out] at hi; exact hi))
                  have Hbase3 : Hid (∀ W, Below wr.heap.size wr W → Below w4.heap.size w4 W) := fun W hW => hb.trans (hW.mono hb.size)
                  clear hc hf hg hl1 hl2 hb hbw p0 p1 p2 p3
                  obtain ⟨w5, rfl⟩ : ∃ w5 : World, w5 = wr := ⟨_, rfl⟩
                  go_wp2_with fail
                  go_loopw [10] (R46c p (loadsP j (firsts p.seats)) (loadsP j (seconds p.seats)) j w5) (fun u10 _ => j - (intOf u10).toNat)
                  case atStart => exact ⟨0, Nat.zero_le _, rfl, fun j hj => absurd hj (by omega), Below.refl _ _⟩
                  case round =>
                    obtain ⟨k, hk, rfl, hall, hb⟩ := hrel
                    have Hall := Lib.hid hall
                    clear hall
                    obtain ⟨hbw, ⟨p0, p1, p2, p3⟩, hc, hf, hg, hl1, hl2⟩ := Hbase2.out wr (Hbase3.out wr hb)
                    by_cases hlt3 : k < j
                    · obtain ⟨g2, o2, rfl, _, d2⟩ := hc.at hlt3
                      obtain ⟨g4, o4, ea4, _, d4⟩ := hl1.at hlt3
                      obtain ⟨g5, o5, ea5, _, d5⟩ := hl2.at hlt3
                      cases ea4
                      cases ea5
                      have Hat : Hid (overAt p.caps (loadsP j (firsts p.seats)) (loadsP j (seconds p.seats)) k = (decide (p.caps.getD k 0 < (loadsP j (firsts p.seats)).getD k 0) || decide (p.caps.getD k 0 < (loadsP j (seconds p.seats)).getD k 0))) := rfl
                      have Hyes : Hid (overAt p.caps (loadsP j (firsts p.seats)) (loadsP j (seconds p.seats)) k = true → checkP p = ((k : Int), 4)) := fun hx => by
                        rw [E3.out]
                        exact endP_over Hdif.out (find_some (by rw [Hcl.out]; exact hlt3) hx Hall.out)
                      simp only [Nat.zero_add] at d4 d5
                      clear hc hf hg hl1 hl2
                      generalize p.caps.getD k 0 = x at *
                      generalize (loadsP j (firsts p.seats)).getD k 0 = y at *
                      generalize (loadsP j (seconds p.seats)).getD k 0 = z at *
                      have hj0 : (0 : Int) ≤ (k : Int) := by omega
                      have hj1 : (k : Int) < (j : Int) := by omega
                      rcases over_cases x y z with ⟨e, q1⟩ | ⟨e, q1, q2⟩ | ⟨e, q1, q2⟩
                      · have E4 := Lib.hid (Hyes.out (Hat.out.trans e))
                        have q3 : decide (x < y) = true := by simpa using q1
                        clear e
                        go_wp2_with fail
                        go_quiet (fail)
                        go_wp2_with fail
                        go_ret2
                        exact ⟨by rw [E4.out]; rfl, below_drewN hbw _⟩
                      · have E4 := Lib.hid (Hyes.out (Hat.out.trans e))
                        have q3 : decide (x < y) = false := by simpa using q1
                        have q4 : decide (x < z) = true := by simpa using q2
                        clear e
                        go_wp2_with fail
                        go_quiet (fail)
                        go_wp2_with fail
                        go_ret2
                        exact ⟨by rw [E4.out]; rfl, below_drewN hbw _⟩
                      · have E4 := Lib.hid (Hat.out.trans e)
                        have q3 : decide (x < y) = false := by simpa using q1
                        have q4 : decide (x < z) = false := by simpa using q2
                        clear e
                        go_wp2_with fail
                        go_quiet (fail)
                        go_wp2_with fail
                        go_roundw
                        case rel => exact ⟨k + 1, hlt3, by go_num, fun i hi => (by
                          by_cases e : i = k
                          · subst e; exact E4.out
                          · exact Hall.out i (by omega)), below_drewN hb _⟩
                        case measure => simp [intOf] <;> omega
                    · obtain rfl : k = j := by omega
                      have E4 : Hid (checkP p = (0, 0)) := by
                        show _ = _
                        rw [E3.out]
                        exact endP_ok Hdif.out (find_none (fun i hi => Hall.out i (by rw [Hcl.out] at hi; exact hi)))
                      go_wp2_with fail
                      go_ret2
                      exact ⟨by rw [E4.out]; rfl, hbw⟩
            · have E3 : Hid (checkP p = (0, 283)) := by
                show _ = _
                rw [E2.out]
                unfold midP
                rw [Hfl.out, Hgl.out, Hcl.out, if_neg hn2e]
              have hcase : ((n2 : Int) != (n : Int)) = true ∨ ((n2 : Int) != (n : Int)) = false ∧ ((n3 : Int) != (n : Int)) = true := by
                by_cases e1 : n2 = n
                · exact .inr ⟨by rw [e1]; simp, by rw [bne_iff_ne]; exact fun h => hn2e ⟨e1, by omega⟩⟩
                · exact .inl (by rw [bne_iff_ne]; omega)
              clear hn2e
              rcases hcase with r1 | ⟨r1, r2⟩
              all_goals
                go_wp2_with fail
                go_ret2
                exact ⟨by rw [E3.out]; rfl, hbw⟩
  · have hmc := Bool.eq_false_iff.2 hmc
    rw [hmc] at Hmach
    have E : Hid (checkP p = (0, 280)) := by show _ = _; unfold checkP; rw [if_pos hmc]
    clear hmc
    go_enter Tryz.func46, Tryz.ntmps46
    go_wp2_with (go_at_call 35; refine Hmach.out.mono ?_; rintro e w' ⟨rfl, rfl⟩)
    go_ret2
    exact ⟨by rw [E.out]; rfl, hw0⟩
end Go.Proofs.YtpfinkdpaomliaaGreat
