/-
  'misplaced' of the package: the first seat whose stackers are none of the machine, or not behind those of the seat before.
-/
import Derived.Test.YtpfinkdpaomliaaGreatMakeLaw
namespace Go.Proofs.YtpfinkdpaomliaaGreat
open Go.RowKit

def outB (n : Nat) (x : Seat) : Bool := decide (Seat.first x < 0) || decide ((n : Int) ≤ Seat.first x) || decide (Seat.second x < 0) || decide ((n : Int) ≤ Seat.second x)
def backB (x y : Seat) : Bool := decide (Seat.second x < Seat.second y) || (decide (Seat.second x = Seat.second y) && decide (Seat.first x ≤ Seat.first y))
def misAt (n : Nat) (l : List Seat) (i : Nat) : Bool := outB n (l.getD i seatD) || (decide (0 < i) && backB (l.getD i seatD) (l.getD (i - 1) seatD))
def misP (n : Nat) (l : List Seat) : Option Nat := (List.range l.length).find? (misAt n l)

theorem out_cases (n : Nat) (a b : Int) : (decide (a < 0) || decide ((n : Int) ≤ a) || decide (b < 0) || decide ((n : Int) ≤ b)) = true ∧ a < 0 ∨
    (decide (a < 0) || decide ((n : Int) ≤ a) || decide (b < 0) || decide ((n : Int) ≤ b)) = true ∧ ¬ a < 0 ∧ (n : Int) ≤ a ∨
    (decide (a < 0) || decide ((n : Int) ≤ a) || decide (b < 0) || decide ((n : Int) ≤ b)) = true ∧ ¬ a < 0 ∧ ¬ (n : Int) ≤ a ∧ b < 0 ∨
    (decide (a < 0) || decide ((n : Int) ≤ a) || decide (b < 0) || decide ((n : Int) ≤ b)) = true ∧ ¬ a < 0 ∧ ¬ (n : Int) ≤ a ∧ ¬ b < 0 ∧ (n : Int) ≤ b ∨
    (decide (a < 0) || decide ((n : Int) ≤ a) || decide (b < 0) || decide ((n : Int) ≤ b)) = false ∧ ¬ a < 0 ∧ ¬ (n : Int) ≤ a ∧ ¬ b < 0 ∧ ¬ (n : Int) ≤ b := by
  by_cases h1 : a < 0
  · exact .inl ⟨by simp [h1], h1⟩
  · by_cases h2 : (n : Int) ≤ a
    · exact .inr (.inl ⟨by simp [h2], h1, h2⟩)
    · by_cases h3 : b < 0
      · exact .inr (.inr (.inl ⟨by simp [h3], h1, h2, h3⟩))
      · by_cases h4 : (n : Int) ≤ b
        · exact .inr (.inr (.inr (.inl ⟨by simp [h4], h1, h2, h3, h4⟩)))
        · exact .inr (.inr (.inr (.inr ⟨by simp [h1, h2, h3, h4], h1, h2, h3, h4⟩)))
theorem back_cases (a b c d : Int) : (decide (b < d) || (decide (b = d) && decide (a ≤ c))) = true ∧ b < d ∨ (decide (b < d) || (decide (b = d) && decide (a ≤ c))) = true ∧ ¬ b < d ∧ b = d ∧ a ≤ c ∨
    (decide (b < d) || (decide (b = d) && decide (a ≤ c))) = false ∧ ¬ b < d ∧ b = d ∧ ¬ a ≤ c ∨ (decide (b < d) || (decide (b = d) && decide (a ≤ c))) = false ∧ ¬ b < d ∧ ¬ b = d := by
  by_cases h1 : b < d
  · exact .inl ⟨by simp [h1], h1⟩
  · by_cases h2 : b = d
    · by_cases h3 : a ≤ c
      · exact .inr (.inl ⟨by simp [h2, h3], h1, h2, h3⟩)
      · exact .inr (.inr (.inl ⟨by simp [h2, h3], h1, h2, h3⟩))
    · exact .inr (.inr (.inr ⟨by simp [h1, h2], h1, h2⟩))

def R66 (n m : Nat) (l : List Seat) (b : Nat) (pv : Array Value) (w : World) (u10 : Value) (wr : World) : Prop :=
  ∃ i : Nat, i ≤ m ∧ u10 = .int .i64 i ∧ (∀ j, j < i → misAt n l j = false) ∧ Below (w.heap.size + 1) (w.alloc (.cells pv 36)) wr

set_option maxRecDepth 100000 in
set_option maxHeartbeats 2000000 in
theorem mis_any (w : World) (a0 a1 a2 a3 : Option Addr) (n c0 m c1 n2 c2 n3 c3 : Nat) (l : List Seat) (h : Seats w a1 m l) (hm : m ≤ 1048576) (hn : n ≤ 1048576) :
    Calls Tryz.prog 66 #[.agg #[.slice a0 n c0, .slice a1 m c1, .slice a2 n2 c2, .slice a3 n3 c3]] w fun e w' => e = .returned (wrongT (misP n l)) ∧ Below w.heap.size w w' := by
  have Hl := Lib.hid h.len
  have hpl := four_at (heap_alloc_new w (.cells #[.slice a0 n c0, .slice a1 m c1, .slice a2 n2 c2, .slice a3 n3 c3] 36))
  have Hpl := Lib.hid hpl
  obtain ⟨p0, p1, _, _, _, _, _, _⟩ := hpl
  have hb0 : Below w.heap.size w (w.alloc (.cells #[.slice a0 n c0, .slice a1 m c1, .slice a2 n2 c2, .slice a3 n3 c3] 36)) := (Below.refl _ _).alloc (Nat.le_refl _) _
  have h1 := h.below hb0
  have Hb0 := Lib.hid hb0
  clear hb0
  go_enter Tryz.func66, Tryz.ntmps66
  go_wp2_with fail
  go_loopw [10] (R66 n m l w.heap.size #[.slice a0 n c0, .slice a1 m c1, .slice a2 n2 c2, .slice a3 n3 c3] w) (fun u10 _ => m - (intOf u10).toNat)
  case atStart => exact ⟨0, Nat.zero_le _, rfl, fun j hj => absurd hj (by omega), Below.refl _ _⟩
  case round =>
    clear p0 p1
    obtain ⟨i, hi, rfl, hall, hb⟩ := hrel
    have Hall := Lib.hid hall
    clear hall
    have hsz := hb.size
    simp at hsz
    have hb' : Below (w.alloc (.cells #[.slice a0 n c0, .slice a1 m c1, .slice a2 n2 c2, .slice a3 n3 c3] 36)).heap.size (w.alloc (.cells #[.slice a0 n c0, .slice a1 m c1, .slice a2 n2 c2, .slice a3 n3 c3] 36)) wr := by simpa using hb
    have q0 : wr.cell? ⟨w.heap.size, 0, none⟩ = some (.slice a0 n c0) := (hb.cell (p := ⟨w.heap.size, 0, none⟩) (by simp)).trans Hpl.out.1
    have q1 : wr.cell? ⟨w.heap.size, 1, none⟩ = some (.slice a1 m c1) := (hb.cell (p := ⟨w.heap.size, 1, none⟩) (by simp)).trans Hpl.out.2.1
    have Hfin : Hid (∀ w', Below (w.heap.size + 1) wr w' → Below w.heap.size w w') := fun w' hx => Hb0.out.trans ((hb.trans hx).mono (by omega))
    have Hb := Lib.hid hb
    by_cases hlt : i < m
    · have h2 := h1.below hb'
      obtain ⟨g, off, rfl, hg, e0, e1, e2, e3⟩ := Seats.at h2 hlt
      clear hb hb'
      have Hat : Hid (misAt n l i = (outB n (l.getD i seatD) || (decide (0 < i) && backB (l.getD i seatD) (l.getD (i - 1) seatD)))) := rfl
      have Hyes : Hid (misAt n l i = true → misP n l = some i) := fun hx => find_some (by rw [Hl.out]; exact hlt) hx Hall.out
      have Hob : Hid (outB n (l.getD i seatD) = (decide (Seat.first (l.getD i seatD) < 0) || decide ((n : Int) ≤ Seat.first (l.getD i seatD)) || decide (Seat.second (l.getD i seatD) < 0) || decide ((n : Int) ≤ Seat.second (l.getD i seatD)))) := rfl
      have Hbk : Hid (backB (l.getD i seatD) (l.getD (i - 1) seatD) = (decide (Seat.second (l.getD i seatD) < Seat.second (l.getD (i - 1) seatD)) || (decide (Seat.second (l.getD i seatD) = Seat.second (l.getD (i - 1) seatD)) && decide (Seat.first (l.getD i seatD) ≤ Seat.first (l.getD (i - 1) seatD))))) := rfl
      have hb1 : ∀ o, Below (w.heap.size + 1) wr (wr.alloc o) := fun o => (Below.refl _ _).alloc hsz o
      have hb2 : ∀ o o', Below (w.heap.size + 1) wr ((wr.alloc o).alloc o') := fun o o' => ((Below.refl _ _).alloc hsz o).alloc (by simp; omega) o'
      have q0a : ∀ o, (wr.alloc o).cell? ⟨w.heap.size, 0, none⟩ = some (.slice a0 n c0) := fun o => ((hb1 o).cell (p := ⟨w.heap.size, 0, none⟩) (by simp)).trans q0
      have q1a : ∀ o, (wr.alloc o).cell? ⟨w.heap.size, 1, none⟩ = some (.slice (some ⟨g, off, none⟩) m c1) := fun o => ((hb1 o).cell (p := ⟨w.heap.size, 1, none⟩) (by simp)).trans q1
      have Hb1 := Lib.hid hb1
      have Hb2 := Lib.hid hb2
      clear hb1 hb2
      cases i with
      | zero =>
        simp only [Nat.zero_mul, Nat.add_zero] at e0 e1 e2 e3
        generalize Seat.first (l.getD 0 seatD) = a at *
        generalize Seat.second (l.getD 0 seatD) = b at *
        generalize Seat.stop (l.getD 0 seatD) = s at *
        generalize Seat.vol (l.getD 0 seatD) = v at *
        rcases out_cases n a b with ⟨e, d1⟩ | ⟨e, d1, d2⟩ | ⟨e, d1, d2, d3⟩ | ⟨e, d1, d2, d3, d4⟩ | ⟨e, d1, d2, d3, d4⟩
        case inr.inr.inr.inr =>
          have E : Hid (misAt n l 0 = false) := by show _ = _; rw [Hat.out, Hob.out, e]; rfl
          clear e
          go_wp2_with fail
          go_roundw
          case rel => exact ⟨1, hlt, rfl, fun j hj => (by have e0 : j = 0 := (by omega); subst e0; exact E.out), Hb.out.trans (Hb1.out _)⟩
          case measure => simp [intOf] <;> omega
        all_goals
          have E := Lib.hid (Hyes.out (by rw [Hat.out, Hob.out, e]; rfl))
          clear e
          go_wp2_with fail
          go_ret2
          exact ⟨by rw [E.out]; rfl, Hfin.out _ (Hb1.out _)⟩
      | succ j =>
        obtain ⟨g', off', eg, hg', f0, f1, f2, f3⟩ := Seats.at h2 (show j < m by omega)
        cases eg
        simp only [Nat.add_sub_cancel] at Hat Hbk
        have hcast : ((j + 1 : Nat) : Int) = (j : Int) + 1 := by omega
        generalize Seat.first (l.getD (j + 1) seatD) = a at *
        generalize Seat.second (l.getD (j + 1) seatD) = b at *
        generalize Seat.stop (l.getD (j + 1) seatD) = s at *
        generalize Seat.vol (l.getD (j + 1) seatD) = v at *
        generalize Seat.first (l.getD j seatD) = c at *
        generalize Seat.second (l.getD j seatD) = d at *
        generalize Seat.stop (l.getD j seatD) = s' at *
        generalize Seat.vol (l.getD j seatD) = v' at *
        have Hcast := Lib.hid hcast
        clear hcast
        have hjm : j < m := by omega
        rcases out_cases n a b with ⟨e, d1⟩ | ⟨e, d1, d2⟩ | ⟨e, d1, d2, d3⟩ | ⟨e, d1, d2, d3, d4⟩ | ⟨e, d1, d2, d3, d4⟩
        case inr.inr.inr.inr =>
          rcases back_cases a b c d with ⟨e', q2⟩ | ⟨e', q2, q3, q4⟩ | ⟨e', q2, q3, q4⟩ | ⟨e', q2, q3⟩
          all_goals try subst q3
          case inr.inr.inr =>
            have E : Hid (misAt n l (j + 1) = false) := by show _ = _; rw [Hat.out, Hob.out, e, Hbk.out, e']; simp
            have q5 : (b == d) = false := beq_eq_false_iff_ne.2 q3
            clear e e'
            go_wp2_with fail
            go_roundw
            case rel => exact ⟨j + 1 + 1, hlt, by go_num, fun i hi => (by
              by_cases e : i = j + 1
              · subst e; exact E.out
              · exact Hall.out i (by omega)), Hb.out.trans (Hb2.out _ _)⟩
            case measure => simp [intOf] <;> omega
          case inr.inr.inl =>
            have E : Hid (misAt n l (j + 1) = false) := by show _ = _; rw [Hat.out, Hob.out, e, Hbk.out, e']; simp
            clear e e'
            go_wp2_with fail
            go_roundw
            case rel => exact ⟨j + 1 + 1, hlt, by go_num, fun i hi => (by
              by_cases e : i = j + 1
              · subst e; exact E.out
              · exact Hall.out i (by omega)), Hb.out.trans (Hb2.out _ _)⟩
            case measure => simp [intOf] <;> omega
          all_goals
            have E := Lib.hid (Hyes.out (by rw [Hat.out, Hob.out, e, Hbk.out, e']; simp))
            clear e e'
            go_wp2_with fail
            go_ret2
            exact ⟨by rw [E.out]; rfl, Hfin.out _ (Hb2.out _ _)⟩
        all_goals
          have E := Lib.hid (Hyes.out (by rw [Hat.out, Hob.out, e]; rfl))
          clear e
          go_wp2_with fail
          go_ret2
          exact ⟨by rw [E.out]; rfl, Hfin.out _ (Hb1.out _)⟩
    · obtain rfl : i = m := by omega
      have E : Hid (misP n l = none) := find_none (fun j hj => Hall.out j (by rw [Hl.out] at hj; exact hj))
      go_wp2_with fail
      go_ret2
      exact ⟨by rw [E.out]; rfl, Hfin.out _ (Below.refl _ _)⟩
end Go.Proofs.YtpfinkdpaomliaaGreat
