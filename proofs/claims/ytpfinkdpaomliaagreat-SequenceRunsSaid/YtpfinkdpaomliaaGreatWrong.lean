/-
  'wrong' of the reference: the index of the first seat that is not valid.
-/
import Derived.Test.YtpfinkdpaomliaaGreatStops
namespace Go.Proofs.YtpfinkdpaomliaaGreat
open Go.RowKit

def badStop (id vol : Int) : Bool := decide (id < 1) || decide (999999 < id) || decide (vol < 1) || decide (10000 < vol)
def metAt (l : List Stop) (i : Nat) : Bool := (List.range i).any fun k => (l.getD k stopD).1 == (l.getD i stopD).1
def wrongAt (l : List Stop) (i : Nat) : Bool := badStop (l.getD i stopD).1 (l.getD i stopD).2 || metAt l i
def wrongP (l : List Stop) : Option Nat := (List.range l.length).find? (wrongAt l)
def stopsOf (l : List Seat) : List Stop := l.map fun s => (Seat.stop s, Seat.vol s)

theorem wrongP_some {l : List Stop} {i : Nat} (hi : i < l.length) (h : wrongAt l i = true) (hno : ∀ j, j < i → wrongAt l j = false) : wrongP l = some i := by
  unfold wrongP
  rw [List.find?_eq_some_iff_append]
  refine ⟨h, List.range i, (List.range (l.length - (i + 1))).map (· + (i + 1)), ?_, ?_⟩
  · apply List.ext_getElem
    · simp; omega
    · intro j h1 h2
      simp only [List.getElem_range]
      rcases Nat.lt_trichotomy j i with h | h | h
      · rw [List.getElem_append_left (by simpa using h)]; simp
      · subst h; rw [List.getElem_append_right (by simp)]; simp
      · rw [List.getElem_append_right (by simp; omega)]
        simp only [List.length_range]
        rw [List.getElem_cons]
        split
        · omega
        · simp; omega
  · intro j hj
    rw [List.mem_range] at hj
    rw [hno j hj]
    rfl
theorem wrongP_none {l : List Stop} (hno : ∀ j, j < l.length → wrongAt l j = false) : wrongP l = none := by
  unfold wrongP
  rw [List.find?_eq_none]
  intro j hj
  rw [List.mem_range] at hj
  rw [hno j hj]
  exact Bool.false_ne_true
theorem metAt_yes {l : List Stop} {i k : Nat} (hk : k < i) (h : (l.getD k stopD).1 = (l.getD i stopD).1) : metAt l i = true := by
  unfold metAt
  rw [List.any_eq_true]
  exact ⟨k, List.mem_range.2 hk, by rw [h]; exact beq_self_eq_true _⟩
theorem metAt_no {l : List Stop} {i : Nat} (h : ∀ k, k < i → (l.getD k stopD).1 ≠ (l.getD i stopD).1) : metAt l i = false := by
  unfold metAt
  rw [List.any_eq_false]
  intro k hk
  rw [List.mem_range] at hk
  simpa using h k hk
theorem stopsOf_at (l : List Seat) (k : Nat) (hk : k < l.length) : (stopsOf l).getD k stopD = (Seat.stop (l.getD k seatD), Seat.vol (l.getD k seatD)) := by
  unfold stopsOf
  rw [List.getD_eq_getElem?_getD, List.getElem?_map, List.getD_eq_getElem?_getD, List.getElem?_eq_getElem hk]
  rfl

theorem bad_cases (id vol : Int) : (badStop id vol = false ∧ ¬ id < 1 ∧ ¬ 999999 < id ∧ ¬ vol < 1 ∧ ¬ 10000 < vol) ∨ (badStop id vol = true ∧ id < 1) ∨ (badStop id vol = true ∧ ¬ id < 1 ∧ 999999 < id) ∨
    (badStop id vol = true ∧ ¬ id < 1 ∧ ¬ 999999 < id ∧ vol < 1) ∨ (badStop id vol = true ∧ ¬ id < 1 ∧ ¬ 999999 < id ∧ ¬ vol < 1 ∧ 10000 < vol) := by
  unfold badStop
  by_cases h1 : id < 1
  · exact .inr (.inl ⟨by simp [h1], h1⟩)
  · by_cases h2 : 999999 < id
    · exact .inr (.inr (.inl ⟨by simp [h2], h1, h2⟩))
    · by_cases h3 : vol < 1
      · exact .inr (.inr (.inr (.inl ⟨by simp [h3], h1, h2, h3⟩)))
      · by_cases h4 : 10000 < vol
        · exact .inr (.inr (.inr (.inr ⟨by simp [h4], h1, h2, h3, h4⟩)))
        · exact .inl ⟨by simp [h1, h2, h3, h4], h1, h2, h3, h4⟩

def wrongI (o : Option Nat) : Int := match o with
  | some i => (i : Int)
  | none => -1
def Rw1 (l : List Stop) (n : Nat) (w : World) (u3 : Value) (wr : World) : Prop := ∃ i : Nat, i ≤ n ∧ u3 = .int .i64 i ∧ (∀ j, j < i → wrongAt l j = false) ∧ Below w.heap.size w wr
def Rw2 (l : List Stop) (i : Nat) (w : World) (u4 : Value) (wr : World) : Prop := ∃ k : Nat, k ≤ i ∧ u4 = .int .i64 k ∧ (∀ j, j < k → (l.getD j stopD).1 ≠ (l.getD i stopD).1) ∧ Below w.heap.size w wr

set_option maxRecDepth 100000 in
set_option maxHeartbeats 1000000 in
theorem refWrong_any (w : World) (ao : Option Addr) (n c : Nat) (l : List Seat) (h : Seats w ao n l) (hn : n ≤ 1048576) :
    Calls Tryz.prog 36 #[.slice ao n c] w fun e w' => e = .returned (.int .i64 (wrongI (wrongP (stopsOf l)))) ∧ Below w.heap.size w w' := by
  have Hl := Lib.hid h.len
  have Hs : Hid ((stopsOf l).length = n) := by show _ = _; unfold stopsOf; rw [List.length_map, Hl.out]
  have hb0 := Below.refl w.heap.size w
  go_enter Tryz.func36, Tryz.ntmps36
  go_wp2_with fail
  go_loopw [3] (Rw1 (stopsOf l) n w) (fun u3 _ => n - (intOf u3).toNat)
  case atStart => exact ⟨0, Nat.zero_le _, rfl, fun j hj => absurd hj (by omega), hb0⟩
  case round =>
    clear hb0
    obtain ⟨i, hi, rfl, hall, hb⟩ := hrel
    have Hall := Lib.hid hall
    clear hall
    by_cases hlt : i < n
    · obtain ⟨g, off, rfl, hg, hc0, hc1, _, _⟩ := h.at hlt
      have e0 : wr.cell? ⟨g, off + i * 4, none⟩ = some (.int .i64 (Seat.stop (l.getD i seatD))) := (hb.cell (p := ⟨g, off + i * 4, none⟩) hg).trans hc0
      have e1 : wr.cell? ⟨g, off + i * 4 + 1, none⟩ = some (.int .i64 (Seat.vol (l.getD i seatD))) := (hb.cell (p := ⟨g, off + i * 4 + 1, none⟩) hg).trans hc1
      have Hat := Lib.hid (stopsOf_at l i (by rw [Hl.out]; exact hlt))
      clear hc1
      generalize Seat.stop (l.getD i seatD) = id at e0 Hat hc0
      have Hc0 := Lib.hid hc0
      clear hc0
      generalize Seat.vol (l.getD i seatD) = vol at e1 Hat
      have Hbad : Hid (badStop id vol = true → wrongP (stopsOf l) = some i) := by
        intro hbd
        refine wrongP_some (by rw [Hs.out]; exact hlt) ?_ Hall.out
        unfold wrongAt
        rw [Hat.out, hbd, Bool.true_or]
      rcases bad_cases id vol with ⟨e, q1, q2, q3, q4⟩ | ⟨e, q1⟩ | ⟨e, q1, q2⟩ | ⟨e, q1, q2, q3⟩ | ⟨e, q1, q2, q3, q4⟩
      · have E := Lib.hid e
        clear e
        go_wp2_with fail
        obtain ⟨wo, rfl⟩ : ∃ wo : World, wo = wr := ⟨_, rfl⟩
        clear Hbad q1 q2 q3 q4
        go_loopw [4] (Rw2 (stopsOf l) i w) (fun u4 _ => i - (intOf u4).toNat)
        case atStart => exact ⟨0, Nat.zero_le _, rfl, fun j hj => absurd hj (by omega), hb⟩
        case round =>
          clear hb e0 e1
          obtain ⟨k, hk, rfl, hmet, hb⟩ := hrel
          have Hmet := Lib.hid hmet
          clear hmet
          have e0 : wr.cell? ⟨g, off + i * 4, none⟩ = some (.int .i64 id) := by
            rw [hb.cell (p := ⟨g, off + i * 4, none⟩) hg]
            exact Hc0.out
          by_cases hki : k < i
          · obtain ⟨g', off', hg1, _, hc2, _, _, _⟩ := h.at (show k < n by omega)
            cases hg1
            have e2 : wr.cell? ⟨g, off + k * 4, none⟩ = some (.int .i64 (Seat.stop (l.getD k seatD))) := (hb.cell (p := ⟨g, off + k * 4, none⟩) hg).trans hc2
            have Hat2 := Lib.hid (stopsOf_at l k (by rw [Hl.out]; omega))
            clear hc2
            generalize Seat.stop (l.getD k seatD) = idk at e2 Hat2
            by_cases hs : idk = id
            · subst hs
              have hs2 : (idk == idk) = true := by simp
              have E2 : Hid (wrongP (stopsOf l) = some i) := by
                refine wrongP_some (by rw [Hs.out]; exact hlt) ?_ Hall.out
                unfold wrongAt
                rw [metAt_yes hki (by rw [Hat.out, Hat2.out]), Bool.or_true]
              go_wp2_with fail
              go_quiet (fail)
              go_wp2_with fail
              go_ret
              exact ⟨by rw [E2.out]; rfl, ⟨hb.os, hb.tape, hb.output, hb.size, hb.block⟩⟩
            · have hs2 : (idk == id) = false := beq_eq_false_iff_ne.2 hs
              go_wp2_with fail
              go_quiet (fail)
              go_wp2_with fail
              go_roundw
              case rel => exact ⟨k + 1, hki, by go_num, fun j hj => (by
                by_cases e : j = k
                · subst e; rw [Hat.out, Hat2.out]; exact hs
                · exact Hmet.out j (by omega)), ⟨hb.os, hb.tape, hb.output, hb.size, hb.block⟩⟩
              case measure => simp [intOf] <;> omega
          · obtain rfl : k = i := by omega
            have En : Hid (wrongAt (stopsOf l) k = false) := by
              show _ = _
              unfold wrongAt
              rw [metAt_no Hmet.out, Hat.out, E.out, Bool.or_false]
            go_wp2_with fail
            go_roundw
            case rel => exact ⟨k + 1, hlt, by go_num, fun j hj => (by
              by_cases e : j = k
              · subst e; exact En.out
              · exact Hall.out j (by omega)), hb⟩
            case measure => simp [intOf] <;> omega
      all_goals
        have E := Lib.hid (Hbad.out e)
        clear e
        go_wp2_with fail
        go_ret
        exact ⟨by rw [E.out]; rfl, hb⟩
    · obtain rfl : i = n := by omega
      have E : Hid (wrongP (stopsOf l) = none) := wrongP_none (fun j hj => Hall.out j (by rw [Hs.out] at hj; exact hj))
      go_wp2_with fail
      go_ret
      exact ⟨by rw [E.out]; rfl, hb⟩
end Go.Proofs.YtpfinkdpaomliaaGreat
