/-
  'Find' of the reference; 'lists' of the law.
-/
import Derived.Test.YtpfinkdpaomliaaGreatSame
namespace Go.Proofs.YtpfinkdpaomliaaGreat
open Go.RowKit

def findO (l : List Seat) (x : Int) : Option Nat := (List.range l.length).find? fun i => Seat.stop (l.getD i seatD) == x
def findP (l : List Seat) (x : Int) : Int := match findO l x with
  | some i => (i : Int)
  | none => -1
theorem findP_hit {l : List Seat} {x : Int} {i : Nat} (hi : i < l.length) (hx : Seat.stop (l.getD i seatD) = x) (hno : ∀ j, j < i → Seat.stop (l.getD j seatD) ≠ x) : findP l x = (i : Int) := by
  unfold findP findO
  rw [find_some hi (by simpa using hx) (fun j hj => by simpa using hno j hj)]
theorem findP_none {l : List Seat} {x : Int} (hno : ∀ j, j < l.length → Seat.stop (l.getD j seatD) ≠ x) : findP l x = -1 := by
  unfold findP findO
  rw [find_none (fun j hj => by simpa using hno j hj)]

def R47 (l : List Seat) (x : Int) (m : Nat) (w : World) (u5 : Value) (wr : World) : Prop := ∃ i : Nat, i ≤ m ∧ u5 = .int .i64 i ∧ (∀ j, j < i → Seat.stop (l.getD j seatD) ≠ x) ∧ Below w.heap.size w wr

set_option maxRecDepth 100000 in
set_option maxHeartbeats 1000000 in
theorem find_any (w : World) (v0 v2 v3 : Value) (a1 : Option Addr) (m c1 : Nat) (l : List Seat) (x : Int) (h : Seats w a1 m l) (hm : m ≤ 1048576) (hv0 : v0.oneCell' = true) (hv2 : v2.oneCell' = true) (hv3 : v3.oneCell' = true) (a0 a2 a3 : Option Addr) (n0 c0 n2 c2 n3 c3 : Nat)
    (e0 : v0 = .slice a0 n0 c0) (e2 : v2 = .slice a2 n2 c2) (e3 : v3 = .slice a3 n3 c3) :
    Calls Tryz.prog 47 #[.agg #[v0, .slice a1 m c1, v2, v3], .int .i64 x] w fun e w' => e = .returned (.int .i64 (findP l x)) ∧ Below w.heap.size w w' := by
  subst e0 e2 e3
  have Hl := Lib.hid h.len
  have hb0 : Below w.heap.size w (w.alloc (.cells #[.slice a0 n0 c0, .slice a1 m c1, .slice a2 n2 c2, .slice a3 n3 c3] 29)) := (Below.refl _ _).alloc (Nat.le_refl _) _
  obtain ⟨p0, p1, p2, p3, _⟩ := four_at (heap_alloc_new w (.cells #[.slice a0 n0 c0, .slice a1 m c1, .slice a2 n2 c2, .slice a3 n3 c3] 29))
  have h1 := h.below hb0
  go_enter Tryz.func47, Tryz.ntmps47
  go_wp2_with fail
  go_loop [5] (fun u5 => ∃ i : Nat, i ≤ m ∧ u5 = .int .i64 i ∧ (∀ j, j < i → Seat.stop (l.getD j seatD) ≠ x)) (fun u5 => m - (intOf u5).toNat)
  case atStart => exact ⟨0, Nat.zero_le _, rfl, fun j hj => absurd hj (by omega)⟩
  case round =>
    obtain ⟨i, hi, rfl, hall⟩ := hrel
    have Hall := Lib.hid hall
    clear hall
    by_cases hlt : i < m
    · obtain ⟨g, off, rfl, hg, x0, _, _, _⟩ := Seats.at h1 hlt
      have Hhit : Hid (Seat.stop (l.getD i seatD) = x → findP l x = (i : Int)) := fun hx => findP_hit (by rw [Hl.out]; exact hlt) hx Hall.out
      have Hnext : Hid (Seat.stop (l.getD i seatD) ≠ x → ∀ j, j < i + 1 → Seat.stop (l.getD j seatD) ≠ x) := fun hx j hj => by
        by_cases e : j = i
        · subst e; exact hx
        · exact Hall.out j (by omega)
      generalize Seat.stop (l.getD i seatD) = y at *
      by_cases hx : y = x
      · have E := Lib.hid (Hhit.out hx)
        have r1 : (y == x) = true := by simpa using hx
        clear hx
        go_wp2_with fail
        go_ret
        exact ⟨by rw [E.out]; rfl, hb0⟩
      · have E := Lib.hid (Hnext.out hx)
        have r1 : (y == x) = false := by simpa using hx
        clear hx
        go_wp2_with fail
        go_round
        case rel => exact ⟨i + 1, hlt, by go_num, E.out⟩
        case measure => simp [intOf] <;> omega
    · obtain rfl : i = m := by omega
      have E : Hid (findP l x = -1) := findP_none (fun j hj => Hall.out j (by rw [Hl.out] at hj; exact hj))
      go_wp2_with fail
      go_ret
      exact ⟨by rw [E.out]; rfl, hb0⟩
end Go.Proofs.YtpfinkdpaomliaaGreat
