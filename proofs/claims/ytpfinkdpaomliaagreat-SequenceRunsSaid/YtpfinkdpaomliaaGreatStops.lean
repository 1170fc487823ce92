/-
  Stops and seats: lists of structs as cells.
-/
import Derived.Test.YtpfinkdpaomliaaGreatMachine
import Derived.Test.YtpfinkdpaomliaaGreatSeqLaw
import Derived.Test.YtpfinkdpaomliaaGreatLists
namespace Go.Proofs.YtpfinkdpaomliaaGreat
open Go.RowKit

def stopC (s : Stop) : List Value := [.int .i64 s.1, .int .i64 s.2]
def seatC (s : Seat) : List Value := [.int .i64 (Seat.stop s), .int .i64 (Seat.vol s), .int .i64 (Seat.first s), .int .i64 (Seat.second s)]
theorem stopE : Enc 2 stopC := ⟨by omega, fun _ => rfl, fun x u hu => by simp [stopC] at hu; rcases hu with rfl | rfl <;> rfl⟩
theorem seatE : Enc 4 seatC := ⟨by omega, fun _ => rfl, fun x u hu => by simp [seatC] at hu; rcases hu with rfl | rfl | rfl | rfl <;> rfl⟩
abbrev Stops (w : World) (ao : Option Addr) (n : Nat) (l : List Stop) : Prop := RdL 2 stopC stopD w ao n l
abbrev Seats (w : World) (ao : Option Addr) (n : Nat) (l : List Seat) : Prop := RdL 4 seatC seatD w ao n l
/-- Seats of the call's own (e: the element type: the package's, or the reference's). -/
abbrev OwnSeats (e : TypeId) (B : Nat) (w : World) (ao : Option Addr) (n cap : Nat) (l : List Seat) : Prop := OwnL 4 seatC seatD e B w ao n cap l
abbrev OwnStops (e : TypeId) (B : Nat) (w : World) (ao : Option Addr) (n cap : Nat) (l : List Stop) : Prop := OwnL 2 stopC stopD e B w ao n cap l
theorem Stops.at {w : World} {ao : Option Addr} {n : Nat} {l : List Stop} (h : Stops w ao n l) {k : Nat} (hk : k < n) :
    ∃ g off, ao = some ⟨g, off, none⟩ ∧ g < w.heap.size ∧ w.cell? ⟨g, off + k * 2, none⟩ = some (.int .i64 (l.getD k stopD).1) ∧ w.cell? ⟨g, off + k * 2 + 1, none⟩ = some (.int .i64 (l.getD k stopD).2) := by
  obtain ⟨g, off, e, hg, hc⟩ := h.cell (by omega) hk
  exact ⟨g, off, e, hg, hc 0 (by omega), by rw [Nat.add_assoc]; exact hc 1 (by omega)⟩
theorem Seats.at {w : World} {ao : Option Addr} {n : Nat} {l : List Seat} (h : Seats w ao n l) {k : Nat} (hk : k < n) :
    ∃ g off, ao = some ⟨g, off, none⟩ ∧ g < w.heap.size ∧ w.cell? ⟨g, off + k * 4, none⟩ = some (.int .i64 (Seat.stop (l.getD k seatD))) ∧ w.cell? ⟨g, off + k * 4 + 1, none⟩ = some (.int .i64 (Seat.vol (l.getD k seatD))) ∧
      w.cell? ⟨g, off + k * 4 + 2, none⟩ = some (.int .i64 (Seat.first (l.getD k seatD))) ∧ w.cell? ⟨g, off + k * 4 + 3, none⟩ = some (.int .i64 (Seat.second (l.getD k seatD))) := by
  obtain ⟨g, off, e, hg, hc⟩ := h.cell (by omega) hk
  exact ⟨g, off, e, hg, hc 0 (by omega), by rw [Nat.add_assoc]; exact hc 1 (by omega), by rw [Nat.add_assoc]; exact hc 2 (by omega), by rw [Nat.add_assoc]; exact hc 3 (by omega)⟩
end Go.Proofs.YtpfinkdpaomliaaGreat
