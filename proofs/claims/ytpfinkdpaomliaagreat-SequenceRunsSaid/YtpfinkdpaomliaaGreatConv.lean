/-
  Stops and seats as the reference has them: lists of the call's own.
-/
import Derived.Test.YtpfinkdpaomliaaGreatMakeLaw
namespace Go.Proofs.YtpfinkdpaomliaaGreat
open Go.RowKit

def R12 (l : List Stop) (n : Nat) (w : World) (u3 u8 : Value) (wr : World) : Prop :=
  ∃ (i : Nat) (ao : Option Addr) (cap : Nat), i ≤ n ∧ u3 = .slice ao i cap ∧ u8 = .int .i64 i ∧ OwnL 2 stopC stopD 90 w.heap.size wr ao i cap (l.take i) ∧ Below w.heap.size w wr

set_option maxRecDepth 1000000 in
set_option maxHeartbeats 1000000 in
theorem convStops_any (w : World) (ao : Option Addr) (n c : Nat) (l : List Stop) (h : RdL 2 stopC stopD w ao n l) (hn : n ≤ 1048576) :
    Calls Tryz.prog 12 #[.slice ao n c] w fun e w' => ∃ ao' cap', e = .returned (.slice ao' n cap') ∧ OwnL 2 stopC stopD 90 w.heap.size w' ao' n cap' l ∧ Below w.heap.size w w' := by
  obtain ⟨i0, hi0, hz0, hz1, hz2⟩ := info_parts (show (Tryz.prog.info? 90).map (fun i => (i.zero, i.size, i.bytes)) = some (some (.agg #[.int .i64 0, .int .i64 0]), 2, 16) by kernel_rfl)
  have Hl := Lib.hid h.len
  have hb0 := Below.refl w.heap.size w
  go_enter Tryz.func12, Tryz.ntmps12
  go_wp2_with fail
  go_loopw [3, 8] (R12 l n w) (fun _ u8 _ => n - (intOf u8).toNat)
  case atStart => exact ⟨0, none, 0, Nat.zero_le _, rfl, rfl, OwnL.nil _ _ _ _, hb0⟩
  case round =>
    clear hb0
    obtain ⟨i, ao1, cap1, hi, rfl, rfl, hown, hb⟩ := hrel
    have hsz := hb.size
    by_cases hlt : i < n
    · obtain ⟨g, off, rfl, hg, hc⟩ := h.cell (by omega) hlt
      have e0 : wr.cell? ⟨g, off + i * 2, none⟩ = some (.int .i64 ((l.getD i stopD)).1) := (hb.cell (p := ⟨g, off + i * 2, none⟩) hg).trans (hc 0 (by omega))
      have e1 : wr.cell? ⟨g, off + i * 2 + 1, none⟩ = some (.int .i64 ((l.getD i stopD)).2) := (hb.cell (p := ⟨g, off + i * 2 + 1, none⟩) hg).trans (by rw [Nat.add_assoc]; exact hc 1 (by omega))
      clear hc
      have Htk := Lib.hid (take_snoc' l stopD i (by rw [Hl.out]; exact hlt))
      have Hrow : Hid (stopC (l.getD i stopD) = [.int .i64 ((l.getD i stopD)).1, .int .i64 ((l.getD i stopD)).2]) := rfl
      have hb1 := (hb.alloc hsz (.cells (stopC (l.getD i stopD)).toArray 43)).alloc (by simp; omega) (.cells (stopC (l.getD i stopD)).toArray 90)
      have hsl := (hown.alloc (.cells (stopC (l.getD i stopD)).toArray 43)).alloc (.cells (stopC (l.getD i stopD)).toArray 90)
      have hnews := news_at (wr.alloc (.cells (stopC (l.getD i stopD)).toArray 43)) (stopC (l.getD i stopD)) 90 (wr.heap.size + 1) (by simp)
      have Hsl := Lib.hid hsl
      have Hnews := Lib.hid hnews
      have Hb1 := Lib.hid hb1
      clear hsl hnews hb1 hb hown
      generalize hx : l.getD i stopD = x at *
      have Hx := Lib.hid hx
      clear hx
      go_wp2_with (at_builtin; refine wpList_append_sl _ rfl (.tmp 12) (.tmp 18) 32 rfl 90 i0 _ 2 16 Tryz.underlying32 hi0 hz0 hz1 hz2 rfl rfl Hsl.out.sl ⟨wr.heap.size + 1, 0, none⟩ 1 1 (stopC x) rfl rfl Hnews.out (stopE.one _) (by unfold maxLen; omega) (by omega) ?_)
      intro ao2 cap2 w2 ha
      have ha' : Appended ((wr.alloc (.cells (stopC x).toArray 43)).alloc (.cells (stopC x).toArray 90)) w2 90 2 ao1 i cap1 ao2 (i + 1) cap2 (fun j => if j < i * 2 then cellsF 2 stopC stopD (l.take i) j else (stopC x)[j - i * 2]?.getD undef) := by
        first | exact ha | (simp at ha; exact ha) | simpa using ha
      have hown2 := ownL_app stopE Hsl.out (by simp; omega) x rfl rfl ha'
      have hb2 : Below w.heap.size w w2 := Hb1.out.grown ha'.grown (by simp; omega) Hsl.out.row
      clear ha ha'
      go_wp2_with fail
      go_roundw
      case rel => exact ⟨i + 1, ao2, cap2, hlt, rfl, by go_num, by rw [Htk.out]; exact hown2, hb2⟩
      case measure => simp [intOf] <;> omega
    · obtain rfl : i = n := by omega
      have Et : Hid (l.take i = l) := List.take_of_length_le (by rw [Hl.out]; exact Nat.le_refl _)
      rw [Et.out] at hown
      go_wp2_with fail
      go_ret
      exact ⟨ao1, cap1, rfl, hown, hb⟩

def R45 (l : List Seat) (n : Nat) (w : World) (u3 u8 : Value) (wr : World) : Prop :=
  ∃ (i : Nat) (ao : Option Addr) (cap : Nat), i ≤ n ∧ u3 = .slice ao i cap ∧ u8 = .int .i64 i ∧ OwnL 4 seatC seatD 65 w.heap.size wr ao i cap (l.take i) ∧ Below w.heap.size w wr

set_option maxRecDepth 1000000 in
set_option maxHeartbeats 1000000 in
theorem convSeats_any (w : World) (ao : Option Addr) (n c : Nat) (l : List Seat) (h : RdL 4 seatC seatD w ao n l) (hn : n ≤ 1048576) :
    Calls Tryz.prog 45 #[.slice ao n c] w fun e w' => ∃ ao' cap', e = .returned (.slice ao' n cap') ∧ OwnL 4 seatC seatD 65 w.heap.size w' ao' n cap' l ∧ Below w.heap.size w w' := by
  obtain ⟨i0, hi0, hz0, hz1, hz2⟩ := info_parts (show (Tryz.prog.info? 65).map (fun i => (i.zero, i.size, i.bytes)) = some (some (.agg #[.int .i64 0, .int .i64 0, .int .i64 0, .int .i64 0]), 4, 32) by kernel_rfl)
  have Hl := Lib.hid h.len
  have hb0 := Below.refl w.heap.size w
  go_enter Tryz.func45, Tryz.ntmps45
  go_wp2_with fail
  go_loopw [3, 8] (R45 l n w) (fun _ u8 _ => n - (intOf u8).toNat)
  case atStart => exact ⟨0, none, 0, Nat.zero_le _, rfl, rfl, OwnL.nil _ _ _ _, hb0⟩
  case round =>
    clear hb0
    obtain ⟨i, ao1, cap1, hi, rfl, rfl, hown, hb⟩ := hrel
    have hsz := hb.size
    by_cases hlt : i < n
    · obtain ⟨g, off, rfl, hg, hc⟩ := h.cell (by omega) hlt
      have e0 : wr.cell? ⟨g, off + i * 4, none⟩ = some (.int .i64 (Seat.stop (l.getD i seatD))) := (hb.cell (p := ⟨g, off + i * 4, none⟩) hg).trans (hc 0 (by omega))
      have e1 : wr.cell? ⟨g, off + i * 4 + 1, none⟩ = some (.int .i64 (Seat.vol (l.getD i seatD))) := (hb.cell (p := ⟨g, off + i * 4 + 1, none⟩) hg).trans (by rw [Nat.add_assoc]; exact hc 1 (by omega))
      have e2 : wr.cell? ⟨g, off + i * 4 + 2, none⟩ = some (.int .i64 (Seat.first (l.getD i seatD))) := (hb.cell (p := ⟨g, off + i * 4 + 2, none⟩) hg).trans (by rw [Nat.add_assoc]; exact hc 2 (by omega))
      have e3 : wr.cell? ⟨g, off + i * 4 + 3, none⟩ = some (.int .i64 (Seat.second (l.getD i seatD))) := (hb.cell (p := ⟨g, off + i * 4 + 3, none⟩) hg).trans (by rw [Nat.add_assoc]; exact hc 3 (by omega))
      clear hc
      have Htk := Lib.hid (take_snoc' l seatD i (by rw [Hl.out]; exact hlt))
      have Hrow : Hid (seatC (l.getD i seatD) = [.int .i64 (Seat.stop (l.getD i seatD)), .int .i64 (Seat.vol (l.getD i seatD)), .int .i64 (Seat.first (l.getD i seatD)), .int .i64 (Seat.second (l.getD i seatD))]) := rfl
      have hb1 := (hb.alloc hsz (.cells (seatC (l.getD i seatD)).toArray 64)).alloc (by simp; omega) (.cells (seatC (l.getD i seatD)).toArray 65)
      have hsl := (hown.alloc (.cells (seatC (l.getD i seatD)).toArray 64)).alloc (.cells (seatC (l.getD i seatD)).toArray 65)
      have hnews := news_at (wr.alloc (.cells (seatC (l.getD i seatD)).toArray 64)) (seatC (l.getD i seatD)) 65 (wr.heap.size + 1) (by simp)
      have Hsl := Lib.hid hsl
      have Hnews := Lib.hid hnews
      have Hb1 := Lib.hid hb1
      clear hsl hnews hb1 hb hown
      generalize hx : l.getD i seatD = x at *
      have Hx := Lib.hid hx
      clear hx
      go_wp2_with (at_builtin; refine wpList_append_sl _ rfl (.tmp 12) (.tmp 22) 27 rfl 65 i0 _ 4 32 Tryz.underlying27 hi0 hz0 hz1 hz2 rfl rfl Hsl.out.sl ⟨wr.heap.size + 1, 0, none⟩ 1 1 (seatC x) rfl rfl Hnews.out (seatE.one _) (by unfold maxLen; omega) (by omega) ?_)
      intro ao2 cap2 w2 ha
      have ha' : Appended ((wr.alloc (.cells (seatC x).toArray 64)).alloc (.cells (seatC x).toArray 65)) w2 65 4 ao1 i cap1 ao2 (i + 1) cap2 (fun j => if j < i * 4 then cellsF 4 seatC seatD (l.take i) j else (seatC x)[j - i * 4]?.getD undef) := by
        first | exact ha | (simp at ha; exact ha) | simpa using ha
      have hown2 := ownL_app seatE Hsl.out (by simp; omega) x rfl rfl ha'
      have hb2 : Below w.heap.size w w2 := Hb1.out.grown ha'.grown (by simp; omega) Hsl.out.row
      clear ha ha'
      go_wp2_with fail
      go_roundw
      case rel => exact ⟨i + 1, ao2, cap2, hlt, rfl, by go_num, by rw [Htk.out]; exact hown2, hb2⟩
      case measure => simp [intOf] <;> omega
    · obtain rfl : i = n := by omega
      have Et : Hid (l.take i = l) := List.take_of_length_le (by rw [Hl.out]; exact Nat.le_refl _)
      rw [Et.out] at hown
      go_wp2_with fail
      go_ret
      exact ⟨ao1, cap1, rfl, hown, hb⟩

end Go.Proofs.YtpfinkdpaomliaaGreat
