/-
  'loads' of the reference.
-/
import Derived.Test.YtpfinkdpaomliaaGreatLoads
namespace Go.Proofs.YtpfinkdpaomliaaGreat
open Go.RowKit

def R38 (n m : Nat) (ps : Nat → List (Int × Int)) (B : Nat) (w : World) (u8 : Value) (wr : World) : Prop :=
  ∃ i : Nat, i ≤ m ∧ u8 = .int .i64 i ∧ Sl wr 3 1 (some ⟨B, 0, none⟩) n n (intF (loadsP n (ps i))) ∧ Below w.heap.size w wr

set_option maxRecDepth 1000000 in
set_option maxHeartbeats 2000000 in
theorem refLoads_first (w : World) (ao : Option Addr) (m c n : Nat) (l : List Seat) (h : Seats w ao m l) (hm : m ≤ 1000000) (hin : InSeats n l) (hn1 : 1 ≤ n) (hn : n ≤ 1048576) :
    Calls Tryz.prog 38 #[.int .i64 n, .slice ao m c, .bool false] w fun e w' => ∃ B1, e = .returned (.slice (some ⟨B1, 0, none⟩) n n) ∧
      OwnI w.heap.size w' (some ⟨B1, 0, none⟩) n n (loadsP n (firsts l)) ∧ Below w.heap.size w w' := by
  obtain ⟨i0, hi0, hz0, hz1, hz2⟩ := info_parts infoI
  have hmk : ∀ w : World, (Instr.makeSlice 23 (.int .i64 (n : Int)) (.int .i64 (n : Int))).run Tryz.prog w = .ok (.slice (some ⟨w.heap.size, 0, none⟩) n n) (w.alloc (.cells (madeCells #[.int .i64 0] n) 3)) := fun w => by
    have hr := run_make (P := Tryz.prog) w 23 3 i0 (.int .i64 0) Tryz.underlying23 hi0 hz0 .i64 .i64 (n : Int) (n : Int) (by omega) (by omega) (by rw [hz2]; omega) (by omega)
    rw [hz1] at hr
    simpa [Value.cells] using hr
  have Hl := Lib.hid h.len
  have hb0 : Below w.heap.size w (w.alloc (.cells (madeCells #[.int .i64 0] n) 3)) := (Below.refl _ _).alloc (Nat.le_refl _) _
  have hs0 : Sl (w.alloc (.cells (madeCells #[.int .i64 0] n) 3)) 3 1 (some ⟨w.heap.size, 0, none⟩) n n (intF (loadsP n [])) :=
    (Sl.made w 3 (.int .i64 0) n n (Nat.le_refl _) (by unfold maxLen; omega)).congr (intF_loads0 n)
  go_enter Tryz.func38, Tryz.ntmps38
  go_wp2_with fail
  go_loopw [8] (R38 n m (fun i => firsts (l.take i)) w.heap.size w) (fun u8 _ => m - (intOf u8).toNat)
  case atStart => exact ⟨0, Nat.zero_le _, rfl, hs0, hb0⟩
  case round =>
    clear hs0 hb0 hmk
    obtain ⟨i, hi, rfl, hs1, hb⟩ := hrel
    by_cases hlt : i < m
    · obtain ⟨g, off, rfl, hg, hc0, hc1, hc2, hc3⟩ := h.at hlt
      obtain ⟨a, b, ha, hb', ea, eb, v0, v1⟩ := hin.at (k := i) (by rw [Hl.out]; exact hlt)
      have Htk := Lib.hid (take_snoc' l seatD i (by rw [Hl.out]; exact hlt))
      have hsum := (hin.sums i (a : Int)).1
      rw [Hl.out] at hsum
      have e1 : wr.cell? ⟨g, off + i * 4 + 1, none⟩ = some (.int .i64 (Seat.vol (l.getD i seatD))) := (hb.cell (p := ⟨g, off + i * 4 + 1, none⟩) hg).trans hc1
      have e2 : wr.cell? ⟨g, off + i * 4 + 2, none⟩ = some (.int .i64 (Seat.first (l.getD i seatD))) := (hb.cell (p := ⟨g, off + i * 4 + 2, none⟩) hg).trans hc2
      have Hf := Lib.hid (firsts_snoc (l.take i) (l.getD i seatD))
      rw [ea] at e2
      rw [ea] at Hf
      clear hc0 hc1 hc2 hc3 ea eb
      generalize Seat.vol (l.getD i seatD) = x1 at *
      have c1 := hs1.cell (i := a) (by omega)
      unfold intF at c1
      rw [loadsP_at _ _ ha] at c1
      generalize hy1 : sumAt (firsts (l.take i)) (a : Int) = y1 at *
      have Hy1 := Lib.hid hy1
      clear hy1
      have f1 := hs1.frozen (by omega) a
      go_wp2_with fail
      go_region
      go_wp2_with fail
      go_roundw
      case rel =>
        refine ⟨i + 1, hlt, by go_num, ?_, (hb.setCell (p := ⟨w.heap.size, a, none⟩) (Nat.le_refl _) _).drew⟩
        show Sl _ _ _ _ _ _ (intF (loadsP n (firsts (l.take (i + 1)))))
        rw [Htk.out, Hf.out]
        refine Sl.congr ?_ (fun j _ => (intF_loads_next n (firsts (l.take i)) a x1 ha j).symm)
        rw [Hy1.out]
        exact (hs1.set (i := a) (.int .i64 (y1 + x1))).drew
      case measure => simp [intOf] <;> omega
    · obtain rfl : i = m := by omega
      have E1 : Hid (l.take i = l) := List.take_of_length_le (by rw [Hl.out]; exact Nat.le_refl _)
      simp only [E1.out] at hs1
      go_wp2_with fail
      go_ret
      exact ⟨w.heap.size, rfl, ⟨hs1, loadsP_len _ _, fun g hg => by rw [rowOf_new hg]; exact Nat.le_refl _⟩, hb⟩
set_option maxRecDepth 1000000 in
set_option maxHeartbeats 2000000 in
theorem refLoads_second (w : World) (ao : Option Addr) (m c n : Nat) (l : List Seat) (h : Seats w ao m l) (hm : m ≤ 1000000) (hin : InSeats n l) (hn1 : 1 ≤ n) (hn : n ≤ 1048576) :
    Calls Tryz.prog 38 #[.int .i64 n, .slice ao m c, .bool true] w fun e w' => ∃ B1, e = .returned (.slice (some ⟨B1, 0, none⟩) n n) ∧
      OwnI w.heap.size w' (some ⟨B1, 0, none⟩) n n (loadsP n (seconds l)) ∧ Below w.heap.size w w' := by
  obtain ⟨i0, hi0, hz0, hz1, hz2⟩ := info_parts infoI
  have hmk : ∀ w : World, (Instr.makeSlice 23 (.int .i64 (n : Int)) (.int .i64 (n : Int))).run Tryz.prog w = .ok (.slice (some ⟨w.heap.size, 0, none⟩) n n) (w.alloc (.cells (madeCells #[.int .i64 0] n) 3)) := fun w => by
    have hr := run_make (P := Tryz.prog) w 23 3 i0 (.int .i64 0) Tryz.underlying23 hi0 hz0 .i64 .i64 (n : Int) (n : Int) (by omega) (by omega) (by rw [hz2]; omega) (by omega)
    rw [hz1] at hr
    simpa [Value.cells] using hr
  have Hl := Lib.hid h.len
  have hb0 : Below w.heap.size w (w.alloc (.cells (madeCells #[.int .i64 0] n) 3)) := (Below.refl _ _).alloc (Nat.le_refl _) _
  have hs0 : Sl (w.alloc (.cells (madeCells #[.int .i64 0] n) 3)) 3 1 (some ⟨w.heap.size, 0, none⟩) n n (intF (loadsP n [])) :=
    (Sl.made w 3 (.int .i64 0) n n (Nat.le_refl _) (by unfold maxLen; omega)).congr (intF_loads0 n)
  go_enter Tryz.func38, Tryz.ntmps38
  go_wp2_with fail
  go_loopw [8] (R38 n m (fun i => seconds (l.take i)) w.heap.size w) (fun u8 _ => m - (intOf u8).toNat)
  case atStart => exact ⟨0, Nat.zero_le _, rfl, hs0, hb0⟩
  case round =>
    clear hs0 hb0 hmk
    obtain ⟨i, hi, rfl, hs1, hb⟩ := hrel
    by_cases hlt : i < m
    · obtain ⟨g, off, rfl, hg, hc0, hc1, hc2, hc3⟩ := h.at hlt
      obtain ⟨a, b, ha, hb', ea, eb, v0, v1⟩ := hin.at (k := i) (by rw [Hl.out]; exact hlt)
      have Htk := Lib.hid (take_snoc' l seatD i (by rw [Hl.out]; exact hlt))
      have hsum := (hin.sums i (b : Int)).2
      rw [Hl.out] at hsum
      have e1 : wr.cell? ⟨g, off + i * 4 + 1, none⟩ = some (.int .i64 (Seat.vol (l.getD i seatD))) := (hb.cell (p := ⟨g, off + i * 4 + 1, none⟩) hg).trans hc1
      have e2 : wr.cell? ⟨g, off + i * 4 + 3, none⟩ = some (.int .i64 (Seat.second (l.getD i seatD))) := (hb.cell (p := ⟨g, off + i * 4 + 3, none⟩) hg).trans hc3
      have Hf := Lib.hid (seconds_snoc (l.take i) (l.getD i seatD))
      rw [eb] at e2
      rw [eb] at Hf
      clear hc0 hc1 hc2 hc3 ea eb
      generalize Seat.vol (l.getD i seatD) = x1 at *
      have c1 := hs1.cell (i := b) (by omega)
      unfold intF at c1
      rw [loadsP_at _ _ hb'] at c1
      generalize hy1 : sumAt (seconds (l.take i)) (b : Int) = y1 at *
      have Hy1 := Lib.hid hy1
      clear hy1
      have f1 := hs1.frozen (by omega) b
      go_wp2_with fail
      go_region
      go_wp2_with fail
      go_roundw
      case rel =>
        refine ⟨i + 1, hlt, by go_num, ?_, (hb.setCell (p := ⟨w.heap.size, b, none⟩) (Nat.le_refl _) _).drew⟩
        show Sl _ _ _ _ _ _ (intF (loadsP n (seconds (l.take (i + 1)))))
        rw [Htk.out, Hf.out]
        refine Sl.congr ?_ (fun j _ => (intF_loads_next n (seconds (l.take i)) b x1 hb' j).symm)
        rw [Hy1.out]
        exact (hs1.set (i := b) (.int .i64 (y1 + x1))).drew
      case measure => simp [intOf] <;> omega
    · obtain rfl : i = m := by omega
      have E1 : Hid (l.take i = l) := List.take_of_length_le (by rw [Hl.out]; exact Nat.le_refl _)
      simp only [E1.out] at hs1
      go_wp2_with fail
      go_ret
      exact ⟨w.heap.size, rfl, ⟨hs1, loadsP_len _ _, fun g hg => by rw [rowOf_new hg]; exact Nat.le_refl _⟩, hb⟩
end Go.Proofs.YtpfinkdpaomliaaGreat
