/-
  'loads' of the package and of the reference.
-/
import Derived.Test.YtpfinkdpaomliaaGreatOver
import Derived.Deep.DeepCutAuto
namespace Go.Proofs.YtpfinkdpaomliaaGreat
open Go.RowKit

/-- Seats whose stackers are among n, their volumes within limits. -/
def InSeats (n : Nat) (l : List Seat) : Prop := ∀ x ∈ l, ∃ a b : Nat, a < n ∧ b < n ∧ Seat.first x = (a : Int) ∧ Seat.second x = (b : Int) ∧ 0 ≤ Seat.vol x ∧ Seat.vol x ≤ 10000
theorem InSeats.at {n : Nat} {l : List Seat} (h : InSeats n l) {k : Nat} (hk : k < l.length) :
    ∃ a b : Nat, a < n ∧ b < n ∧ Seat.first (l.getD k seatD) = (a : Int) ∧ Seat.second (l.getD k seatD) = (b : Int) ∧ 0 ≤ Seat.vol (l.getD k seatD) ∧ Seat.vol (l.getD k seatD) ≤ 10000 := by
  refine h _ ?_
  rw [List.getD_eq_getElem?_getD, List.getElem?_eq_getElem hk]
  exact List.getElem_mem hk
theorem InSeats.sums {n : Nat} {l : List Seat} (h : InSeats n l) (k : Nat) (i : Int) :
    (0 ≤ sumAt (firsts (l.take k)) i ∧ sumAt (firsts (l.take k)) i ≤ l.length * 10000) ∧ 0 ≤ sumAt (seconds (l.take k)) i ∧ sumAt (seconds (l.take k)) i ≤ l.length * 10000 := by
  have h1 := sumAt_bd (firsts (l.take k)) (by
    intro p hp
    obtain ⟨x, hx, rfl⟩ := List.mem_map.1 hp
    obtain ⟨_, _, _, _, _, _, h5, h6⟩ := h x (List.mem_of_mem_take hx)
    exact ⟨h5, h6⟩) i
  have h2 := sumAt_bd (seconds (l.take k)) (by
    intro p hp
    obtain ⟨x, hx, rfl⟩ := List.mem_map.1 hp
    obtain ⟨_, _, _, _, _, _, h5, h6⟩ := h x (List.mem_of_mem_take hx)
    exact ⟨h5, h6⟩) i
  have e1 : (firsts (l.take k)).length ≤ l.length := by simp [firsts, List.length_take]; omega
  have e2 : (seconds (l.take k)).length ≤ l.length := by simp [seconds, List.length_take]; omega
  omega
theorem firsts_snoc (l : List Seat) (x : Seat) : firsts (l ++ [x]) = firsts l ++ [(Seat.first x, Seat.vol x)] := by simp [firsts]
theorem seconds_snoc (l : List Seat) (x : Seat) : seconds (l ++ [x]) = seconds l ++ [(Seat.second x, Seat.vol x)] := by simp [seconds]
theorem intF_loads0 (n : Nat) : ∀ j, j < n * 1 → Value.int .i64 0 = intF (loadsP n []) j := by
  intro j hj
  unfold intF
  rw [loadsP_nil]
  simp [List.getD_eq_getElem?_getD, show j < n by omega]

def Two41 (n : Nat) (w : World) (u6 u7 : Value) (wr : World) : Prop :=
  ∃ B1 B2 : Nat, u6 = .slice (some ⟨B1, 0, none⟩) n n ∧ u7 = .slice (some ⟨B2, 0, none⟩) n n ∧ B1 ≠ B2 ∧ w.heap.size ≤ B1 ∧ w.heap.size ≤ B2 ∧
    Sl wr 3 1 (some ⟨B1, 0, none⟩) n n (intF (loadsP n [])) ∧ Sl wr 3 1 (some ⟨B2, 0, none⟩) n n (intF (loadsP n [])) ∧ Below w.heap.size w wr
def R41 (n m : Nat) (l : List Seat) (B1 B2 : Nat) (w : World) (u16 : Value) (wr : World) : Prop :=
  ∃ i : Nat, i ≤ m ∧ u16 = .int .i64 i ∧ Sl wr 3 1 (some ⟨B1, 0, none⟩) n n (intF (loadsP n (firsts (l.take i)))) ∧ Sl wr 3 1 (some ⟨B2, 0, none⟩) n n (intF (loadsP n (seconds (l.take i)))) ∧ Below w.heap.size w wr
theorem intF_loads_next (n : Nat) (ps : List (Int × Int)) (a : Nat) (v : Int) (ha : a < n) (j : Nat) :
    intF (loadsP n (ps ++ [((a : Int), v)])) j = if j = a then .int .i64 (sumAt ps (a : Int) + v) else intF (loadsP n ps) j := by
  rw [loadsP_snoc, loadsP_at _ _ ha]
  exact (intF_set (loadsP n ps) a _ (by rw [loadsP_len]; exact ha) j).symm
theorem rowOf_at (b n : Nat) (h : 1 ≤ n) : rowOf (some (⟨b, 0, none⟩ : Addr)) n = some b := by simp [rowOf]; omega

set_option maxRecDepth 1000000 in
set_option maxHeartbeats 2000000 in
theorem loads_any (w : World) (ao : Option Addr) (m c n : Nat) (l : List Seat) (h : Seats w ao m l) (hm : m ≤ 1000000) (hin : InSeats n l) (hn1 : 1 ≤ n) (hn : n ≤ 1048576) :
    Calls Tryz.prog 41 #[.slice ao m c, .int .i64 n] w fun e w' => ∃ B1 B2, e = .returned (.tuple #[.slice (some ⟨B1, 0, none⟩) n n, .slice (some ⟨B2, 0, none⟩) n n]) ∧ B1 ≠ B2 ∧
      OwnI w.heap.size w' (some ⟨B1, 0, none⟩) n n (loadsP n (firsts l)) ∧ OwnI w.heap.size w' (some ⟨B2, 0, none⟩) n n (loadsP n (seconds l)) ∧ Below w.heap.size w w' := by
  obtain ⟨i0, hi0, hz0, hz1, hz2⟩ := info_parts infoI
  have hmk : ∀ w : World, (Instr.makeSlice 23 (.int .i64 (n : Int)) (.int .i64 (n : Int))).run Tryz.prog w = .ok (.slice (some ⟨w.heap.size, 0, none⟩) n n) (w.alloc (.cells (madeCells #[.int .i64 0] n) 3)) := fun w => by
    have hr := run_make (P := Tryz.prog) w 23 3 i0 (.int .i64 0) Tryz.underlying23 hi0 hz0 .i64 .i64 (n : Int) (n : Int) (by omega) (by omega) (by rw [hz2]; omega) (by omega)
    rw [hz1] at hr
    simpa [Value.cells] using hr
  have Hl := Lib.hid h.len
  have hb0 : Below w.heap.size w ((w.alloc (.cells (madeCells #[.int .i64 0] n) 3)).alloc (.cells (madeCells #[.int .i64 0] n) 3)).drew := (((Below.refl _ _).alloc (Nat.le_refl _) _).alloc (by simp) _).drew
  have hs1 : Sl ((w.alloc (.cells (madeCells #[.int .i64 0] n) 3)).alloc (.cells (madeCells #[.int .i64 0] n) 3)).drew 3 1 (some ⟨w.heap.size, 0, none⟩) n n (intF (loadsP n [])) :=
    (((Sl.made w 3 (.int .i64 0) n n (Nat.le_refl _) (by unfold maxLen; omega)).congr (intF_loads0 n)).alloc _).drew
  have hs2 : Sl ((w.alloc (.cells (madeCells #[.int .i64 0] n) 3)).alloc (.cells (madeCells #[.int .i64 0] n) 3)).drew 3 1 (some ⟨w.heap.size + 1, 0, none⟩) n n (intF (loadsP n [])) := by
    have := ((Sl.made (w.alloc (.cells (madeCells #[.int .i64 0] n) 3)) 3 (.int .i64 0) n n (Nat.le_refl _) (by unfold maxLen; omega)).congr (intF_loads0 n)).drew
    simpa using this
  go_enter Tryz.func41, Tryz.ntmps41
  go_wp2_with fail
  go_upto_region 1 with fail
  go_cut [6, 7] (Two41 n w)
  case first =>
    go_region
    all_goals
      go_wp2_with fail
      go_meet
      first
        | exact ⟨w.heap.size, w.heap.size + 1, rfl, rfl, by omega, Nat.le_refl _, by omega, hs1, hs2, hb0⟩
        | exact ⟨w.heap.size + 1, w.heap.size, rfl, rfl, by omega, by omega, Nat.le_refl _, hs2, hs1, hb0⟩
  case rest =>
    clear hb0 hs1 hs2 hmk
    obtain ⟨B1, B2, rfl, rfl, hne, hB1, hB2, hs1, hs2, hb⟩ := hcut
    go_wp2_with fail
    go_loopw [16] (R41 n m l B1 B2 w) (fun u16 _ => m - (intOf u16).toNat)
    case atStart => exact ⟨0, Nat.zero_le _, rfl, hs1, hs2, hb⟩
    case round =>
      clear hs1 hs2 hb
      obtain ⟨i, hi, rfl, hs1, hs2, hb⟩ := hrel
      by_cases hlt : i < m
      · obtain ⟨g, off, rfl, hg, hc0, hc1, hc2, hc3⟩ := h.at hlt
        obtain ⟨a, b, ha, hb', ea, eb, v0, v1⟩ := hin.at (k := i) (by rw [Hl.out]; exact hlt)
        have Htk := Lib.hid (take_snoc' l seatD i (by rw [Hl.out]; exact hlt))
        have hsum := (hin.sums i (a : Int)).1
        have hsum2 := (hin.sums i (b : Int)).2
        rw [Hl.out] at hsum hsum2
        have e0 : wr.cell? ⟨g, off + i * 4, none⟩ = some (.int .i64 (Seat.stop (l.getD i seatD))) := (hb.cell (p := ⟨g, off + i * 4, none⟩) hg).trans hc0
        have e1 : wr.cell? ⟨g, off + i * 4 + 1, none⟩ = some (.int .i64 (Seat.vol (l.getD i seatD))) := (hb.cell (p := ⟨g, off + i * 4 + 1, none⟩) hg).trans hc1
        have e2 : wr.cell? ⟨g, off + i * 4 + 2, none⟩ = some (.int .i64 (Seat.first (l.getD i seatD))) := (hb.cell (p := ⟨g, off + i * 4 + 2, none⟩) hg).trans hc2
        have e3 : wr.cell? ⟨g, off + i * 4 + 3, none⟩ = some (.int .i64 (Seat.second (l.getD i seatD))) := (hb.cell (p := ⟨g, off + i * 4 + 3, none⟩) hg).trans hc3
        have Hf := Lib.hid (firsts_snoc (l.take i) (l.getD i seatD))
        have Hg := Lib.hid (seconds_snoc (l.take i) (l.getD i seatD))
        rw [ea] at e2
        rw [eb] at e3
        rw [ea] at Hf
        rw [eb] at Hg
        clear hc0 hc1 hc2 hc3 ea eb
        generalize Seat.stop (l.getD i seatD) = x0 at *
        generalize Seat.vol (l.getD i seatD) = x1 at *
        have c1 := hs1.cell (i := a) (by omega)
        have c2 := hs2.cell (i := b) (by omega)
        have hl1 := hs1.row_lt B1 (rowOf_at _ _ hn1)
        have hl2 := hs2.row_lt B2 (rowOf_at _ _ hn1)
        unfold intF at c1 c2
        rw [loadsP_at _ _ ha] at c1
        rw [loadsP_at _ _ hb'] at c2
        generalize hy1 : sumAt (firsts (l.take i)) (a : Int) = y1 at *
        generalize hy2 : sumAt (seconds (l.take i)) (b : Int) = y2 at *
        have Hy1 := Lib.hid hy1
        have Hy2 := Lib.hid hy2
        clear hy1 hy2
        have f1 := hs1.frozen (by omega) a
        have f2 := hs2.frozen (by omega) b
        go_wp2_with fail
        go_region
        go_wp2_with fail
        go_region
        go_wp2_with fail
        go_roundw
        case rel =>
          refine ⟨i + 1, hlt, by go_num, ?_, ?_, ?_⟩
          · rw [Htk.out, Hf.out]
            refine Sl.congr ?_ (fun j _ => (intF_loads_next n (firsts (l.take i)) a x1 ha j).symm)
            rw [Hy1.out]
            exact ((((hs1.set (i := a) (.int .i64 (y1 + x1))).far (p := ⟨B2, b, none⟩) (fun g hg h => hne ((rowOf_new hg).symm.trans h)) _).alloc _).drew).drew
          · rw [Htk.out, Hg.out]
            refine Sl.congr ?_ (fun j _ => (intF_loads_next n (seconds (l.take i)) b x1 hb' j).symm)
            rw [Hy2.out]
            exact (((((hs2.far (p := ⟨B1, a, none⟩) (fun g hg h => hne (((rowOf_new hg).symm.trans h).symm)) (.int .i64 (y1 + x1)))).set (i := b) (.int .i64 (y2 + x1))).alloc _).drew).drew
          · exact ((((hb.setCell (p := ⟨B1, a, none⟩) hB1 _).setCell (p := ⟨B2, b, none⟩) hB2 _).alloc (by simp; exact hb.size) _).drew).drew
        case measure => simp [intOf] <;> omega
      · obtain rfl : i = m := by omega
        have E1 : Hid (l.take i = l) := List.take_of_length_le (by rw [Hl.out]; exact Nat.le_refl _)
        rw [E1.out] at hs1 hs2
        go_wp2_with fail
        go_ret2
        exact ⟨B1, B2, rfl, hne, ⟨hs1, loadsP_len _ _, fun g hg => by rw [rowOf_new hg]; exact hB1⟩, ⟨hs2, loadsP_len _ _, fun g hg => by rw [rowOf_new hg]; exact hB2⟩, hb⟩
end Go.Proofs.YtpfinkdpaomliaaGreat
