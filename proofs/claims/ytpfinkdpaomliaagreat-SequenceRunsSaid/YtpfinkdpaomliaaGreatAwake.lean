/-
  'awake' of the law: it says yes.
-/
import Derived.Test.YtpfinkdpaomliaaGreatAwakeLaw
import Derived.Test.YtpfinkdpaomliaaGreatSortRun
import Derived.Test.YtpfinkdpaomliaaGreatMake
import Derived.Laws.StructEq
namespace Go.Proofs.YtpfinkdpaomliaaGreat
open Go.RowKit Go.Maps

theorem ints_lit (w : World) (xs : List Int) (hn : xs.length ≤ 1000) : Ints (w.alloc (.cells (xs.map (Value.int .i64)).toArray 3)) (some ⟨w.heap.size, 0, none⟩) xs.length xs :=
  ⟨(Sl.new w 3 1 xs.length xs.length (xs.map (Value.int .i64)).toArray (intF xs) (Nat.le_refl _) (by unfold maxLen; omega) (by simp) (fun i hi => by
    have hi : i < xs.length := by omega
    simp [intF, hi])).rd, rfl⟩
theorem stops_lit (w : World) (l : List Stop) (hn : l.length ≤ 1000) : Stops (w.alloc (.cells (l.flatMap stopC).toArray 43)) (some ⟨w.heap.size, 0, none⟩) l.length l :=
  ⟨(Sl.new w 43 2 l.length l.length (l.flatMap stopC).toArray (cellsF 2 stopC stopD l) (Nat.le_refl _) (by unfold maxLen; omega) (by simp [flat_len stopE]) (fun i hi => by
    obtain ⟨k, j, hj, rfl⟩ := split_at (size := 2) (by omega) i
    rw [cellsF_at (by omega) _ _ hj]
    have := flat_at stopE stopD l k j hj (by omega)
    simpa using this)).rd, rfl⟩
theorem Sl.at0 {w : World} {e : TypeId} {size n cap : Nat} {ao : Option Addr} {f : Nat → Value} (h : Sl w e size ao n cap f) (hn : 0 < n) : ∃ g, ao = some ⟨g, 0, none⟩ := by
  rcases h.2.2 with h0 | ⟨g, _, e, _⟩
  · have := h.1; omega
  · exact ⟨g, e⟩
theorem aw_seats {B : Nat} {w : World} {a1 : Option Addr} {n1 c1 : Nat} (h : OwnSeats 64 B w a1 n1 c1 awP.seats) : n1 = 3 ∧ ∃ g, a1 = some ⟨g, 0, none⟩ ∧ g < w.heap.size ∧
    (w.cell? ⟨g, 0, none⟩ = some (.int .i64 5) ∧ w.cell? ⟨g, 1, none⟩ = some (.int .i64 2) ∧ w.cell? ⟨g, 2, none⟩ = some (.int .i64 0) ∧ w.cell? ⟨g, 3, none⟩ = some (.int .i64 0)) ∧
    (w.cell? ⟨g, 4, none⟩ = some (.int .i64 6) ∧ w.cell? ⟨g, 5, none⟩ = some (.int .i64 2) ∧ w.cell? ⟨g, 6, none⟩ = some (.int .i64 1) ∧ w.cell? ⟨g, 7, none⟩ = some (.int .i64 0)) ∧
    (w.cell? ⟨g, 8, none⟩ = some (.int .i64 7) ∧ w.cell? ⟨g, 9, none⟩ = some (.int .i64 3) ∧ w.cell? ⟨g, 10, none⟩ = some (.int .i64 0) ∧ w.cell? ⟨g, 11, none⟩ = some (.int .i64 1)) := by
  have hl : 3 = n1 := h.len
  subst hl
  obtain ⟨g, rfl⟩ := h.sl.at0 (by omega)
  have key : ∀ i, i < 3 * 4 → w.cell? ⟨g, i, none⟩ = some (cellsF 4 seatC seatD awP.seats i) := fun i hi => h.sl.cell hi
  exact ⟨rfl, g, rfl, h.sl.row_lt g (rowOf_at _ _ (by have := h.sl.1; omega)), ⟨key 0 (by omega), key 1 (by omega), key 2 (by omega), key 3 (by omega)⟩, ⟨key 4 (by omega), key 5 (by omega), key 6 (by omega), key 7 (by omega)⟩, ⟨key 8 (by omega), key 9 (by omega), key 10 (by omega), key 11 (by omega)⟩⟩
theorem stk_at {B : Nat} {w : World} {b n : Nat} {ss : List Slc} {xss : List (List Int)} (h : Stk B w b n ss xss) {k : Nat} (hk : k < n) :
    w.cell? ⟨b, k, none⟩ = some (.slice (ss.getD k slcD).ao (xss.getD k []).length (ss.getD k slcD).cap) ∧ Ints w (ss.getD k slcD).ao (xss.getD k []).length (xss.getD k []) := by
  have hok := h.fam.at_ k (by rw [h.len]; exact hk)
  have hc := h.sl.sl.cell (i := k) (by omega)
  have hcv : cellsF 1 slcC slcD ss k = (ss.getD k slcD).val := by
    unfold cellsF
    rw [Nat.div_one, Nat.mod_one]
    rfl
  rw [hcv] at hc
  have hl := hok.len
  have hin := hok.ints
  rw [← hl] at hin
  refine ⟨?_, hin⟩
  rw [hc, hl]
  rfl

theorem wfi_of (xs : List Int) (h : ∀ x ∈ xs, -9223372036854775808 ≤ x ∧ x ≤ 9223372036854775807) : WfI xs := by
  intro i hi
  have := h (xs.getD i 0) (by rw [List.getD_eq_getElem?_getD, List.getElem?_eq_getElem hi]; exact List.getElem_mem hi)
  exact wf_i64 this.1 this.2
theorem aw_wf1 : WfI [7, 6, 5, 7, 6] := wfi_of _ (by decide +kernel)
theorem aw_wf2 : WfI [8] := wfi_of _ (by decide +kernel)
theorem aw_wf3 : WfI [5, 5, 5] := wfi_of _ (by decide +kernel)
theorem aw_wf4 : ∀ i, i < 3 → (Lit.int .i64 (Seat.stop (awP.seats.getD i seatD))).wf = true := by
  intro i hi
  rcases lt3 hi with rfl | rfl | rfl <;> exact wf_i64 (by decide +kernel) (by decide +kernel)

set_option maxRecDepth 1000000 in
set_option maxHeartbeats 2000000 in
theorem awake_any (w : World) : Calls Tryz.prog 9 #[] w fun e w' => e = .returned (.bool true) ∧ Below w.heap.size w w' := by
  have hst : Stops (w.alloc (.cells #[.int .i64 5, .int .i64 2, .int .i64 6, .int .i64 2, .int .i64 7, .int .i64 3] 43)) (some ⟨w.heap.size, 0, none⟩) 3 awL := stops_lit w awL (by decide)
  have hst2 := hst.below ((Below.refl _ _).alloc (Nat.le_refl _) (.cells #[.int .i64 5, .int .i64 5] 3))
  have hin : Ints ((w.alloc (.cells #[.int .i64 5, .int .i64 2, .int .i64 6, .int .i64 2, .int .i64 7, .int .i64 3] 43)).alloc (.cells #[.int .i64 5, .int .i64 5] 3)) (some ⟨(w.alloc (.cells #[.int .i64 5, .int .i64 2, .int .i64 6, .int .i64 2, .int .i64 7, .int .i64 3] 43)).heap.size, 0, none⟩) 2 [5, 5] := ints_lit _ [5, 5] (by decide)
  have hb0 : Below w.heap.size w ((w.alloc (.cells #[.int .i64 5, .int .i64 2, .int .i64 6, .int .i64 2, .int .i64 7, .int .i64 3] 43)).alloc (.cells #[.int .i64 5, .int .i64 5] 3)) := ((Below.refl _ _).alloc (Nat.le_refl _) _).alloc (by simp) _
  have hmk := make_any _ _ _ 3 3 2 2 awL [5, 5] hst2 hin (by omega) (by omega)
  rw [aw_make] at hmk
  rw [show (w.alloc (.cells #[.int .i64 5, .int .i64 2, .int .i64 6, .int .i64 2, .int .i64 7, .int .i64 3] 43)).heap.size = w.heap.size + 1 by simp] at hmk
  have Hmk := Lib.hid hmk
  have Hb0 := Lib.hid hb0
  clear hst hst2 hin hmk hb0
  go_enter Tryz.func9, Tryz.ntmps9
  go_upto_region 3 with (go_at_call 13; refine Hmk.out.mono ?_; rintro e w1 ⟨⟨v, rfl, a0, n0, c0, a1, n1, c1, a2, n2, c2, a3, n3, c3, rfl, h0, h1, h2, h3, _⟩, hb1⟩)
  obtain rfl : 2 = n0 := h0.len
  obtain rfl : 2 = n2 := h2.len
  obtain rfl : 2 = n3 := h3.len
  have hbox := heap_alloc_new w1 (.cells #[.slice a0 2 c0, .slice a1 n1 c1, .slice a2 2 c2, .slice a3 2 c3] 36)
  have hbW := (Below.refl w1.heap.size w1).alloc (Nat.le_refl _) (.cells #[.slice a0 2 c0, .slice a1 n1 c1, .slice a2 2 c2, .slice a3 2 c3] 36)
  have hs1 := h1.below hbW
  obtain ⟨rfl, g, rfl, hg, sa, sb, sc⟩ := aw_seats hs1
  have HB : Hid (Below w.heap.size w (w1.alloc (.cells #[.slice a0 2 c0, .slice (some ⟨g, 0, none⟩) 3 c1, .slice a2 2 c2, .slice a3 2 c3] 36))) := (Hb0.out.trans (hb1.mono (by simp; omega))).trans (hbW.mono (by have := hb1.size; simp at this; omega))
  have hsz : (w1.alloc (.cells #[.slice a0 2 c0, .slice (some ⟨g, 0, none⟩) 3 c1, .slice a2 2 c2, .slice a3 2 c3] 36)).heap.size = w1.heap.size + 1 := by simp
  have i0 := (h0.below hbW).ints
  have i1 := hs1.rd
  have i2 := (h2.below hbW).ints
  have i3 := (h3.below hbW).ints
  clear h0 h1 h2 h3 hs1 hbW hb1
  generalize w1.alloc (.cells #[.slice a0 2 c0, .slice (some ⟨g, 0, none⟩) 3 c1, .slice a2 2 c2, .slice a3 2 c3] 36) = W1 at *
  generalize w1.heap.size = q at *
  have Hbase : Hid (∀ W, Below W1.heap.size W1 W → W.heap[q]? = some (.cells #[.slice a0 2 c0, .slice (some ⟨g, 0, none⟩) 3 c1, .slice a2 2 c2, .slice a3 2 c3] 36 (0, 0)) ∧ Ints W a0 2 [5, 5] ∧ Seats W (some ⟨g, 0, none⟩) 3 awP.seats ∧ Ints W a2 2 [5, 2] ∧ Ints W a3 2 [4, 3]) := fun W hW =>
    ⟨(hW.block _ (by omega)).trans hbox, i0.below hW, i1.below hW, i2.below hW, i3.below hW⟩
  have Hsz := Lib.hid hsz
  clear hsz
  obtain ⟨p0, p1, p2, p3, _⟩ := four_at hbox
  obtain ⟨sa0, sa1, sa2, sa3⟩ := sa
  obtain ⟨sb0, sb1, sb2, sb3⟩ := sb
  obtain ⟨sc0, sc1, sc2, sc3⟩ := sc
  go_upto_region 5 with fail
  have hBW1 : Below W1.heap.size W1 W1 := Below.refl _ _
  go_upto_region 8 with (first
    | (go_at_call_of 22 (Value.slice a2 2 c2)
       have hlW2 := hBW1.alloc hBW1.size (.cells #[.int .i64 5, .int .i64 2] 3)
       refine (SameInts_any (W1.alloc (.cells #[.int .i64 5, .int .i64 2] 3)) a2 (some ⟨W1.heap.size, 0, none⟩) 2 c2 2 2 [5, 2] [5, 2] (Hbase.out _ hlW2).2.2.2.1 (ints_lit W1 [5, 2] (by decide)) (by omega) (by omega)).mono ?_
       rintro e W2 ⟨rfl, hxW2⟩
       rw [decide_eq_true rfl]
       have hBW2 := hlW2.trans (hxW2.mono (B' := W1.heap.size) hlW2.size)
       clear p0 p1 p2 p3; obtain ⟨p0, p1, p2, p3, _⟩ := four_at (Hbase.out W2 hBW2).1)
    | (go_at_call_of 22 (Value.slice a3 2 c3)
       have hlW3 := hBW2.alloc hBW2.size (.cells #[.int .i64 4, .int .i64 3] 3)
       refine (SameInts_any (W2.alloc (.cells #[.int .i64 4, .int .i64 3] 3)) a3 (some ⟨W2.heap.size, 0, none⟩) 2 c3 2 2 [4, 3] [4, 3] (Hbase.out _ hlW3).2.2.2.2 (ints_lit W2 [4, 3] (by decide)) (by omega) (by omega)).mono ?_
       rintro e W3 ⟨rfl, hxW3⟩
       rw [decide_eq_true rfl]
       have hBW3 := hlW3.trans (hxW3.mono (B' := W1.heap.size) hlW3.size)
       clear p0 p1 p2 p3; obtain ⟨p0, p1, p2, p3, _⟩ := four_at (Hbase.out W3 hBW3).1)
    | (go_at_call_of 22 (Value.slice a0 2 c0)
       have hlW4 := hBW3.alloc hBW3.size (.cells #[.int .i64 5, .int .i64 5] 3)
       refine (SameInts_any (W3.alloc (.cells #[.int .i64 5, .int .i64 5] 3)) a0 (some ⟨W3.heap.size, 0, none⟩) 2 c0 2 2 [5, 5] [5, 5] (Hbase.out _ hlW4).2.1 (ints_lit W3 [5, 5] (by decide)) (by omega) (by omega)).mono ?_
       rintro e W4 ⟨rfl, hxW4⟩
       rw [decide_eq_true rfl]
       have hBW4 := hlW4.trans (hxW4.mono (B' := W1.heap.size) hlW4.size)
       clear p0 p1 p2 p3; obtain ⟨p0, p1, p2, p3, _⟩ := four_at (Hbase.out W4 hBW4).1)
    | (go_at_call 20
       have hl5 := hBW4.alloc hBW4.size (.cells #[.int .i64 7, .int .i64 6, .int .i64 5, .int .i64 7, .int .i64 6] 3)
       refine (sort_any (W4.alloc (.cells #[.int .i64 7, .int .i64 6, .int .i64 5, .int .i64 7, .int .i64 6] 3)) a0 (some ⟨g, 0, none⟩) a2 a3 (some ⟨W4.heap.size, 0, none⟩) 2 c0 3 c1 2 c2 2 c3 5 5 awP [7, 6, 5, 7, 6] (Hbase.out _ hl5).2.1 (Hbase.out _ hl5).2.2.1 (Hbase.out _ hl5).2.2.2.1 (Hbase.out _ hl5).2.2.2.2 (ints_lit W4 [7, 6, 5, 7, 6] (by decide)) aw_wf1 aw_wf4 (by omega) (by omega) (by omega) (by omega) (by omega)).mono ?_
       rintro e W5 ⟨hso, hx5⟩
       have hB5 := hl5.trans (hx5.mono (B' := W1.heap.size) hl5.size)
       rcases hso with ⟨hne, _⟩ | ⟨_, b1, ss1, b2, ss2, bo, N, cap, rfl, st1, st2, own⟩
       exact absurd aw_sort hne))
  rw [aw_first] at st1
  rw [aw_second] at st2 own
  obtain rfl : 5 = N := own.len
  have hbx := heap_alloc_new W5 (.cells #[.slice (some ⟨b1, 0, none⟩) 2 2, .slice (some ⟨b2, 0, none⟩) 2 2, .slice bo 5 cap] 52)
  have hbW5 := (Below.refl W5.heap.size W5).alloc (Nat.le_refl _) (.cells #[.slice (some ⟨b1, 0, none⟩) 2 2, .slice (some ⟨b2, 0, none⟩) 2 2, .slice bo 5 cap] 52)
  have hBW6 := hB5.trans (hbW5.mono (B' := W1.heap.size) hB5.size)
  obtain ⟨z10, j10⟩ := stk_at (k := 0) (st1.below hbW5) (by omega)
  obtain ⟨z11, j11⟩ := stk_at (k := 1) (st1.below hbW5) (by omega)
  obtain ⟨z20, j20⟩ := stk_at (k := 0) (st2.below hbW5) (by omega)
  obtain ⟨z21, j21⟩ := stk_at (k := 1) (st2.below hbW5) (by omega)
  have j5 := (own.below hbW5).ints
  have hl1 := st1.sl.sl.row_lt b1 (rowOf_at _ _ (by omega))
  have hl2 := st2.sl.sl.row_lt b2 (rowOf_at _ _ (by omega))
  have hsz6 : (W5.alloc (.cells #[.slice (some ⟨b1, 0, none⟩) 2 2, .slice (some ⟨b2, 0, none⟩) 2 2, .slice bo 5 cap] 52)).heap.size = W5.heap.size + 1 := by simp
  clear st1 st2 own hbW5
  generalize W5.alloc (.cells #[.slice (some ⟨b1, 0, none⟩) 2 2, .slice (some ⟨b2, 0, none⟩) 2 2, .slice bo 5 cap] 52) = W6 at *
  generalize W5.heap.size = r at *
  generalize (ss1.getD 0 slcD).ao = A10 at *
  generalize (ss1.getD 0 slcD).cap = C10 at *
  generalize (ss1.getD 1 slcD).ao = A11 at *
  generalize (ss1.getD 1 slcD).cap = C11 at *
  generalize (ss2.getD 0 slcD).ao = A20 at *
  generalize (ss2.getD 0 slcD).cap = C20 at *
  generalize (ss2.getD 1 slcD).ao = A21 at *
  generalize (ss2.getD 1 slcD).cap = C21 at *
  have y10 : W6.cell? ⟨b1, 0, none⟩ = some (.slice A10 3 C10) := z10
  have y11 : W6.cell? ⟨b1, 1, none⟩ = some (.slice A11 2 C11) := z11
  have y20 : W6.cell? ⟨b2, 0, none⟩ = some (.slice A20 3 C20) := z20
  have y21 : W6.cell? ⟨b2, 1, none⟩ = some (.slice A21 2 C21) := z21
  have Hrun : Hid (∀ W, Below W6.heap.size W6 W → W.heap[r]? = some (.cells #[.slice (some ⟨b1, 0, none⟩) 2 2, .slice (some ⟨b2, 0, none⟩) 2 2, .slice bo 5 cap] 52 (0, 0)) ∧
      W.cell? ⟨b1, 0, none⟩ = some (.slice A10 3 C10) ∧ W.cell? ⟨b1, 1, none⟩ = some (.slice A11 2 C11) ∧ W.cell? ⟨b2, 0, none⟩ = some (.slice A20 3 C20) ∧ W.cell? ⟨b2, 1, none⟩ = some (.slice A21 2 C21) ∧
      Ints W A10 3 [0, 2, 3] ∧ Ints W A11 2 [1, 4] ∧ Ints W A20 3 [2, 1, 4] ∧ Ints W A21 2 [0, 3] ∧ Ints W bo 5 [2, 1, 4, 0, 3]) := fun W hW =>
    ⟨(hW.block _ (by omega)).trans hbx, (hW.cell (p := ⟨b1, 0, none⟩) (by show b1 < _; omega)).trans y10, (hW.cell (p := ⟨b1, 1, none⟩) (by show b1 < _; omega)).trans y11, (hW.cell (p := ⟨b2, 0, none⟩) (by show b2 < _; omega)).trans y20, (hW.cell (p := ⟨b2, 1, none⟩) (by show b2 < _; omega)).trans y21,
      Ints.below j10 hW, Ints.below j11 hW, Ints.below j20 hW, Ints.below j21 hW, Ints.below j5 hW⟩
  have HBW6 := Lib.hid hBW6
  clear j10 j11 j20 j21 j5 hl1 hl2 hsz6 z10 z11 z20 z21 hBW6 p0 p1 p2 p3 hB5 hx5
  obtain ⟨t0, t1, t2, _⟩ := three_at hbx
  have hBW6 : Below W6.heap.size W6 W6 := Below.refl _ _
  go_upto_region 10 with (first
    | (go_at_call_of 22 (Value.slice A10 3 C10)
       have hlV1 := hBW6.alloc hBW6.size (.cells #[.int .i64 0, .int .i64 2, .int .i64 3] 3)
       refine (SameInts_any (W6.alloc (.cells #[.int .i64 0, .int .i64 2, .int .i64 3] 3)) A10 (some ⟨W6.heap.size, 0, none⟩) 3 C10 3 3 [0, 2, 3] [0, 2, 3] (Hrun.out _ hlV1).2.2.2.2.2.1 (ints_lit W6 [0, 2, 3] (by decide)) (by omega) (by omega)).mono ?_
       rintro e V1 ⟨rfl, hxV1⟩
       rw [decide_eq_true rfl]
       have hBV1 := hlV1.trans (hxV1.mono (B' := W6.heap.size) hlV1.size)
       clear t0 t1 t2 y10 y11 y20 y21
       obtain ⟨hbxV1, y10, y11, y20, y21, _⟩ := Hrun.out V1 hBV1
       obtain ⟨t0, t1, t2, _⟩ := three_at hbxV1)
    | (go_at_call_of 22 (Value.slice A11 2 C11)
       have hlV2 := hBV1.alloc hBV1.size (.cells #[.int .i64 1, .int .i64 4] 3)
       refine (SameInts_any (V1.alloc (.cells #[.int .i64 1, .int .i64 4] 3)) A11 (some ⟨V1.heap.size, 0, none⟩) 2 C11 2 2 [1, 4] [1, 4] (Hrun.out _ hlV2).2.2.2.2.2.2.1 (ints_lit V1 [1, 4] (by decide)) (by omega) (by omega)).mono ?_
       rintro e V2 ⟨rfl, hxV2⟩
       rw [decide_eq_true rfl]
       have hBV2 := hlV2.trans (hxV2.mono (B' := W6.heap.size) hlV2.size)
       clear t0 t1 t2 y10 y11 y20 y21
       obtain ⟨hbxV2, y10, y11, y20, y21, _⟩ := Hrun.out V2 hBV2
       obtain ⟨t0, t1, t2, _⟩ := three_at hbxV2)
    | (go_at_call_of 22 (Value.slice A20 3 C20)
       have hlV3 := hBV2.alloc hBV2.size (.cells #[.int .i64 2, .int .i64 1, .int .i64 4] 3)
       refine (SameInts_any (V2.alloc (.cells #[.int .i64 2, .int .i64 1, .int .i64 4] 3)) A20 (some ⟨V2.heap.size, 0, none⟩) 3 C20 3 3 [2, 1, 4] [2, 1, 4] (Hrun.out _ hlV3).2.2.2.2.2.2.2.1 (ints_lit V2 [2, 1, 4] (by decide)) (by omega) (by omega)).mono ?_
       rintro e V3 ⟨rfl, hxV3⟩
       rw [decide_eq_true rfl]
       have hBV3 := hlV3.trans (hxV3.mono (B' := W6.heap.size) hlV3.size)
       clear t0 t1 t2 y10 y11 y20 y21
       obtain ⟨hbxV3, y10, y11, y20, y21, _⟩ := Hrun.out V3 hBV3
       obtain ⟨t0, t1, t2, _⟩ := three_at hbxV3)
    | (go_at_call_of 22 (Value.slice A21 2 C21)
       have hlV4 := hBV3.alloc hBV3.size (.cells #[.int .i64 0, .int .i64 3] 3)
       refine (SameInts_any (V3.alloc (.cells #[.int .i64 0, .int .i64 3] 3)) A21 (some ⟨V3.heap.size, 0, none⟩) 2 C21 2 2 [0, 3] [0, 3] (Hrun.out _ hlV4).2.2.2.2.2.2.2.2.1 (ints_lit V3 [0, 3] (by decide)) (by omega) (by omega)).mono ?_
       rintro e V4 ⟨rfl, hxV4⟩
       rw [decide_eq_true rfl]
       have hBV4 := hlV4.trans (hxV4.mono (B' := W6.heap.size) hlV4.size)
       clear t0 t1 t2 y10 y11 y20 y21
       obtain ⟨hbxV4, y10, y11, y20, y21, _⟩ := Hrun.out V4 hBV4
       obtain ⟨t0, t1, t2, _⟩ := three_at hbxV4)
    | (go_at_call_of 22 (Value.slice bo 5 cap)
       have hlV5 := hBV4.alloc hBV4.size (.cells #[.int .i64 2, .int .i64 1, .int .i64 4, .int .i64 0, .int .i64 3] 3)
       refine (SameInts_any (V4.alloc (.cells #[.int .i64 2, .int .i64 1, .int .i64 4, .int .i64 0, .int .i64 3] 3)) bo (some ⟨V4.heap.size, 0, none⟩) 5 cap 5 5 [2, 1, 4, 0, 3] [2, 1, 4, 0, 3] (Hrun.out _ hlV5).2.2.2.2.2.2.2.2.2 (ints_lit V4 [2, 1, 4, 0, 3] (by decide)) (by omega) (by omega)).mono ?_
       rintro e V5 ⟨rfl, hxV5⟩
       rw [decide_eq_true rfl]
       have hBV5 := hlV5.trans (hxV5.mono (B' := W6.heap.size) hlV5.size)
       clear t0 t1 t2 y10 y11 y20 y21
       obtain ⟨hbxV5, y10, y11, y20, y21, _⟩ := Hrun.out V5 hBV5
       obtain ⟨t0, t1, t2, _⟩ := three_at hbxV5))
  have hP0 := HBW6.out.trans (hBV5.mono (B' := W1.heap.size) HBW6.out.size)
  clear t0 t1 t2 y10 y11 y20 y21 hBW1 hBW2 hBW3 hBW4 hBV1 hBV2 hBV3 hBV4 hBV5 hBW6
  obtain ⟨p0, p1, p2, p3, _⟩ := four_at (Hbase.out V5 hP0).1
  have hl1 := hP0.alloc hP0.size (.cells #[.int .i64 8] 3)
  have Hso1 := Lib.hid (sort_any (V5.alloc (.cells #[.int .i64 8] 3)) a0 (some ⟨g, 0, none⟩) a2 a3 (some ⟨V5.heap.size, 0, none⟩) 2 c0 3 c1 2 c2 2 c3 1 1 awP [8] (Hbase.out _ hl1).2.1 (Hbase.out _ hl1).2.2.1 (Hbase.out _ hl1).2.2.2.1 (Hbase.out _ hl1).2.2.2.2 (ints_lit V5 [8] (by decide)) aw_wf2 aw_wf4 (by omega) (by omega) (by omega) (by omega) (by omega))
  go_upto_region 11 with (first
    | (go_at_call 20
       refine Hso1.out.mono ?_
       rintro e X1 ⟨hso, hx1⟩
       rcases hso with ⟨_, rfl⟩ | ⟨h0, _⟩
       rotate_left
       rw [aw_sort6] at h0
       exact absurd h0 (by decide)
       rw [aw_sort6]))
  have hP1 := (hl1.trans (hx1.mono (B' := W1.heap.size) hl1.size)).alloc (Nat.le_trans hl1.size hx1.size) (.cells #[.slice none 0 0, .slice none 0 0, .slice none 0 0] 52)
  clear p0 p1 p2 p3
  generalize X1.alloc (.cells #[.slice none 0 0, .slice none 0 0, .slice none 0 0] 52) = Y1 at *
  obtain ⟨p0, p1, p2, p3, _⟩ := four_at (Hbase.out Y1 hP1).1
  have hl2 := hP1.alloc hP1.size (.cells #[.int .i64 5, .int .i64 5, .int .i64 5] 3)
  have Hso2 := Lib.hid (sort_any (Y1.alloc (.cells #[.int .i64 5, .int .i64 5, .int .i64 5] 3)) a0 (some ⟨g, 0, none⟩) a2 a3 (some ⟨Y1.heap.size, 0, none⟩) 2 c0 3 c1 2 c2 2 c3 3 3 awP [5, 5, 5] (Hbase.out _ hl2).2.1 (Hbase.out _ hl2).2.2.1 (Hbase.out _ hl2).2.2.2.1 (Hbase.out _ hl2).2.2.2.2 (ints_lit Y1 [5, 5, 5] (by decide)) aw_wf3 aw_wf4 (by omega) (by omega) (by omega) (by omega) (by omega))
  go_upto_region 12 with (first
    | (go_at_call 20
       refine Hso2.out.mono ?_
       rintro e X2 ⟨hso, hx2⟩
       rcases hso with ⟨_, rfl⟩ | ⟨h0, _⟩
       rotate_left
       rw [aw_sort4] at h0
       exact absurd h0 (by decide)
       rw [aw_sort4]))
  have hP2 := (hl2.trans (hx2.mono (B' := W1.heap.size) hl2.size)).alloc (Nat.le_trans hl2.size hx2.size) (.cells #[.slice none 0 0, .slice none 0 0, .slice none 0 0] 52)
  clear p0 p1 p2 p3
  generalize X2.alloc (.cells #[.slice none 0 0, .slice none 0 0, .slice none 0 0] 52) = Y2 at *
  have hl3 := hP2.alloc hP2.size (.cells #[.int .i64 1, .int .i64 3, .int .i64 2, .int .i64 3, .int .i64 3, .int .i64 3] 43)
  have hm3 := hl3.alloc hl3.size (.cells #[.int .i64 5, .int .i64 5] 3)
  have hst3 : Stops (Y2.alloc (.cells #[.int .i64 1, .int .i64 3, .int .i64 2, .int .i64 3, .int .i64 3, .int .i64 3] 43)) (some ⟨Y2.heap.size, 0, none⟩) 3 [(1, 3), (2, 3), (3, 3)] := stops_lit Y2 [(1, 3), (2, 3), (3, 3)] (by decide)
  have hmk3 := make_any _ _ _ 3 3 2 2 [(1, 3), (2, 3), (3, 3)] [5, 5] (hst3.below ((Below.refl _ _).alloc (Nat.le_refl _) (.cells #[.int .i64 5, .int .i64 5] 3))) (ints_lit (Y2.alloc (.cells #[.int .i64 1, .int .i64 3, .int .i64 2, .int .i64 3, .int .i64 3, .int .i64 3] 43)) [5, 5] (by decide)) (by omega) (by omega)
  rw [aw_make4, show (Y2.alloc (.cells #[.int .i64 1, .int .i64 3, .int .i64 2, .int .i64 3, .int .i64 3, .int .i64 3] 43)).heap.size = Y2.heap.size + 1 by simp] at hmk3
  have Hmk3 := Lib.hid hmk3
  clear hst3 hmk3
  go_upto_region 13 with (go_at_call 13; refine Hmk3.out.mono ?_; rintro e X3 ⟨⟨v, rfl, d0, m0, k0, d1, m1, k1, d2, m2, k2, d3, m3, k3, rfl, _⟩, hx3⟩)
  have hP3 := (hm3.trans (hx3.mono (B' := W1.heap.size) hm3.size)).alloc (Nat.le_trans hm3.size hx3.size) (.cells #[.slice d0 m0 k0, .slice d1 m1 k1, .slice d2 m2 k2, .slice d3 m3 k3] 36)
  generalize X3.alloc (.cells #[.slice d0 m0 k0, .slice d1 m1 k1, .slice d2 m2 k2, .slice d3 m3 k3] 36) = Y3 at *
  have hl4 := hP3.alloc hP3.size (.cells #[.int .i64 1, .int .i64 1, .int .i64 2, .int .i64 1, .int .i64 3, .int .i64 1, .int .i64 4, .int .i64 1, .int .i64 5, .int .i64 1] 43)
  have hm4 := hl4.alloc hl4.size (.cells #[.int .i64 9, .int .i64 9] 3)
  have hst4 : Stops (Y3.alloc (.cells #[.int .i64 1, .int .i64 1, .int .i64 2, .int .i64 1, .int .i64 3, .int .i64 1, .int .i64 4, .int .i64 1, .int .i64 5, .int .i64 1] 43)) (some ⟨Y3.heap.size, 0, none⟩) 5 [(1, 1), (2, 1), (3, 1), (4, 1), (5, 1)] := stops_lit Y3 [(1, 1), (2, 1), (3, 1), (4, 1), (5, 1)] (by decide)
  have hmk4 := make_any _ _ _ 5 5 2 2 [(1, 1), (2, 1), (3, 1), (4, 1), (5, 1)] [9, 9] (hst4.below ((Below.refl _ _).alloc (Nat.le_refl _) (.cells #[.int .i64 9, .int .i64 9] 3))) (ints_lit (Y3.alloc (.cells #[.int .i64 1, .int .i64 1, .int .i64 2, .int .i64 1, .int .i64 3, .int .i64 1, .int .i64 4, .int .i64 1, .int .i64 5, .int .i64 1] 43)) [9, 9] (by decide)) (by omega) (by omega)
  rw [aw_make5, show (Y3.alloc (.cells #[.int .i64 1, .int .i64 1, .int .i64 2, .int .i64 1, .int .i64 3, .int .i64 1, .int .i64 4, .int .i64 1, .int .i64 5, .int .i64 1] 43)).heap.size = Y3.heap.size + 1 by simp] at hmk4
  have Hmk4 := Lib.hid hmk4
  clear hst4 hmk4
  go_upto_region 14 with (go_at_call 13; refine Hmk4.out.mono ?_; rintro e X4 ⟨⟨v, rfl, d0, m0, k0, d1, m1, k1, d2, m2, k2, d3, m3, k3, rfl, _⟩, hx4⟩)
  have hP4 := (hm4.trans (hx4.mono (B' := W1.heap.size) hm4.size)).alloc (Nat.le_trans hm4.size hx4.size) (.cells #[.slice d0 m0 k0, .slice d1 m1 k1, .slice d2 m2 k2, .slice d3 m3 k3] 36)
  generalize X4.alloc (.cells #[.slice d0 m0 k0, .slice d1 m1 k1, .slice d2 m2 k2, .slice d3 m3 k3] 36) = Y4 at *
  obtain ⟨p0, p1, p2, p3, _⟩ := four_at (Hbase.out Y4 hP4).1
  have hck := check_any Y4 a0 (some ⟨g, 0, none⟩) a2 a3 2 c0 3 c1 2 c2 2 c3 awP (Hbase.out Y4 hP4).2.1 (Hbase.out Y4 hP4).2.2.1 (Hbase.out Y4 hP4).2.2.2.1 (Hbase.out Y4 hP4).2.2.2.2 (by omega) (by omega) (by omega) (by omega)
  rw [aw_check] at hck
  have Hck := Lib.hid hck
  clear hck
  go_wp2_with (go_at_call 33; refine Hck.out.mono ?_; rintro e X5 ⟨rfl, hx5⟩)
  go_ret
  exact ⟨rfl, HB.out.trans (((hP4.trans (hx5.mono (B' := W1.heap.size) hP4.size))).mono HB.out.size)⟩
end Go.Proofs.YtpfinkdpaomliaaGreat
