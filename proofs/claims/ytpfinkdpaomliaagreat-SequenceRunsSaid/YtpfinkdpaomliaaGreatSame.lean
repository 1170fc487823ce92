/-
  'same' and 'own' of the law: a plan and the reference's, alike.
-/
import Derived.Test.YtpfinkdpaomliaaGreatSortRun
import Derived.Test.YtpfinkdpaomliaaGreatConv
import Derived.Laws.StructEq
import Derived.Test.YtpfinkdpaomliaaGreatApartInts
namespace Go.Proofs.YtpfinkdpaomliaaGreat
open Go.RowKit

theorem boxes2 (w : World) (v1 v2 : Array Value) (t1 t2 : TypeId) :
    ((w.alloc (.cells v1 t1)).alloc (.cells v2 t2)).heap[w.heap.size]? = some (.cells v1 t1 (0, 0)) ∧ ((w.alloc (.cells v1 t1)).alloc (.cells v2 t2)).heap[w.heap.size + 1]? = some (.cells v2 t2 (0, 0)) := by
  refine ⟨?_, ?_⟩
  · exact (Below.heap_alloc _ _ _ (by simp)).trans (heap_alloc_new w _)
  · have := heap_alloc_new (w.alloc (.cells v1 t1)) (.cells v2 t2)
    rw [show (w.alloc (.cells v1 t1)).heap.size = w.heap.size + 1 by simp] at this
    exact this

def R14 (m B : Nat) (w0 : World) (u6 : Value) (wr : World) : Prop := ∃ i : Nat, i ≤ m ∧ u6 = .int .i64 i ∧ Below B w0 wr

set_option maxRecDepth 1000000 in
set_option maxHeartbeats 4000000 in
theorem same_any (w : World) (a0 a1 a2 a3 b0 b1 b2 b3 : Option Addr) (n c0 m c1 n2 c2 n3 c3 d0 d1 d2 d3 : Nat) (p : PlanP) (hc : Ints w a0 n p.caps) (h : Seats w a1 m p.seats) (hf : Ints w a2 n2 p.first) (hg : Ints w a3 n3 p.second)
    (hc' : Ints w b0 n p.caps) (h' : Seats w b1 m p.seats) (hf' : Ints w b2 n2 p.first) (hg' : Ints w b3 n3 p.second) (hn : n ≤ 1048576) (hm : m ≤ 1048576) (hn2 : n2 ≤ 1048576) (hn3 : n3 ≤ 1048576) :
    Calls Tryz.prog 14 #[.agg #[.slice a0 n c0, .slice a1 m c1, .slice a2 n2 c2, .slice a3 n3 c3], .agg #[.slice b0 n d0, .slice b1 m d1, .slice b2 n2 d2, .slice b3 n3 d3]] w fun e w' => e = .returned (.bool true) ∧ Below w.heap.size w w' := by
  have hb0 : Below w.heap.size w ((w.alloc (.cells #[.slice a0 n c0, .slice a1 m c1, .slice a2 n2 c2, .slice a3 n3 c3] 36)).alloc (.cells #[.slice b0 n d0, .slice b1 m d1, .slice b2 n2 d2, .slice b3 n3 d3] 29)) :=
    ((Below.refl _ _).alloc (Nat.le_refl _) _).alloc (by simp) _
  obtain ⟨hp, hq⟩ := boxes2 w #[.slice a0 n c0, .slice a1 m c1, .slice a2 n2 c2, .slice a3 n3 c3] #[.slice b0 n d0, .slice b1 m d1, .slice b2 n2 d2, .slice b3 n3 d3] 36 29
  have hcv := convSeats_any _ a1 m c1 p.seats (h.below hb0) hm
  have hsz : ((w.alloc (.cells #[.slice a0 n c0, .slice a1 m c1, .slice a2 n2 c2, .slice a3 n3 c3] 36)).alloc (.cells #[.slice b0 n d0, .slice b1 m d1, .slice b2 n2 d2, .slice b3 n3 d3] 29)).heap.size = w.heap.size + 1 + 1 := by simp
  have Hbase : Hid (∀ W, Below (w.heap.size + 1 + 1) ((w.alloc (.cells #[.slice a0 n c0, .slice a1 m c1, .slice a2 n2 c2, .slice a3 n3 c3] 36)).alloc (.cells #[.slice b0 n d0, .slice b1 m d1, .slice b2 n2 d2, .slice b3 n3 d3] 29)) W →
      Below w.heap.size w W ∧ w.heap.size + 1 + 1 ≤ W.heap.size ∧ W.heap[w.heap.size]? = some (.cells #[.slice a0 n c0, .slice a1 m c1, .slice a2 n2 c2, .slice a3 n3 c3] 36 (0, 0)) ∧ W.heap[w.heap.size + 1]? = some (.cells #[.slice b0 n d0, .slice b1 m d1, .slice b2 n2 d2, .slice b3 n3 d3] 29 (0, 0))) := fun W hW =>
    ⟨hb0.trans (hW.mono (by omega)), by have := hW.size; rw [hsz] at this; exact this, (hW.block _ (by omega)).trans hp, (hW.block _ (by omega)).trans hq⟩
  have Hcv := Lib.hid hcv
  have Hsz := Lib.hid hsz
  clear hb0 hp hq hcv hsz
  obtain ⟨p0, p1, p2, p3, _⟩ := four_at (Hbase.out _ (Below.refl _ _)).2.2.1
  go_enter Tryz.func14, Tryz.ntmps14
  go_wp2_with (first
    | (go_at_call 45; refine Hcv.out.mono ?_; rintro e w1 ⟨s1, k1, rfl, hs1, hb1⟩
       clear p0 p1 p2 p3
       rw [Hsz.out] at hb1 hs1
       have hB1 := hb1
       obtain ⟨hbw1, hz1, hp1, hq1⟩ := Hbase.out w1 hB1
       obtain ⟨p0, p1, p2, p3, _⟩ := four_at hp1
       obtain ⟨q0, q1, q2, q3, _⟩ := four_at hq1)
    | (go_at_call_of 22 (Value.slice a0 n c0); refine (SameInts_any w1 a0 b0 n c0 n d0 _ _ (hc.below hbw1) (hc'.below hbw1) (by omega) (by omega)).mono ?_; rintro e w2 ⟨rfl, hb2⟩
       rw [decide_eq_true rfl]
       clear p0 p1 p2 p3 q0 q1 q2 q3
       have hs1 := hs1.below hb2
       have hB2 := hB1.trans (hb2.mono hz1)
       obtain ⟨hbw2, hz2, hp2, hq2⟩ := Hbase.out w2 hB2
       obtain ⟨p0, p1, p2, p3, _⟩ := four_at hp2
       obtain ⟨q0, q1, q2, q3, _⟩ := four_at hq2)
    | (go_at_call_of 22 (Value.slice a2 n2 c2); refine (SameInts_any w2 a2 b2 n2 c2 n2 d2 _ _ (hf.below hbw2) (hf'.below hbw2) (by omega) (by omega)).mono ?_; rintro e w3 ⟨rfl, hb3⟩
       rw [decide_eq_true rfl]
       clear p0 p1 p2 p3 q0 q1 q2 q3
       have hs1 := hs1.below hb3
       have hB3 := hB2.trans (hb3.mono hz2)
       obtain ⟨hbw3, hz3, hp3, hq3⟩ := Hbase.out w3 hB3
       obtain ⟨p0, p1, p2, p3, _⟩ := four_at hp3
       obtain ⟨q0, q1, q2, q3, _⟩ := four_at hq3)
    | (go_at_call_of 22 (Value.slice a3 n3 c3); refine (SameInts_any w3 a3 b3 n3 c3 n3 d3 _ _ (hg.below hbw3) (hg'.below hbw3) (by omega) (by omega)).mono ?_; rintro e w4 ⟨rfl, hb4⟩
       rw [decide_eq_true rfl]
       clear p0 p1 p2 p3 q0 q1 q2 q3
       have hs1 := hs1.below hb4
       have hB4 := hB3.trans (hb4.mono hz3)))
  have hz4 := hb4.size
  have hzz : w.heap.size + 1 + 1 ≤ w4.heap.size := by omega
  have hr4 := hs1.rd
  have Hs4 := Lib.hid hr4
  have HB4 := Lib.hid hB4
  have Hw4 := Lib.hid (h'.below (hbw3.trans (hb4.mono (by omega))))
  clear hs1 hb1 hb2 hb3 hb4 hB1 hB2 hB3 hB4 hr4 hbw1 hbw2 hbw3 hp1 hp2 hp3 hq1 hq2 hq3 h h' hc hc' hf hf' hg hg'
  go_loopw [6] (R14 m w4.heap.size w4) (fun u6 _ => m - (intOf u6).toNat)
  case atStart => exact ⟨0, Nat.zero_le _, rfl, Below.refl _ _⟩
  case round =>
    obtain ⟨i, hi, rfl, hb⟩ := hrel
    obtain ⟨hbw, hz, hp, hq⟩ := Hbase.out wr (HB4.out.trans (hb.mono (by omega)))
    by_cases hlt : i < m
    · obtain ⟨g, off, rfl, hg, e0, e1, e2, e3⟩ := Seats.at (Hs4.out.below hb) hlt
      obtain ⟨g', off', rfl, hg', x0, x1, x2, x3⟩ := Seats.at (Hw4.out.below hb) hlt
      obtain ⟨_, q1, _⟩ := four_at hq
      generalize Seat.stop (p.seats.getD i seatD) = v0 at *
      generalize Seat.vol (p.seats.getD i seatD) = v1 at *
      generalize Seat.first (p.seats.getD i seatD) = v2 at *
      generalize Seat.second (p.seats.getD i seatD) = v3 at *
      have hi0 : (0 : Int) ≤ (i : Int) := by omega
      have hi1 : (i : Int) < (m : Int) := by omega
      go_wp2_with fail
      go_quiet (fail)
      go_wp2_with fail
      go_roundw
      case rel => exact ⟨i + 1, hlt, by go_num, below_drewN hb _⟩
      case measure => simp [intOf] <;> omega
    · obtain rfl : i = m := by omega
      go_wp2_with fail
      go_ret
      exact ⟨rfl, hbw⟩

set_option maxRecDepth 1000000 in
set_option maxHeartbeats 1000000 in
theorem own_any (w : World) (v : Value) (B : Nat) (p : PlanP) (h : OwnPlan B w v p) (hB : B ≤ w.heap.size) (hn : p.caps.length ≤ 1048576) (hn2 : p.first.length ≤ 1048576) (hn3 : p.second.length ≤ 1048576) :
    Calls Tryz.prog 17 #[v] w fun e w' => e = .returned (.bool true) ∧ Below B w w' := by
  obtain ⟨a0, n0, c0, a1, n1, c1, a2, n2, c2, a3, n3, c3, rfl, h0, h1, h2, h3, hd⟩ := h
  have e0 := h0.len
  have e2 := h2.len
  have e3 := h3.len
  obtain ⟨p0, p1, p2, p3, _⟩ := four_at (heap_alloc_new w (.cells #[.slice a0 n0 c0, .slice a1 n1 c1, .slice a2 n2 c2, .slice a3 n3 c3] 36))
  have hlit : Sl ((w.alloc (.cells #[.slice a0 n0 c0, .slice a1 n1 c1, .slice a2 n2 c2, .slice a3 n3 c3] 36)).alloc (.cells #[.slice a0 n0 c0, .slice a2 n2 c2, .slice a3 n3 c3] 23)) 23 1 (some ⟨w.heap.size + 1, 0, none⟩) 3 3
      (fun k => .slice (pick3 a0 a2 a3 k) (pick3 n0 n2 n3 k) (pick3 c0 c2 c3 k)) := by
    have hh := Sl.new (w.alloc (.cells #[.slice a0 n0 c0, .slice a1 n1 c1, .slice a2 n2 c2, .slice a3 n3 c3] 36)) 23 1 3 3 #[.slice a0 n0 c0, .slice a2 n2 c2, .slice a3 n3 c3] (fun k => .slice (pick3 a0 a2 a3 k) (pick3 n0 n2 n3 k) (pick3 c0 c2 c3 k)) (by omega) (by unfold maxLen; omega) rfl
      (fun i hi => by rcases lt3 (show i < 3 by omega) with rfl | rfl | rfl <;> rfl)
    rw [show (w.alloc (.cells #[.slice a0 n0 c0, .slice a1 n1 c1, .slice a2 n2 c2, .slice a3 n3 c3] 36)).heap.size = w.heap.size + 1 by simp] at hh
    exact hh
  have hap := ApartInts_any 3 3 (some ⟨w.heap.size + 1, 0, none⟩) (pick3 a0 a2 a3) (pick3 n0 n2 n3) (pick3 c0 c2 c3) (fun k => intF (pick3 p.caps p.first p.second k)) _ (by omega)
    (fun k hk => by rcases lt3 hk with rfl | rfl | rfl <;> simp [pick3] <;> omega) hlit
    (fun k hk => by
      rcases lt3 hk with rfl | rfl | rfl
      · exact (h0.sl.alloc _).alloc _
      · exact (h2.sl.alloc _).alloc _
      · exact (h3.sl.alloc _).alloc _) hd
  have Hap := Lib.hid hap
  clear hap hlit
  go_enter Tryz.func17, Tryz.ntmps17
  go_wp2_with (go_at_call 23; refine Hap.out.mono ?_; rintro e w' ⟨rfl, ho⟩)
  go_ret
  refine ⟨rfl, Below.trans (((Below.refl B w).alloc hB _).alloc (by simp; omega) _) (ho.below (by simp; omega) fun g hg => ?_)⟩
  rcases hg with ⟨k, hk, hg⟩ | hg
  · rcases lt3 hk with rfl | rfl | rfl
    · exact h0.row g hg
    · exact h2.row g hg
    · exact h3.row g hg
  · simp at hg
    omega
end Go.Proofs.YtpfinkdpaomliaaGreat
