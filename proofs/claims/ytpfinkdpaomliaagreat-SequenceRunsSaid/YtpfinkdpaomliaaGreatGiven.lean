/-
  'given' of the law of chapter 28: a plan as the reference has it, in memory of its own.
-/
import Derived.Test.YtpfinkdpaomliaaGreatRefSort
namespace Go.Proofs.YtpfinkdpaomliaaGreat
open Go.RowKit

/-- The plan's copy. -/
def GivenR (B : Nat) (w : World) (v : Value) (n m n2 n3 : Nat) (p : PlanP) : Prop := ∃ b0 d0 b1 d1 b2 d2 b3 d3, v = .agg #[.slice b0 n d0, .slice b1 m d1, .slice b2 n2 d2, .slice b3 n3 d3] ∧
  OwnI B w b0 n d0 p.caps ∧ OwnSeats 65 B w b1 m d1 p.seats ∧ OwnI B w b2 n2 d2 p.first ∧ OwnI B w b3 n3 d3 p.second

set_option maxRecDepth 1000000 in
set_option maxHeartbeats 4000000 in
theorem given_any (w : World) (a0 a1 a2 a3 : Option Addr) (n c0 m c1 n2 c2 n3 c3 : Nat) (p : PlanP) (hc : Ints w a0 n p.caps) (h : Seats w a1 m p.seats) (hf : Ints w a2 n2 p.first) (hg : Ints w a3 n3 p.second)
    (hn : n ≤ 1048576) (hm : m ≤ 1048576) (hn2 : n2 ≤ 1048576) (hn3 : n3 ≤ 1048576) :
    Calls Tryz.prog 18 #[.agg #[.slice a0 n c0, .slice a1 m c1, .slice a2 n2 c2, .slice a3 n3 c3]] w fun e w' => (∃ v, e = .returned v ∧ GivenR w.heap.size w' v n m n2 n3 p) ∧ Below w.heap.size w w' := by
  obtain ⟨hpl, hre⟩ := boxes2 w #[.slice a0 n c0, .slice a1 m c1, .slice a2 n2 c2, .slice a3 n3 c3] #[.slice none 0 0, .slice none 0 0, .slice none 0 0, .slice none 0 0] 36 29
  have hb0 : Below w.heap.size w ((w.alloc (.cells #[.slice a0 n c0, .slice a1 m c1, .slice a2 n2 c2, .slice a3 n3 c3] 36)).alloc (.cells #[.slice none 0 0, .slice none 0 0, .slice none 0 0, .slice none 0 0] 29)) :=
    ((Below.refl _ _).alloc (Nat.le_refl _) _).alloc (by simp) _
  have hsz0 : ((w.alloc (.cells #[.slice a0 n c0, .slice a1 m c1, .slice a2 n2 c2, .slice a3 n3 c3] 36)).alloc (.cells #[.slice none 0 0, .slice none 0 0, .slice none 0 0, .slice none 0 0] 29)).heap.size = w.heap.size + 1 + 1 := by simp
  have Hbase : Hid (∀ W, Below (w.heap.size + 1 + 1) ((w.alloc (.cells #[.slice a0 n c0, .slice a1 m c1, .slice a2 n2 c2, .slice a3 n3 c3] 36)).alloc (.cells #[.slice none 0 0, .slice none 0 0, .slice none 0 0, .slice none 0 0] 29)) W →
      Below w.heap.size w W ∧ w.heap.size + 1 + 1 ≤ W.heap.size ∧ W.heap[w.heap.size]? = some (.cells #[.slice a0 n c0, .slice a1 m c1, .slice a2 n2 c2, .slice a3 n3 c3] 36 (0, 0)) ∧ W.heap[w.heap.size + 1]? = some (.cells #[.slice none 0 0, .slice none 0 0, .slice none 0 0, .slice none 0 0] 29 (0, 0)) ∧
      Ints W a0 n p.caps ∧ Seats W a1 m p.seats ∧ Ints W a2 n2 p.first ∧ Ints W a3 n3 p.second) := fun W hW => by
    have h1 := hb0.trans (hW.mono (B' := w.heap.size) (by omega))
    have h2 := hW.size
    rw [hsz0] at h2
    exact ⟨h1, h2, (hW.block _ (by omega)).trans hpl, (hW.block _ (by omega)).trans hre, hc.below h1, h.below h1, hf.below h1, hg.below h1⟩
  have Hsz0 := Lib.hid hsz0
  clear hc h hf hg hpl hre hb0 hsz0
  obtain ⟨hw0, hz0, hpl, hre, hc, h, _⟩ := Hbase.out _ (Below.refl _ _)
  obtain ⟨p0, p1, p2, p3, _⟩ := four_at hpl
  go_enter Tryz.func18, Tryz.ntmps18
  go_wp2_with fail
  generalize (w.alloc (.cells #[.slice a0 n c0, .slice a1 m c1, .slice a2 n2 c2, .slice a3 n3 c3] 36)).alloc (.cells #[.slice none 0 0, .slice none 0 0, .slice none 0 0, .slice none 0 0] 29) = w0 at *
  have Hcop : Hid (∀ W, Below (w.heap.size + 1 + 1) w0 W → Calls Tryz.prog 26 #[.slice a0 n c0] W fun e w' => ∃ bo cap, e = .returned (.slice bo n cap) ∧ OwnI W.heap.size w' bo n cap p.caps ∧ Below W.heap.size W w') := fun W hW => CopyInts_any W a0 n c0 _ (Hbase.out W hW).2.2.2.2.1 hn
  have Hcos : Hid (∀ W, Below (w.heap.size + 1 + 1) w0 W → Calls Tryz.prog 45 #[.slice a1 m c1] W fun e w' => ∃ bo cap, e = .returned (.slice bo m cap) ∧ OwnL 4 seatC seatD 65 W.heap.size w' bo m cap p.seats ∧ Below W.heap.size W w') := fun W hW => convSeats_any W a1 m c1 _ (Hbase.out W hW).2.2.2.2.2.1 hm
  have Hcof : Hid (∀ W, Below (w.heap.size + 1 + 1) w0 W → Calls Tryz.prog 26 #[.slice a2 n2 c2] W fun e w' => ∃ bo cap, e = .returned (.slice bo n2 cap) ∧ OwnI W.heap.size w' bo n2 cap p.first ∧ Below W.heap.size W w') := fun W hW => CopyInts_any W a2 n2 c2 _ (Hbase.out W hW).2.2.2.2.2.2.1 hn2
  have Hcog : Hid (∀ W, Below (w.heap.size + 1 + 1) w0 W → Calls Tryz.prog 26 #[.slice a3 n3 c3] W fun e w' => ∃ bo cap, e = .returned (.slice bo n3 cap) ∧ OwnI W.heap.size w' bo n3 cap p.second ∧ Below W.heap.size W w') := fun W hW => CopyInts_any W a3 n3 c3 _ (Hbase.out W hW).2.2.2.2.2.2.2 hn3
  clear hc h hpl hre
  have hst : ∀ W, Below (w.heap.size + 1 + 1) w0 W → (W.cell? ⟨w.heap.size, 0, none⟩ = some (.slice a0 n c0) ∧ W.cell? ⟨w.heap.size, 1, none⟩ = some (.slice a1 m c1) ∧ W.cell? ⟨w.heap.size, 2, none⟩ = some (.slice a2 n2 c2) ∧ W.cell? ⟨w.heap.size, 3, none⟩ = some (.slice a3 n3 c3)) := fun W hW => by
    obtain ⟨p0, p1, p2, p3, _⟩ := four_at (Hbase.out W hW).2.2.1
    exact ⟨p0, p1, p2, p3⟩
  have Hst := Lib.hid hst
  clear hst
  go_region_held3 (fun w' => w'.cell? ⟨w.heap.size, 0, none⟩ = some (.slice a0 n c0) ∧ w'.cell? ⟨w.heap.size, 1, none⟩ = some (.slice a1 m c1) ∧ w'.cell? ⟨w.heap.size, 2, none⟩ = some (.slice a2 n2 c2) ∧ w'.cell? ⟨w.heap.size, 3, none⟩ = some (.slice a3 n3 c3)) (first | go_keep | exact hS1 | exact hS2 | exact hS3 | exact hS4 | exact ⟨p0, p1, p2, p3⟩)
    ((first
      | (go_at_call_of 26 (Value.slice a0 n c0); refine (Hcop.out _ (Below.refl _ _).drew).mono ?_; rintro e w1 ⟨b0, d0, rfl, hx0, hb1⟩; have hB1 : Below (w.heap.size + 1 + 1) w0 w1 := (Below.refl _ _).drew.trans (hb1.mono hz0); have hS1 := Hst.out w1 hB1; have hs1 := (Hbase.out w1 hB1).2.1)
      | (go_at_call 45; refine (Hcos.out w1 hB1).mono ?_; rintro e w2 ⟨b1, d1, rfl, hx1, hb2⟩; have hB2 : Below (w.heap.size + 1 + 1) w0 w2 := hB1.trans (hb2.mono hs1); have hS2 := Hst.out w2 hB2; have hs2 := (Hbase.out w2 hB2).2.1)
      | (go_at_call_of 26 (Value.slice a2 n2 c2); refine (Hcof.out w2 hB2).mono ?_; rintro e w3 ⟨b2, d2, rfl, hx2, hb3⟩; have hB3 : Below (w.heap.size + 1 + 1) w0 w3 := hB2.trans (hb3.mono hs2); have hS3 := Hst.out w3 hB3; have hs3 := (Hbase.out w3 hB3).2.1)
      | (go_at_call_of 26 (Value.slice a3 n3 c3); refine (Hcog.out w3 hB3).mono ?_; rintro e w4 ⟨b3, d3, rfl, hx3, hb4⟩; have hB4 : Below (w.heap.size + 1 + 1) w0 w4 := hB3.trans (hb4.mono hs3); have hS4 := Hst.out w4 hB4; have hs4 := (Hbase.out w4 hB4).2.1; obtain ⟨z0, z1, z2, z3, z4, z5, z6, z7⟩ := four_at (Hbase.out w4 hB4).2.2.2.1)))
  have hre4 := (Hbase.out w4 hB4).2.2.2.1
  have hfin := set_block (set_block (set_block (set_block hre4 0 (.slice b0 n d0)) 1 (.slice b1 m d1)) 2 (.slice b2 n2 d2)) 3 (.slice b3 n3 d3)
  obtain ⟨f0, f1, f2, f3, _⟩ := four_at hfin
  have q0 : w.heap.size + 1 < w0.drew.heap.size := by show _ < w0.heap.size; omega
  have X0 := (((hx0.below hb2).below hb3).below hb4).set4 q0 (.slice b0 n d0) (.slice b1 m d1) (.slice b2 n2 d2) (.slice b3 n3 d3)
  have X1 := ((hx1.below hb3).below hb4).set4 (show w.heap.size + 1 < w1.heap.size by omega) (.slice b0 n d0) (.slice b1 m d1) (.slice b2 n2 d2) (.slice b3 n3 d3)
  have X2 := (hx2.below hb4).set4 (show w.heap.size + 1 < w2.heap.size by omega) (.slice b0 n d0) (.slice b1 m d1) (.slice b2 n2 d2) (.slice b3 n3 d3)
  have X3 := hx3.set4 (show w.heap.size + 1 < w3.heap.size by omega) (.slice b0 n d0) (.slice b1 m d1) (.slice b2 n2 d2) (.slice b3 n3 d3)
  have hbw := below_set4 (Hbase.out w4 hB4).1 (show w.heap.size ≤ w.heap.size + 1 by omega) (.slice b0 n d0) (.slice b1 m d1) (.slice b2 n2 d2) (.slice b3 n3 d3)
  go_wp2_with fail
  exact bodyPost_ret (v := .agg #[.slice b0 n d0, .slice b1 m d1, .slice b2 n2 d2, .slice b3 n3 d3]) (by simp [results, Tryz.results18, go_sem, f0, f1, f2, f3]) rfl
    ⟨⟨_, rfl, b0, d0, b1, d1, b2, d2, b3, d3, rfl, X0.mono (by omega), X1.mono (by omega), X2.mono (by omega), X3.mono (by omega)⟩, hbw⟩
end Go.Proofs.YtpfinkdpaomliaaGreat
