/-
  The rows' arguments opened: slices of stops, slices of integers.
-/
import Derived.Test.YtpfinkdpaomliaaGreatStops
import Derived.Test.YtpfinkdpaomliaaGreatFeed
import Derived.WalkKit
import Derived.ProofKit
import Derived.Deep.SlicePairs
import Derived.WideKeyArgs
namespace Go.Proofs.YtpfinkdpaomliaaGreat
open Go.ChangeShapes Go.WideShapes Go.ChangeAt Go.RowKit Go.Deep

theorem Tryz.laidOut9 : laidOutB Tryz.prog = true := by kernel_rfl
section
variable {H : Type} {enc : TypeId × Value → H} {W : World}
theorem add_of_spot {a : Addr} (h : a.spot = none) (i : Nat) : a.add i = ⟨a.block, a.off + i, none⟩ := by
  obtain ⟨b, off, spot⟩ := a
  have h : spot = none := h
  subst h
  exact add_plain b off i
theorem ints_open {v : Value} {d : DataW H} {ps : List MemPlace} (h : DataW.Trod enc Tryz.prog W 0 (fun _ => true) true 23 v d ps) (hlt : ∀ x ∈ ps, x.block < W.heap.size) (hv : ∃ a n c, v = .slice a n c) :
    ∃ ao n c xs, v = .slice ao n c ∧ Ints W ao n xs ∧ WfI xs ∧ n ≤ maxLen := by
  obtain ⟨a0, n0, c0, rfl⟩ := hv
  obtain ⟨fuel, hf⟩ := h
  rcases open_ints Tryz.underlying23 Tryz.underlying3 (show Tryz.prog.cellsOf 3 = 1 by kernel_rfl) hf with ⟨hcs, hx⟩ | ⟨a, len, cap, zs, hcs, _, hl, hm, hz, hx, hcell, hw⟩
  · simp [Value.cells] at hcs
    obtain ⟨rfl, rfl, rfl⟩ := hcs
    exact ⟨none, 0, 0, [], rfl, ⟨Rd.nil _ _ _ _, rfl⟩, fun i hi => absurd hi (by simp), Nat.zero_le _⟩
  · simp [Value.cells] at hcs
    obtain ⟨rfl, rfl, rfl⟩ := hcs
    simp only [if_true] at hz
    refine ⟨some a, n0, c0, zs.take n0, rfl, ⟨?_, by rw [List.length_take]; omega⟩, fun i hi => ?_, by omega⟩
    · by_cases h0 : n0 = 0
      · exact .inl h0
      · have hs := World.cell?_spot (hcell 0 (by omega))
        have hs : a.spot = none := by
          unfold Addr.add at hs
          simpa using hs
        have hbl : a.block < W.heap.size := by
          simp only [Prod.mk.injEq] at hx
          have := hlt (.cell a.block a.off) (by rw [hx.2]; exact MemPlace.mem_row.2 ⟨0, by omega, by simp⟩)
          exact this
        refine .inr ⟨a.block, a.off, ?_, hbl, fun i hi => ?_⟩
        · obtain ⟨b, off, spot⟩ := a
          have hs : spot = none := hs
          rw [hs]
        · rw [← add_of_spot hs, hcell i (by omega)]
          unfold intF
          rw [List.getD_eq_getElem?_getD, List.getD_eq_getElem?_getD, List.getElem?_take, if_pos (by omega)]
    · have hi' : i < zs.length := by rw [List.length_take] at hi; omega
      have hi2 : i < n0 := by rw [List.length_take] at hi; omega
      refine hw _ ?_
      rw [List.getD_eq_getElem?_getD, List.getElem?_take, if_pos hi2, List.getElem?_eq_getElem hi']
      exact List.getElem_mem hi'
theorem stops_open {v : Value} {d : DataW H} {ps : List MemPlace} (h : DataW.Trod enc Tryz.prog W 0 (fun _ => true) true 22 v d ps) (hlt : ∀ x ∈ ps, x.block < W.heap.size) (hv : ∃ a n c, v = .slice a n c) :
    ∃ ao n c l, v = .slice ao n c ∧ Stops W ao n l ∧ (∀ i, i < n → (Lit.int .i64 (l.getD i stopD).1).wf = true) ∧ n ≤ maxLen := by
  obtain ⟨a0, n0, c0, rfl⟩ := hv
  obtain ⟨fuel, hf⟩ := h
  rcases open_slice_pairs Tryz.underlying22 Tryz.underlying43 (show Tryz.prog.cellsOf 43 = 2 by kernel_rfl) rfl rfl (show Tryz.prog.cellsOf 3 = 1 by kernel_rfl) (show Tryz.prog.cellsOf 3 = 1 by kernel_rfl) hf with ⟨hcs, hx⟩ | ⟨a, len, cap, m, k, V0, V1, D0, D1, P0, P1, hcs, _, hl, hm, hz, hx, hall⟩
  · simp [Value.cells] at hcs
    obtain ⟨rfl, rfl, rfl⟩ := hcs
    exact ⟨none, 0, 0, [], rfl, RdL.nil _ _, fun i hi => absurd hi (by omega), Nat.zero_le _⟩
  · simp [Value.cells] at hcs
    obtain ⟨rfl, rfl, rfl⟩ := hcs
    simp only [if_true] at hz
    subst hz
    have key : ∀ i, i < n0 → ∃ s : Stop, W.cell? (a.add (i * 2)) = some (.int .i64 s.1) ∧ W.cell? (a.add (i * 2 + 1)) = some (.int .i64 s.2) ∧ (Lit.int .i64 s.1).wf = true := fun i hi => by
      obtain ⟨c0, c1, t0, t1⟩ := hall i (by omega)
      obtain ⟨x, e0, _, hw⟩ := DataW.trod_int Tryz.underlying3 t0
      obtain ⟨y, e1, _, _⟩ := DataW.trod_int Tryz.underlying3 t1
      simp only [List.cons.injEq, and_true] at e0 e1
      rw [e0] at c0
      rw [e1] at c1
      exact ⟨(x, y), c0, c1, hw⟩
    obtain ⟨S, hS⟩ := choose_lt key
    have hget : ∀ i, i < n0 → ((List.range n0).map S).getD i stopD = S i := fun i hi => by simp [List.getD_eq_getElem?_getD, hi]
    refine ⟨some a, n0, m, (List.range n0).map S, rfl, ⟨?_, by simp⟩, fun i hi => by rw [hget i hi]; exact (hS i hi).2.2, by omega⟩
    by_cases h0 : n0 = 0
    · exact .inl h0
    · have hs := World.cell?_spot (hS 0 (by omega)).1
      have hs : a.spot = none := by
        unfold Addr.add at hs
        simpa using hs
      have hbl : a.block < W.heap.size := by
        simp only [Prod.mk.injEq] at hx
        have := hlt (.cell a.block a.off) (by rw [hx.2]; exact List.mem_append_left _ (MemPlace.mem_row.2 ⟨0, by omega, by simp⟩))
        exact this
      refine .inr ⟨a.block, a.off, ?_, hbl, fun i hi => ?_⟩
      · obtain ⟨b, off, spot⟩ := a
        have hs : spot = none := hs
        rw [hs]
      · obtain ⟨q, j, hj, rfl⟩ := split_at (size := 2) (by omega) i
        have hq : q < n0 := by omega
        rw [cellsF_at (by omega) _ _ hj, hget q hq, ← add_of_spot hs]
        rcases lt2 hj with rfl | rfl
        · exact (hS q hq).1
        · exact (hS q hq).2.1
end
end Go.Proofs.YtpfinkdpaomliaaGreat
