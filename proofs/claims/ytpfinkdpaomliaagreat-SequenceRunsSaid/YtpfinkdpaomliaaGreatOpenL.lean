/-
  A slice that came in, opened as a list of whatever elements: its cells are told by a decoder of one element. Conditions: none.
-/
import Derived.Test.YtpfinkdpaomliaaGreatLists
import Derived.WalkKit
import Derived.ProofKit
import Derived.Deep.SlicePairs
import Derived.WideKeyArgs
namespace Go.Proofs.YtpfinkdpaomliaaGreat
open Go.ChangeShapes Go.WideShapes Go.ChangeAt Go.RowKit Go.Deep

section
variable {H : Type} {enc : TypeId × Value → H} {P : Program} {W : World}
theorem add_spot {a : Addr} (h : a.spot = none) (i : Nat) : a.add i = ⟨a.block, a.off + i, none⟩ := by
  obtain ⟨b, off, spot⟩ := a
  have h : spot = none := h
  subst h
  exact add_plain b off i
theorem row_in {a : Addr} {k n : Nat} (hk : k < n) : MemPlace.cell a.block (a.off + k) ∈ MemPlace.row a n := MemPlace.mem_row.2 ⟨k, by omega, rfl⟩
/-- By its cells: inside a struct too. -/
theorem list_open {α : Type} {size : Nat} {encA : α → List Value} {dA : α} {Wf : α → Prop} {t e : TypeId} {fuel : Nat} {cs : List Value} {x : DataW H × List MemPlace} (he : Enc size encA) (ht : P.underlying t = some (.slice e)) (ce : P.cellsOf e = size)
    (key : ∀ (n : Nat) (cs' : List Value) (y : DataW H × List MemPlace), DataW.trod enc P W 0 (fun _ => true) true n e cs' = some y → ∃ a : α, cs' = encA a ∧ Wf a)
    (h : DataW.trod enc P W 0 (fun _ => true) true fuel t cs = some x) (hlt : ∀ p ∈ x.2, p.block < W.heap.size) :
    ∃ ao n c l, cs = [.slice ao n c] ∧ RdL size encA dA W ao n l ∧ (∀ i, i < n → Wf (l.getD i dA)) ∧ n ≤ maxLen := by
  rcases open_slice ht h with ⟨hcs, hx⟩ | ⟨a, len, cap, m, n, D, Pl, hcs, _, hl, hm, hmm, hx, hall⟩
  · exact ⟨none, 0, 0, [], hcs, RdL.nil _ _, fun i hi => absurd hi (by omega), Nat.zero_le _⟩
  · simp only [if_true] at hmm
    subst hmm
    have each : ∀ i, i < len → ∃ q : α, (∀ j, j < size → W.cell? (a.add (i * size + j)) = some ((encA q).getD j undef)) ∧ Wf q := fun i hi => by
      obtain ⟨cs', h1, h2⟩ := hall i (by omega)
      obtain ⟨q, rfl, hq⟩ := key n cs' _ h2
      rw [ce] at h1
      obtain ⟨_, hlen, hcell⟩ := World.cells?_some h1
      refine ⟨q, fun j hj => ?_, hq⟩
      have := hcell j (by omega)
      rw [add_add] at this
      rw [this, List.getD_eq_getElem?_getD, List.getElem?_eq_getElem (by rw [he.len]; exact hj)]
      rfl
    haveI : Inhabited α := ⟨dA⟩
    obtain ⟨S, hS⟩ := choose_lt each
    have hget : ∀ i, i < len → ((List.range len).map S).getD i dA = S i := fun i hi => by simp [List.getD_eq_getElem?_getD, hi]
    refine ⟨some a, len, m, (List.range len).map S, hcs, ⟨?_, by simp⟩, fun i hi => by rw [hget i hi]; exact (hS i hi).2, by omega⟩
    by_cases h0 : len = 0
    · exact .inl h0
    · have hsp := he.pos
      have hs := World.cell?_spot ((hS 0 (by omega)).1 0 hsp)
      have hs : a.spot = none := by
        unfold Addr.add at hs
        simpa using hs
      have hbl : a.block < W.heap.size := by
        have hin : MemPlace.cell a.block (a.off + 0) ∈ x.2 := by
          rw [hx, ce]
          exact List.mem_append_left _ (row_in (Nat.mul_pos (by omega) hsp))
        exact hlt _ hin
      refine .inr ⟨a.block, a.off, ?_, hbl, fun i hi => ?_⟩
      · obtain ⟨b, off, spot⟩ := a
        have hs : spot = none := hs
        rw [hs]
      · obtain ⟨q, j, hj, rfl⟩ := split_at hsp i
        have hq : q < len := by
          rcases Nat.lt_or_ge q len with h | h
          · exact h
          · have := Nat.mul_le_mul_right size h; omega
        rw [cellsF_at hsp _ _ hj, hget q hq, ← add_spot hs]
        exact (hS q hq).1 j hj
/-- An argument's own. -/
theorem list_openV {α : Type} {size : Nat} {encA : α → List Value} {dA : α} {Wf : α → Prop} {t e : TypeId} {v : Value} {d : DataW H} {ps : List MemPlace} (he : Enc size encA) (ht : P.underlying t = some (.slice e)) (ce : P.cellsOf e = size)
    (key : ∀ (n : Nat) (cs' : List Value) (y : DataW H × List MemPlace), DataW.trod enc P W 0 (fun _ => true) true n e cs' = some y → ∃ a : α, cs' = encA a ∧ Wf a)
    (h : DataW.Trod enc P W 0 (fun _ => true) true t v d ps) (hlt : ∀ p ∈ ps, p.block < W.heap.size) (hv : ∃ a n c, v = .slice a n c) :
    ∃ ao n c l, v = .slice ao n c ∧ RdL size encA dA W ao n l ∧ (∀ i, i < n → Wf (l.getD i dA)) ∧ n ≤ maxLen := by
  obtain ⟨a0, n0, c0, rfl⟩ := hv
  obtain ⟨fuel, hf⟩ := h
  obtain ⟨ao, n, c, l, hcs, h1, h2, h3⟩ := list_open (dA := dA) he ht ce key hf hlt
  simp [Value.cells] at hcs
  obtain ⟨rfl, rfl, rfl⟩ := hcs
  exact ⟨_, _, _, l, rfl, h1, h2, h3⟩
/-- Structs of up to four plain fields: one cell a field. -/
theorem fields_of {t : TypeId} {fs : Array Field} {fuel : Nat} {cs : List Value} {x : DataW H × List MemPlace} (ht : P.underlying t = some (.struct fs)) (h : DataW.trod enc P W 0 (fun _ => true) true fuel t cs = some x) :
    cs.length = P.cellsOf t ∧ ∀ (i : Nat) (f : Field), fs[i]? = some f → ∃ n y, DataW.trod enc P W 0 (fun _ => true) true n f.type ((cs.drop f.offset).take (P.cellsOf f.type)) = some y ∧ ∀ p ∈ y.2, p ∈ x.2 := by
  obtain ⟨xs, n, _, rfl, hl, hlen, hf⟩ := DataW.trod_struct ht h
  refine ⟨hl, fun i f hi => ?_⟩
  have hi2 : i < fs.size := (Array.getElem?_eq_some_iff.1 hi).1
  have hx : xs[i]? = some xs[i] := List.getElem?_eq_getElem (by omega)
  refine ⟨n, xs[i], (hf i f hi).trans hx, fun p hp => List.mem_flatMap.2 ⟨xs[i], List.getElem_mem _, hp⟩⟩
end
end Go.Proofs.YtpfinkdpaomliaaGreat
