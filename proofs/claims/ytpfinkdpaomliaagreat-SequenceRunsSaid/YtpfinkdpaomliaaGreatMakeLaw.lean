/-
  What 'Make' answers; plans in memory.
-/
import Derived.Test.YtpfinkdpaomliaaGreatRule
import Derived.Test.YtpfinkdpaomliaaGreatLits
namespace Go.Proofs.YtpfinkdpaomliaaGreat
open Go.RowKit

/-- A plan. -/
structure PlanP where
  caps : List Int
  seats : List Seat
  first : List Int
  second : List Int
def noPlan : PlanP := ⟨[], [], [], []⟩
def startM (l : List Stop) (caps : List Int) : Nat := if l.length = 0 then caps.length else min caps.length l.length
def planOf (caps : List Int) (s : List Seat) : PlanP := ⟨caps, s, loadsP caps.length (firsts s), loadsP caps.length (seconds s)⟩
def pickP (caps : List Int) : Option (List Seat) → Int × PlanP
  | some s => (0, planOf caps s)
  | none => (4, noPlan)
def makeP (l : List Stop) (caps : List Int) : Int × PlanP :=
  if machineP caps = false then (280, noPlan)
  else if 1000 < l.length then (5, noPlan)
  else if (wrongP l).isSome = true then (281, noPlan)
  else pickP caps (bestP l caps (startM l caps))

theorem machine_caps {caps : List Int} (h : machineP caps = true) : (1 ≤ caps.length ∧ caps.length ≤ 64) ∧ ∀ i, i < caps.length → 1 ≤ capAt caps i ∧ capAt caps i ≤ 100000 := by
  unfold machineP at h
  simp only [Bool.and_eq_true, decide_eq_true_eq] at h
  refine ⟨h.1, fun i hi => ?_⟩
  have h2 := List.all_eq_true.1 h.2 (caps.getD i 0) (by rw [List.getD_eq_getElem?_getD, List.getElem?_eq_getElem hi]; exact List.getElem_mem hi)
  unfold okCap at h2
  simp only [Bool.and_eq_true, decide_eq_true_eq] at h2
  exact h2
theorem wrong_vols {l : List Stop} (h : wrongP l = none) : goodVols l := by
  intro i hi
  unfold wrongP at h
  rw [List.find?_eq_none] at h
  have h2 := h i (List.mem_range.2 hi)
  unfold wrongAt badStop at h2
  simp only [Bool.or_eq_true, decide_eq_true_eq, not_or] at h2
  unfold volAt
  omega
theorem final_in {l : List Stop} {caps : List Int} {most : Nat} (hv : goodVols l) (hm : most ≤ caps.length) : InSeats caps.length (finalSq l caps most).out := by
  have h := (final_reach (l := l) (caps := caps) (most := most)).inv hv
  intro x hx
  obtain ⟨a, b, ha, hb, h1, h2, h3, h4⟩ := h.seat x hx
  exact ⟨a, b, by omega, hb, h1, h2, h3, h4⟩
theorem final_len {l : List Stop} {caps : List Int} {most : Nat} (hv : goodVols l) : (finalSq l caps most).out.length = (finalSq l caps most).next ∧ (finalSq l caps most).next ≤ l.length := by
  have h := (final_reach (l := l) (caps := caps) (most := most)).inv hv
  exact ⟨h.len, h.next⟩
theorem stopsOf_zero (l : List Stop) : stopsOf (zeroSeats l) = l := by
  unfold stopsOf zeroSeats
  rw [List.map_map]
  conv => rhs; rw [← List.map_id l]
  rfl

/-- The limit from which the search goes on. -/
def cutM (l : List Stop) (most : Nat) : Nat := if l.length = 0 then most else min most l.length
theorem cut_skip {l : List Stop} {k : Nat} (h : l.length < k + 1) (h0 : 0 < l.length) : cutM l (k + 1) = cutM l k := by unfold cutM; rw [if_neg (by omega), if_neg (by omega)]; omega
theorem cut_here {l : List Stop} {k : Nat} (h : ¬ (l.length < k + 1 ∧ 0 < l.length)) : cutM l (k + 1) = k + 1 ∧ cutM l k = k := by unfold cutM; split <;> omega
theorem cut_start (l : List Stop) (caps : List Int) : cutM l caps.length = startM l caps := rfl
theorem best_yes {l : List Stop} {caps : List Int} {k : Nat} (h : goodB l caps (k + 1) = true) : bestP l caps (k + 1) = some (finalSq l caps (k + 1)).out := by unfold bestP; rw [if_pos h]
theorem best_no {l : List Stop} {caps : List Int} {k : Nat} (h : goodB l caps (k + 1) = false) : bestP l caps (k + 1) = bestP l caps k := by
  show (if _ then _ else _) = _
  rw [if_neg (by rw [h]; decide)]
/-- The first pass's loads are within the capacities, as far as they have been looked at. -/
def fitsTo (l : List Stop) (caps : List Int) (most j : Nat) : Bool := (List.range j).all fun i => decide (sumAt (firsts (finalSq l caps most).out) (i : Int) ≤ capAt caps i)
theorem fits_next (l : List Stop) (caps : List Int) (most j : Nat) : fitsTo l caps most (j + 1) = (fitsTo l caps most j && decide (sumAt (firsts (finalSq l caps most).out) (j : Int) ≤ capAt caps j)) := by
  unfold fitsTo
  rw [List.range_succ, List.all_append]
  simp
theorem good_fits {l : List Stop} {caps : List Int} {most : Nat} (h : (finalSq l caps most).next = l.length) : goodB l caps most = fitsTo l caps most caps.length := by
  unfold goodB fitsTo
  rw [decide_eq_true h, Bool.true_and]
theorem good_full {l : List Stop} {caps : List Int} {most : Nat} (h : ¬ (finalSq l caps most).next = l.length) : goodB l caps most = false := by
  unfold goodB
  rw [decide_eq_false h, Bool.false_and]

/-- A struct of a plan, whose slices read so. -/
def RdPlan (w : World) (v : Value) (p : PlanP) : Prop := ∃ a0 n0 c0 a1 n1 c1 a2 n2 c2 a3 n3 c3, v = .agg #[.slice a0 n0 c0, .slice a1 n1 c1, .slice a2 n2 c2, .slice a3 n3 c3] ∧
  Ints w a0 n0 p.caps ∧ Seats w a1 n1 p.seats ∧ Ints w a2 n2 p.first ∧ Ints w a3 n3 p.second
theorem RdPlan.none (w : World) : RdPlan w (.agg #[.slice none 0 0, .slice none 0 0, .slice none 0 0, .slice none 0 0]) noPlan :=
  ⟨_, _, _, _, _, _, _, _, _, _, _, _, rfl, ⟨Rd.nil _ _ _ _, rfl⟩, ⟨Rd.nil _ _ _ _, rfl⟩, ⟨Rd.nil _ _ _ _, rfl⟩, ⟨Rd.nil _ _ _ _, rfl⟩⟩
theorem RdPlan.below {w w' : World} {v : Value} {p : PlanP} (h : RdPlan w v p) (hb : Below w.heap.size w w') : RdPlan w' v p := by
  obtain ⟨a0, n0, c0, a1, n1, c1, a2, n2, c2, a3, n3, c3, e, h0, h1, h2, h3⟩ := h
  exact ⟨a0, n0, c0, a1, n1, c1, a2, n2, c2, a3, n3, c3, e, h0.below hb, h1.below hb, h2.below hb, h3.below hb⟩
theorem dist3_of {a b x : Option Addr} {c d y : Nat} (h1 : ∀ g, rowOf a c = some g → rowOf b d ≠ some g) (h2 : ∀ g, rowOf a c = some g → rowOf x y ≠ some g) (h3 : ∀ g, rowOf b d = some g → rowOf x y ≠ some g) :
    Dist 3 (pick3 a b x) (pick3 c d y) := by
  intro j k hj hk hne g hg hg'
  rcases lt3 hj with rfl | rfl | rfl <;> rcases lt3 hk with rfl | rfl | rfl <;> first | exact hne rfl | exact h1 g hg hg' | exact h2 g hg hg' | exact h3 g hg hg' | exact h1 g hg' hg | exact h2 g hg' hg | exact h3 g hg' hg
/-- A struct of a plan, whose slices are the call's own, and lie apart. -/
def OwnPlan (B : Nat) (w : World) (v : Value) (p : PlanP) : Prop := ∃ a0 n0 c0 a1 n1 c1 a2 n2 c2 a3 n3 c3, v = .agg #[.slice a0 n0 c0, .slice a1 n1 c1, .slice a2 n2 c2, .slice a3 n3 c3] ∧
  OwnI B w a0 n0 c0 p.caps ∧ OwnSeats 64 B w a1 n1 c1 p.seats ∧ OwnI B w a2 n2 c2 p.first ∧ OwnI B w a3 n3 c3 p.second ∧ Dist 3 (pick3 a0 a2 a3) (pick3 c0 c2 c3)
theorem OwnI.nil (B : Nat) (w : World) (ao : Option Addr) : OwnI B w ao 0 0 [] := ⟨Sl.nil _ _ _ _ _, rfl, fun g hg => by simp [rowOf] at hg⟩
theorem OwnPlan.none (B : Nat) (w : World) : OwnPlan B w (.agg #[.slice none 0 0, .slice none 0 0, .slice none 0 0, .slice none 0 0]) noPlan :=
  ⟨_, _, _, _, _, _, _, _, _, _, _, _, rfl, OwnI.nil _ _ _, OwnL.nil _ _ _ _, OwnI.nil _ _ _, OwnI.nil _ _ _, fun j k hj hk hne g hg => by
    rcases lt3 hj with rfl | rfl | rfl <;> simp [pick3, rowOf] at hg⟩
theorem OwnPlan.rd {B : Nat} {w : World} {v : Value} {p : PlanP} (h : OwnPlan B w v p) : RdPlan w v p := by
  obtain ⟨a0, n0, c0, a1, n1, c1, a2, n2, c2, a3, n3, c3, e, h0, h1, h2, h3, _⟩ := h
  exact ⟨a0, n0, c0, a1, n1, c1, a2, n2, c2, a3, n3, c3, e, h0.ints, h1.rd, h2.ints, h3.ints⟩
theorem OwnPlan.below {B : Nat} {w w' : World} {v : Value} {p : PlanP} (h : OwnPlan B w v p) (hb : Below w.heap.size w w') : OwnPlan B w' v p := by
  obtain ⟨a0, n0, c0, a1, n1, c1, a2, n2, c2, a3, n3, c3, e, h0, h1, h2, h3, h4⟩ := h
  exact ⟨a0, n0, c0, a1, n1, c1, a2, n2, c2, a3, n3, c3, e, h0.below hb, h1.below hb, h2.below hb, h3.below hb, h4⟩
theorem make_empty {caps : List Int} (hm : machineP caps = true) : makeP [] caps = (0, planOf caps []) := by
  have hc := machine_caps hm
  have hf : ∀ most, (⟨0, 0, 0, 0, []⟩ : Sq) = finalSq [] caps most := fun most => Reach.start.final (fun hx => absurd hx.1 (Nat.lt_irrefl _))
  have hg : ∀ most, goodB [] caps most = true := by
    intro most
    unfold goodB
    rw [← hf most]
    simp only [List.length_nil, decide_true, Bool.true_and, List.all_eq_true, decide_eq_true_eq]
    intro i hi
    have := hc.2 i (List.mem_range.1 hi)
    show (0 : Int) ≤ _
    omega
  obtain ⟨k, hk⟩ : ∃ k, caps.length = k + 1 := ⟨caps.length - 1, by omega⟩
  unfold makeP
  rw [if_neg (by rw [hm]; decide), if_neg (by simp), if_neg (by simp [wrongP])]
  show pickP caps (bestP [] caps caps.length) = _
  rw [hk, best_yes (hg _), ← hf]
  rfl
/-- Error and plan of the call's own, as they are handed back. -/
def MakeO (B : Nat) (w : World) (e : Ending) (r : Int × PlanP) : Prop := ∃ v, e = .returned (.tuple #[v, .int .i64 r.1]) ∧ OwnPlan B w v r.2
/-- Error and plan, as they are handed back. -/
def MakeR (w : World) (e : Ending) (r : Int × PlanP) : Prop := ∃ v, e = .returned (.tuple #[v, .int .i64 r.1]) ∧ RdPlan w v r.2
end Go.Proofs.YtpfinkdpaomliaaGreat
