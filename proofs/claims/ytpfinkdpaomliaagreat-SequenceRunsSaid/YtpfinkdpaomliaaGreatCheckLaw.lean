/-
  What 'Check' answers.
-/
import Derived.Test.YtpfinkdpaomliaaGreatMis
import Derived.Test.YtpfinkdpaomliaaGreatSortLaw
namespace Go.Proofs.YtpfinkdpaomliaaGreat
open Go.RowKit

def difAt (f g l1 l2 : List Int) (i : Nat) : Bool := decide (f.getD i 0 ≠ l1.getD i 0) || decide (g.getD i 0 ≠ l2.getD i 0)
def difP (n : Nat) (f g l1 l2 : List Int) : Option Nat := (List.range n).find? (difAt f g l1 l2)
/-- The last part: what the loads say. -/
def endP (p : PlanP) (l1 l2 : List Int) : Int × Int := match difP p.caps.length p.first p.second l1 l2 with
  | some k => ((k : Int), 283)
  | none => match overP p.caps l1 l2 with
    | some k => ((k : Int), 4)
    | none => (0, 0)
def midP (p : PlanP) : Int × Int :=
  if p.first.length = p.caps.length ∧ p.second.length = p.caps.length then endP p (loadsP p.caps.length (firsts p.seats)) (loadsP p.caps.length (seconds p.seats)) else (0, 283)
def chk2 (p : PlanP) (n : Nat) : Int × Int := match wrongP (stopsOf p.seats) with
  | some i => ((i : Int), 281)
  | none => match misP n p.seats with
    | some i => ((i : Int), 282)
    | none => midP p
theorem chk2_wrong {p : PlanP} {n i : Nat} (h : wrongP (stopsOf p.seats) = some i) : chk2 p n = ((i : Int), 281) := by unfold chk2; rw [h]
theorem chk2_mis {p : PlanP} {n i : Nat} (h : wrongP (stopsOf p.seats) = none) (h2 : misP n p.seats = some i) : chk2 p n = ((i : Int), 282) := by unfold chk2; rw [h, h2]
theorem chk2_mid {p : PlanP} {n : Nat} (h : wrongP (stopsOf p.seats) = none) (h2 : misP n p.seats = none) : chk2 p n = midP p := by unfold chk2; rw [h, h2]
def checkP (p : PlanP) : Int × Int :=
  if machineP p.caps = false then (0, 280)
  else if 1000 < p.seats.length then (0, 5)
  else chk2 p p.caps.length
theorem endP_dif {p : PlanP} {l1 l2 : List Int} {k : Nat} (h : difP p.caps.length p.first p.second l1 l2 = some k) : endP p l1 l2 = ((k : Int), 283) := by unfold endP; rw [h]
theorem endP_over {p : PlanP} {l1 l2 : List Int} {k : Nat} (h : difP p.caps.length p.first p.second l1 l2 = none) (h2 : overP p.caps l1 l2 = some k) : endP p l1 l2 = ((k : Int), 4) := by unfold endP; rw [h, h2]
theorem endP_ok {p : PlanP} {l1 l2 : List Int} (h : difP p.caps.length p.first p.second l1 l2 = none) (h2 : overP p.caps l1 l2 = none) : endP p l1 l2 = (0, 0) := by unfold endP; rw [h, h2]

theorem stopsOf_len (l : List Seat) : (stopsOf l).length = l.length := by unfold stopsOf; rw [List.length_map]
theorem stopsOf_take (l : List Seat) (i : Nat) (hi : i < l.length) : stopsOf (l.take (i + 1)) = stopsOf (l.take i) ++ [(Seat.stop (l.getD i seatD), Seat.vol (l.getD i seatD))] := by
  rw [take_snoc' l seatD i hi]
  unfold stopsOf
  rw [List.map_append]
  rfl
theorem getD_mem {α : Type} {l : List α} {d x : α} (hx : x ∈ l) : ∃ i, i < l.length ∧ l.getD i d = x := by
  obtain ⟨i, hi, rfl⟩ := List.getElem_of_mem hx
  exact ⟨i, hi, by rw [List.getD_eq_getElem?_getD, List.getElem?_eq_getElem hi]; rfl⟩
theorem mis_none {n : Nat} {l : List Seat} (h : misP n l = none) : ∀ i, i < l.length → outB n (l.getD i seatD) = false ∧ (0 < i → backB (l.getD i seatD) (l.getD (i - 1) seatD) = false) := by
  intro i hi
  unfold misP at h
  rw [List.find?_eq_none] at h
  have h2 := h i (List.mem_range.2 hi)
  unfold misAt at h2
  simp only [Bool.or_eq_true, not_or, Bool.not_eq_true, Bool.and_eq_true, decide_eq_true_eq, not_and] at h2
  exact h2
theorem in_of {n : Nat} {l : List Seat} (hw : wrongP (stopsOf l) = none) (h : misP n l = none) : InSeats n l := by
  intro x hx
  obtain ⟨i, hi, rfl⟩ := getD_mem (d := seatD) hx
  have h1 := (mis_none h i hi).1
  have h2 := wrong_vols hw i (by rw [stopsOf_len]; exact hi)
  unfold volAt at h2
  rw [stopsOf_at l i hi] at h2
  unfold outB at h1
  simp only [Bool.or_eq_false_iff, decide_eq_false_iff_not] at h1
  obtain ⟨⟨⟨h3, h4⟩, h5⟩, h6⟩ := h1
  exact ⟨(Seat.first (l.getD i seatD)).toNat, (Seat.second (l.getD i seatD)).toNat, by omega, by omega, by omega, by omega, by omega, by omega⟩

/-- Adjacent seats in order: all seats in order. -/
theorem pairwise_of_next {α : Type} (d : α) (r : α → α → Prop) (ht : ∀ a b c, r a b → r b c → r a c) : ∀ (l : List α), (∀ i, i + 1 < l.length → r (l.getD i d) (l.getD (i + 1) d)) → l.Pairwise r := by
  intro l
  induction l with
  | nil => intro _; exact List.Pairwise.nil
  | cons x l ih =>
    intro h
    have ih := ih (fun i hi => by have := h (i + 1) (by simp; omega); simpa using this)
    refine List.pairwise_cons.2 ⟨fun y hy => ?_, ih⟩
    cases l with
    | nil => cases hy
    | cons z l =>
      have hxz : r x z := by have := h 0 (by simp); simpa using this
      rcases List.mem_cons.1 hy with rfl | hy
      · exact hxz
      · exact ht x z y hxz ((List.pairwise_cons.1 ih).1 y hy)
theorem good_of {n : Nat} {l : List Seat} (hw : wrongP (stopsOf l) = none) (h : misP n l = none) : GoodSeats n l := by
  refine ⟨?_, fun s hs => ?_, ?_⟩
  · rw [List.pairwise_iff_getElem]
    intro i j hi hj hij he
    unfold wrongP at hw
    rw [List.find?_eq_none] at hw
    have h2 := hw j (List.mem_range.2 (by rw [stopsOf_len]; exact hj))
    unfold wrongAt at h2
    simp only [Bool.or_eq_true, not_or, Bool.not_eq_true] at h2
    have : metAt (stopsOf l) j = true := metAt_yes hij (by
      rw [stopsOf_at l i hi, stopsOf_at l j hj]
      simp only [List.getD_eq_getElem?_getD, List.getElem?_eq_getElem hi, List.getElem?_eq_getElem hj, Option.getD_some]
      exact he)
    rw [this] at h2
    exact absurd h2.2 (by decide)
  · obtain ⟨a, b, ha, hb, h1, h2, _⟩ := in_of hw h s hs
    exact ⟨a, b, ha, hb, h1, h2⟩
  · refine pairwise_of_next seatD _ (fun a b c h1 h2 => ?_) l (fun i hi => ?_)
    · omega
    · have h1 := (mis_none h (i + 1) hi).2 (by omega)
      unfold backB at h1
      simp only [Nat.add_sub_cancel, Bool.or_eq_false_iff, decide_eq_false_iff_not, Bool.and_eq_false_iff] at h1
      omega
end Go.Proofs.YtpfinkdpaomliaaGreat
