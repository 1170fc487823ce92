/-
  What the reference's 'Sort' fills is what the package's does. Plain: no program in sight.
-/
import Derived.Test.YtpfinkdpaomliaaGreatSortDo
import Derived.Test.YtpfinkdpaomliaaGreatFind
namespace Go.Proofs.YtpfinkdpaomliaaGreat

/-- The second pass, as the reference fills it: for each stacker its seats in their order, for each seat its items. -/
def refTwo (p : PlanP) (items : List Int) : List (List Nat) :=
  (List.range p.caps.length).map fun k => (p.seats.filter fun s => decide (secondN s = k)).flatMap fun s => (List.range items.length).filter fun i => decide (items.getD i 0 = Seat.stop s)
theorem pass2_eq {p : PlanP} {items : List Int} (h : GoodSeats p.caps.length p.seats) (hall : ∀ i, i < items.length → hasB p.seats (items.getD i 0) = true) : pass2 p items = refTwo p items := by
  show (List.range p.caps.length).map _ = (List.range p.caps.length).map _
  exact List.map_congr_left fun k _ => second_pass h hall k
theorem back_arith {n s s' f f' : Int} (hf : 0 ≤ f) (hf2 : f < n) (hf' : 0 ≤ f') (hf2' : f' < n) : (s - s') * n + f - f' ≤ 0 ↔ s < s' ∨ (s = s' ∧ f ≤ f') := by
  rcases Int.lt_trichotomy s s' with h | h | h
  · have h2 : (s - s') * n ≤ (-1) * n := Int.mul_le_mul_of_nonneg_right (by omega) (by omega)
    constructor
    · intro _; exact .inl h
    · intro _; omega
  · subst h
    rw [Int.sub_self, Int.zero_mul]
    omega
  · have h2 : 1 * n ≤ (s - s') * n := Int.mul_le_mul_of_nonneg_right (by omega) (by omega)
    constructor
    · intro h3; omega
    · rintro (h3 | ⟨h3, _⟩) <;> omega
/-- No overflow in the reference's arithmetic. -/
theorem back_fits {n s s' f f' : Int} (hn : n ≤ 64) (hs : 0 ≤ s) (hs2 : s < n) (hs' : 0 ≤ s') (hs2' : s' < n) (hf : 0 ≤ f) (hf2 : f < n) (hf' : 0 ≤ f') (hf2' : f' < n) : -4096 ≤ (s - s') * n ∧ (s - s') * n ≤ 4096 := by
  have h1 : (s - s') * n ≤ 64 * 64 := Int.le_trans (Int.mul_le_mul_of_nonneg_right (show s - s' ≤ 64 by omega) (by omega)) (Int.mul_le_mul_of_nonneg_left hn (by omega))
  have h2 : (-64) * 64 ≤ (s - s') * n := by
    have h3 : (-64) * n ≤ (s - s') * n := Int.mul_le_mul_of_nonneg_right (show -64 ≤ s - s' by omega) (by omega)
    omega
  omega
section
variable {α : Type}
theorem findRange_some (p : α → Bool) (d : α) (l : List α) {k : Nat} (h : (List.range l.length).find? (fun i => p (l.getD i d)) = some k) : k < l.length ∧ p (l.getD k d) = true ∧ l.find? p = some (l.getD k d) := by
  have hk := List.mem_range.1 (List.mem_of_find?_eq_some h)
  have hp := List.find?_some h
  refine ⟨hk, hp, ?_⟩
  rw [List.find?_eq_some_iff_getElem]
  refine ⟨hp, k, hk, by simp [List.getD_eq_getElem?_getD, hk], fun j hj => ?_⟩
  rw [List.find?_eq_some_iff_getElem] at h
  obtain ⟨_, i, hi, he, hno⟩ := h
  simp at he
  subst he
  have := hno j hj
  simpa [List.getD_eq_getElem?_getD, show j < l.length by omega] using this
theorem findRange_none (p : α → Bool) (d : α) (l : List α) (h : (List.range l.length).find? (fun i => p (l.getD i d)) = none) : l.any p = false := by
  rw [List.find?_eq_none] at h
  rw [List.any_eq_false]
  intro x hx
  obtain ⟨i, hi, rfl⟩ := List.getElem_of_mem hx
  have := h i (List.mem_range.2 hi)
  simpa [List.getD_eq_getElem?_getD, hi] using this
end

theorem findO_some {l : List Seat} {x : Int} {k : Nat} (h : findO l x = some k) : k < l.length ∧ hasB l x = true ∧ seatFor l x = l.getD k seatD := by
  obtain ⟨h1, h2, h3⟩ := findRange_some (fun s : Seat => Seat.stop s == x) seatD l h
  refine ⟨h1, ?_, ?_⟩
  · unfold hasB
    rw [List.any_eq_true]
    exact ⟨l.getD k seatD, by rw [List.getD_eq_getElem?_getD, List.getElem?_eq_getElem h1]; exact List.getElem_mem h1, h2⟩
  · unfold seatFor
    rw [h3]
    rfl
theorem findO_none {l : List Seat} {x : Int} (h : findO l x = none) : hasB l x = false := findRange_none (fun s : Seat => Seat.stop s == x) seatD l h
/-- What the reference finds at item i. -/
theorem refFeed_none {l : List Seat} {items : List Int} {i : Nat} (h : findO l (items.getD i 0) = none) : feedAt l items i = 6 := by
  unfold feedAt
  rw [if_pos (findO_none h)]
theorem refFeed_some {l : List Seat} {items : List Int} {i k : Nat} (hi : i < items.length) (h : findO l (items.getD i 0) = some k) :
    feedAt l items i = if Seat.vol (l.getD k seatD) < (cntTo items (i + 1) (items.getD i 0) : Int) then 4 else 0 := by
  obtain ⟨_, h2, h3⟩ := findO_some h
  unfold feedAt
  rw [if_neg (by rw [h2]; decide), h3, cnt_next items i hi, if_pos rfl]
  by_cases hv : Seat.vol (l.getD k seatD) ≤ (cntTo items i (items.getD i 0) : Int)
  · rw [if_pos hv, if_pos (by omega)]
  · rw [if_neg hv, if_neg (by omega)]
end Go.Proofs.YtpfinkdpaomliaaGreat
