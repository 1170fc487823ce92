/-
  'Sort': what it answers; the map of its seats.
-/
import Derived.Test.YtpfinkdpaomliaaGreatPass
import Derived.Test.YtpfinkdpaomliaaGreatCheck
namespace Go.Proofs.YtpfinkdpaomliaaGreat
open Go.RowKit Go.Maps

def sortErr (p : PlanP) (items : List Int) : Int := if (checkP p).2 ≠ 0 then (checkP p).2 else if 2000 < items.length then 5 else feedP p.seats items
def pass1 (p : PlanP) (items : List Int) : List (List Nat) := passP p.caps.length (selF p.seats items) (List.range items.length)
def pass2 (p : PlanP) (items : List Int) : List (List Nat) := passP p.caps.length (selS p.seats items) (pass1 p items).flatten
/-- A run: two stackers' slices and the order. -/
def SortR (B : Nat) (w : World) (e : Ending) (n : Nat) (p : PlanP) (items : List Int) : Prop :=
  (sortErr p items ≠ 0 ∧ e = .returned (.tuple #[.agg #[.slice none 0 0, .slice none 0 0, .slice none 0 0], .int .i64 (sortErr p items)])) ∨
  (sortErr p items = 0 ∧ ∃ b1 ss1 b2 ss2 bo N cap, e = .returned (.tuple #[.agg #[.slice (some ⟨b1, 0, none⟩) n n, .slice (some ⟨b2, 0, none⟩) n n, .slice bo N cap], .int .i64 0]) ∧
    Stk B w b1 n ss1 (famN (pass1 p items)) ∧ Stk B w b2 n ss2 (famN (pass2 p items)) ∧ OwnI B w bo N cap (natI (pass2 p items).flatten))

/-- The same, and told apart: the first pass's slices lie ahead of M, the second's from M on and ahead of s, the order from s on. -/
def SortR2 (B : Nat) (w : World) (e : Ending) (n : Nat) (p : PlanP) (items : List Int) : Prop :=
  (sortErr p items ≠ 0 ∧ e = .returned (.tuple #[.agg #[.slice none 0 0, .slice none 0 0, .slice none 0 0], .int .i64 (sortErr p items)])) ∨
  (sortErr p items = 0 ∧ ∃ b1 ss1 b2 ss2 bo N cap M s, e = .returned (.tuple #[.agg #[.slice (some ⟨b1, 0, none⟩) n n, .slice (some ⟨b2, 0, none⟩) n n, .slice bo N cap], .int .i64 0]) ∧
    Stk B w b1 n ss1 (famN (pass1 p items)) ∧ Stk M w b2 n ss2 (famN (pass2 p items)) ∧ OwnI s w bo N cap (natI (pass2 p items).flatten) ∧ B ≤ M ∧ M ≤ s ∧
    (∀ k, k < n → ∀ g, rowOf (ss1.getD k slcD).ao (ss1.getD k slcD).cap = some g → g < M) ∧ (∀ k, k < n → ∀ g, rowOf (ss2.getD k slcD).ao (ss2.getD k slcD).cap = some g → g < s))
theorem SortR2.weak {B : Nat} {w : World} {e : Ending} {n : Nat} {p : PlanP} {items : List Int} (h : SortR2 B w e n p items) : SortR B w e n p items := by
  rcases h with h | ⟨h0, b1, ss1, b2, ss2, bo, N, cap, M, s, he, h1, h2, h3, hBM, hMs, _, _⟩
  · exact .inl h
  · exact .inr ⟨h0, b1, ss1, b2, ss2, bo, N, cap, he, h1, h2.mono hBM, h3.mono (Nat.le_trans hBM hMs)⟩

theorem sum_one (n : Nat) (f : Nat → Nat) (a : Nat) : ((List.range n).map fun (k : Nat) => f k + if a = k then 1 else 0).sum = ((List.range n).map f).sum + if a < n then 1 else 0 := by
  induction n with
  | zero => simp
  | succ n ih =>
    rw [List.range_succ, List.map_append, List.sum_append, List.map_append, List.sum_append, ih]
    simp only [List.map_cons, List.map_nil, List.sum_cons, List.sum_nil, Nat.add_zero]
    by_cases h1 : a < n
    · rw [if_pos h1, if_neg (by omega), if_pos (by omega)]; omega
    · by_cases h2 : a = n
      · rw [if_neg h1, if_pos h2, if_pos (by omega)]; omega
      · rw [if_neg h1, if_neg h2, if_neg (by omega)]; omega
theorem pass_flat_eq (n : Nat) (sel : Nat → Nat) : ∀ fed : List Nat, (∀ f ∈ fed, sel f < n) → (passP n sel fed).flatten.length = fed.length := by
  have zero : ∀ n : Nat, ((List.range n).map fun (_ : Nat) => 0).sum = 0 := by
    intro n; induction n with
    | zero => rfl
    | succ n ih => rw [List.range_succ, List.map_append, List.sum_append, ih]; rfl
  intro fed
  induction fed with
  | nil =>
    intro _
    unfold passP
    rw [List.length_flatten, List.map_map]
    exact zero n
  | cons f fed ih =>
    intro h
    have ih := ih fun g hg => h g (List.mem_cons_of_mem _ hg)
    have hf := h f (List.mem_cons_self ..)
    unfold passP at ih ⊢
    rw [List.length_flatten, List.map_map] at ih ⊢
    have := sum_one n (fun k => (fed.filter fun i => decide (sel i = k)).length) (sel f)
    rw [if_pos hf] at this
    rw [List.length_cons, ← ih]
    refine Eq.trans ?_ this
    congr 1
    apply List.map_congr_left
    intro k _
    show ((f :: fed).filter fun i => decide (sel i = k)).length = _
    by_cases e : sel f = k
    · rw [List.filter_cons, if_pos (by simpa using e), if_pos e]; rfl
    · rw [List.filter_cons, if_neg (by simpa using e), if_neg e]; rfl

theorem seatG_nil : ∀ x, seatG [] x = none := fun x => by unfold seatG hasB; rfl
theorem seatG_put {l : List Seat} (hd : l.Pairwise fun a b => Seat.stop a ≠ Seat.stop b) {i : Nat} (hi : i < l.length) : ∀ y, putI (seatG (l.take i)) (Seat.stop (l.getD i seatD)) (seatV (l.getD i seatD)) y = seatG (l.take (i + 1)) y := by
  intro y
  have hno : ∀ s ∈ l.take i, Seat.stop s ≠ Seat.stop (l.getD i seatD) := by
    intro s hs
    obtain ⟨j, hj, rfl⟩ := getD_mem (d := seatD) hs
    have hj' : j < i := by rw [List.length_take] at hj; omega
    have hg : (l.take i).getD j seatD = l.getD j seatD := by
      simp only [List.getD_eq_getElem?_getD, List.getElem?_take, if_pos hj']
    rw [hg]
    have := (List.pairwise_iff_getElem.1 hd) j i (by omega) hi hj'
    simpa only [List.getD_eq_getElem?_getD, List.getElem?_eq_getElem hi, List.getElem?_eq_getElem (show j < l.length by omega), Option.getD_some] using this
  rw [take_snoc' l seatD i hi]
  generalize l.getD i seatD = s at *
  unfold putI
  by_cases e : y = Seat.stop s
  · subst e
    rw [if_pos rfl]
    have h1 : hasB (l.take i ++ [s]) (Seat.stop s) = true := by unfold hasB; simp
    have h2 : (l.take i).find? (fun t => Seat.stop t == Seat.stop s) = none := by
      rw [List.find?_eq_none]
      intro t ht
      simpa using hno t ht
    have h3 : seatFor (l.take i ++ [s]) (Seat.stop s) = s := by
      unfold seatFor
      rw [List.find?_append, h2]
      simp
    unfold seatG
    rw [if_pos h1, h3]
  · rw [if_neg e]
    have e2 : (Seat.stop s == y) = false := by rw [beq_eq_false_iff_ne]; exact fun h => e h.symm
    have h1 : hasB (l.take i ++ [s]) y = hasB (l.take i) y := by unfold hasB; simp [List.any_append, e2]
    have h3 : seatFor (l.take i ++ [s]) y = seatFor (l.take i) y := by
      unfold seatFor
      rw [List.find?_append]
      have : [s].find? (fun t => Seat.stop t == y) = none := by simp [List.find?_cons, e2]
      rw [this, Option.or_none]
    unfold seatG
    rw [h1, h3]

theorem feed_zero {l : List Seat} {items : List Int} (h : feedP l items = 0) : ∀ i, i < items.length → feedAt l items i = 0 := by
  intro i hi
  unfold feedP at h
  cases hf : (List.range items.length).find? (fun i => decide (feedAt l items i ≠ 0)) with
  | none =>
    rw [List.find?_eq_none] at hf
    have := hf i (List.mem_range.2 hi)
    simpa using this
  | some k =>
    rw [hf] at h
    have h2 := List.find?_some hf
    simp at h2
    exact absurd h h2
theorem feed_has {l : List Seat} {items : List Int} (h : feedP l items = 0) : ∀ i, i < items.length → hasB l (items.getD i 0) = true := by
  intro i hi
  have := feed_zero h i hi
  unfold feedAt at this
  cases hh : hasB l (items.getD i 0) with
  | true => rfl
  | false => rw [if_pos hh] at this; exact absurd this (by decide)
/-- What a check that finds nothing says. -/
theorem check_ok {p : PlanP} (h : (checkP p).2 = 0) : machineP p.caps = true ∧ p.seats.length ≤ 1000 ∧ GoodSeats p.caps.length p.seats := by
  unfold checkP at h
  by_cases h1 : machineP p.caps = false
  · rw [if_pos h1] at h; exact absurd h (by decide)
  · rw [if_neg h1] at h
    by_cases h2 : 1000 < p.seats.length
    · rw [if_pos h2] at h; exact absurd h (by decide)
    · rw [if_neg h2] at h
      cases hw : wrongP (stopsOf p.seats) with
      | some k => rw [chk2_wrong hw] at h; exact absurd (show (281 : Int) = 0 from h) (by decide)
      | none =>
        cases hm : misP p.caps.length p.seats with
        | some k => rw [chk2_mis hw hm] at h; exact absurd (show (282 : Int) = 0 from h) (by decide)
        | none => exact ⟨by simpa using h1, by omega, good_of hw hm⟩
theorem sel_ok {n : Nat} {l : List Seat} {items : List Int} (hg : GoodSeats n l) (hh : ∀ i, i < items.length → hasB l (items.getD i 0) = true) {f : Nat} (hf : f < items.length) :
    (∃ s : Nat, s < n ∧ Seat.first (seatFor l (items.getD f 0)) = (s : Int)) ∧ (∃ s : Nat, s < n ∧ Seat.second (seatFor l (items.getD f 0)) = (s : Int)) ∧ selF l items f < n ∧ selS l items f < n := by
  obtain ⟨hm, _⟩ := mem_seatFor (hh f hf)
  obtain ⟨a, b, ha, hb, e1, e2⟩ := hg.within _ hm
  exact ⟨⟨a, ha, e1⟩, ⟨b, hb, e2⟩, by unfold selF firstN; rw [e1]; simpa using ha, by unfold selS secondN; rw [e2]; simpa using hb⟩
theorem natI_take_range (i : Nat) : natI (List.range (i + 1)) = natI (List.range i) ++ [(i : Int)] := by
  unfold natI
  rw [List.range_succ, List.map_append]
  rfl
end Go.Proofs.YtpfinkdpaomliaaGreat
