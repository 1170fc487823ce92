/-
  The rule for a limit along a route, as a machine that places one stop or goes on to the next stacker; loads. Plain: no program in sight.
-/
import Derived.Lib.Hide
namespace Go.Proofs.YtpfinkdpaomliaaGreat

/-- A stop: its ID, its volume. -/
abbrev Stop := Int × Int
/-- A seat: its stop's ID, its volume, its stackers in both passes. -/
abbrev Seat := Int × Int × Int × Int
def Seat.stop (s : Seat) : Int := s.1
def Seat.vol (s : Seat) : Int := s.2.1
def Seat.first (s : Seat) : Int := s.2.2.1
def Seat.second (s : Seat) : Int := s.2.2.2
def stopD : Stop := (0, 0)
def seatD : Seat := (0, 0, 0, 0)

/-- Where the rule stands: the next stop, the stacker of the second pass, how many stops it has, its load; the seats so far. -/
structure Sq where
  next : Nat
  at_ : Nat
  held : Nat
  load : Int
  out : List Seat

def seatOf (s : Stop) (held at_ : Nat) : Seat := (s.1, s.2, (held : Int), (at_ : Int))
def volAt (l : List Stop) (i : Nat) : Int := (l.getD i stopD).2
def capAt (caps : List Int) (i : Nat) : Int := caps.getD i 0
def stepSq (l : List Stop) (caps : List Int) (most : Nat) (s : Sq) : Sq :=
  if s.next < l.length ∧ s.at_ < caps.length then
    if s.held < most ∧ s.load + volAt l s.next ≤ capAt caps s.at_ then ⟨s.next + 1, s.at_, s.held + 1, s.load + volAt l s.next, s.out ++ [seatOf (l.getD s.next stopD) s.held s.at_]⟩
    else ⟨s.next, s.at_ + 1, 0, 0, s.out⟩
  else s
def sqN (l : List Stop) (caps : List Int) (most : Nat) : Nat → Sq
  | 0 => ⟨0, 0, 0, 0, []⟩
  | n + 1 => stepSq l caps most (sqN l caps most n)
def Reach (l : List Stop) (caps : List Int) (most : Nat) (s : Sq) : Prop := ∃ n, s = sqN l caps most n
def Done (l : List Stop) (caps : List Int) (s : Sq) : Prop := ¬ (s.next < l.length ∧ s.at_ < caps.length)
def finalSq (l : List Stop) (caps : List Int) (most : Nat) : Sq := sqN l caps most (l.length + caps.length)

section
variable {l : List Stop} {caps : List Int} {most : Nat} {s t : Sq}
theorem Reach.start : Reach l caps most ⟨0, 0, 0, 0, []⟩ := ⟨0, rfl⟩
theorem Reach.place (h : Reach l caps most s) (h1 : s.next < l.length) (h2 : s.at_ < caps.length) (h3 : s.held < most) (h4 : s.load + volAt l s.next ≤ capAt caps s.at_) :
    Reach l caps most ⟨s.next + 1, s.at_, s.held + 1, s.load + volAt l s.next, s.out ++ [seatOf (l.getD s.next stopD) s.held s.at_]⟩ := by
  obtain ⟨n, rfl⟩ := h
  refine ⟨n + 1, ?_⟩
  show _ = stepSq _ _ _ _
  unfold stepSq
  rw [if_pos ⟨h1, h2⟩, if_pos ⟨h3, h4⟩]
theorem Reach.advance (h : Reach l caps most s) (h1 : s.next < l.length) (h2 : s.at_ < caps.length) (h3 : ¬ (s.held < most ∧ s.load + volAt l s.next ≤ capAt caps s.at_)) :
    Reach l caps most ⟨s.next, s.at_ + 1, 0, 0, s.out⟩ := by
  obtain ⟨n, rfl⟩ := h
  refine ⟨n + 1, ?_⟩
  show _ = stepSq _ _ _ _
  unfold stepSq
  rw [if_pos ⟨h1, h2⟩, if_neg h3]
theorem step_done (h : Done l caps s) : stepSq l caps most s = s := by
  unfold stepSq
  rw [if_neg h]
theorem sqN_done {n : Nat} (h : Done l caps (sqN l caps most n)) : ∀ m, sqN l caps most (n + m) = sqN l caps most n
  | 0 => rfl
  | m + 1 => by
    show stepSq _ _ _ (sqN l caps most (n + m)) = _
    rw [sqN_done h m, step_done h]
theorem done_unique (hs : Reach l caps most s) (ht : Reach l caps most t) (ds : Done l caps s) (dt : Done l caps t) : s = t := by
  obtain ⟨n, rfl⟩ := hs
  obtain ⟨m, rfl⟩ := ht
  rcases Nat.le_total n m with h | h
  · obtain ⟨d, rfl⟩ := Nat.exists_eq_add_of_le h
    rw [sqN_done ds]
  · obtain ⟨d, rfl⟩ := Nat.exists_eq_add_of_le h
    rw [sqN_done dt]
theorem sqN_inv : ∀ n, Done l caps (sqN l caps most n) ∨ ((sqN l caps most n).next + (sqN l caps most n).at_ = n)
  | 0 => .inr rfl
  | n + 1 => by
    by_cases hd : Done l caps (sqN l caps most n)
    · refine .inl ?_
      rw [sqN_done hd 1]
      exact hd
    · refine .inr ?_
      have h := (sqN_inv n).resolve_left hd
      unfold Done at hd
      have hd := Classical.not_not.1 hd
      show (stepSq _ _ _ _).next + (stepSq _ _ _ _).at_ = _
      unfold stepSq
      rw [if_pos hd]
      split
      · show (sqN l caps most n).next + 1 + (sqN l caps most n).at_ = n + 1; omega
      · show (sqN l caps most n).next + ((sqN l caps most n).at_ + 1) = n + 1; omega
theorem final_reach : Reach l caps most (finalSq l caps most) := ⟨_, rfl⟩
theorem final_done : Done l caps (finalSq l caps most) := by
  rcases sqN_inv (l := l) (caps := caps) (most := most) (l.length + caps.length) with h | h
  · exact h
  · intro ⟨h1, h2⟩
    unfold finalSq at h1 h2
    omega
theorem Reach.final (h : Reach l caps most s) (d : Done l caps s) : s = finalSq l caps most := done_unique h final_reach d final_done

/-- What holds wherever the rule stands. -/
structure SqInv (l : List Stop) (caps : List Int) (most : Nat) (s : Sq) : Prop where
  next : s.next ≤ l.length
  at_ : s.at_ ≤ caps.length
  held : s.held ≤ most
  load0 : 0 ≤ s.load
  loadM : s.load ≤ s.held * 10000
  len : s.out.length = s.next
  seat : ∀ x ∈ s.out, ∃ a b : Nat, a < most ∧ b < caps.length ∧ Seat.first x = (a : Int) ∧ Seat.second x = (b : Int) ∧ 0 ≤ Seat.vol x ∧ Seat.vol x ≤ 10000
  heldN : s.held ≤ s.next
def goodVols (l : List Stop) : Prop := ∀ i, i < l.length → 1 ≤ volAt l i ∧ volAt l i ≤ 10000
theorem sq_inv (hv : goodVols l) : ∀ n, SqInv l caps most (sqN l caps most n)
  | 0 => ⟨Nat.zero_le _, Nat.zero_le _, Nat.zero_le _, Int.le_refl _, by show (0 : Int) ≤ _; simp [sqN], rfl, by intro x hx; simp [sqN] at hx, Nat.zero_le _⟩
  | n + 1 => by
    have ih := sq_inv hv n
    show SqInv l caps most (stepSq _ _ _ _)
    generalize sqN l caps most n = s at ih
    unfold stepSq
    split
    · rename_i h
      have hvn := hv _ h.1
      split
      · rename_i hf
        refine ⟨h.1, ih.at_, hf.1, ?_, ?_, by simp [ih.len], ?_, ?_⟩
        · show 0 ≤ s.load + volAt l s.next
          have := ih.load0
          omega
        · show s.load + volAt l s.next ≤ ((s.held + 1 : Nat) : Int) * 10000
          have := ih.loadM
          omega
        · intro x hx
          show ∃ a b : Nat, _
          rcases List.mem_append.1 hx with hx | hx
          · exact ih.seat x hx
          · simp only [List.mem_singleton] at hx
            subst hx
            exact ⟨s.held, s.at_, hf.1, h.2, rfl, rfl, by show 0 ≤ volAt l s.next; omega, by show volAt l s.next ≤ 10000; omega⟩
        · show s.held + 1 ≤ s.next + 1
          have := ih.heldN
          omega
      · exact ⟨ih.next, h.2, Nat.zero_le _, Int.le_refl _, by show (0 : Int) ≤ ((0 : Nat) : Int) * 10000; omega, ih.len, ih.seat, Nat.zero_le _⟩
    · exact ih
theorem Reach.inv (h : Reach l caps most s) (hv : goodVols l) : SqInv l caps most s := by
  obtain ⟨n, rfl⟩ := h
  exact sq_inv hv n
end

/-! ### loads -/
def sumAt (ps : List (Int × Int)) (i : Int) : Int := ((ps.filter fun p => p.1 == i).map (·.2)).sum
def loadsP (n : Nat) (ps : List (Int × Int)) : List Int := (List.range n).map fun i : Nat => sumAt ps (i : Int)
def firsts (l : List Seat) : List (Int × Int) := l.map fun s => (Seat.first s, Seat.vol s)
def seconds (l : List Seat) : List (Int × Int) := l.map fun s => (Seat.second s, Seat.vol s)

theorem loadsP_len (n : Nat) (ps : List (Int × Int)) : (loadsP n ps).length = n := by simp [loadsP]
theorem loadsP_at (n : Nat) (ps : List (Int × Int)) {i : Nat} (hi : i < n) : (loadsP n ps).getD i 0 = sumAt ps (i : Int) := by
  simp [loadsP, List.getD_eq_getElem?_getD, hi]
theorem loadsP_nil (n : Nat) : loadsP n [] = List.replicate n 0 := by
  apply List.ext_getElem
  · simp [loadsP]
  · intro i h1 h2
    simp [loadsP, sumAt]
theorem sumAt_snoc (ps : List (Int × Int)) (a v i : Int) : sumAt (ps ++ [(a, v)]) i = sumAt ps i + if a = i then v else 0 := by
  unfold sumAt
  rw [List.filter_append, List.map_append, List.sum_append]
  by_cases h : a = i
  · simp [h]
  · simp [h, beq_eq_false_iff_ne.2 h]
theorem loadsP_snoc (n : Nat) (ps : List (Int × Int)) (a : Nat) (v : Int) :
    loadsP n (ps ++ [((a : Int), v)]) = (loadsP n ps).set a ((loadsP n ps).getD a 0 + v) := by
  apply List.ext_getElem
  · simp [loadsP]
  · intro i h1 h2
    have hi : i < n := by simpa [loadsP] using h1
    rw [List.getElem_set]
    by_cases e : a = i
    · subst e
      rw [if_pos rfl, loadsP_at _ _ hi]
      simp [loadsP, sumAt_snoc]
    · rw [if_neg e]
      have : ¬ ((a : Int) = (i : Int)) := by omega
      simp [loadsP, sumAt_snoc, this]
theorem sumAt_bd : ∀ (ps : List (Int × Int)), (∀ p ∈ ps, 0 ≤ p.2 ∧ p.2 ≤ 10000) → ∀ i, 0 ≤ sumAt ps i ∧ sumAt ps i ≤ ps.length * 10000 := by
  intro ps
  induction ps with
  | nil => intro _ i; simp [sumAt]
  | cons p ps ih =>
    intro h i
    have h1 := ih (fun q hq => h q (List.mem_cons_of_mem _ hq)) i
    have h2 := h p (List.mem_cons_self ..)
    unfold sumAt at h1 ⊢
    by_cases e : p.1 = i
    · simp only [List.filter_cons, e, beq_self_eq_true, if_true, List.map_cons, List.sum_cons, List.length_cons]
      omega
    · simp only [List.filter_cons, beq_eq_false_iff_ne.2 e, Bool.false_eq_true, if_false, List.length_cons]
      omega
theorem take_snoc' {α : Type} (l : List α) (d : α) (k : Nat) (h : k < l.length) : l.take (k + 1) = l.take k ++ [l.getD k d] := by
  rw [List.take_add_one, List.getElem?_eq_getElem h, List.getD_eq_getElem?_getD, List.getElem?_eq_getElem h]
  rfl

/-! ### the second pass's loads are within the capacities -/
theorem second_fits (l : List Stop) (caps : List Int) (most : Nat) (hc : ∀ i, i < caps.length → 0 ≤ capAt caps i) : ∀ n i, i < caps.length →
    sumAt (seconds (sqN l caps most n).out) (i : Int) ≤ capAt caps i ∧ (i = (sqN l caps most n).at_ → sumAt (seconds (sqN l caps most n).out) (i : Int) = (sqN l caps most n).load) ∧
      ((sqN l caps most n).at_ < i → sumAt (seconds (sqN l caps most n).out) (i : Int) = 0) := by
  intro n
  induction n with
  | zero => intro i hi; exact ⟨hc i hi, fun _ => rfl, fun _ => rfl⟩
  | succ n ih =>
    intro i hi
    have h := ih i hi
    show _ ≤ _ ∧ _
    simp only [sqN]
    generalize sqN l caps most n = s at h
    unfold stepSq
    split
    · split
      · rename_i hf
        have e : seconds (s.out ++ [seatOf (l.getD s.next stopD) s.held s.at_]) = seconds s.out ++ [((s.at_ : Int), volAt l s.next)] := by simp [seconds, seatOf, Seat.second, Seat.vol, volAt]
        simp only [e, sumAt_snoc]
        by_cases ei : i = s.at_
        · subst ei
          rw [if_pos rfl, h.2.1 rfl]
          exact ⟨hf.2, fun _ => rfl, fun hx => absurd hx (Nat.lt_irrefl _)⟩
        · rw [if_neg (by omega), Int.add_zero]
          exact ⟨h.1, fun hx => absurd hx ei, h.2.2⟩
      · refine ⟨h.1, fun hx => ?_, fun hx => h.2.2 (by simp only at hx; omega)⟩
        simp only at hx
        exact h.2.2 (by omega)
    · exact h

/-! ### the greatest limit that is possible -/
def goodB (l : List Stop) (caps : List Int) (most : Nat) : Bool :=
  decide ((finalSq l caps most).next = l.length) && (List.range caps.length).all fun i => decide (sumAt (firsts (finalSq l caps most).out) (i : Int) ≤ capAt caps i)
def bestP (l : List Stop) (caps : List Int) : Nat → Option (List Seat)
  | 0 => none
  | m + 1 => if goodB l caps (m + 1) then some (finalSq l caps (m + 1)).out else bestP l caps m
def overP (caps f g : List Int) : Option Nat := (List.range caps.length).find? fun i => decide (capAt caps i < f.getD i 0) || decide (capAt caps i < g.getD i 0)

theorem isSome_find {α : Type} (p : α → Bool) : ∀ l : List α, (l.find? p).isSome = l.any p
  | [] => rfl
  | x :: l => by
    rw [List.find?_cons, List.any_cons]
    cases h : p x with
    | true => rfl
    | false => rw [Bool.false_or]; exact isSome_find p l
theorem any_all_not {α : Type} (p q : α → Bool) : ∀ l : List α, (∀ x ∈ l, p x = !q x) → l.any p = !l.all q
  | [], _ => rfl
  | x :: l, h => by
    rw [List.any_cons, List.all_cons, h x (List.mem_cons_self ..), any_all_not p q l (fun y hy => h y (List.mem_cons_of_mem _ hy))]
    cases q x <;> simp
theorem over_good {l : List Stop} {caps : List Int} {most : Nat} (hc : ∀ i, i < caps.length → 0 ≤ capAt caps i) (h : (finalSq l caps most).next = l.length) :
    (overP caps (loadsP caps.length (firsts (finalSq l caps most).out)) (loadsP caps.length (seconds (finalSq l caps most).out))).isSome = !goodB l caps most := by
  unfold overP goodB
  rw [decide_eq_true h, Bool.true_and, isSome_find]
  refine any_all_not _ _ _ fun i hi => ?_
  have hi : i < caps.length := List.mem_range.1 hi
  rw [loadsP_at _ _ hi, loadsP_at _ _ hi]
  have h2 := (second_fits l caps most hc (l.length + caps.length) i hi).1
  have h2 : sumAt (seconds (finalSq l caps most).out) (i : Int) ≤ capAt caps i := h2
  rw [decide_eq_false (p := capAt caps i < sumAt (seconds (finalSq l caps most).out) (i : Int)) (by omega), Bool.or_false]
  by_cases e : sumAt (firsts (finalSq l caps most).out) (i : Int) ≤ capAt caps i
  · first | (simp [e]; done) | (simp [e]; omega)
  · simp [e]; omega
end Go.Proofs.YtpfinkdpaomliaaGreat
