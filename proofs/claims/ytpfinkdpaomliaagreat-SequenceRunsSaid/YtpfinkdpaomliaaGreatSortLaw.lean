/-
  Two passes: the second one's stackers, told from the fed order, are those told from the seats. Plain: no program in sight.
-/
import Derived.Test.YtpfinkdpaomliaaGreatSeqLaw
namespace Go.Proofs.YtpfinkdpaomliaaGreat

section
variable {α : Type}
theorem filt_step (f : α → Nat) (n : Nat) : ∀ l : List α, l.Pairwise (fun a b => f a < f b) →
    l.filter (fun x => decide (f x < n + 1)) = l.filter (fun x => decide (f x < n)) ++ (l.find? fun x => decide (f x = n)).toList
  | [], _ => rfl
  | x :: l, h => by
    have h1 := (List.pairwise_cons.1 h).1
    have ih := filt_step f n l (List.pairwise_cons.1 h).2
    have hbig : n ≤ f x → l.filter (fun x => decide (f x < n + 1)) = [] := fun hx => by
      rw [List.filter_eq_nil_iff]
      intro y hy
      have := h1 y hy
      simp; omega
    have hbig2 : n ≤ f x → l.filter (fun x => decide (f x < n)) = [] := fun hx => by
      rw [List.filter_eq_nil_iff]
      intro y hy
      have := h1 y hy
      simp; omega
    have hbig3 : n ≤ f x → (l.find? fun x => decide (f x = n)) = none := fun hx => by
      rw [List.find?_eq_none]
      intro y hy
      have := h1 y hy
      simp; omega
    rcases Nat.lt_trichotomy (f x) n with hx | hx | hx
    · have e1 : decide (f x < n + 1) = true := by simp; omega
      have e2 : decide (f x < n) = true := by simp; omega
      have e3 : decide (f x = n) = false := by simp; omega
      simp only [List.filter_cons, List.find?_cons, e1, e2, e3, if_true]
      rw [ih]; rfl
    · have e1 : decide (f x < n + 1) = true := by simp; omega
      have e2 : decide (f x < n) = false := by simp; omega
      have e3 : decide (f x = n) = true := by simp; omega
      simp only [List.filter_cons, List.find?_cons, e1, e2, e3, if_true, hbig (by omega), hbig2 (by omega)]
      rfl
    · have e1 : decide (f x < n + 1) = false := by simp; omega
      have e2 : decide (f x < n) = false := by simp; omega
      have e3 : decide (f x = n) = false := by simp; omega
      simp only [List.filter_cons, List.find?_cons, e1, e2, e3, hbig (by omega), hbig2 (by omega), hbig3 (by omega)]
      rfl
theorem flat_range {β : Type} (f : α → Nat) (g : α → List β) (l : List α) (h : l.Pairwise (fun a b => f a < f b)) : ∀ n,
    (List.range n).flatMap (fun a => (l.find? fun x => decide (f x = a)).toList.flatMap g) = (l.filter fun x => decide (f x < n)).flatMap g
  | 0 => by
    have : l.filter (fun x => decide (f x < 0)) = [] := by rw [List.filter_eq_nil_iff]; intro y _; simp
    rw [this]; rfl
  | n + 1 => by
    rw [List.range_succ, List.flatMap_append, flat_range f g l h n, filt_step f n l h, List.flatMap_append]
    simp
end

/-- The stackers of a pass: which of the items that are fed each one gets. -/
def passP (n : Nat) (sel : Nat → Nat) (fed : List Nat) : List (List Nat) := (List.range n).map fun k => fed.filter fun i => decide (sel i = k)
def seatFor (l : List Seat) (x : Int) : Seat := (l.find? fun s => Seat.stop s == x).getD seatD
/-- What a run with a plan that is valid asks of its seats. -/
structure GoodSeats (n : Nat) (l : List Seat) : Prop where
  stops : l.Pairwise fun a b => Seat.stop a ≠ Seat.stop b
  within : ∀ s ∈ l, ∃ a b : Nat, a < n ∧ b < n ∧ Seat.first s = (a : Int) ∧ Seat.second s = (b : Int)
  rising : l.Pairwise fun a b => Seat.second a < Seat.second b ∨ (Seat.second a = Seat.second b ∧ Seat.first a < Seat.first b)

theorem seatFor_eq {n : Nat} {l : List Seat} (h : GoodSeats n l) {s : Seat} (hs : s ∈ l) {x : Int} : (l.any (fun s => Seat.stop s == x) = true ∧ seatFor l x = s) ↔ Seat.stop s = x := by
  have key : ∀ l : List Seat, l.Pairwise (fun a b => Seat.stop a ≠ Seat.stop b) → s ∈ l → Seat.stop s = x → seatFor l x = s := by
    intro l
    induction l with
    | nil => intro _ h; cases h
    | cons y l ih =>
      intro hp hm hx
      have h1 := List.pairwise_cons.1 hp
      unfold seatFor
      rw [List.find?_cons]
      rcases List.mem_cons.1 hm with rfl | hm
      · rw [hx]; simp
      · have : Seat.stop y ≠ Seat.stop s := h1.1 s hm
        have e : (Seat.stop y == x) = false := by rw [beq_eq_false_iff_ne, ← hx]; exact this
        rw [e]
        exact ih h1.2 hm hx
  constructor
  · rintro ⟨h1, h2⟩
    rw [List.any_eq_true] at h1
    obtain ⟨t, ht, hx⟩ := h1
    have hx : Seat.stop t = x := by simpa using hx
    unfold seatFor at h2
    cases hf : l.find? (fun s => Seat.stop s == x) with
    | none =>
      rw [List.find?_eq_none] at hf
      exact absurd (by simpa using hx) (by simpa using hf t ht)
    | some u =>
      rw [hf] at h2
      simp only [Option.getD_some] at h2
      subst h2
      have := List.find?_some hf
      simpa using this
  · intro hx
    refine ⟨?_, key l h.stops hs hx⟩
    rw [List.any_eq_true]
    exact ⟨s, hs, by simpa using hx⟩

theorem mem_seatFor {l : List Seat} {x : Int} (h : l.any (fun s => Seat.stop s == x) = true) : seatFor l x ∈ l ∧ Seat.stop (seatFor l x) = x := by
  unfold seatFor
  cases hf : l.find? (fun s => Seat.stop s == x) with
  | none =>
    rw [List.any_eq_true] at h
    obtain ⟨t, ht, hx⟩ := h
    rw [List.find?_eq_none] at hf
    exact absurd hx (hf t ht)
  | some u => exact ⟨List.mem_of_find?_eq_some hf, by simpa using List.find?_some hf⟩

def firstN (s : Seat) : Nat := (Seat.first s).toNat
def secondN (s : Seat) : Nat := (Seat.second s).toNat
def selF (l : List Seat) (items : List Int) (i : Nat) : Nat := firstN (seatFor l (items.getD i 0))
def selS (l : List Seat) (items : List Int) (i : Nat) : Nat := secondN (seatFor l (items.getD i 0))

theorem filter_flatMap' {α β : Type} (p : β → Bool) (g : α → List β) : ∀ l : List α, (l.flatMap g).filter p = l.flatMap fun a => (g a).filter p
  | [] => rfl
  | x :: l => by rw [List.flatMap_cons, List.filter_append, filter_flatMap' p g l, List.flatMap_cons]
theorem flatMap_congr' {α β : Type} {g g' : α → List β} : ∀ {l : List α}, (∀ a ∈ l, g a = g' a) → l.flatMap g = l.flatMap g'
  | [], _ => rfl
  | x :: l, h => by rw [List.flatMap_cons, List.flatMap_cons, h x (List.mem_cons_self ..), flatMap_congr' fun a ha => h a (List.mem_cons_of_mem _ ha)]
theorem pass_flatten (n : Nat) (sel : Nat → Nat) (fed : List Nat) : (passP n sel fed).flatten = (List.range n).flatMap fun k => fed.filter fun i => decide (sel i = k) := by
  unfold passP
  rw [List.flatMap_def]

theorem rising_inj {α : Type} (f : α → Nat) : ∀ l : List α, l.Pairwise (fun a b => f a < f b) → ∀ a b, a ∈ l → b ∈ l → a ≠ b → f a ≠ f b
  | [], _, a, _, ha, _, _ => by cases ha
  | x :: l, h, a, b, ha, hb, hne => by
    have h1 := List.pairwise_cons.1 h
    rcases List.mem_cons.1 ha with ea | ha'
    · rcases List.mem_cons.1 hb with eb | hb'
      · exact absurd (ea.trans eb.symm) hne
      · rw [ea]; exact Nat.ne_of_lt (h1.1 b hb')
    · rcases List.mem_cons.1 hb with eb | hb'
      · rw [eb]; exact Nat.ne_of_gt (h1.1 a ha')
      · exact rising_inj f l h1.2 a b ha' hb' hne
/-- The second pass. -/
theorem second_pass {n : Nat} {l : List Seat} {items : List Int} (h : GoodSeats n l) (hall : ∀ i, i < items.length → l.any (fun s => Seat.stop s == items.getD i 0) = true) (k : Nat) :
    ((passP n (selF l items) (List.range items.length)).flatten).filter (fun i => decide (selS l items i = k)) =
      (l.filter fun s => decide (secondN s = k)).flatMap fun s => (List.range items.length).filter fun i => decide (items.getD i 0 = Seat.stop s) := by
  rw [pass_flatten, filter_flatMap']
  have hp : (l.filter fun s => decide (secondN s = k)).Pairwise fun a b => firstN a < firstN b := by
    have h1 := (List.Pairwise.and_mem.1 h.rising).filter (fun s => decide (secondN s = k))
    have h2 := List.Pairwise.and_mem.1 h1
    refine h2.imp ?_
    rintro a b ⟨ha, hb, ha', hb', hr⟩
    obtain ⟨a1, a2, _, _, ea1, ea2⟩ := h.within a ha'
    obtain ⟨b1, b2, _, _, eb1, eb2⟩ := h.within b hb'
    have ha := of_decide_eq_true (List.mem_filter.1 ha).2
    have hb := of_decide_eq_true (List.mem_filter.1 hb).2
    unfold secondN at ha hb
    unfold firstN
    rw [ea1, eb1]
    rw [ea2] at ha
    rw [eb2] at hb
    rw [ea1, ea2, eb1, eb2] at hr
    omega
  have hlt : (l.filter fun s => decide (secondN s = k)).filter (fun s => decide (firstN s < n)) = l.filter fun s => decide (secondN s = k) := by
    rw [List.filter_eq_self]
    intro s hs
    obtain ⟨a, b, ha, _, e1, _⟩ := h.within s (List.mem_filter.1 hs).1
    unfold firstN
    rw [e1]
    simpa using ha
  rw [← hlt, ← flat_range firstN (fun s => (List.range items.length).filter fun i => decide (items.getD i 0 = Seat.stop s)) _ hp n]
  refine flatMap_congr' fun a _ => ?_
  rw [List.filter_filter]
  cases hf : (l.filter fun s => decide (secondN s = k)).find? (fun x => decide (firstN x = a)) with
  | none =>
    rw [List.find?_eq_none] at hf
    show _ = []
    rw [List.filter_eq_nil_iff]
    intro i hi
    have hi := List.mem_range.1 hi
    obtain ⟨hm, _⟩ := mem_seatFor (hall i hi)
    intro hc
    rw [Bool.and_eq_true] at hc
    have c1 := of_decide_eq_true hc.1
    have c2 := of_decide_eq_true hc.2
    exact hf _ (List.mem_filter.2 ⟨hm, decide_eq_true c1⟩) (decide_eq_true c2)
  | some s =>
    have hs1 := List.mem_of_find?_eq_some hf
    have hs2 : firstN s = a := of_decide_eq_true (by simpa using List.find?_some hf)
    have hs3 : secondN s = k := of_decide_eq_true (List.mem_filter.1 hs1).2
    have hsl := (List.mem_filter.1 hs1).1
    show _ = (List.range items.length).filter _ ++ []
    rw [List.append_nil]
    refine List.filter_congr fun i hi => ?_
    have hi := List.mem_range.1 hi
    obtain ⟨hm, he⟩ := mem_seatFor (hall i hi)
    rw [← Bool.decide_and, decide_eq_decide]
    constructor
    · rintro ⟨c1, c2⟩
      have : seatFor l (items.getD i 0) = s := by
        have h3 := (List.find?_eq_some_iff_append.1 hf)
        by_cases e : seatFor l (items.getD i 0) = s
        · exact e
        · have hmem : seatFor l (items.getD i 0) ∈ l.filter fun s => decide (secondN s = k) := List.mem_filter.2 ⟨hm, decide_eq_true c1⟩
          exact absurd (c2.trans hs2.symm) (rising_inj firstN _ hp _ _ hmem hs1 e)
      rw [← he, this]
    · intro hx
      have := ((seatFor_eq h hsl (x := items.getD i 0)).2 hx.symm).2
      unfold selF selS
      rw [this]
      exact ⟨hs3, hs2⟩
end Go.Proofs.YtpfinkdpaomliaaGreat
