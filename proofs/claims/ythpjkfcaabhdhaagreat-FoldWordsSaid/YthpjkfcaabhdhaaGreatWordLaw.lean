/-
  Plain law: what the package's Longs, Short, Kinds, Same compute is what the reference's compute. No program in sight.
-/
import Derived.Test.YthpjkfcaabhdhaaGreatRefKinds
namespace Go.Proofs.YthpjkfcaabhdhaaGreat
open Go.RowKit

theorem longs_law (kind : Int) (word : ByteArray) : refLongsTo kind word 40 = longsL kind word := by
  unfold refLongsTo longsL
  rw [List.take_of_length_le (by rw [tab_length]; exact Nat.le_refl _), List.foldl_filter]
  congr 1
  funext acc r
  unfold refAdd addL
  rw [refOf_eq]
  cases ofR kind word r <;> cases inL acc r.2.1 <;> rfl

theorem same_law (kind : Int) (a b : ByteArray) : refSameW kind a b = sameW kind a b := by
  unfold refSameW sameW
  rw [longs_law, longs_law]

theorem tab_pos : ∀ r ∈ tab, (r.1 == 0) = false ∧ 1 ≤ r.1 ∧ r.1 ≤ 5 := by
  have h : (tab.all fun r => !(r.1 == 0) && decide (1 ≤ r.1) && decide (r.1 ≤ 5)) = true := by decide +kernel
  intro r hr
  have := (List.all_eq_true.1 h) r hr
  simp only [Bool.and_eq_true, Bool.not_eq_true', decide_eq_true_eq] at this
  exact ⟨this.1.1, this.1.2, this.2⟩

theorem short_law (kind : Int) (word : ByteArray) : refShortL kind word = shortL kind word := by
  unfold refShortL shortL firstL
  cases h : tab.find? (shR kind word) with
  | none =>
    have he : ByteArray.empty.toList = [] := by rw [ByteArray.toList_eq]; rfl
    have h2 : (dflt.1 == 0 && (dflt.2.1.toList.isEmpty && dflt.2.2.toList.isEmpty)) = true := by show ((0 : Int) == 0 && (ByteArray.empty.toList.isEmpty && ByteArray.empty.toList.isEmpty)) = true; rw [he]; rfl
    simp only [Option.getD_none, h2, if_true]
    rfl
  | some r =>
    have hr := (tab_pos r (List.mem_of_find?_eq_some h)).1
    simp only [Option.getD_some, hr, Bool.false_and, Bool.false_eq_true, if_false]

/-- five bits -/
def bit5 (b1 b2 b3 b4 b5 : Bool) : Int := (if b1 then 2 else 0) + (if b2 then 4 else 0) + (if b3 then 8 else 0) + (if b4 then 16 else 0) + (if b5 then 32 else 0)
def anyK (l : List Row) (word : ByteArray) (k : Int) : Bool := l.any fun r => r.1 == k && (sEq r.2.1 word || sEq r.2.2 word)

theorem orK1 (b1 b2 b3 b4 b5 : Bool) : orK (bit5 b1 b2 b3 b4 b5) 1 = bit5 true b2 b3 b4 b5 := by cases b1 <;> cases b2 <;> cases b3 <;> cases b4 <;> cases b5 <;> decide
theorem orK2 (b1 b2 b3 b4 b5 : Bool) : orK (bit5 b1 b2 b3 b4 b5) 2 = bit5 b1 true b3 b4 b5 := by cases b1 <;> cases b2 <;> cases b3 <;> cases b4 <;> cases b5 <;> decide
theorem orK3 (b1 b2 b3 b4 b5 : Bool) : orK (bit5 b1 b2 b3 b4 b5) 3 = bit5 b1 b2 true b4 b5 := by cases b1 <;> cases b2 <;> cases b3 <;> cases b4 <;> cases b5 <;> decide
theorem orK4 (b1 b2 b3 b4 b5 : Bool) : orK (bit5 b1 b2 b3 b4 b5) 4 = bit5 b1 b2 b3 true b5 := by cases b1 <;> cases b2 <;> cases b3 <;> cases b4 <;> cases b5 <;> decide
theorem orK5 (b1 b2 b3 b4 b5 : Bool) : orK (bit5 b1 b2 b3 b4 b5) 5 = bit5 b1 b2 b3 b4 true := by cases b1 <;> cases b2 <;> cases b3 <;> cases b4 <;> cases b5 <;> decide

theorem kinds_fold (word : ByteArray) : ∀ (l : List Row), (∀ r ∈ l, 1 ≤ r.1 ∧ r.1 ≤ 5) → ∀ b1 b2 b3 b4 b5 : Bool,
    l.foldl (stepK word) (bit5 b1 b2 b3 b4 b5) = bit5 (b1 || anyK l word 1) (b2 || anyK l word 2) (b3 || anyK l word 3) (b4 || anyK l word 4) (b5 || anyK l word 5) := by
  intro l
  induction l with
  | nil => intro _ b1 b2 b3 b4 b5; simp [anyK]
  | cons r l ih =>
    intro hl b1 b2 b3 b4 b5
    have hl' : ∀ r ∈ l, 1 ≤ r.1 ∧ r.1 ≤ 5 := fun x hx => hl x (List.mem_cons_of_mem _ hx)
    have hr := hl r (List.mem_cons_self ..)
    have hany : ∀ k : Int, anyK (r :: l) word k = ((r.1 == k && (sEq r.2.1 word || sEq r.2.2 word)) || anyK l word k) := fun k => by simp [anyK]
    rw [List.foldl_cons, hany, hany, hany, hany, hany]
    rw [show stepK word (bit5 b1 b2 b3 b4 b5) r = if sEq r.2.1 word || sEq r.2.2 word then orK (bit5 b1 b2 b3 b4 b5) r.1 else bit5 b1 b2 b3 b4 b5 from rfl]
    cases hm : (sEq r.2.1 word || sEq r.2.2 word) with
    | false => simp only [Bool.false_eq_true, if_false, Bool.and_false, Bool.false_or]; exact ih hl' _ _ _ _ _
    | true =>
      simp only [if_true, Bool.and_true]
      have h5 : r.1 = 1 ∨ r.1 = 2 ∨ r.1 = 3 ∨ r.1 = 4 ∨ r.1 = 5 := by omega
      rcases h5 with h | h | h | h | h <;> rw [h]
      · rw [orK1, ih hl']; simp
      · rw [orK2, ih hl']; simp
      · rw [orK3, ih hl']; simp
      · rw [orK4, ih hl']; simp
      · rw [orK5, ih hl']; simp

theorem hasK_any (word : ByteArray) (k : Int) (hk : 1 ≤ k) : hasK word k 40 = anyK tab word k := by
  unfold hasK anyK
  rw [List.take_of_length_le (by rw [tab_length]; exact Nat.le_refl _)]
  congr 1
  funext r
  rw [refOf_eq]
  unfold ofR ofKind
  have : (k == 0) = false := by rw [beq_eq_false_iff_ne]; omega
  rw [this, Bool.false_or]

theorem kinds_law (word : ByteArray) : rk word 5 = kindsTo word 40 := by
  have h := kinds_fold word tab (fun r hr => (tab_pos r hr).2) false false false false false
  have h0 : bit5 false false false false false = 0 := by decide
  unfold kindsTo
  rw [List.take_of_length_le (by rw [tab_length]; exact Nat.le_refl _), ← h0, h]
  simp only [rk, Bool.false_or]
  rw [hasK_any _ _ (by decide), hasK_any _ _ (by decide), hasK_any _ _ (by decide), hasK_any _ _ (by decide), hasK_any _ _ (by decide)]
  cases h1 : anyK tab word 1 <;> cases h2 : anyK tab word 2 <;> cases h3 : anyK tab word 3 <;> cases h4 : anyK tab word 4 <;> cases h5 : anyK tab word 5 <;> simp [bit5, pw, h1, h2, h3, h4, h5]
end Go.Proofs.YthpjkfcaabhdhaaGreat
