/-
  Plain: the words of a text, and the folded text as its words, joined.
-/
import Derived.Test.YthpjkfcaabhdhaaGreatFold
namespace Go.Proofs.YthpjkfcaabhdhaaGreat
open Go.RowKit

/-- One byte more: a blank ends a word. -/
def wStep (t : List (List UInt8) × List UInt8) (b : UInt8) : List (List UInt8) × List UInt8 :=
  if b = 32 then (if t.2 = [] then (t.1, []) else (t.1 ++ [t.2], [])) else (t.1, t.2 ++ [b])
def wAt (l : List UInt8) (i : Nat) : List (List UInt8) × List UInt8 := ((l ++ [32]).take i).foldl wStep ([], [])
def wordsL (l : List UInt8) : List (List UInt8) := (wAt l (l.length + 1)).1

theorem wAt_next (l : List UInt8) (i : Nat) (hi : i ≤ l.length) : wAt l (i + 1) = wStep (wAt l i) ((l ++ [32]).getD i 32) := by
  unfold wAt
  rw [List.take_add_one, List.getElem?_eq_getElem (by simp; omega), List.foldl_append, List.getD_eq_getElem?_getD, List.getElem?_eq_getElem (by simp; omega)]
  rfl
theorem wStep_len (t : List (List UInt8) × List UInt8) (b : UInt8) : (wStep t b).1.length ≤ t.1.length + 1 := by
  unfold wStep
  split
  · split <;> simp
  · simp
theorem wAt_len (l : List UInt8) : ∀ i, i ≤ l.length + 1 → (wAt l i).1.length ≤ i := by
  intro i
  induction i with
  | zero => intro _; simp [wAt]
  | succ i ih =>
    intro h
    rw [wAt_next l i (by omega)]
    have := wStep_len (wAt l i) ((l ++ [32]).getD i 32)
    have := ih (by omega)
    omega

/-- What the loop knows of the text ahead of place i: the words, and where the word at hand began. -/
def WAt (l : List UInt8) (i start : Nat) (ws : List (List UInt8)) : Prop := start ≤ i ∧ wAt l i = (ws, (l.take i).drop start)

theorem WAt.zero (l : List UInt8) : WAt l 0 0 [] := ⟨Nat.le_refl _, by simp [wAt]⟩
theorem WAt.letter {l : List UInt8} {i start : Nat} {ws : List (List UInt8)} (h : WAt l i start ws) (hi : i < l.length) (hb : l.getD i 0 ≠ 32) : WAt l (i + 1) start ws := by
  refine ⟨Nat.le_succ_of_le h.1, ?_⟩
  have hx : (l ++ [32]).getD i 32 = l.getD i 0 := by
    simp only [List.getD_eq_getElem?_getD]
    rw [List.getElem?_append_left hi, List.getElem?_eq_getElem hi]
    rfl
  rw [wAt_next l i (by omega), h.2, hx]
  unfold wStep
  rw [if_neg hb, List.take_add_one, List.getElem?_eq_getElem hi, List.getD_eq_getElem?_getD, List.getElem?_eq_getElem hi, List.drop_append_of_le_length (by rw [List.length_take]; have := h.1; omega)]
  rfl
theorem WAt.blank {l : List UInt8} {i start : Nat} {ws : List (List UInt8)} (h : WAt l i start ws) (hi : i ≤ l.length) (hb : i = l.length ∨ l.getD i 0 = 32) :
    WAt l (i + 1) (i + 1) (if start < i then ws ++ [(l.take i).drop start] else ws) := by
  refine ⟨Nat.le_refl _, ?_⟩
  have hx : (l ++ [32]).getD i 32 = 32 := by
    simp only [List.getD_eq_getElem?_getD]
    rcases hb with rfl | hb
    · rw [List.getElem?_append_right (Nat.le_refl _)]; simp
    · by_cases hlt : i < l.length
      · rw [List.getElem?_append_left hlt]
        rw [List.getD_eq_getElem?_getD, List.getElem?_eq_getElem hlt] at hb
        rw [List.getElem?_eq_getElem hlt]
        exact hb
      · rw [List.getElem?_append_right (by omega)]
        have : i - l.length = 0 := by omega
        simp [this]
  have hd : (l.take (i + 1)).drop (i + 1) = [] := List.drop_eq_nil_of_le (by rw [List.length_take]; omega)
  rw [wAt_next l i hi, h.2, hx, hd]
  unfold wStep
  rw [if_pos rfl]
  have hlen : ((l.take i).drop start).length = i - start := by rw [List.length_drop, List.length_take]; omega
  by_cases hs : start < i
  · rw [if_pos hs, if_neg (fun e => by have e' := congrArg List.length e; simp only [hlen, List.length_nil] at e'; omega)]
  · rw [if_neg hs, if_pos (List.eq_nil_of_length_eq_zero (by rw [hlen]; omega))]
theorem WAt.last {l : List UInt8} {start : Nat} {ws : List (List UInt8)} (h : WAt l (l.length + 1) start ws) : ws = wordsL l := by
  unfold wordsL
  rw [h.2]
theorem WAt.len {l : List UInt8} {i start : Nat} {ws : List (List UInt8)} (h : WAt l i start ws) (hi : i ≤ l.length + 1) : ws.length ≤ i := by
  have := wAt_len l i hi
  rw [h.2] at this
  exact this

/-- Words as the program holds them. -/
def toB (l : List UInt8) : ByteArray := ⟨l.toArray⟩
def wordsB (l : List UInt8) : List ByteArray := (wordsL l).map toB

theorem extract_list (s : ByteArray) (a b : Nat) : s.extract a b = toB ((s.data.toList.take b).drop a) := by
  unfold toB
  apply ByteArray.ext
  apply Array.toList_inj.1
  rw [ByteArray.data_extract]
  simp [List.drop_take]

/-! The folded text: the pieces, one after another. -/
def pieces (l : List UInt8) : Nat → Nat → List (List UInt8)
  | 0, _ => []
  | fuel + 1, i => if i < l.length then (bec l i).1 :: pieces l fuel (i + (bec l i).2) else []
def stepF (t : List UInt8 × Bool) (p : List UInt8) : List UInt8 × Bool :=
  if p = [] then (t.1, true) else ((if t.2 = true ∧ 0 < t.1.length then t.1 ++ [32] else t.1) ++ p, false)
theorem foldGo_pieces (l : List UInt8) : ∀ fuel i out apart, foldGo l fuel i out apart = ((pieces l fuel i).foldl stepF (out, apart)).1 := by
  intro fuel
  induction fuel with
  | zero => intro i out apart; rfl
  | succ fuel ih =>
    intro i out apart
    rw [foldGo, pieces]
    by_cases hi : i < l.length
    · rw [if_pos hi, if_pos hi, List.foldl_cons]
      unfold stepF
      by_cases h0 : (bec l i).1 = []
      · rw [if_pos h0, if_pos h0]
        exact ih _ _ _
      · rw [if_neg h0, if_neg h0]
        exact ih _ _ _
    · rw [if_neg hi, if_neg hi]
      rfl

def gap (p : List UInt8) : List UInt8 := if p = [] then [32] else p
def joinL : List (List UInt8) → List UInt8
  | [] => []
  | w :: r => w ++ r.flatMap (fun x => 32 :: x)
theorem joinL_snoc (ws : List (List UInt8)) (w : List UInt8) (h : ws ≠ []) : joinL (ws ++ [w]) = joinL ws ++ (32 :: w) := by
  cases ws with
  | nil => exact absurd rfl h
  | cons a r => simp [joinL]
theorem joinL_more (ws : List (List UInt8)) (w p : List UInt8) : joinL (ws ++ [w ++ p]) = joinL (ws ++ [w]) ++ p := by
  cases ws with
  | nil => simp [joinL]
  | cons a r => simp [joinL]
theorem joinL_nil (ws : List (List UInt8)) (h : ∀ w ∈ ws, w ≠ []) (h0 : joinL ws = []) : ws = [] := by
  cases ws with
  | nil => rfl
  | cons a r =>
    simp only [joinL, List.append_eq_nil_iff] at h0
    exact absurd h0.1 (h a (by simp))

def fin (t : List (List UInt8) × List UInt8) : List (List UInt8) := if t.2 = [] then t.1 else t.1 ++ [t.2]
theorem foldl_letters (p : List UInt8) (hp : ∀ b ∈ p, b ≠ 32) : ∀ t : List (List UInt8) × List UInt8, p.foldl wStep t = (t.1, t.2 ++ p) := by
  induction p with
  | nil => intro t; simp
  | cons b p ih =>
    intro t
    have hb : b ≠ 32 := hp b (by simp)
    rw [List.foldl_cons, ih (fun c hc => hp c (by simp [hc]))]
    unfold wStep
    rw [if_neg hb]
    simp

structure Agree (t : List (List UInt8) × List UInt8) (out : List UInt8) (apart : Bool) : Prop where
  join : out = joinL (fin t)
  gap : apart = true → t.2 = []
  none : apart = false → t.2 = [] → t.1 = []
  all : ∀ w ∈ t.1, w ≠ []

theorem agree_all (ps : List (List UInt8)) (hps : ∀ p ∈ ps, ∀ b ∈ p, b ≠ 32) : ∀ (t : List (List UInt8) × List UInt8) (out : List UInt8) (apart : Bool), Agree t out apart →
    (ps.foldl stepF (out, apart)).1 = joinL (fin ((ps.flatMap gap).foldl wStep t)) := by
  induction ps with
  | nil => intro t out apart h; exact h.join
  | cons p ps ih =>
    intro t out apart h
    rw [List.foldl_cons, List.flatMap_cons, List.foldl_append]
    have ih' := ih (fun q hq => hps q (by simp [hq]))
    by_cases hp : p = []
    · subst hp
      have e1 : stepF (out, apart) [] = (out, true) := by simp [stepF]
      have e2 : (gap []).foldl wStep t = (fin t, []) := by
        simp only [gap, if_true, List.foldl_cons, List.foldl_nil, wStep, fin]
        split <;> rfl
      rw [e1, e2]
      refine ih' _ _ _ ⟨?_, fun _ => rfl, fun h => (by cases h), ?_⟩
      · rw [h.join]; simp [fin]
      · intro w hw
        unfold fin at hw
        split at hw
        · exact h.all w hw
        · rename_i hne
          rw [List.mem_append] at hw
          rcases hw with hw | hw
          · exact h.all w hw
          · simp at hw; subst hw; exact hne
    · have e2 : (gap p).foldl wStep t = (t.1, t.2 ++ p) := by
        unfold gap
        rw [if_neg hp]
        exact foldl_letters p (hps p (by simp)) t
      have hne : t.2 ++ p ≠ [] := by simp [hp]
      rw [e2]
      have e1 : stepF (out, apart) p = (joinL (t.1 ++ [t.2 ++ p]), false) := by
        unfold stepF
        rw [if_neg hp]
        have hj := h.join
        cases ha : apart with
        | true =>
          have h2 := h.gap ha
          have hf : fin t = t.1 := by unfold fin; rw [if_pos h2]
          rw [hf] at hj
          rw [h2, List.nil_append]
          by_cases h0 : 0 < out.length
          · have hw : t.1 ≠ [] := fun e => by rw [e] at hj; rw [hj] at h0; simp [joinL] at h0
            rw [if_pos ⟨rfl, h0⟩, joinL_snoc _ _ hw, ← hj]
            simp
          · have ho : out = [] := List.eq_nil_of_length_eq_zero (by omega)
            have hw := joinL_nil t.1 h.all (by rw [← hj, ho])
            rw [if_neg (fun e => h0 e.2), hw, ho]
            simp [joinL]
        | false =>
          rw [if_neg (fun e => by cases e.1), joinL_more]
          by_cases h2 : t.2 = []
          · have h1 := h.none ha h2
            have hf : fin t = [] := by unfold fin; rw [if_pos h2, h1]
            rw [hj, hf, h1, h2]
            simp [joinL]
          · have hf : fin t = t.1 ++ [t.2] := by unfold fin; rw [if_neg h2]
            rw [hj, hf]
      rw [e1]
      refine ih' _ _ _ ⟨?_, fun h => (by cases h), fun _ h => absurd h hne, h.all⟩
      unfold fin
      rw [if_neg hne]

theorem fin_eq (t : List (List UInt8) × List UInt8) : (wStep t 32).1 = fin t := by
  unfold wStep fin
  rw [if_pos rfl]
  split <;> rfl
theorem wordsL_fin (l : List UInt8) : wordsL l = fin (l.foldl wStep ([], [])) := by
  unfold wordsL wAt
  rw [List.take_of_length_le (by simp), List.foldl_append]
  exact fin_eq _

/-- The reference's text ahead of the blanks' removal. -/
def refLong (l : List UInt8) : List UInt8 := (pieces l l.length 0).flatMap gap

theorem let2_clean (f s : Int) : ∀ b ∈ let2 f s, b ≠ 32 := by
  have h : (let2 f s).all (fun b => decide (b ≠ 32)) = true := by
    have key : ∀ {c : Prop} [Decidable c] {a b : List UInt8}, a.all (fun b => decide (b ≠ 32)) = true → b.all (fun b => decide (b ≠ 32)) = true → (if c then a else b).all (fun b => decide (b ≠ 32)) = true := by
      intro c _ a b ha hb
      split
      · exact ha
      · exact hb
    have hs : ∀ x : Int, (letS x).all (fun b => decide (b ≠ 32)) = true := by
      intro x
      unfold letS
      repeat refine key (by decide) ?_
      decide
    unfold let2
    repeat' refine key ?_ ?_
    all_goals first | exact hs _ | decide
  intro b hb
  simpa using List.all_eq_true.1 h b hb
theorem bec_clean (l : List UInt8) (i : Nat) : ∀ b ∈ (bec l i).1, b ≠ 32 := by
  intro b hb he
  subst he
  unfold bec at hb
  simp only at hb
  split at hb
  · rename_i hk
    simp only [List.mem_singleton] at hb
    rw [← hb] at hk
    revert hk
    decide
  · split at hb
    · rename_i hl
      simp only [List.mem_singleton] at hb
      generalize l.getD i 0 = x at hb hl
      unfold lowB at hl
      simp only [Bool.and_eq_true, decide_eq_true_eq] at hl
      have h := congrArg UInt8.toNat hb
      rw [UInt8.toNat_ofNat'] at h
      have h32 : (32 : UInt8).toNat = 32 := rfl
      rw [h32] at h
      omega
    · split at hb
      · exact let2_clean _ _ _ hb rfl
      · simp at hb
theorem pieces_clean (l : List UInt8) : ∀ fuel i, ∀ p ∈ pieces l fuel i, ∀ b ∈ p, b ≠ 32 := by
  intro fuel
  induction fuel with
  | zero => intro i p hp; simp [pieces] at hp
  | succ fuel ih =>
    intro i p hp
    rw [pieces] at hp
    split at hp
    · rcases List.mem_cons.1 hp with rfl | hp
      · exact bec_clean l i
      · exact ih _ p hp
    · simp at hp

theorem fold_law (l : List UInt8) : foldL l = joinL (wordsL (refLong l)) := by
  unfold foldL
  rw [foldGo_pieces, agree_all _ (pieces_clean l _ _) ([], []) [] false ⟨rfl, fun h => (by cases h), fun _ _ => rfl, fun w hw => by simp at hw⟩, wordsL_fin]
  rfl
end Go.Proofs.YthpjkfcaabhdhaaGreat
