/-
  The closure of Fold: what the byte at a place becomes.
-/
import Derived.Test.YthpjkfcaabhdhaaGreatLetters
namespace Go.Proofs.YthpjkfcaabhdhaaGreat
open Go.RowKit

def keptB (x : Int) : Bool := (decide (65 ≤ x) && decide (x ≤ 90)) || (decide (48 ≤ x) && decide (x ≤ 57)) || x == 45 || x == 47
def lowB (x : Int) : Bool := decide (97 ≤ x) && decide (x ≤ 122)
/-- What the byte at place i becomes, and how many bytes it takes. -/
def bec (l : List UInt8) (i : Nat) : List UInt8 × Nat :=
  let x : Int := ((l.getD i 0).toNat : Int)
  if keptB x then ([l.getD i 0], 1)
  else if lowB x then ([UInt8.ofNat (x - 32).toNat], 1)
  else if i + 1 < l.length ∧ let2 x ((l.getD (i + 1) 0).toNat : Int) ≠ [] then (let2 x ((l.getD (i + 1) 0).toNat : Int), 2)
  else ([], 1)

theorem enc_ascii (x : Int) (h1 : 65 ≤ x) (h2 : x ≤ 90) : Utf8.encode x = ⟨#[UInt8.ofNat x.toNat]⟩ := by
  have h : x = 65 ∨ x = 66 ∨ x = 67 ∨ x = 68 ∨ x = 69 ∨ x = 70 ∨ x = 71 ∨ x = 72 ∨ x = 73 ∨ x = 74 ∨ x = 75 ∨ x = 76 ∨ x = 77 ∨ x = 78 ∨ x = 79 ∨ x = 80 ∨ x = 81 ∨ x = 82 ∨ x = 83 ∨ x = 84 ∨ x = 85 ∨ x = 86 ∨ x = 87 ∨ x = 88 ∨ x = 89 ∨ x = 90 := by omega
  rcases h with rfl | rfl | rfl | rfl | rfl | rfl | rfl | rfl | rfl | rfl | rfl | rfl | rfl | rfl | rfl | rfl | rfl | rfl | rfl | rfl | rfl | rfl | rfl | rfl | rfl | rfl <;> rfl
theorem extract_one (s : ByteArray) (i : Nat) (hi : i < s.size) : s.extract i (i + 1) = ⟨#[s[i]]⟩ := by
  apply ByteArray.ext
  apply Array.toList_inj.1
  rw [ByteArray.data_extract]
  apply List.ext_getElem?
  intro j
  simp only [Array.toList_extract, List.extract]
  rw [List.getElem?_take]
  cases j with
  | zero => simp; exact Array.getElem?_eq_getElem _
  | succ j => simp
theorem getD_byte (s : ByteArray) (i : Nat) (hi : i < s.size) : s.data.toList.getD i 0 = s[i] := by
  have h : i < s.data.toList.length := by simpa using hi
  rw [List.getD_eq_getElem?_getD, List.getElem?_eq_getElem h]
  rfl
theorem byte_bd (b : UInt8) : 0 ≤ (b.toNat : Int) ∧ (b.toNat : Int) ≤ 255 := by have := b.toNat_lt; omega

def BecEnd (s : ByteArray) (i : Nat) (w : World) (e : Ending) (w' : World) : Prop :=
  e = .returned (.tuple #[.string ⟨(bec s.data.toList i).1.toArray⟩, .int .i64 (bec s.data.toList i).2]) ∧ w = w'
theorem bec_end {s : ByteArray} {i : Nat} {w : World} {l : List UInt8} {n : Nat} (h : bec s.data.toList i = (l, n)) : BecEnd s i w (.returned (.tuple #[.string ⟨l.toArray⟩, .int .i64 n])) w := by
  unfold BecEnd
  rw [h]
  exact ⟨rfl, rfl⟩

/-- The tests on a byte that is none of a letter, a digit, a sign. -/
theorem other_facts {x : Int} (hk : keptB x = false) (hl : lowB x = false) : (x == 45) = false ∧ (x == 47) = false ∧
    ((x < 48) ∨ (58 ≤ x ∧ x < 65) ∨ (91 ≤ x ∧ x < 97) ∨ 122 < x) := by
  unfold keptB at hk
  unfold lowB at hl
  simp only [Bool.or_eq_false_iff, Bool.and_eq_false_iff, decide_eq_false_iff_not] at hk hl
  refine ⟨hk.1.2, hk.2, ?_⟩
  obtain ⟨⟨⟨h1, h2⟩, _⟩, _⟩ := hk
  omega

section
variable (w : World) (bs : Nat) (s : ByteArray) (i : Nat) (hi : i < s.size) (hs : s.size ≤ 1000000) (hc : w.cell? ⟨bs, 0, none⟩ = some (.string s))
include hc

set_option maxRecDepth 1000000 in
set_option maxHeartbeats 1000000 in
theorem becomes_low (h : 97 ≤ ((s[i]).toNat : Int)) (h2 : ((s[i]).toNat : Int) ≤ 122) :
    Calls Tryz.prog 29 #[.int .i64 i, .pointer (some ⟨bs, 0, none⟩)] w (BecEnd s i w) := by
  have d1 : decide (65 ≤ ((s[i]).toNat : Int)) = true := decide_eq_true (by omega)
  have d2 : decide (((s[i]).toNat : Int) ≤ 90) = false := decide_eq_false (by omega)
  have d3 : decide (48 ≤ ((s[i]).toNat : Int)) = true := decide_eq_true (by omega)
  have d4 : decide (((s[i]).toNat : Int) ≤ 57) = false := decide_eq_false (by omega)
  have d5 : (((s[i]).toNat : Int) == 45) = false := beq_eq_false_iff_ne.2 (by omega)
  have d6 : (((s[i]).toNat : Int) == 47) = false := beq_eq_false_iff_ne.2 (by omega)
  have d7 : decide (97 ≤ ((s[i]).toNat : Int)) = true := decide_eq_true (by omega)
  have d8 : decide (((s[i]).toNat : Int) ≤ 122) = true := decide_eq_true (by omega)
  have hf : Hid (bec s.data.toList i = ([UInt8.ofNat (((s[i]).toNat : Int) - 97 + 65).toNat], 1)) := by
    show bec s.data.toList i = _
    unfold bec keptB lowB
    simp only [getD_byte s i hi, d1, d2, d3, d4, d5, d6, d7, d8, Bool.and_false, Bool.and_true, Bool.or_false, Bool.false_eq_true, if_false, if_true]
    rw [show ((s[i]).toNat : Int) - 32 = ((s[i]).toNat : Int) - 97 + 65 by omega]
  have he := Lib.hid (enc_ascii (((s[i]).toNat : Int) - 97 + 65) (by omega) (by omega))
  go_enter Tryz.func29, Tryz.ntmps29
  go_wp2_with fail
  go_ret2
  rw [show (Value.string (Utf8.encode (((s[i]).toNat : Int) - 97 + 65))) = .string ⟨[UInt8.ofNat (((s[i]).toNat : Int) - 97 + 65).toNat].toArray⟩ from congrArg Value.string he.out]
  exact bec_end hf.out

set_option maxRecDepth 1000000 in
set_option maxHeartbeats 1000000 in
include hs in
theorem becomes_kept (h : keptB ((s[i]).toNat : Int) = true) :
    Calls Tryz.prog 29 #[.int .i64 i, .pointer (some ⟨bs, 0, none⟩)] w (BecEnd s i w) := by
  have hf : Hid (bec s.data.toList i = ([s[i]], 1)) := by
    show bec s.data.toList i = _
    unfold bec
    simp only [getD_byte s i hi, h, if_true]
  have hsl : ∀ w, (Instr.slice 9 (.string s) (some (.int .i64 (i : Int))) (some (.int .i64 ((i : Int) + 1))) none).run Tryz.prog w = .ok (.string ⟨[s[i]].toArray⟩) w := fun w => by
    rw [run_slice_string w 9 s .i64 .i64 i ((i : Int) + 1) Tryz.underlying9 (by omega) (by omega) (by omega)]
    have e : ((i : Int) + 1).toNat = i + 1 := by omega
    rw [e, Int.toNat_natCast, extract_one s i hi]
  have h4 : (65 ≤ ((s[i]).toNat : Int) ∧ ((s[i]).toNat : Int) ≤ 90) ∨ (48 ≤ ((s[i]).toNat : Int) ∧ ((s[i]).toNat : Int) ≤ 57) ∨ ((s[i]).toNat : Int) = 45 ∨ ((s[i]).toNat : Int) = 47 := by
    unfold keptB at h
    simp only [Bool.or_eq_true, Bool.and_eq_true, decide_eq_true_eq, beq_iff_eq] at h
    omega
  clear h
  rcases h4 with ⟨a, b⟩ | ⟨a, b⟩ | a | a
  · have d1 : decide (65 ≤ ((s[i]).toNat : Int)) = true := decide_eq_true (by omega)
    have d2 : decide (((s[i]).toNat : Int) ≤ 90) = true := decide_eq_true (by omega)
    go_enter Tryz.func29, Tryz.ntmps29
    go_wp2_with fail
    go_ret2
    exact bec_end hf.out
  · have d1 : decide (65 ≤ ((s[i]).toNat : Int)) = false := decide_eq_false (by omega)
    have d3 : decide (48 ≤ ((s[i]).toNat : Int)) = true := decide_eq_true (by omega)
    have d4 : decide (((s[i]).toNat : Int) ≤ 57) = true := decide_eq_true (by omega)
    go_enter Tryz.func29, Tryz.ntmps29
    go_wp2_with fail
    go_ret2
    exact bec_end hf.out
  · have d1 : decide (65 ≤ ((s[i]).toNat : Int)) = false := decide_eq_false (by omega)
    have d3 : decide (48 ≤ ((s[i]).toNat : Int)) = false := decide_eq_false (by omega)
    have d5 : (((s[i]).toNat : Int) == 45) = true := by rw [a]; rfl
    clear a
    go_enter Tryz.func29, Tryz.ntmps29
    go_wp2_with fail
    go_ret2
    exact bec_end hf.out
  · have d1 : decide (65 ≤ ((s[i]).toNat : Int)) = false := decide_eq_false (by omega)
    have d3 : decide (48 ≤ ((s[i]).toNat : Int)) = false := decide_eq_false (by omega)
    have d5 : (((s[i]).toNat : Int) == 45) = false := by rw [a]; rfl
    have d6 : (((s[i]).toNat : Int) == 47) = true := by rw [a]; rfl
    clear a
    go_enter Tryz.func29, Tryz.ntmps29
    go_wp2_with fail
    go_ret2
    exact bec_end hf.out

set_option maxRecDepth 1000000 in
set_option maxHeartbeats 4000000 in
include hs in
theorem becomes_other (hk : keptB ((s[i]).toNat : Int) = false) (hl : lowB ((s[i]).toNat : Int) = false) :
    Calls Tryz.prog 29 #[.int .i64 i, .pointer (some ⟨bs, 0, none⟩)] w (BecEnd s i w) := by
  have hsz : s.data.toList.length = s.size := by simp
  obtain ⟨d5, d6, hr⟩ := other_facts hk hl
  by_cases hn : i + 1 < s.size
  · have hsl2 := letters_any w ((s[i]).toNat : Int) ((s[i + 1]).toNat : Int) (byte_bd _)
    have hgd : s.data.toList.getD (i + 1) 0 = s[i + 1] := getD_byte s (i + 1) hn
    have hf : Hid (bec s.data.toList i = if let2 ((s[i]).toNat : Int) ((s[i + 1]).toNat : Int) ≠ [] then (let2 ((s[i]).toNat : Int) ((s[i + 1]).toNat : Int), 2) else ([], 1)) := by
      show bec s.data.toList i = _
      unfold bec
      rw [getD_byte s i hi]
      simp only [hk, hl, hgd, hsz, hn, Bool.false_eq_true, if_false, true_and]
    have dn : decide ((i : Int) + 1 < (s.size : Int)) = true := decide_eq_true (by omega)
    clear hk hl hgd
    generalize hL : let2 ((s[i]).toNat : Int) ((s[i + 1]).toNat : Int) = L at hf hsl2
    have HL := Lib.hid hL
    clear hL
    obtain ⟨lb, hlb⟩ : ∃ lb : ByteArray, lb = ⟨L.toArray⟩ := ⟨_, rfl⟩
    have hlt : lb.toList = L := by rw [hlb, ByteArray.toList_eq]
    rw [← hlb] at hsl2
    have Hlb := Lib.hid hlb
    have Hsl2 := Lib.hid hsl2
    clear hlb hsl2
    have hr1 : Hid (L = [] → bec s.data.toList i = ([], 1)) := fun h => by rw [hf.out, if_neg (by simp [h])]
    have hr2 : Hid (L ≠ [] → bec s.data.toList i = (L, 2)) := fun h => by rw [hf.out, if_pos h]
    clear hf
    have hd : ∃ b1 b2 b3 b4 b7 b8 : Bool, decide (65 ≤ ((s[i]).toNat : Int)) = b1 ∧ decide (((s[i]).toNat : Int) ≤ 90) = b2 ∧ decide (48 ≤ ((s[i]).toNat : Int)) = b3 ∧ decide (((s[i]).toNat : Int) ≤ 57) = b4 ∧
        decide (97 ≤ ((s[i]).toNat : Int)) = b7 ∧ decide (((s[i]).toNat : Int) ≤ 122) = b8 ∧ ((b1 = false ∧ b3 = false ∧ b7 = false) ∨ (b1 = false ∧ b3 = true ∧ b4 = false ∧ b7 = false) ∨ (b1 = true ∧ b2 = false ∧ b3 = true ∧ b4 = false ∧ b7 = false) ∨ (b1 = true ∧ b2 = false ∧ b3 = true ∧ b4 = false ∧ b7 = true ∧ b8 = false)) :=
      ⟨_, _, _, _, _, _, rfl, rfl, rfl, rfl, rfl, rfl, by simp only [decide_eq_false_iff_not, decide_eq_true_eq]; omega⟩
    obtain ⟨b1, b2, b3, b4, b7, b8, d1, d2, d3, d4, d7, d8, hb⟩ := hd
    clear hr
    by_cases h0 : L = []
    · have hfin := Lib.hid (hr1.out h0)
      have g0 : lb.toList = [] := by rw [hlt, h0]
      have g1 : lb.toList.isEmpty = true := by rw [g0]; rfl
      clear hlt h0
      rcases hb with ⟨rfl, rfl, rfl⟩ | ⟨rfl, rfl, rfl, rfl⟩ | ⟨rfl, rfl, rfl, rfl, rfl⟩ | ⟨rfl, rfl, rfl, rfl, rfl, rfl⟩
      all_goals
        go_enter Tryz.func29, Tryz.ntmps29
        go_wp2_with (go_at_call 30; refine Hsl2.out.mono ?_; rintro e w' ⟨rfl, rfl⟩)
        go_ret2
        exact bec_end hfin.out
    · have hfin := Lib.hid (hr2.out h0)
      have g0 : ¬ lb.toList = [] := by rw [hlt]; exact h0
      have g1 : lb.toList.isEmpty = false := by rw [List.isEmpty_eq_false_iff]; exact g0
      clear hlt h0
      rcases hb with ⟨rfl, rfl, rfl⟩ | ⟨rfl, rfl, rfl, rfl⟩ | ⟨rfl, rfl, rfl, rfl, rfl⟩ | ⟨rfl, rfl, rfl, rfl, rfl, rfl⟩
      all_goals
        go_enter Tryz.func29, Tryz.ntmps29
        go_wp2_with (go_at_call 30; refine Hsl2.out.mono ?_; rintro e w' ⟨rfl, rfl⟩)
        go_ret2
        rw [Hlb.out]
        exact bec_end hfin.out
  · have hf : Hid (bec s.data.toList i = ([], 1)) := by
      show bec s.data.toList i = _
      unfold bec
      rw [getD_byte s i hi]
      simp only [hk, hl, hsz, hn, Bool.false_eq_true, if_false, false_and]
    have dn : decide ((i : Int) + 1 < (s.size : Int)) = false := decide_eq_false (by omega)
    clear hk hl
    have hd : ∃ b1 b2 b3 b4 b7 b8 : Bool, decide (65 ≤ ((s[i]).toNat : Int)) = b1 ∧ decide (((s[i]).toNat : Int) ≤ 90) = b2 ∧ decide (48 ≤ ((s[i]).toNat : Int)) = b3 ∧ decide (((s[i]).toNat : Int) ≤ 57) = b4 ∧
        decide (97 ≤ ((s[i]).toNat : Int)) = b7 ∧ decide (((s[i]).toNat : Int) ≤ 122) = b8 ∧ ((b1 = false ∧ b3 = false ∧ b7 = false) ∨ (b1 = false ∧ b3 = true ∧ b4 = false ∧ b7 = false) ∨ (b1 = true ∧ b2 = false ∧ b3 = true ∧ b4 = false ∧ b7 = false) ∨ (b1 = true ∧ b2 = false ∧ b3 = true ∧ b4 = false ∧ b7 = true ∧ b8 = false)) :=
      ⟨_, _, _, _, _, _, rfl, rfl, rfl, rfl, rfl, rfl, by simp only [decide_eq_false_iff_not, decide_eq_true_eq]; omega⟩
    obtain ⟨b1, b2, b3, b4, b7, b8, d1, d2, d3, d4, d7, d8, hb⟩ := hd
    clear hr
    rcases hb with ⟨rfl, rfl, rfl⟩ | ⟨rfl, rfl, rfl, rfl⟩ | ⟨rfl, rfl, rfl, rfl, rfl⟩ | ⟨rfl, rfl, rfl, rfl, rfl, rfl⟩
    all_goals
      go_enter Tryz.func29, Tryz.ntmps29
      go_wp2_with fail
      go_ret2
      exact bec_end hf.out

include hs hi in
theorem becomes_any : Calls Tryz.prog 29 #[.int .i64 i, .pointer (some ⟨bs, 0, none⟩)] w (BecEnd s i w) := by
  cases hk : keptB ((s[i]).toNat : Int) with
  | true => exact becomes_kept w bs s i hi hs hc hk
  | false =>
    cases hl : lowB ((s[i]).toNat : Int) with
    | true =>
      unfold lowB at hl
      simp only [Bool.and_eq_true, decide_eq_true_eq] at hl
      exact becomes_low w bs s i hi hc hl.1 hl.2
    | false => exact becomes_other w bs s i hi hs hc hk hl
end
end Go.Proofs.YthpjkfcaabhdhaaGreat
