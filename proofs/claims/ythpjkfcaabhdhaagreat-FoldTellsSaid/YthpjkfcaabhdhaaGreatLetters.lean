/-
  'letters': the capital letters of two bytes.
-/
import Derived.Test.YthpjkfcaabhdhaaGreatProg
import Derived.WalkKit
import Derived.Lib.Hide
namespace Go.Proofs.YthpjkfcaabhdhaaGreat
open Go.RowKit

/-- The letters of a byte behind 195, from 128 on, the small letters moved to the capital ones. -/
def letS (s : Int) : List UInt8 :=
  if s = 128 ∨ s = 129 ∨ s = 130 ∨ s = 131 ∨ s = 133 then [65]
  else if s = 132 ∨ s = 134 then [65, 69]
  else if s = 135 then [67]
  else if s = 136 ∨ s = 137 ∨ s = 138 ∨ s = 139 then [69]
  else if s = 140 ∨ s = 141 ∨ s = 142 ∨ s = 143 then [73]
  else if s = 144 then [68]
  else if s = 145 then [78]
  else if s = 146 ∨ s = 147 ∨ s = 148 ∨ s = 149 ∨ s = 152 then [79]
  else if s = 150 then [79, 69]
  else if s = 153 ∨ s = 154 ∨ s = 155 then [85]
  else if s = 156 then [85, 69]
  else if s = 157 then [89]
  else if s = 158 then [84, 72]
  else []
def let2 (f s : Int) : List UInt8 :=
  if f = 197 then (if s = 146 ∨ s = 147 then [79, 69] else if s = 160 ∨ s = 161 then [83] else if s = 189 ∨ s = 190 then [90] else [])
  else if f ≠ 195 then []
  else if s = 159 then [83, 83]
  else if s = 191 then [89]
  else if 160 ≤ s ∧ s ≤ 190 then letS (s - 32)
  else letS s

theorem ret_str {a b : List UInt8} (h : a = b) : Ending.returned (.string ⟨a.toArray⟩) = Ending.returned (.string ⟨b.toArray⟩) := by rw [h]

set_option maxRecDepth 1000000 in
set_option maxHeartbeats 1000000 in
theorem letters_197 (w : World) (s : Int) :
    Calls Tryz.prog 30 #[.int .u8 197, .int .u8 s] w fun e w' => e = .returned (.string ⟨(let2 197 s).toArray⟩) ∧ w = w' := by
  go_enter Tryz.func30, Tryz.ntmps30
  go_wp2_with fail
  all_goals
    go_ret
    first
      | exact ⟨ret_str (a := [79, 69]) (by simp_all [let2]), rfl⟩
      | exact ⟨ret_str (a := [83]) (by simp_all [let2]), rfl⟩
      | exact ⟨ret_str (a := [90]) (by simp_all [let2]), rfl⟩
      | exact ⟨ret_str (a := []) (by simp_all [let2]), rfl⟩

set_option maxRecDepth 1000000 in
set_option maxHeartbeats 1000000 in
theorem letters_other (w : World) (f s : Int) (h1 : f ≠ 197) (h2 : f ≠ 195) :
    Calls Tryz.prog 30 #[.int .u8 f, .int .u8 s] w fun e w' => e = .returned (.string ⟨(let2 f s).toArray⟩) ∧ w = w' := by
  have hv : Hid (let2 f s = []) := by show let2 f s = []; unfold let2; rw [if_neg h1, if_pos h2]
  have e1 : (f == 197) = false := beq_eq_false_iff_ne.2 h1
  have e2 : (f == 195) = false := beq_eq_false_iff_ne.2 h2
  have e3 : (f != 195) = true := by rw [bne_iff_ne]; exact h2
  clear h1 h2
  go_enter Tryz.func30, Tryz.ntmps30
  go_wp2_with fail
  go_ret
  rw [hv.out]
  exact ⟨rfl, rfl⟩

set_option maxRecDepth 1000000 in
set_option maxHeartbeats 4000000 in
theorem letters_small (w : World) (s : Int) (h1 : 160 ≤ s) (h2 : s ≤ 190) :
    Calls Tryz.prog 30 #[.int .u8 195, .int .u8 s] w fun e w' => e = .returned (.string ⟨(let2 195 s).toArray⟩) ∧ w = w' := by
  have h : s = 160 ∨ s = 161 ∨ s = 162 ∨ s = 163 ∨ s = 164 ∨ s = 165 ∨ s = 166 ∨ s = 167 ∨ s = 168 ∨ s = 169 ∨ s = 170 ∨ s = 171 ∨ s = 172 ∨ s = 173 ∨ s = 174 ∨ s = 175 ∨ s = 176 ∨ s = 177 ∨ s = 178 ∨ s = 179 ∨ s = 180 ∨ s = 181 ∨ s = 182 ∨ s = 183 ∨ s = 184 ∨ s = 185 ∨ s = 186 ∨ s = 187 ∨ s = 188 ∨ s = 189 ∨ s = 190 := by omega
  clear h1 h2
  rcases h with rfl | rfl | rfl | rfl | rfl | rfl | rfl | rfl | rfl | rfl | rfl | rfl | rfl | rfl | rfl | rfl | rfl | rfl | rfl | rfl | rfl | rfl | rfl | rfl | rfl | rfl | rfl | rfl | rfl | rfl | rfl
  all_goals
    go_enter Tryz.func30, Tryz.ntmps30
    go_wp2_with fail
    go_ret
    exact ⟨rfl, rfl⟩
set_option maxRecDepth 1000000 in
set_option maxHeartbeats 4000000 in
theorem letters_big (w : World) (s : Int) (h1 : 128 ≤ s) (h2 : s ≤ 158) :
    Calls Tryz.prog 30 #[.int .u8 195, .int .u8 s] w fun e w' => e = .returned (.string ⟨(let2 195 s).toArray⟩) ∧ w = w' := by
  have h : s = 128 ∨ s = 129 ∨ s = 130 ∨ s = 131 ∨ s = 132 ∨ s = 133 ∨ s = 134 ∨ s = 135 ∨ s = 136 ∨ s = 137 ∨ s = 138 ∨ s = 139 ∨ s = 140 ∨ s = 141 ∨ s = 142 ∨ s = 143 ∨ s = 144 ∨ s = 145 ∨ s = 146 ∨ s = 147 ∨ s = 148 ∨ s = 149 ∨ s = 150 ∨ s = 151 ∨ s = 152 ∨ s = 153 ∨ s = 154 ∨ s = 155 ∨ s = 156 ∨ s = 157 ∨ s = 158 := by omega
  clear h1 h2
  rcases h with rfl | rfl | rfl | rfl | rfl | rfl | rfl | rfl | rfl | rfl | rfl | rfl | rfl | rfl | rfl | rfl | rfl | rfl | rfl | rfl | rfl | rfl | rfl | rfl | rfl | rfl | rfl | rfl | rfl | rfl | rfl
  all_goals
    go_enter Tryz.func30, Tryz.ntmps30
    go_wp2_with fail
    go_ret
    exact ⟨rfl, rfl⟩
set_option maxRecDepth 1000000 in
set_option maxHeartbeats 4000000 in
theorem letters_none (w : World) (s : Int) (hs : s < 128 ∨ 191 < s) (hb : 0 ≤ s ∧ s ≤ 255) :
    Calls Tryz.prog 30 #[.int .u8 195, .int .u8 s] w fun e w' => e = .returned (.string ⟨(let2 195 s).toArray⟩) ∧ w = w' := by
  have Hv : Hid (let2 195 s = []) := by
    show let2 195 s = _
    unfold let2 letS
    repeat rw [if_neg (by omega)]
  have n128 : (s == 128) = false := beq_eq_false_iff_ne.2 (by omega)
  have n129 : (s == 129) = false := beq_eq_false_iff_ne.2 (by omega)
  have n130 : (s == 130) = false := beq_eq_false_iff_ne.2 (by omega)
  have n131 : (s == 131) = false := beq_eq_false_iff_ne.2 (by omega)
  have n132 : (s == 132) = false := beq_eq_false_iff_ne.2 (by omega)
  have n133 : (s == 133) = false := beq_eq_false_iff_ne.2 (by omega)
  have n134 : (s == 134) = false := beq_eq_false_iff_ne.2 (by omega)
  have n135 : (s == 135) = false := beq_eq_false_iff_ne.2 (by omega)
  have n136 : (s == 136) = false := beq_eq_false_iff_ne.2 (by omega)
  have n137 : (s == 137) = false := beq_eq_false_iff_ne.2 (by omega)
  have n138 : (s == 138) = false := beq_eq_false_iff_ne.2 (by omega)
  have n139 : (s == 139) = false := beq_eq_false_iff_ne.2 (by omega)
  have n140 : (s == 140) = false := beq_eq_false_iff_ne.2 (by omega)
  have n141 : (s == 141) = false := beq_eq_false_iff_ne.2 (by omega)
  have n142 : (s == 142) = false := beq_eq_false_iff_ne.2 (by omega)
  have n143 : (s == 143) = false := beq_eq_false_iff_ne.2 (by omega)
  have n144 : (s == 144) = false := beq_eq_false_iff_ne.2 (by omega)
  have n145 : (s == 145) = false := beq_eq_false_iff_ne.2 (by omega)
  have n146 : (s == 146) = false := beq_eq_false_iff_ne.2 (by omega)
  have n147 : (s == 147) = false := beq_eq_false_iff_ne.2 (by omega)
  have n148 : (s == 148) = false := beq_eq_false_iff_ne.2 (by omega)
  have n149 : (s == 149) = false := beq_eq_false_iff_ne.2 (by omega)
  have n150 : (s == 150) = false := beq_eq_false_iff_ne.2 (by omega)
  have n151 : (s == 151) = false := beq_eq_false_iff_ne.2 (by omega)
  have n152 : (s == 152) = false := beq_eq_false_iff_ne.2 (by omega)
  have n153 : (s == 153) = false := beq_eq_false_iff_ne.2 (by omega)
  have n154 : (s == 154) = false := beq_eq_false_iff_ne.2 (by omega)
  have n155 : (s == 155) = false := beq_eq_false_iff_ne.2 (by omega)
  have n156 : (s == 156) = false := beq_eq_false_iff_ne.2 (by omega)
  have n157 : (s == 157) = false := beq_eq_false_iff_ne.2 (by omega)
  have n158 : (s == 158) = false := beq_eq_false_iff_ne.2 (by omega)
  have n159 : (s == 159) = false := beq_eq_false_iff_ne.2 (by omega)
  have n191 : (s == 191) = false := beq_eq_false_iff_ne.2 (by omega)
  obtain ⟨hb1, hb2⟩ := hb
  rcases hs with hs | hs
  · have d1 : decide (160 ≤ s) = false := decide_eq_false (by omega)
    go_enter Tryz.func30, Tryz.ntmps30
    go_wp2_with fail
    go_ret
    rw [Hv.out]
    exact ⟨rfl, rfl⟩
  · have d1 : decide (160 ≤ s) = true := decide_eq_true (by omega)
    have d2 : decide (s ≤ 190) = false := decide_eq_false (by omega)
    go_enter Tryz.func30, Tryz.ntmps30
    go_wp2_with fail
    go_ret
    rw [Hv.out]
    exact ⟨rfl, rfl⟩

set_option maxRecDepth 1000000 in
set_option maxHeartbeats 1000000 in
theorem letters_159 (w : World) : Calls Tryz.prog 30 #[.int .u8 195, .int .u8 159] w fun e w' => e = .returned (.string ⟨(let2 195 159).toArray⟩) ∧ w = w' := by
  go_enter Tryz.func30, Tryz.ntmps30
  go_wp2_with fail
  go_ret
  exact ⟨rfl, rfl⟩
set_option maxRecDepth 1000000 in
set_option maxHeartbeats 1000000 in
theorem letters_191 (w : World) : Calls Tryz.prog 30 #[.int .u8 195, .int .u8 191] w fun e w' => e = .returned (.string ⟨(let2 195 191).toArray⟩) ∧ w = w' := by
  go_enter Tryz.func30, Tryz.ntmps30
  go_wp2_with fail
  go_ret
  exact ⟨rfl, rfl⟩

theorem letters_any (w : World) (f s : Int) (hs : 0 ≤ s ∧ s ≤ 255) :
    Calls Tryz.prog 30 #[.int .u8 f, .int .u8 s] w fun e w' => e = .returned (.string ⟨(let2 f s).toArray⟩) ∧ w = w' := by
  by_cases h1 : f = 197
  · subst h1; exact letters_197 w s
  by_cases h2 : f = 195
  · subst h2
    by_cases h3 : s = 159
    · subst h3; exact letters_159 w
    by_cases h4 : s = 191
    · subst h4; exact letters_191 w
    by_cases h5 : 160 ≤ s ∧ s ≤ 190
    · exact letters_small w s h5.1 h5.2
    by_cases h6 : 128 ≤ s ∧ s ≤ 158
    · exact letters_big w s h6.1 h6.2
    · exact letters_none w s (by omega) hs
  · exact letters_other w f s h1 h2
end Go.Proofs.YthpjkfcaabhdhaaGreat
