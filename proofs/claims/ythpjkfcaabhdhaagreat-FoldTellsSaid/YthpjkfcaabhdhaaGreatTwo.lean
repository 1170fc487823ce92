/-
  The reference's 'Two' and 'kept'.
-/
import Derived.Test.YthpjkfcaabhdhaaGreatWordsL
namespace Go.Proofs.YthpjkfcaabhdhaaGreat
open Go.RowKit

def twoL (l : List UInt8) (i : Nat) : List UInt8 := if i + 1 < l.length then let2 ((l.getD i 0).toNat : Int) ((l.getD (i + 1) 0).toNat : Int) else []
def TwoEnd (s : ByteArray) (i : Nat) (w : World) (e : Ending) (w' : World) : Prop := e = .returned (.string ⟨(twoL s.data.toList i).toArray⟩) ∧ w = w'
theorem two_end {s : ByteArray} {i : Nat} {w : World} {l : List UInt8} (h : twoL s.data.toList i = l) : TwoEnd s i w (.returned (.string ⟨l.toArray⟩)) w := by
  unfold TwoEnd
  rw [h]
  exact ⟨rfl, rfl⟩
theorem twoL_at (s : ByteArray) (i : Nat) (hi : i + 1 < s.size) : twoL s.data.toList i = let2 ((s[i]'(by omega)).toNat : Int) ((s[i + 1]).toNat : Int) := by
  unfold twoL
  rw [if_pos (by simpa using hi), getD_byte s i (by omega), getD_byte s (i + 1) hi]

section
variable (w : World) (s : ByteArray) (i : Nat) (hs : s.size ≤ 1000000)
include hs

set_option maxRecDepth 1000000 in
set_option maxHeartbeats 1000000 in
theorem two_end_of (hi : i < s.size) (hn : ¬ i + 1 < s.size) : Calls Tryz.prog 69 #[.string s, .int .i64 i] w (TwoEnd s i w) := by
  have hv : Hid (twoL s.data.toList i = []) := by show _ = _; unfold twoL; rw [if_neg (by simpa using hn)]
  have d1 : decide ((s.size : Int) ≤ (i : Int) + 1) = true := decide_eq_true (by omega)
  go_enter Tryz.func69, Tryz.ntmps69
  go_wp2_with fail
  go_ret
  exact two_end hv.out

variable (hi : i + 1 < s.size)
include hi

set_option maxRecDepth 1000000 in
set_option maxHeartbeats 1000000 in
theorem two_other (h1 : ((s[i]'(by omega)).toNat : Int) ≠ 197) (h2 : ((s[i]'(by omega)).toNat : Int) ≠ 195) : Calls Tryz.prog 69 #[.string s, .int .i64 i] w (TwoEnd s i w) := by
  have hv : Hid (twoL s.data.toList i = []) := by show _ = _; rw [twoL_at s i hi]; unfold let2; rw [if_neg h1, if_pos h2]
  have d1 : decide ((s.size : Int) ≤ (i : Int) + 1) = false := decide_eq_false (by omega)
  have e1 : (((s[i]'(by omega)).toNat : Int) == 197) = false := beq_eq_false_iff_ne.2 h1
  have e3 : (((s[i]'(by omega)).toNat : Int) != 195) = true := by rw [bne_iff_ne]; exact h2
  clear h1 h2
  go_enter Tryz.func69, Tryz.ntmps69
  go_wp2_with fail
  go_ret
  exact two_end hv.out

set_option maxRecDepth 1000000 in
set_option maxHeartbeats 1000000 in
theorem two_197 (h1 : ((s[i]'(by omega)).toNat : Int) = 197) (x : Int) (hx : ((s[i + 1]).toNat : Int) = x) (hx0 : 0 ≤ x) (hx1 : x ≤ 255) : Calls Tryz.prog 69 #[.string s, .int .i64 i] w (TwoEnd s i w) := by
  have hv : Hid (twoL s.data.toList i = let2 197 x) := by show _ = _; rw [twoL_at s i hi, h1, hx]
  have d1 : decide ((s.size : Int) ≤ (i : Int) + 1) = false := decide_eq_false (by omega)
  have e1 : (((s[i]'(by omega)).toNat : Int) == 197) = true := beq_iff_eq.2 h1
  clear h1
  have h6 : x = 146 ∨ x = 147 ∨ x = 160 ∨ x = 161 ∨ x = 189 ∨ x = 190 ∨ (x ≠ 146 ∧ x ≠ 147 ∧ x ≠ 160 ∧ x ≠ 161 ∧ x ≠ 189 ∧ x ≠ 190) := by omega
  rcases h6 with rfl | rfl | rfl | rfl | rfl | rfl | ⟨n1, n2, n3, n4, n5, n6⟩
  all_goals first
    | (go_enter Tryz.func69, Tryz.ntmps69
       go_wp2_with fail
       go_ret
       exact two_end hv.out)
    | skip
  have hv2 : Hid (twoL s.data.toList i = []) := by show _ = _; rw [hv.out]; unfold let2; simp [n1, n2, n3, n4, n5, n6]
  have m1 : (x == 146) = false := beq_eq_false_iff_ne.2 n1
  have m2 : (x == 147) = false := beq_eq_false_iff_ne.2 n2
  have m3 : (x == 160) = false := beq_eq_false_iff_ne.2 n3
  have m4 : (x == 161) = false := beq_eq_false_iff_ne.2 n4
  have m5 : (x == 189) = false := beq_eq_false_iff_ne.2 n5
  have m6 : (x == 190) = false := beq_eq_false_iff_ne.2 n6

  go_enter Tryz.func69, Tryz.ntmps69
  go_wp2_with fail
  go_ret
  exact two_end hv2.out

set_option maxRecDepth 1000000 in
set_option maxHeartbeats 4000000 in
theorem two_195a (h1 : ((s[i]'(by omega)).toNat : Int) = 195) (x : Int) (hx : ((s[i + 1]).toNat : Int) = x) (hx0 : 0 ≤ x) (hx1 : x ≤ 255) (ha : 128 ≤ x) (hb : x < 160) : Calls Tryz.prog 69 #[.string s, .int .i64 i] w (TwoEnd s i w) := by
  have hv : Hid (twoL s.data.toList i = let2 195 x) := by show _ = _; rw [twoL_at s i hi, h1, hx]
  have d1 : decide ((s.size : Int) ≤ (i : Int) + 1) = false := decide_eq_false (by omega)
  have e1 : (((s[i]'(by omega)).toNat : Int) == 197) = false := beq_eq_false_iff_ne.2 (by omega)
  have e3 : (((s[i]'(by omega)).toNat : Int) != 195) = false := by rw [bne_eq_false_iff_eq]; exact h1
  have h : x = 128 ∨ x = 129 ∨ x = 130 ∨ x = 131 ∨ x = 132 ∨ x = 133 ∨ x = 134 ∨ x = 135 ∨ x = 136 ∨ x = 137 ∨ x = 138 ∨ x = 139 ∨ x = 140 ∨ x = 141 ∨ x = 142 ∨ x = 143 ∨ x = 144 ∨ x = 145 ∨ x = 146 ∨ x = 147 ∨ x = 148 ∨ x = 149 ∨ x = 150 ∨ x = 151 ∨ x = 152 ∨ x = 153 ∨ x = 154 ∨ x = 155 ∨ x = 156 ∨ x = 157 ∨ x = 158 ∨ x = 159 := by omega
  clear h1 ha hb hx0 hx1
  rcases h with rfl | rfl | rfl | rfl | rfl | rfl | rfl | rfl | rfl | rfl | rfl | rfl | rfl | rfl | rfl | rfl | rfl | rfl | rfl | rfl | rfl | rfl | rfl | rfl | rfl | rfl | rfl | rfl | rfl | rfl | rfl | rfl
  all_goals
    go_enter Tryz.func69, Tryz.ntmps69
    go_wp2_with fail
    go_ret
    exact two_end hv.out

set_option maxRecDepth 1000000 in
set_option maxHeartbeats 4000000 in
theorem two_195b (h1 : ((s[i]'(by omega)).toNat : Int) = 195) (x : Int) (hx : ((s[i + 1]).toNat : Int) = x) (hx0 : 0 ≤ x) (hx1 : x ≤ 255) (ha : 160 ≤ x) (hb : x < 192) : Calls Tryz.prog 69 #[.string s, .int .i64 i] w (TwoEnd s i w) := by
  have hv : Hid (twoL s.data.toList i = let2 195 x) := by show _ = _; rw [twoL_at s i hi, h1, hx]
  have d1 : decide ((s.size : Int) ≤ (i : Int) + 1) = false := decide_eq_false (by omega)
  have e1 : (((s[i]'(by omega)).toNat : Int) == 197) = false := beq_eq_false_iff_ne.2 (by omega)
  have e3 : (((s[i]'(by omega)).toNat : Int) != 195) = false := by rw [bne_eq_false_iff_eq]; exact h1
  have h : x = 160 ∨ x = 161 ∨ x = 162 ∨ x = 163 ∨ x = 164 ∨ x = 165 ∨ x = 166 ∨ x = 167 ∨ x = 168 ∨ x = 169 ∨ x = 170 ∨ x = 171 ∨ x = 172 ∨ x = 173 ∨ x = 174 ∨ x = 175 ∨ x = 176 ∨ x = 177 ∨ x = 178 ∨ x = 179 ∨ x = 180 ∨ x = 181 ∨ x = 182 ∨ x = 183 ∨ x = 184 ∨ x = 185 ∨ x = 186 ∨ x = 187 ∨ x = 188 ∨ x = 189 ∨ x = 190 ∨ x = 191 := by omega
  clear h1 ha hb hx0 hx1
  rcases h with rfl | rfl | rfl | rfl | rfl | rfl | rfl | rfl | rfl | rfl | rfl | rfl | rfl | rfl | rfl | rfl | rfl | rfl | rfl | rfl | rfl | rfl | rfl | rfl | rfl | rfl | rfl | rfl | rfl | rfl | rfl | rfl
  all_goals
    go_enter Tryz.func69, Tryz.ntmps69
    go_wp2_with fail
    go_ret
    exact two_end hv.out

set_option maxRecDepth 1000000 in
set_option maxHeartbeats 1000000 in
theorem two_195c (h1 : ((s[i]'(by omega)).toNat : Int) = 195) (x : Int) (hx : ((s[i + 1]).toNat : Int) = x) (hx0 : 0 ≤ x) (hx1 : x ≤ 255) (hb : x < 128 ∨ 191 < x) : Calls Tryz.prog 69 #[.string s, .int .i64 i] w (TwoEnd s i w) := by
  have hv : Hid (twoL s.data.toList i = []) := by
    show _ = _
    rw [twoL_at s i hi, h1, hx]
    unfold let2 letS
    repeat rw [if_neg (by omega)]
  have d1 : decide ((s.size : Int) ≤ (i : Int) + 1) = false := decide_eq_false (by omega)
  have e1 : (((s[i]'(by omega)).toNat : Int) == 197) = false := beq_eq_false_iff_ne.2 (by omega)
  have e3 : (((s[i]'(by omega)).toNat : Int) != 195) = false := by rw [bne_eq_false_iff_eq]; exact h1
  clear h1
  rcases hb with hb | hb
  · have d2 : decide (x < 128) = true := decide_eq_true hb
    go_enter Tryz.func69, Tryz.ntmps69
    go_wp2_with fail
    go_ret
    exact two_end hv.out
  · have d2 : decide (x < 128) = false := decide_eq_false (by omega)
    have d3 : decide (191 < x) = true := decide_eq_true hb
    go_enter Tryz.func69, Tryz.ntmps69
    go_wp2_with fail
    go_ret
    exact two_end hv.out
end

theorem Two_any (w : World) (s : ByteArray) (i : Nat) (hi : i < s.size) (hs : s.size ≤ 1000000) : Calls Tryz.prog 69 #[.string s, .int .i64 i] w (TwoEnd s i w) := by
  by_cases hn : i + 1 < s.size
  · have hbd := byte_bd (s[i + 1])
    by_cases h1 : ((s[i]).toNat : Int) = 197
    · exact two_197 w s i hs hn h1 _ rfl hbd.1 hbd.2
    · by_cases h2 : ((s[i]).toNat : Int) = 195
      · by_cases ha : ((s[i + 1]).toNat : Int) < 128
        · exact two_195c w s i hs hn h2 _ rfl hbd.1 hbd.2 (.inl ha)
        · by_cases hb : ((s[i + 1]).toNat : Int) < 160
          · exact two_195a w s i hs hn h2 _ rfl hbd.1 hbd.2 (by omega) hb
          · by_cases hc : ((s[i + 1]).toNat : Int) < 192
            · exact two_195b w s i hs hn h2 _ rfl hbd.1 hbd.2 (by omega) hc
            · exact two_195c w s i hs hn h2 _ rfl hbd.1 hbd.2 (.inr (by omega))
      · exact two_other w s i hs hn h1 h2
  · exact two_end_of w s i hs hi hn

set_option maxRecDepth 1000000 in
set_option maxHeartbeats 1000000 in
theorem kept_any (w : World) (x : Int) : Calls Tryz.prog 70 #[.int .u8 x] w fun e w' => e = .returned (.bool (keptB x)) ∧ w = w' := by
  unfold keptB
  generalize h1 : decide (65 ≤ x) = b1
  generalize h2 : decide (x ≤ 90) = b2
  generalize h3 : decide (48 ≤ x) = b3
  generalize h4 : decide (x ≤ 57) = b4
  generalize h5 : (x == 45) = b5
  generalize h6 : (x == 47) = b6
  cases b1 <;> cases b2 <;> cases b3 <;> cases b4 <;> cases b5 <;> cases b6
  all_goals
    go_enter Tryz.func70, Tryz.ntmps70
    go_wp2_with fail
    go_ret
    exact ⟨rfl, rfl⟩
end Go.Proofs.YthpjkfcaabhdhaaGreat
