/-
  'fold.Words' returns the words of the text.
-/
import Derived.Test.YthpjkfcaabhdhaaGreatWordsL
namespace Go.Proofs.YthpjkfcaabhdhaaGreat
open Go.RowKit

def Rw11 (s : ByteArray) (w : World) (u3 u4 u5 : Value) (wr : World) : Prop :=
  ∃ (i start : Nat) (ws : List (List UInt8)) (ao : Option Addr) (n cap : Nat), i ≤ s.size + 1 ∧ u3 = .slice ao n cap ∧ u4 = .int .i64 start ∧ u5 = .int .i64 i ∧ Own w.heap.size wr ao n cap (ws.map toB) ∧
    WAt s.data.toList i start ws ∧ Below w.heap.size w wr

set_option maxRecDepth 1000000 in
set_option maxHeartbeats 1000000 in
theorem WordsOf_any (w : World) (s : ByteArray) (hs : s.size ≤ 1000000) :
    Calls Tryz.prog 11 #[.string s] w fun e w' => ∃ ao n cap, e = .returned (.slice ao n cap) ∧ Own w.heap.size w' ao n cap (wordsB s.data.toList) ∧ Below w.heap.size w w' := by
  have Hsz : Hid (s.data.toList.length = s.size) := by show _ = _; simp
  obtain ⟨i0, hi0, hz0, hz1, hz2⟩ := info_parts info9
  have hb0 := Below.refl w.heap.size w
  go_enter Tryz.func11, Tryz.ntmps11
  go_wp2_with fail
  go_loopw [3, 4, 5] (Rw11 s w) (fun _ _ u5 _ => s.size + 1 - (intOf u5).toNat)
  case atStart => exact ⟨0, 0, [], none, 0, 0, by omega, rfl, rfl, rfl, ⟨⟨Sl.nil _ _ _ _ _, rfl⟩, fun g hg => by simp [rowOf] at hg⟩, WAt.zero _, hb0⟩
  case round =>
    clear hb0
    obtain ⟨i, start, ws, ao, n, cap, hi, rfl, rfl, rfl, hown, hw, hb⟩ := hrel
    have hB := hb.size
    have Hlen := Lib.hid hown.strs.len
    have hn : n ≤ i := by have h1 := hw.len (by rw [Hsz.out]; exact hi); have h2 := Hlen.out; rw [List.length_map] at h2; omega
    have hsi := hw.1
    by_cases hlt : i < s.size
    · have dle : decide ((i : Int) ≤ (s.size : Int)) = true := decide_eq_true (by omega)
      have Hg : Hid (s.data.toList.getD i 0 = s[i]) := getD_byte s i hlt
      by_cases hx : ((s[i]).toNat : Int) = 32
      · have hx0 : s.data.toList.getD i 0 = 32 := by rw [Hg.out]; exact UInt8.toNat_inj.1 (by simpa using (by omega : (s[i]).toNat = 32))
        have dl : decide ((i : Int) < (s.size : Int)) = true := decide_eq_true (by omega)
        have db : (((s[i]).toNat : Int) != 32) = false := by rw [bne_eq_false_iff_eq]; exact hx
        have Hn : Hid (WAt s.data.toList (i + 1) (i + 1) (if start < i then ws ++ [(s.data.toList.take i).drop start] else ws)) := hw.blank (by rw [Hsz.out]; omega) (.inr hx0)
        clear hx hx0
        by_cases hlt2 : start < i
        · have dgt : decide ((start : Int) < (i : Int)) = true := decide_eq_true (by omega)
          have hsl : ∀ w, (Instr.slice 9 (.string s) (some (.int .i64 (start : Int))) (some (.int .i64 (i : Int))) none).run Tryz.prog w = .ok (.string (toB ((s.data.toList.take i).drop start))) w := fun w => by
            rw [run_slice_string w 9 s .i64 .i64 start i Tryz.underlying9 (by omega) (by omega) (by omega)]
            rw [Int.toNat_natCast, Int.toNat_natCast, extract_list]
          have Hm : Hid (WAt s.data.toList (i + 1) (i + 1) (ws ++ [(s.data.toList.take i).drop start])) := by have := Hn.out; rw [if_pos hlt2] at this; exact this
          clear Hn hw
          generalize (s.data.toList.take i).drop start = cur at hsl Hm
          obtain ⟨cb, hcb⟩ : ∃ cb : ByteArray, cb = toB cur := ⟨_, rfl⟩
          rw [← hcb] at hsl
          have Hcb := Lib.hid hcb
          clear hcb
          go_wp2_with (at_builtin; refine wpList_append_sl _ rfl (.tmp 25) (.tmp 30) 25 rfl 9 i0 _ 1 16 Tryz.underlying25 hi0 hz0 hz1 hz2 rfl rfl (hown.strs.sl.alloc _) ⟨_, 0, none⟩ 1 1 [.string cb] rfl rfl (cell_one_at _ _ _ _ rfl) (str_one _) (by unfold maxLen; omega) (by omega) ?_)
          intro ao2 cap2 w2 hap
          have hown' : Own w.heap.size (wr.alloc (.cells #[.string cb] 9)) ao n cap (ws.map toB) := ⟨⟨hown.strs.sl.alloc _, Hlen.out⟩, hown.row⟩
          have hB2 : w.heap.size ≤ (wr.alloc (.cells #[.string cb] 9)).heap.size := by simp; omega
          have hown2 := strs_snoc (w1 := w2) (ao' := ao2) (cap' := cap2) (x := cb) hown' hB2 (by simpa only [List.getElem?_map] using hap)
          have hb2 := strs_grown hown' hB2 (hb.alloc hB _) hap
          clear hap hown hown' hsl
          go_wp2_with fail
          go_roundw
          case rel => exact ⟨i + 1, i + 1, ws ++ [cur], ao2, n + 1, cap2, by omega, rfl, by go_num, by go_num, by rw [List.map_append, List.map_cons, List.map_nil, ← Hcb.out]; exact hown2, Hm.out, hb2⟩
          case measure => simp [intOf] <;> omega
        · have dgt : decide ((start : Int) < (i : Int)) = false := decide_eq_false (by omega)
          have Hm : Hid (WAt s.data.toList (i + 1) (i + 1) ws) := by have := Hn.out; rw [if_neg hlt2] at this; exact this
          clear Hn hw
          go_wp2_with fail
          go_roundw
          case rel => exact ⟨i + 1, i + 1, ws, ao, n, cap, by omega, rfl, by go_num, by go_num, hown, Hm.out, hb⟩
          case measure => simp [intOf] <;> omega
      · have hx0 : s.data.toList.getD i 0 ≠ 32 := by rw [Hg.out]; intro h; rw [h] at hx; exact hx rfl
        have dl : decide ((i : Int) < (s.size : Int)) = true := decide_eq_true (by omega)
        have db : (((s[i]).toNat : Int) != 32) = true := by rw [bne_iff_ne]; exact hx
        have Hm : Hid (WAt s.data.toList (i + 1) start ws) := hw.letter (by rw [Hsz.out]; exact hlt) hx0
        clear hx hx0 hw
        go_wp2_with fail
        go_roundw
        case rel => exact ⟨i + 1, start, ws, ao, n, cap, by omega, rfl, rfl, by go_num, hown, Hm.out, hb⟩
        case measure => simp [intOf] <;> omega
    · by_cases he : i = s.size
      · subst he
        have dle : decide ((s.size : Int) ≤ (s.size : Int)) = true := decide_eq_true (by omega)
        have dl : decide ((s.size : Int) < (s.size : Int)) = false := decide_eq_false (by omega)
        have Hn : Hid (WAt s.data.toList (s.size + 1) (s.size + 1) (if start < s.size then ws ++ [(s.data.toList.take s.size).drop start] else ws)) := hw.blank (by rw [Hsz.out]; omega) (.inl Hsz.out.symm)
        by_cases hlt2 : start < s.size
        · have dgt : decide ((start : Int) < (s.size : Int)) = true := decide_eq_true (by omega)
          have hsl : ∀ w, (Instr.slice 9 (.string s) (some (.int .i64 (start : Int))) (some (.int .i64 (s.size : Int))) none).run Tryz.prog w = .ok (.string (toB ((s.data.toList.take s.size).drop start))) w := fun w => by
            rw [run_slice_string w 9 s .i64 .i64 start s.size Tryz.underlying9 (by omega) (by omega) (by omega)]
            rw [Int.toNat_natCast, Int.toNat_natCast, extract_list]
          have Hm : Hid (WAt s.data.toList (s.size + 1) (s.size + 1) (ws ++ [(s.data.toList.take s.size).drop start])) := by have := Hn.out; rw [if_pos hlt2] at this; exact this
          clear Hn hw
          generalize (s.data.toList.take s.size).drop start = cur at hsl Hm
          obtain ⟨cb, hcb⟩ : ∃ cb : ByteArray, cb = toB cur := ⟨_, rfl⟩
          rw [← hcb] at hsl
          have Hcb := Lib.hid hcb
          clear hcb
          go_wp2_with (at_builtin; refine wpList_append_sl _ rfl (.tmp 25) (.tmp 30) 25 rfl 9 i0 _ 1 16 Tryz.underlying25 hi0 hz0 hz1 hz2 rfl rfl (hown.strs.sl.alloc _) ⟨_, 0, none⟩ 1 1 [.string cb] rfl rfl (cell_one_at _ _ _ _ rfl) (str_one _) (by unfold maxLen; omega) (by omega) ?_)
          intro ao2 cap2 w2 hap
          have hown' : Own w.heap.size (wr.alloc (.cells #[.string cb] 9)) ao n cap (ws.map toB) := ⟨⟨hown.strs.sl.alloc _, Hlen.out⟩, hown.row⟩
          have hB2 : w.heap.size ≤ (wr.alloc (.cells #[.string cb] 9)).heap.size := by simp; omega
          have hown2 := strs_snoc (w1 := w2) (ao' := ao2) (cap' := cap2) (x := cb) hown' hB2 (by simpa only [List.getElem?_map] using hap)
          have hb2 := strs_grown hown' hB2 (hb.alloc hB _) hap
          clear hap hown hown' hsl
          go_wp2_with fail
          go_roundw
          case rel => exact ⟨s.size + 1, s.size + 1, ws ++ [cur], ao2, n + 1, cap2, by omega, rfl, by go_num, by go_num, by rw [List.map_append, List.map_cons, List.map_nil, ← Hcb.out]; exact hown2, Hm.out, hb2⟩
          case measure => simp [intOf] <;> omega
        · have dgt : decide ((start : Int) < (s.size : Int)) = false := decide_eq_false (by omega)
          have Hm : Hid (WAt s.data.toList (s.size + 1) (s.size + 1) ws) := by have := Hn.out; rw [if_neg hlt2] at this; exact this
          clear Hn hw
          go_wp2_with fail
          go_roundw
          case rel => exact ⟨s.size + 1, s.size + 1, ws, ao, n, cap, by omega, rfl, by go_num, by go_num, hown, Hm.out, hb⟩
          case measure => simp [intOf] <;> omega
      · obtain rfl : i = s.size + 1 := by omega
        have dle : decide (((s.size + 1 : Nat) : Int) ≤ (s.size : Int)) = false := decide_eq_false (by omega)
        have Hl : Hid (ws = wordsL s.data.toList) := by
          have h := hw
          rw [← Hsz.out] at h
          exact h.last
        clear hw
        go_wp2_with fail
        go_ret
        refine ⟨ao, n, cap, rfl, ?_, hb⟩
        unfold wordsB
        rw [← Hl.out]
        exact hown
end Go.Proofs.YthpjkfcaabhdhaaGreat
