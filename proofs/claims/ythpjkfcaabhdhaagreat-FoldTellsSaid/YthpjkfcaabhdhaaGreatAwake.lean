/-
  'awake' of the law returns true.
-/
import Derived.Test.YthpjkfcaabhdhaaGreatAwakeV
namespace Go.Proofs.YthpjkfcaabhdhaaGreat
open Go.RowKit

theorem lit1 (w : World) (a : ByteArray) : Strs (w.alloc (.cells #[.string a] 9)) (some ⟨w.heap.size, 0, none⟩) 1 1 [a] :=
  ⟨Sl.new w 9 1 1 1 _ _ (Nat.le_refl _) (by unfold maxLen; omega) rfl (fun i hi => by
    obtain rfl : i = 0 := by omega
    rfl), rfl⟩
theorem lit2 (w : World) (a b : ByteArray) : Strs (w.alloc (.cells #[.string a, .string b] 9)) (some ⟨w.heap.size, 0, none⟩) 2 2 [a, b] :=
  ⟨Sl.new w 9 1 2 2 _ _ (Nat.le_refl _) (by unfold maxLen; omega) rfl (fun i hi => by
    have : i = 0 ∨ i = 1 := by omega
    rcases this with rfl | rfl <;> rfl), rfl⟩
theorem longsL_le' (kind : Int) (word : ByteArray) : (longsL kind word).length ≤ 1000000 := by
  have := longsL_le kind word
  omega
theorem fold_c0 (w : World) : Calls Tryz.prog 10 #[.string ⟨#[32, 49, 50, 45, 97, 32, 32, 82, 117, 101, 194, 160, 83, 116, 46, 32, 74, 101, 97, 110, 44]⟩] w fun e w' => e = .returned (.string ⟨#[49, 50, 45, 65, 32, 82, 85, 69, 32, 83, 84, 32, 74, 69, 65, 78]⟩) ∧ Below w.heap.size w w' := by
  refine (Fold_any w ⟨#[32, 49, 50, 45, 97, 32, 32, 82, 117, 101, 194, 160, 83, 116, 46, 32, 74, 101, 97, 110, 44]⟩ (by decide)).mono ?_
  rintro e w' ⟨rfl, h⟩
  rw [v1]
  exact ⟨rfl, h⟩
theorem fold_c1 (w : World) : Calls Tryz.prog 10 #[.string ⟨#[195, 132, 120, 195, 159]⟩] w fun e w' => e = .returned (.string ⟨#[65, 69, 88, 83, 83]⟩) ∧ Below w.heap.size w w' := by
  refine (Fold_any w ⟨#[195, 132, 120, 195, 159]⟩ (by decide)).mono ?_
  rintro e w' ⟨rfl, h⟩
  rw [v2]
  exact ⟨rfl, h⟩
theorem fold_c2 (w : World) : Calls Tryz.prog 10 #[.string ⟨#[195, 151]⟩] w fun e w' => e = .returned (.string ⟨#[]⟩) ∧ Below w.heap.size w w' := by
  refine (Fold_any w ⟨#[195, 151]⟩ (by decide)).mono ?_
  rintro e w' ⟨rfl, h⟩
  rw [v3]
  exact ⟨rfl, h⟩
theorem fold_c3 (w : World) : Calls Tryz.prog 10 #[.string ⟨#[195]⟩] w fun e w' => e = .returned (.string ⟨#[]⟩) ∧ Below w.heap.size w w' := by
  refine (Fold_any w ⟨#[195]⟩ (by decide)).mono ?_
  rintro e w' ⟨rfl, h⟩
  rw [v4]
  exact ⟨rfl, h⟩

set_option maxRecDepth 1000000 in
set_option maxHeartbeats 1000000 in
theorem awake_any (w : World) : Calls Tryz.prog 5 #[] w fun e w' => e = .returned (.bool true) ∧ Below w.heap.size w w' := by
  go_enter Tryz.func5, Tryz.ntmps5
  go_wp2_with fail
  refine (fold_c0 _).mono ?_
  rintro e w1 ⟨rfl, hb1⟩
  have hc1 : Below w.heap.size w w1 := hb1
  clear hb1
  go_wp2_with fail
  refine (fold_c1 _).mono ?_
  rintro e w2 ⟨rfl, hb2⟩
  have hc2 : Below w.heap.size w w2 := hc1.trans (hb2.mono hc1.size)
  clear hb2 hc1
  go_wp2_with fail
  refine (fold_c2 _).mono ?_
  rintro e w3 ⟨rfl, hb3⟩
  have hc3 : Below w.heap.size w w3 := hc2.trans (hb3.mono hc2.size)
  clear hb3 hc2
  go_wp2_with fail
  refine (fold_c3 _).mono ?_
  rintro e w4 ⟨rfl, hb4⟩
  have hc4 : Below w.heap.size w w4 := hc3.trans (hb4.mono hc3.size)
  clear hb4 hc3
  go_wp2_with fail
  refine (Short_any _ 2 ⟨#[65, 86, 69, 78, 85, 69]⟩).mono ?_
  rintro e w5 ⟨rfl, hb5⟩
  have hc5 : Below w.heap.size w w5 := hc4.trans (hb5.mono hc4.size)
  clear hb5 hc4
  rw [v5]
  go_wp2_with fail
  refine (Short_any _ 2 ⟨#[83, 84]⟩).mono ?_
  rintro e w6 ⟨rfl, hb6⟩
  have hc6 : Below w.heap.size w w6 := hc5.trans (hb6.mono hc5.size)
  clear hb6 hc5
  rw [v6]
  go_wp2_with fail
  refine (Kinds_any _ ⟨#[83, 84]⟩).mono ?_
  rintro e w7 ⟨rfl, hb7⟩
  have hc7 : Below w.heap.size w w7 := hc6.trans (hb7.mono hc6.size)
  clear hb7 hc6
  rw [v7]
  go_wp2_with fail
  refine (Kinds_any _ ⟨#[88]⟩).mono ?_
  rintro e w8 ⟨rfl, hb8⟩
  have hc8 : Below w.heap.size w w8 := hc7.trans (hb8.mono hc7.size)
  clear hb8 hc7
  rw [v8]
  go_wp2_with fail
  refine (Same_any _ 2 ⟨#[80, 76, 65, 84, 90]⟩ ⟨#[80, 76, 65, 67, 69]⟩).mono ?_
  rintro e w9 ⟨rfl, hb9⟩
  have hc9 : Below w.heap.size w w9 := hc8.trans (hb9.mono hc8.size)
  clear hb9 hc8
  rw [v9]
  go_wp2_with fail
  refine (Same_any _ 2 ⟨#[80, 76]⟩ ⟨#[80, 76, 65, 67, 69]⟩).mono ?_
  rintro e w10 ⟨rfl, hb10⟩
  have hc10 : Below w.heap.size w w10 := hc9.trans (hb10.mono hc9.size)
  clear hb10 hc9
  rw [v10]
  go_wp2_with fail
  refine (Same_any _ 0 ⟨#[83, 84]⟩ ⟨#[83, 65, 73, 78, 84]⟩).mono ?_
  rintro e w11 ⟨rfl, hb11⟩
  have hc11 : Below w.heap.size w w11 := hc10.trans (hb11.mono hc10.size)
  clear hb11 hc10
  rw [v11]
  go_wp2_with fail
  refine (Longs_any _ 0 ⟨#[83, 84]⟩).mono ?_
  rintro e w12 ⟨ao11, n11, c11, rfl, ho11, hb12⟩
  have hc12 : Below w.heap.size w w12 := hc11.trans (hb12.mono hc11.size)
  have hl11 := Lib.hid ho11.strs.len
  have hs11 : Strs (w12.alloc (.cells #[.string ⟨#[83, 84, 82, 69, 69, 84]⟩, .string ⟨#[83, 65, 73, 78, 84]⟩] 9)) ao11 n11 c11 (longsL 0 ⟨#[83, 84]⟩) := ⟨ho11.strs.sl.alloc _, hl11.out⟩
  have hd11 : Below w.heap.size w (w12.alloc (.cells #[.string ⟨#[83, 84, 82, 69, 69, 84]⟩, .string ⟨#[83, 65, 73, 78, 84]⟩] 9)) := hc12.alloc hc12.size _
  have hn11 : n11 ≤ 1000000 := by rw [← hl11.out]; exact longsL_le' _ _
  clear hb12 ho11 hc11 hc12
  go_wp2_with fail
  refine (SameTexts_any _ ao11 _ n11 c11 2 2 (longsL 0 ⟨#[83, 84]⟩) [⟨#[83, 84, 82, 69, 69, 84]⟩, ⟨#[83, 65, 73, 78, 84]⟩] hs11 (lit2 _ _ _) hn11 (by decide)).mono ?_
  rintro e w13 ⟨rfl, hb13⟩
  have hc13 : Below w.heap.size w w13 := hd11.trans (hb13.mono hd11.size)
  rw [v12]
  clear hb13 hd11 hs11 hn11 hl11
  go_wp2_with fail
  refine (Longs_any _ 5 ⟨#[83, 84]⟩).mono ?_
  rintro e w14 ⟨ao13, n13, c13, rfl, ho13, hb14⟩
  have hc14 : Below w.heap.size w w14 := hc13.trans (hb14.mono hc13.size)
  have hl13 := Lib.hid ho13.strs.len
  have hs13 : Strs (w14.alloc (.cells #[.string ⟨#[83, 65, 73, 78, 84]⟩] 9)) ao13 n13 c13 (longsL 5 ⟨#[83, 84]⟩) := ⟨ho13.strs.sl.alloc _, hl13.out⟩
  have hd13 : Below w.heap.size w (w14.alloc (.cells #[.string ⟨#[83, 65, 73, 78, 84]⟩] 9)) := hc14.alloc hc14.size _
  have hn13 : n13 ≤ 1000000 := by rw [← hl13.out]; exact longsL_le' _ _
  clear hb14 ho13 hc13 hc14
  go_wp2_with fail
  refine (SameTexts_any _ ao13 _ n13 c13 1 1 (longsL 5 ⟨#[83, 84]⟩) [⟨#[83, 65, 73, 78, 84]⟩] hs13 (lit1 _ _) hn13 (by decide)).mono ?_
  rintro e w15 ⟨rfl, hb15⟩
  have hc15 : Below w.heap.size w w15 := hd13.trans (hb15.mono hd13.size)
  rw [v13]
  clear hb15 hd13 hs13 hn13 hl13
  go_wp2_with fail
  refine (Longs_any _ 2 ⟨#[65, 86, 69, 78, 85, 69]⟩).mono ?_
  rintro e w16 ⟨ao15, n15, c15, rfl, ho15, hb16⟩
  have hc16 : Below w.heap.size w w16 := hc15.trans (hb16.mono hc15.size)
  have hl15 := Lib.hid ho15.strs.len
  have hs15 : Strs (w16.alloc (.cells #[.string ⟨#[65, 86, 69, 78, 85, 69]⟩] 9)) ao15 n15 c15 (longsL 2 ⟨#[65, 86, 69, 78, 85, 69]⟩) := ⟨ho15.strs.sl.alloc _, hl15.out⟩
  have hd15 : Below w.heap.size w (w16.alloc (.cells #[.string ⟨#[65, 86, 69, 78, 85, 69]⟩] 9)) := hc16.alloc hc16.size _
  have hn15 : n15 ≤ 1000000 := by rw [← hl15.out]; exact longsL_le' _ _
  clear hb16 ho15 hc15 hc16
  go_wp2_with fail
  refine (SameTexts_any _ ao15 _ n15 c15 1 1 (longsL 2 ⟨#[65, 86, 69, 78, 85, 69]⟩) [⟨#[65, 86, 69, 78, 85, 69]⟩] hs15 (lit1 _ _) hn15 (by decide)).mono ?_
  rintro e w17 ⟨rfl, hb17⟩
  have hc17 : Below w.heap.size w w17 := hd15.trans (hb17.mono hd15.size)
  rw [v14]
  clear hb17 hd15 hs15 hn15 hl15
  go_wp2_with fail
  refine (Longs_any _ 2 ⟨#[80, 76]⟩).mono ?_
  rintro e w18 ⟨ao17, n17, c17, rfl, ho17, hb18⟩
  have hc18 : Below w.heap.size w w18 := hc17.trans (hb18.mono hc17.size)
  have hl17 := Lib.hid ho17.strs.len
  have hs17 : Strs (w18.alloc (.cells #[.string ⟨#[80, 76, 65, 67, 69]⟩, .string ⟨#[80, 76, 65, 84, 90]⟩] 9)) ao17 n17 c17 (longsL 2 ⟨#[80, 76]⟩) := ⟨ho17.strs.sl.alloc _, hl17.out⟩
  have hd17 : Below w.heap.size w (w18.alloc (.cells #[.string ⟨#[80, 76, 65, 67, 69]⟩, .string ⟨#[80, 76, 65, 84, 90]⟩] 9)) := hc18.alloc hc18.size _
  have hn17 : n17 ≤ 1000000 := by rw [← hl17.out]; exact longsL_le' _ _
  clear hb18 ho17 hc17 hc18
  go_wp2_with fail
  refine (SameTexts_any _ ao17 _ n17 c17 2 2 (longsL 2 ⟨#[80, 76]⟩) [⟨#[80, 76, 65, 67, 69]⟩, ⟨#[80, 76, 65, 84, 90]⟩] hs17 (lit2 _ _ _) hn17 (by decide)).mono ?_
  rintro e w19 ⟨rfl, hb19⟩
  have hc19 : Below w.heap.size w w19 := hd17.trans (hb19.mono hd17.size)
  rw [v15]
  clear hb19 hd17 hs17 hn17 hl17
  go_wp2_with fail
  go_ret
  exact ⟨rfl, hc19⟩
end Go.Proofs.YthpjkfcaabhdhaaGreat
