/-
  'LentInts', 'KeptInts', 'OverInts'.
-/
import Derived.Test.YtpfinkdpaomliaaGreatInts
import Derived.Test.YtpfinkdpaomliaaGreatFlatInts
import Derived.Test.YtpfinkdpaomliaaGreatMemSrc
namespace Go.Proofs.YtpfinkdpaomliaaGreat
open Go.RowKit

def marks (k : Int) : List Int := (List.range 12).map fun (i : Nat) => 1000003 * (k + 7) + (i : Int)
theorem marks_len (k : Int) : (marks k).length = 12 := by simp [marks]

theorem ints_src {P : Program} {w : World} {tx e' : TypeId} (hk : P.underlying tx = some (.slice e')) {ao : Option Addr} {n : Nat} {xs : List Int} (h : Ints w ao n xs) (c : Nat) :
    Src P 1 tx (.slice ao n c) n (xs.map (Value.int .i64)) w := by
  have hl : (xs.map (Value.int .i64)).length = n * 1 := by rw [List.length_map, h.len, Nat.mul_one]
  have h1 : ∀ u ∈ xs.map (Value.int .i64), u.oneCell' = true := by
    intro u hu
    obtain ⟨x, _, rfl⟩ := List.mem_map.1 hu
    rfl
  by_cases h0 : n = 0
  · have hx : xs = [] := List.eq_nil_of_length_eq_zero (by rw [h.len, h0])
    subst hx
    subst h0
    cases ao with
    | none => exact Src.ofNil w hk c
    | some a => exact Src.ofSlice w hk a 0 c [] (by simp) (by intro j u hu; simp at hu) (by intro u hu; simp at hu)
  · obtain ⟨g, off, rfl, hg, hcl⟩ := h.rd.some_ (by omega)
    refine Src.ofSlice w hk ⟨g, off, none⟩ n c _ hl (fun j u hj => ?_) h1
    have hj' : j < n := by have := (List.getElem?_eq_some_iff.1 hj).1; rw [hl] at this; omega
    have hadd : (⟨g, off, none⟩ : Addr).add j = ⟨g, off + j, none⟩ := by unfold Addr.add; split <;> simp_all
    rw [hadd, hcl j (by omega)]
    rw [List.getElem?_map, List.getElem?_eq_getElem (by rw [h.len]; exact hj')] at hj
    simp only [Option.map_some, Option.some.injEq] at hj
    rw [← hj]
    unfold intF
    rw [List.getD_eq_getElem?_getD, List.getElem?_eq_getElem (by rw [h.len]; exact hj')]
    rfl

theorem ownI_app {w w1 : World} {B n n' m : Nat} {ao ao' : Option Addr} {cap cap' : Nat} {xs ys : List Int} {news : List Value} (h : OwnI B w ao n cap xs) (hB : B ≤ w.heap.size) (hn : n' = n + m) (hm : ys.length = m)
    (hnews : news = ys.map (Value.int .i64))
    (ha : Appended w w1 3 1 ao n cap ao' n' cap' (fun j => if j < n then intF xs j else news[j - n]?.getD undef)) :
    OwnI B w1 ao' n' cap' (xs ++ ys) := by
  subst hnews hn
  have hl := h.len
  refine ⟨ha.sl.congr fun j hj => ?_, by rw [List.length_append, hl, hm], ?_⟩
  · by_cases hjn : j < n
    · rw [if_pos hjn]
      unfold intF
      simp only [List.getD_eq_getElem?_getD]
      rw [List.getElem?_append_left (by omega)]
    · rw [if_neg hjn]
      unfold intF
      simp only [List.getD_eq_getElem?_getD]
      rw [List.getElem?_append_right (by omega), List.getElem?_map, hl, List.getElem?_eq_getElem (by omega)]
      rfl
  · intro g hg
    rcases ha.way with ⟨rfl, rfl, _, _⟩ | ⟨_, rfl, _, _⟩
    · exact h.row g hg
    · unfold rowOf at hg
      split at hg
      · cases hg
      · simp at hg
        omega
theorem ownI_grown {w w1 a : World} {B B' n m : Nat} {ao ao' : Option Addr} {cap cap' : Nat} {xs : List Int} {f : Nat → Value} (h : OwnI B w ao n cap xs) (hBB : B' ≤ B) (hB : B' ≤ w.heap.size) (hb : Below B' a w)
    (ha : Appended w w1 3 1 ao n cap ao' m cap' f) : Below B' a w1 :=
  hb.grown ha.grown hB fun g hg => Nat.le_trans hBB (h.row g hg)
theorem OwnI.alloc {w : World} {B n : Nat} {ao : Option Addr} {cap : Nat} {xs : List Int} (h : OwnI B w ao n cap xs) (o : Obj) : OwnI B (w.alloc o) ao n cap xs := ⟨h.sl.alloc o, h.len, h.row⟩

theorem infoI : (Tryz.prog.info? 3).map (fun i => (i.zero, i.size, i.bytes)) = some (some (.int .i64 0), 1, 8) := by kernel_rfl

theorem take_marks (k : Int) (i : Nat) (hi : i < 12) : (marks k).take (i + 1) = (marks k).take i ++ [1000003 * (k + 7) + (i : Int)] := by
  rw [List.take_add_one, List.getElem?_eq_getElem (by rw [marks_len]; exact hi)]
  simp [marks]

theorem take_marks1 (i : Nat) (hi : i < 12) : (marks 1).take (i + 1) = (marks 1).take i ++ [8000024 + (i : Int)] := by
  rw [take_marks 1 i hi]
  rfl

def Rlent (B : Nat) (xs : List Int) (n : Nat) (w : World) (u3 u4 : Value) (wr : World) : Prop :=
  ∃ (i : Nat) (ao : Option Addr) (cap : Nat), i ≤ 12 ∧ u3 = .slice ao (n + i) cap ∧ u4 = .int .i64 i ∧ OwnI B wr ao (n + i) cap (xs ++ (marks 1).take i) ∧ Below B w wr

set_option maxRecDepth 1000000 in
set_option maxHeartbeats 1000000 in
theorem LentInts_any (w : World) (ao : Option Addr) (n c : Nat) (xs : List Int) (h : Ints w ao n xs) (hn : n ≤ 1048576) :
    Calls Tryz.prog 10 #[.slice ao n c] w fun e w' => ∃ g cap, e = .returned (.slice (some ⟨g, 0, none⟩) n cap) ∧ OwnI w.heap.size w' (some ⟨g, 0, none⟩) (n + 12) cap (xs ++ marks 1) ∧ Below w.heap.size w w' := by
  obtain ⟨i0, hi0, hz0, hz1, hz2⟩ := info_parts infoI
  have hmk : ∀ w : World, (Instr.makeSlice 23 (.int .i64 0) (.int .i64 ((n : Int) + 12))).run Tryz.prog w = .ok (.slice (some ⟨w.heap.size, 0, none⟩) 0 (n + 12)) (w.alloc (.cells (madeCells #[.int .i64 0] (n + 12)) 3)) := fun w => by
    have hr := run_make (P := Tryz.prog) w 23 3 i0 (.int .i64 0) Tryz.underlying23 hi0 hz0 .i64 .i64 0 ((n : Int) + 12) (by omega) (by omega) (by rw [hz2]; omega) (by omega)
    have e : ((n : Int) + 12).toNat = n + 12 := by omega
    rw [hz1, e] at hr
    simpa [Value.cells] using hr
  have hb0 : Below w.heap.size w (w.alloc (.cells (madeCells #[.int .i64 0] (n + 12)) 3)) := (Below.refl _ _).alloc (Nat.le_refl _) _
  have ho0 : OwnI w.heap.size (w.alloc (.cells (madeCells #[.int .i64 0] (n + 12)) 3)) (some ⟨w.heap.size, 0, none⟩) 0 (n + 12) [] := by
    refine ⟨(Sl.made w 3 (.int .i64 0) 0 (n + 12) (by omega) (by unfold maxLen; omega)).congr fun j hj => absurd hj (by simp), rfl, ?_⟩
    intro g hg
    unfold rowOf at hg
    split at hg
    · cases hg
    · simp at hg; omega
  have h1 := h.below hb0
  have Hl := Lib.hid h.len
  go_enter Tryz.func10, Tryz.ntmps10
  go_wp2_with (at_builtin; refine wpList_append_of _ rfl (.tmp 9) (.tmp 10) 23 23 rfl 3 i0 _ 1 8 Tryz.underlying23 hi0 hz0 hz1 hz2 rfl rfl ho0.sl (.slice ao n c) rfl n (xs.map (Value.int .i64)) (ints_src Tryz.underlying23 h1 c) (by unfold maxLen; omega) (by omega) ?_)
  intro ao1 cap1 w1 ha1
  have hown : OwnI w.heap.size w1 ao1 (n + 0) cap1 (xs ++ (marks 1).take 0) := by
    refine ⟨ha1.sl.congr fun j hj => ?_, by simp [Hl.out], ?_⟩
    · unfold intF
      have hjl : j < xs.length := by rw [Hl.out]; omega
      simp [List.getD_eq_getElem?_getD, List.getElem?_eq_getElem hjl]
    · intro g hg
      rcases ha1.way with ⟨rfl, rfl, _, _⟩ | ⟨_, rfl, _, _⟩
      · exact ho0.row g hg
      · unfold rowOf at hg
        split at hg
        · cases hg
        · simp at hg
          omega
  have hb1 := ownI_grown ho0 (Nat.le_refl _) (by simp) hb0 ha1
  clear ha1 ho0 hb0 h1 hmk
  go_wp2_with fail
  go_loopw [3, 4] (Rlent w.heap.size xs n w) (fun _ u4 _ => 12 - (intOf u4).toNat)
  case atStart => exact ⟨0, ao1, cap1, by omega, rfl, rfl, hown, hb1⟩
  case round =>
    clear hown hb1
    obtain ⟨i, ao2, cap2, hi, rfl, rfl, hown, hb⟩ := hrel
    have hB := hb.size
    by_cases hlt : i < 12
    · have Htk := Lib.hid (take_marks1 i hlt)
      go_wp2_with (first
        | (go_at_call 34; refine (mark_any 1 i _ (by omega) (by omega) (by omega) (by omega)).mono ?_; rintro e w' ⟨rfl, hw⟩; subst hw)
        | (at_builtin; refine wpList_append_sl _ rfl (.tmp 16) (.tmp 19) 23 rfl 3 i0 _ 1 8 Tryz.underlying23 hi0 hz0 hz1 hz2 rfl rfl (hown.sl.alloc _) ⟨_, 0, none⟩ 1 1 [.int .i64 (8000024 + (i : Int))] rfl rfl (cell_one_at _ _ _ _ rfl) (by intro u hu; simp at hu; subst hu; rfl) (by unfold maxLen; omega) (by omega) ?_))
      intro ao3 cap3 w3 ha3
      have hown3 := ownI_app (hown.alloc _) (by simp; omega) (m := 1) (ys := [8000024 + (i : Int)]) rfl rfl rfl ha3
      have hb3 := ownI_grown (hown.alloc _) (Nat.le_refl _) (by simp; omega) (hb.alloc hB _) ha3
      clear ha3 hown hb
      go_wp2_with fail
      go_roundw
      case rel => exact ⟨i + 1, ao3, cap3, hlt, rfl, by go_num, by rw [Htk.out, ← List.append_assoc]; exact hown3, hb3⟩
      case measure => simp [intOf] <;> omega
    · obtain rfl : i = 12 := by omega
      obtain ⟨g, rfl, _, _⟩ := hown.sl.some_ (by have := hown.sl.le; omega)
      have hle := hown.sl.le
      have Hm : Hid ((marks 1).take 12 = marks 1) := List.take_of_length_le (by rw [marks_len]; exact Nat.le_refl _)
      go_wp2_with fail
      go_ret
      exact ⟨g, cap2, rfl, by rw [← Hm.out]; exact hown, hb⟩

def Rkept (n : Nat) (w : World) (u6 : Value) (wr : World) : Prop := ∃ i : Nat, i ≤ n + 12 ∧ u6 = .int .i64 i ∧ Below w.heap.size w wr

theorem kept_mark (xs : List Int) (n i : Nat) (hl : xs.length = n) (h1 : n ≤ i) (h2 : i < n + 12) : (xs ++ marks 1).getD i 0 = 8000024 + ((i : Int) - (n : Int)) := by
  rw [List.getD_eq_getElem?_getD, List.getElem?_append_right (by omega), List.getElem?_eq_getElem (by rw [marks_len]; omega)]
  simp only [marks, List.getElem_map, List.getElem_range, Option.getD_some, hl]
  omega

set_option maxRecDepth 1000000 in
set_option maxHeartbeats 1000000 in
theorem KeptInts_any (w : World) (g : Nat) (cap : Nat) (bo : Option Addr) (n c : Nat) (xs : List Int) (h : Sl w 3 1 (some ⟨g, 0, none⟩) (n + 12) cap (intF (xs ++ marks 1))) (h' : Ints w bo n xs) (hn : n ≤ 1048576) :
    Calls Tryz.prog 15 #[.slice (some ⟨g, 0, none⟩) n cap, .slice bo n c] w fun e w' => e = .returned (.bool true) ∧ Below w.heap.size w w' := by
  have Hl := Lib.hid h'.len
  have hcap := h.le
  have hg : g < w.heap.size := h.row_lt g (by simp [rowOf]; omega)
  have hb0 := Below.refl w.heap.size w
  go_enter Tryz.func15, Tryz.ntmps15
  go_wp2_with fail
  go_loopw [6] (Rkept n w) (fun u6 _ => n + 12 - (intOf u6).toNat)
  case atStart => exact ⟨0, by omega, rfl, hb0⟩
  case round =>
    clear hb0
    obtain ⟨i, hi, rfl, hb⟩ := hrel
    by_cases hlt : i < n + 12
    · have hcl : wr.cell? ⟨g, i, none⟩ = some (.int .i64 ((xs ++ marks 1).getD i 0)) := (hb.cell (p := ⟨g, i, none⟩) hg).trans (h.cell (i := i) (by omega))
      by_cases hin : i < n
      · have d2 : ¬ n ≤ i := by omega
        obtain ⟨g', off, rfl, hg', hc0⟩ := h'.at hin
        have hc' : wr.cell? ⟨g', off + i, none⟩ = some (.int .i64 (xs.getD i 0)) := (hb.cell (p := ⟨g', off + i, none⟩) hg').trans hc0
        have e : (xs ++ marks 1).getD i 0 = xs.getD i 0 := by
          rw [List.getD_eq_getElem?_getD, List.getElem?_append_left (by rw [Hl.out]; exact hin), List.getD_eq_getElem?_getD]
        rw [e] at hcl
        clear hc0 e
        generalize xs.getD i 0 = x at hcl hc'
        have he : (x == x) = true := by simp
        go_wp2_with fail
        go_quiet (fail)
        go_wp2_with fail
        go_roundw
        case rel => exact ⟨i + 1, hlt, by go_num, ⟨hb.os, hb.tape, hb.output, hb.size, hb.block⟩⟩
        case measure => simp [intOf] <;> omega
      · have d2 : n ≤ i := by omega
        rw [kept_mark xs n i Hl.out (by omega) hlt] at hcl
        have he : ((8000024 + ((i : Int) - (n : Int))) == (8000024 + ((i : Int) - (n : Int)))) = true := by simp
        go_wp2_with fail
        go_quiet ((go_at_call 34; exact Calls.quiet_of_same (mark_any 1 ((i : Int) - (n : Int)) _ (by omega) (by omega) (by omega) (by omega))))
        go_wp2_with fail
        go_roundw
        case rel => exact ⟨i + 1, hlt, by go_num, ⟨hb.os, hb.tape, hb.output, hb.size, hb.block⟩⟩
        case measure => simp [intOf] <;> omega
    · obtain rfl : i = n + 12 := by omega
      go_wp2_with fail
      go_ret
      exact ⟨rfl, hb⟩

def Rover (g n cap : Nat) (w : World) (u3 : Value) (wr : World) : Prop := ∃ (i : Nat) (zs : List Int), i ≤ n ∧ u3 = .int .i64 i ∧ zs.length = n ∧ Sl wr 3 1 (some ⟨g, 0, none⟩) n cap (intF zs) ∧ w.grownBy wr (some g)

theorem intF_set (zs : List Int) (i : Nat) (x : Int) (hi : i < zs.length) : ∀ j, (if j = i then Value.int .i64 x else intF zs j) = intF (zs.set i x) j := by
  intro j
  unfold intF
  by_cases e : j = i
  · subst e
    rw [if_pos rfl, List.getD_eq_getElem?_getD, List.getElem?_set_self hi]
    rfl
  · rw [if_neg e, List.getD_eq_getElem?_getD, List.getD_eq_getElem?_getD, List.getElem?_set_ne (fun h => e h.symm)]

set_option maxRecDepth 1000000 in
set_option maxHeartbeats 1000000 in
/-- OverInts writes into the slice's own block alone. -/
theorem OverInts_any (w : World) (g n cap : Nat) (zs : List Int) (h : Sl w 3 1 (some ⟨g, 0, none⟩) (n + 12) cap (intF zs)) (hz : zs.length = n + 12) (hn : n ≤ 1048576) :
    Calls Tryz.prog 16 #[.slice (some ⟨g, 0, none⟩) n cap] w fun e w' => e = .returned (.tuple #[]) ∧
      (∃ ys : List Int, ys.length = n + 12 ∧ Sl w' 3 1 (some ⟨g, 0, none⟩) (n + 12) cap (intF ys)) ∧ w.grownBy w' (some g) := by
  have hcap := h.le
  have hg0 := World.grownBy.refl w (some g)
  have hc2 : cap = n + 12 ∨ ¬ ((cap : Int) ≤ (n : Int) + 12) := by omega
  rcases hc2 with rfl | hc2
  all_goals
    go_enter Tryz.func16, Tryz.ntmps16
    go_wp2_with fail
    go_loopw [3] (Rover g (n + 12) _ w) (fun u3 _ => n + 12 - (intOf u3).toNat)
    case atStart => exact ⟨0, zs, by omega, rfl, hz, h, hg0⟩
    case round =>
      clear hg0
      obtain ⟨i, ys, hi, rfl, hy, hsl, hg⟩ := hrel
      have Hy := Lib.hid hy
      clear hy
      by_cases hlt : i < n + 12
      · have hcl := hsl.cell (i := i) (by omega)
        have hfr := hsl.frozen (by omega) i
        go_wp2_with (go_at_call 34; refine (mark_any 2 i _ (by omega) (by omega) (by omega) (by omega)).mono ?_; rintro e w' ⟨rfl, hw⟩; subst hw)
        go_roundw
        case rel => exact ⟨i + 1, ys.set i (9000027 + (i : Int)), hlt, by go_num, by rw [List.length_set]; exact Hy.out, (hsl.set (i := i) (.int .i64 (9000027 + (i : Int)))).congr fun j _ => intF_set ys i _ (by rw [Hy.out]; exact hlt) j, hg.trans (grownBy_setCell _ ⟨g, i, none⟩ _)⟩
        case measure => simp [intOf] <;> omega
      · obtain rfl : i = n + 12 := by omega
        go_wp2_with fail
        go_end0
        exact ⟨rfl, ⟨ys, Hy.out, hsl⟩, hg⟩

set_option maxRecDepth 1000000 in
set_option maxHeartbeats 1000000 in
theorem CopyInts_any (w : World) (ao : Option Addr) (n c : Nat) (xs : List Int) (h : Ints w ao n xs) (hn : n ≤ 1048576) :
    Calls Tryz.prog 26 #[.slice ao n c] w fun e w' => ∃ bo cap, e = .returned (.slice bo n cap) ∧ OwnI w.heap.size w' bo n cap xs ∧ Below w.heap.size w w' := by
  obtain ⟨i0, hi0, hz0, hz1, hz2⟩ := info_parts infoI
  have Hl := Lib.hid h.len
  have hs0 : Sl w 3 1 none 0 0 (intF []) := Sl.nil _ _ _ _ _
  have hb0 := Below.refl w.heap.size w
  go_enter Tryz.func26, Tryz.ntmps26
  go_wp2_with (at_builtin; refine wpList_append_of _ rfl (.tmp 4) (.tmp 5) 23 23 rfl 3 i0 _ 1 8 Tryz.underlying23 hi0 hz0 hz1 hz2 rfl rfl hs0 (.slice ao n c) rfl n (xs.map (Value.int .i64)) (ints_src Tryz.underlying23 h c) (by unfold maxLen; omega) (by omega) ?_)
  intro ao1 cap1 w1 ha1
  have hown : OwnI w.heap.size w1 ao1 n cap1 xs := by
    refine ⟨ha1.sl.congr fun j hj => ?_, Hl.out, ?_⟩
    · unfold intF
      have hjl : j < xs.length := by rw [Hl.out]; omega
      simp [List.getD_eq_getElem?_getD, List.getElem?_eq_getElem hjl]
    · intro g hg
      rcases ha1.way with ⟨rfl, rfl, _, _⟩ | ⟨_, rfl, _, _⟩
      · simp [rowOf] at hg
      · unfold rowOf at hg
        split at hg
        · cases hg
        · simp at hg
          omega
  have hb1 : Below w.heap.size w w1 := hb0.grown ha1.grown (Nat.le_refl _) fun g hg => by simp [rowOf] at hg
  clear ha1 hs0 hb0
  go_wp2_with fail
  go_ret
  exact ⟨ao1, cap1, rfl, hown, hb1⟩
end Go.Proofs.YtpfinkdpaomliaaGreat
