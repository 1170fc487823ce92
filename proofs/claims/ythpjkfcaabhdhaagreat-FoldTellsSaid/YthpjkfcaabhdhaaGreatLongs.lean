/-
  'Longs' returns the long words of the rows of a kind that have a word, each once.
-/
import Derived.Test.YthpjkfcaabhdhaaGreatSel
import Derived.Test.YthpjkfcaabhdhaaGreatFlatLib
namespace Go.Proofs.YthpjkfcaabhdhaaGreat
open Go.RowKit

def addL (acc : List ByteArray) (r : Row) : List ByteArray := if inL acc r.2.1 then acc else acc ++ [r.2.1]
def longsOf (l : List Row) (k : Nat) : List ByteArray := (l.take k).foldl addL []
def longsL (kind : Int) (word : ByteArray) : List ByteArray := (tab.filter (ofR kind word)).foldl addL []

theorem longsOf_next (l : List Row) (k : Nat) (hk : k < l.length) : longsOf l (k + 1) = addL (longsOf l k) (l.getD k dflt) := by
  unfold longsOf
  rw [List.take_add_one, List.getElem?_eq_getElem hk, List.getD_eq_getElem?_getD, List.getElem?_eq_getElem hk, List.foldl_append]
  rfl
theorem addL_le (acc : List ByteArray) (r : Row) : (addL acc r).length ≤ acc.length + 1 := by
  unfold addL
  split <;> simp
theorem longsOf_le (l : List Row) : ∀ k, (longsOf l k).length ≤ k := by
  intro k
  unfold longsOf
  have h : ∀ (m : List Row) (acc : List ByteArray), (m.foldl addL acc).length ≤ acc.length + m.length := by
    intro m
    induction m with
    | nil => intro acc; simp
    | cons r m ih =>
      intro acc
      have h1 := ih (addL acc r)
      have h2 := addL_le acc r
      simp only [List.foldl_cons, List.length_cons]
      omega
  have := h (l.take k) []
  have h2 := List.length_take_le k l
  simp at this
  omega
theorem kept_all (p : Row → Bool) : kept p 40 = tab.filter p := by
  unfold kept
  rw [List.take_of_length_le (by rw [tab_length]; exact Nat.le_refl _)]
theorem longsOf_all (kind : Int) (word : ByteArray) : longsOf (kept (ofR kind word) 40) (kept (ofR kind word) 40).length = longsL kind word := by
  unfold longsOf longsL
  rw [List.take_length, kept_all]

theorem Sl.ne_row' {w : World} {e e' size size' n n' cap cap' : Nat} {ao ao' : Option Addr} {f f' : Nat → Value} (h : Sl w e size ao n cap f) (h' : Sl w e' size' ao' n' cap' f') (hne : e ≠ e') {g : Nat}
    (hg : rowOf ao cap = some g) : some g ≠ rowOf ao' cap' := by
  have key : ∀ {e size n cap : Nat} {ao : Option Addr} {f : Nat → Value}, Sl w e size ao n cap f → rowOf ao cap = some g → ∃ cur, w.heap[g]? = some (.cells cur e (0, 0)) := by
    intro e size n cap ao f h hg
    unfold rowOf at hg
    split at hg
    · cases hg
    · rename_i hc
      rcases h.2.2 with h0 | ⟨g', cur, rfl, hh, hs, _⟩
      · exact absurd h0 hc
      · simp at hg; subst hg; exact ⟨cur, hh⟩
  intro hg'
  obtain ⟨cur, h1⟩ := key h hg
  obtain ⟨cur', h2⟩ := key h' hg'.symm
  rw [h1] at h2
  injection h2 with h2
  injection h2 with _ h3
  exact hne h3

/-- A slice of the call's own that reads as a list of texts. -/
structure Own (B : Nat) (w : World) (ao : Option Addr) (n cap : Nat) (xs : List ByteArray) : Prop where
  strs : Strs w ao n cap xs
  row : ∀ g, rowOf ao cap = some g → B ≤ g

theorem strs_snoc {w w1 : World} {B : Nat} {ao ao' : Option Addr} {n cap cap' : Nat} {xs : List ByteArray} {x : ByteArray} (h : Own B w ao n cap xs) (hB : B ≤ w.heap.size)
    (ha : Appended w w1 9 1 ao n cap ao' (n + 1) cap' (fun j => if j < n then .string (xs[j]?.getD ByteArray.empty) else [Value.string x][j - n]?.getD undef)) :
    Own B w1 ao' (n + 1) cap' (xs ++ [x]) := by
  have hn := h.strs.len
  refine ⟨⟨ha.sl.congr fun j hj => ?_, by simp [hn]⟩, ?_⟩
  · by_cases hjn : j < n
    · simp [hjn, List.getD_eq_getElem?_getD, List.getElem?_append_left (show j < xs.length by omega)]
    · have : j = n := by omega
      subst this
      rw [if_neg hjn, ← hn]
      simp [List.getD_eq_getElem?_getD]
  · intro g hg
    rcases ha.way with ⟨rfl, rfl, _, _⟩ | ⟨_, rfl, _, _⟩
    · exact h.row g hg
    · unfold rowOf at hg
      split at hg
      · cases hg
      · simp at hg
        omega
theorem strs_grown {w w1 : World} {B : Nat} {a : World} {ao ao' : Option Addr} {n m cap cap' : Nat} {xs : List ByteArray} {f : Nat → Value} (h : Own B w ao n cap xs) (hB : B ≤ w.heap.size) (hb : Below B a w)
    (ha : Appended w w1 9 1 ao n cap ao' m cap' f) : Below B a w1 := by
  have hg : w.grownBy w1 (rowOf ao cap) := by
    rcases ha.way with ⟨_, _, h, _⟩ | ⟨_, _, h, _⟩
    · exact h
    · exact ⟨h.os, h.tape, h.output, h.size, fun i hi _ => h.block i hi⟩
  exact hb.grown hg hB h.row
theorem str_one (x : ByteArray) : ∀ u ∈ [Value.string x], u.oneCell' = true := by
  intro u hu
  simp at hu
  subst hu
  rfl

theorem info9 : (Tryz.prog.info? 9).map (fun i => (i.zero, i.size, i.bytes)) = some (some (.string ByteArray.empty), 1, 16) := by kernel_rfl

def Rl (L : List Row) (B : Nat) (w : World) (al : Option Addr) (cl : Nat) (u5 u14 : Value) (wr : World) : Prop :=
  ∃ (k : Nat) (ao : Option Addr) (n cap : Nat), k ≤ L.length ∧ u14 = .int .i64 k ∧ u5 = .slice ao n cap ∧ Own B wr ao n cap (longsOf L k) ∧ Below B w wr ∧ Sl wr 72 3 al L.length cl (rowsF L)

theorem rowsF_at (l : List Row) (k : Nat) (r1 : Int) (r2 r3 : ByteArray) (hk : k < l.length) (h : l.getD k dflt = (r1, r2, r3)) : rowsF l (k * 3) = .int .u8 r1 ∧ rowsF l (k * 3 + 1) = .string r2 ∧ rowsF l (k * 3 + 2) = .string r3 := by
  have key : ∀ (l : List Row) (k : Nat) (r : Row) (j : Nat), k < l.length → l.getD k dflt = r → j < 3 → rowsF l (k * 3 + j) = (rowCells r).getD j undef := by
    intro l
    induction l with
    | nil => intro k r j hk; simp at hk
    | cons x l ih =>
      intro k r j hk hr hj
      cases k with
      | zero =>
        simp at hr
        subst hr
        unfold rowsF
        simp only [List.flatMap_cons, Nat.zero_mul, Nat.zero_add, List.getD_eq_getElem?_getD]
        rw [List.getElem?_append_left (by simp [rowCells]; omega)]
      | succ k =>
        have h1 := ih k r j (by simpa using hk) (by simpa using hr) hj
        rw [← h1]
        unfold rowsF
        simp only [List.flatMap_cons, List.getD_eq_getElem?_getD]
        rw [List.getElem?_append_right (by simp [rowCells]; omega)]
        congr 2
        simp [rowCells]
        omega
  exact ⟨key l k _ 0 hk h (by omega), key l k _ 1 hk h (by omega), key l k _ 2 hk h (by omega)⟩

set_option maxRecDepth 1000000 in
set_option maxHeartbeats 1000000 in
theorem Longs_any (w : World) (kind : Int) (word : ByteArray) :
    Calls Tryz.prog 8 #[.int .u8 kind, .string word] w fun e w' => ∃ ao n cap, e = .returned (.slice ao n cap) ∧ Own w.heap.size w' ao n cap (longsL kind word) ∧ Below w.heap.size w w' := by
  have hmf : ∀ (fn : Fn) (first cap : Array Value) (w : World), (Instr.makeFunc fn first cap).run Tryz.prog w = .ok (.func fn first cap) w := fun _ _ _ _ => rfl
  obtain ⟨i0, hi0, hz0, hz1, hz2⟩ := info_parts info9
  have hb0 : Below w.heap.size w ((w.alloc (.cells #[.int .u8 kind] 5)).alloc (.cells #[.string word] 9)) := ((Below.refl _ _).alloc (Nat.le_refl _) _).alloc (by simp) _
  go_enter Tryz.func8, Tryz.ntmps8
  go_wp2_with fail
  refine (rows_any _).mono ?_
  rintro e w1 ⟨rfl, hb1⟩
  have hk1 : w1.cell? ⟨w.heap.size, 0, none⟩ = some (.int .u8 kind) := (hb1.cell (p := ⟨w.heap.size, 0, none⟩) (by simp; omega)).trans (by rw [World.cell?_alloc_past _ _ _ (by simp), World.cell?_alloc_at _ _ _ _ rfl]; rfl)
  have hw1 : w1.cell? ⟨w.heap.size + 1, 0, none⟩ = some (.string word) := (hb1.cell (p := ⟨w.heap.size + 1, 0, none⟩) (by simp)).trans (by rw [World.cell?_alloc_at _ _ _ _ (by simp)]; rfl)
  have hb01 : Below w.heap.size w w1 := hb0.trans (hb1.mono (by simp; omega))
  clear hb0 hb1
  go_wp2_with fail
  refine (selected_any w1 w.heap.size (w.heap.size + 1) kind word hk1 hw1).mono ?_
  rintro e w2 ⟨v, rfl, ⟨ao, cap, rfl, hsl⟩, hb2⟩
  have hb02 : Below w.heap.size w w2 := hb01.trans (hb2.mono hb01.size)
  have hLL : Hid (longsOf (kept (ofR kind word) 40) (kept (ofR kind word) 40).length = longsL kind word) := longsOf_all kind word
  have hLle := kept_le (ofR kind word) 40
  generalize kept (ofR kind word) 40 = L at *
  clear hk1 hw1 hb01 hb2
  go_wp2_with fail
  go_loopw [5, 14] (Rl L w.heap.size w ao cap) (fun _ u14 _ => L.length - (intOf u14).toNat)
  case atStart => exact ⟨0, none, 0, 0, by omega, rfl, rfl, ⟨⟨Sl.nil _ _ _ _ _, rfl⟩, fun g hg => by simp [rowOf] at hg⟩, hb02, hsl⟩
  case round =>
    clear hb02 hsl
    obtain ⟨k, ao', n, cap', hk, rfl, rfl, hown, hb, hsl⟩ := hrel
    have hB := hb.size
    have hn := hown.strs.len
    have hnk := longsOf_le L k
    rw [hn] at hnk
    by_cases hlt : k < L.length
    · obtain ⟨g, rfl, _, hg⟩ := hsl.some_ (by have := hsl.le; omega)
      generalize hr : L.getD k dflt = r
      obtain ⟨r1, r2, r3⟩ := r
      obtain ⟨e1, e2, e3⟩ := rowsF_at L k r1 r2 r3 hlt hr
      have hc1 : wr.cell? ⟨g, k * 3, none⟩ = some (.int .u8 r1) := (hsl.cell (i := k * 3) (by omega)).trans (by rw [e1])
      have hc2 : wr.cell? ⟨g, k * 3 + 1, none⟩ = some (.string r2) := (hsl.cell (i := k * 3 + 1) (by omega)).trans (by rw [e2])
      have hc3 : wr.cell? ⟨g, k * 3 + 2, none⟩ = some (.string r3) := (hsl.cell (i := k * 3 + 2) (by omega)).trans (by rw [e3])
      have Hnext := Lib.hid (longsOf_next L k hlt)
      have Hr := Lib.hid hr
      have Hn := Lib.hid hn
      clear e1 e2 e3 hr hn
      go_wp2_with fail
      refine (has_any _ ao' n cap' (longsOf L k) r2 ⟨hown.strs.sl.alloc _, Hn.out⟩ (by omega)).mono ?_
      rintro e w' ⟨rfl, rfl⟩
      cases hq : inL (longsOf L k) r2 with
      | true =>
        have hstep : Hid (longsOf L (k + 1) = longsOf L k) := by rw [Hid, Hnext.out, Hr.out]; unfold addL; rw [if_pos hq]
        go_wp2_with fail
        go_roundw
        case rel => exact ⟨k + 1, ao', n, cap', hlt, by go_num, rfl, by rw [hstep.out]; exact ⟨⟨hown.strs.sl.alloc _, Hn.out⟩, hown.row⟩, hb.alloc hB _, hsl.alloc _⟩
        case measure => simp [intOf]; omega
      | false =>
        have hstep : Hid (longsOf L (k + 1) = longsOf L k ++ [r2]) := by rw [Hid, Hnext.out, Hr.out]; unfold addL; rw [if_neg (by rw [hq]; exact Bool.false_ne_true)]
        go_wp2_with (at_builtin; refine wpList_append_sl _ rfl (.tmp 23) (.tmp 26) 25 rfl 9 i0 _ 1 16 Tryz.underlying25 hi0 hz0 hz1 hz2 rfl rfl ((hown.strs.sl.alloc _).alloc _) ⟨_, 0, none⟩ 1 1 [.string r2] rfl rfl (cell_one_at _ _ _ _ (by simp)) (str_one _) (by unfold maxLen; omega) (by omega) ?_)
        intro ao2 cap2 w2 hap
        have hown' : Own w.heap.size ((wr.alloc (.cells #[.int .u8 r1, .string r2, .string r3] 72)).alloc (.cells #[.string r2] 9)) ao' n cap' (longsOf L k) := ⟨⟨(hown.strs.sl.alloc _).alloc _, Hn.out⟩, hown.row⟩
        have hB2 : w.heap.size ≤ ((wr.alloc (.cells #[.int .u8 r1, .string r2, .string r3] 72)).alloc (.cells #[.string r2] 9)).heap.size := by simp; omega
        have hown2 := strs_snoc hown' hB2 hap
        have hb2 := strs_grown hown' hB2 ((hb.alloc hB _).alloc (by simp; omega) _) hap
        have hsl2 : Sl w2 72 3 (some ⟨g, 0, none⟩) L.length cap (rowsF L) := ((hsl.alloc _).alloc _).grown hap.grown fun g' hg' => ((hsl.alloc _).alloc _).ne_row' hown'.strs.sl (by decide) hg'
        clear hap hown hown' hc1 hc2 hc3 hsl
        go_wp2_with fail
        go_roundw
        case rel => exact ⟨k + 1, ao2, n + 1, cap2, hlt, by go_num, rfl, by rw [hstep.out]; exact hown2, hb2, hsl2⟩
        case measure => simp [intOf]; omega
    · obtain rfl : k = L.length := by omega
      go_wp2_with fail
      go_ret
      rw [hLL.out] at hown
      exact ⟨ao', n, cap', rfl, hown, hb⟩
end Go.Proofs.YthpjkfcaabhdhaaGreat
