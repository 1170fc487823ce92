/-
  Slices that read as lists of integers, wherever they lie; 'SameInts'.
-/
import Derived.Test.YtpfinkdpaomliaaGreatProg
import Derived.Test.YtpfinkdpaomliaaGreatFlatLib
import Derived.Deep.QuietTactic
import Derived.BigQuiet
import Derived.StillTailTactics
import Derived.Lib.Hide
import Derived.Outline
namespace Go.Proofs.YtpfinkdpaomliaaGreat
open Go.RowKit

/-- A slice whose n elements (of 'size' cells each) read as f, wherever it lies. -/
def Rd (w : World) (size : Nat) (ao : Option Addr) (n : Nat) (f : Nat → Value) : Prop :=
  n = 0 ∨ ∃ g off, ao = some ⟨g, off, none⟩ ∧ g < w.heap.size ∧ ∀ i, i < n * size → w.cell? ⟨g, off + i, none⟩ = some (f i)

section
variable {w w' : World} {e : TypeId} {size n cap : Nat} {ao : Option Addr} {f f' : Nat → Value}
theorem Sl.rd (h : Sl w e size ao n cap f) : Rd w size ao n f := by
  by_cases h0 : n = 0
  · exact .inl h0
  · obtain ⟨g, rfl, _, hg⟩ := h.some_ (by have := h.le; omega)
    exact .inr ⟨g, 0, rfl, hg, fun i hi => by rw [Nat.zero_add]; exact h.cell hi⟩
theorem Rd.some_ (h : Rd w size ao n f) (hn : 0 < n) : ∃ g off, ao = some ⟨g, off, none⟩ ∧ g < w.heap.size ∧ ∀ i, i < n * size → w.cell? ⟨g, off + i, none⟩ = some (f i) := by
  rcases h with h | h
  · omega
  · exact h
theorem Rd.below {B : Nat} (h : Rd w size ao n f) (hb : Below B w w') (hB : w.heap.size ≤ B) : Rd w' size ao n f := by
  rcases h with h | ⟨g, off, rfl, hg, hc⟩
  · exact .inl h
  · exact .inr ⟨g, off, rfl, Nat.lt_of_lt_of_le hg hb.size, fun i hi => (hb.cell (p := ⟨g, off + i, none⟩) (by show g < B; omega)).trans (hc i hi)⟩
theorem Rd.below' (h : Rd w size ao n f) (hb : Below w.heap.size w w') : Rd w' size ao n f := h.below hb (Nat.le_refl _)
theorem Rd.congr (h : Rd w size ao n f) (hf : ∀ i, i < n * size → f i = f' i) : Rd w size ao n f' := by
  rcases h with h | ⟨g, off, rfl, hg, hc⟩
  · exact .inl h
  · exact .inr ⟨g, off, rfl, hg, fun i hi => by rw [hc i hi, hf i hi]⟩
theorem Rd.nil (w : World) (size : Nat) (ao : Option Addr) (f : Nat → Value) : Rd w size ao 0 f := .inl rfl
end

def intF (xs : List Int) : Nat → Value := fun i => .int .i64 (xs.getD i 0)
/-- It reads as a list of integers. -/
structure Ints (w : World) (ao : Option Addr) (n : Nat) (xs : List Int) : Prop where
  rd : Rd w 1 ao n (intF xs)
  len : xs.length = n
theorem Ints.below {w w' : World} {ao : Option Addr} {n : Nat} {xs : List Int} (h : Ints w ao n xs) (hb : Below w.heap.size w w') : Ints w' ao n xs := ⟨h.rd.below' hb, h.len⟩
theorem Ints.belowAt {w w' : World} {B : Nat} {ao : Option Addr} {n : Nat} {xs : List Int} (h : Ints w ao n xs) (hb : Below B w w') (hB : w.heap.size ≤ B) : Ints w' ao n xs := ⟨h.rd.below hb hB, h.len⟩
theorem Ints.at {w : World} {ao : Option Addr} {n : Nat} {xs : List Int} (h : Ints w ao n xs) {k : Nat} (hk : k < n) :
    ∃ g off, ao = some ⟨g, off, none⟩ ∧ g < w.heap.size ∧ w.cell? ⟨g, off + k, none⟩ = some (.int .i64 (xs.getD k 0)) := by
  obtain ⟨g, off, e, hg, hc⟩ := h.rd.some_ (by omega)
  exact ⟨g, off, e, hg, hc k (by omega)⟩

/-- A slice of the call's own that reads as a list of integers: it lies in blocks from B on. -/
structure OwnI (B : Nat) (w : World) (ao : Option Addr) (n cap : Nat) (xs : List Int) : Prop where
  sl : Sl w 3 1 ao n cap (intF xs)
  len : xs.length = n
  row : ∀ g, rowOf ao cap = some g → B ≤ g
theorem OwnI.ints {B : Nat} {w : World} {ao : Option Addr} {n cap : Nat} {xs : List Int} (h : OwnI B w ao n cap xs) : Ints w ao n xs := ⟨h.sl.rd, h.len⟩
theorem OwnI.below {B : Nat} {w w' : World} {ao : Option Addr} {n cap : Nat} {xs : List Int} (h : OwnI B w ao n cap xs) (hb : Below w.heap.size w w') : OwnI B w' ao n cap xs := ⟨h.sl.below' hb, h.len, h.row⟩
theorem OwnI.mono {B B' : Nat} {w : World} {ao : Option Addr} {n cap : Nat} {xs : List Int} (h : OwnI B w ao n cap xs) (hB : B' ≤ B) : OwnI B' w ao n cap xs := ⟨h.sl, h.len, fun g hg => Nat.le_trans hB (h.row g hg)⟩

def RsameI (xs ys : List Int) (w : World) (u5 : Value) (wr : World) : Prop := ∃ k : Nat, k ≤ xs.length ∧ u5 = .int .i64 k ∧ (∀ j, j < k → xs.getD j 0 = ys.getD j 0) ∧ Below w.heap.size w wr

theorem list_eq_of {xs ys : List Int} (h : xs.length = ys.length) (hk : ∀ j, j < xs.length → xs.getD j 0 = ys.getD j 0) : xs = ys := by
  apply List.ext_getElem h
  intro j h1 h2
  have := hk j h1
  rw [List.getD_eq_getElem?_getD, List.getD_eq_getElem?_getD, List.getElem?_eq_getElem h1, List.getElem?_eq_getElem h2] at this
  exact this

set_option maxRecDepth 100000 in
theorem SameInts_any (w : World) (ao bo : Option Addr) (n cap m cbp : Nat) (xs ys : List Int) (h : Ints w ao n xs) (h' : Ints w bo m ys) (hn : n ≤ 4000000000000000000) (hm : m ≤ 4000000000000000000) :
    Calls Tryz.prog 22 #[.slice ao n cap, .slice bo m cbp] w fun e w' => e = .returned (.bool (decide (xs = ys))) ∧ Below w.heap.size w w' := by
  have hl := Lib.hid h.len
  have hl' := Lib.hid h'.len
  by_cases hnm : n = m
  · subst hnm
    go_enter Tryz.func22, Tryz.ntmps22
    go_wp2_with fail
    go_loopw [5] (RsameI xs ys w) (fun u5 _ => n - (intOf u5).toNat)
    case atStart => exact ⟨0, Nat.zero_le _, rfl, fun j hj => absurd hj (by omega), Below.refl _ _⟩
    case round =>
      obtain ⟨k, hk, rfl, hno, hb⟩ := hrel
      rw [hl.out] at hk
      have hno' := Lib.hid hno
      clear hno
      by_cases hlt : k < n
      · obtain ⟨g, off, rfl, hg, hc0⟩ := h.at hlt
        obtain ⟨g', off', rfl, hg', hc0'⟩ := h'.at hlt
        have hc : wr.cell? ⟨g, off + k, none⟩ = some (.int .i64 (xs.getD k 0)) := (hb.cell (p := ⟨g, off + k, none⟩) hg).trans hc0
        have hc' : wr.cell? ⟨g', off' + k, none⟩ = some (.int .i64 (ys.getD k 0)) := (hb.cell (p := ⟨g', off' + k, none⟩) hg').trans hc0'
        clear hc0 hc0'
        generalize hx : xs.getD k 0 = x at hc
        have Hx := Lib.hid hx
        clear hx
        generalize hy : ys.getD k 0 = y at hc'
        have Hy := Lib.hid hy
        clear hy
        by_cases hs : x = y
        · subst hs
          go_wp2_with fail
          go_quiet (fail)
          go_wp2_with fail
          go_roundw
          case rel => exact ⟨k + 1, by rw [hl.out]; exact hlt, by go_num, fun j hj => (by
            by_cases e : j = k
            · subst e; rw [Hx.out, Hy.out]
            · exact hno'.out j (by omega)), ⟨hb.os, hb.tape, hb.output, hb.size, hb.block⟩⟩
          case measure => simp [intOf]; omega
        · have hs2 : (x != y) = true := by rw [bne_iff_ne]; exact hs
          go_wp2_with fail
          go_quiet (fail)
          go_wp2_with fail
          go_ret
          have : ¬ xs = ys := fun e => by
            subst e
            exact hs (Hx.out.symm.trans Hy.out)
          exact ⟨by rw [decide_eq_false this]; rfl, ⟨hb.os, hb.tape, hb.output, hb.size, hb.block⟩⟩
      · go_wp2_with fail
        go_ret
        have := list_eq_of (xs := xs) (ys := ys) (by rw [hl.out, hl'.out]) (fun j hj => hno'.out j (by rw [hl.out] at hj; omega))
        exact ⟨by rw [decide_eq_true this]; rfl, hb⟩
  · have hne : ((n : Int) != (m : Int)) = true := by rw [bne_iff_ne]; omega
    have hne2 : ((n : Int) == (m : Int)) = false := by rw [beq_eq_false_iff_ne]; omega
    go_enter Tryz.func22, Tryz.ntmps22
    go_wp2_with fail
    go_ret
    have : ¬ xs = ys := fun e => hnm (by rw [← hl.out, ← hl'.out, e])
    exact ⟨by rw [decide_eq_false this]; rfl, Below.refl _ _⟩
end Go.Proofs.YtpfinkdpaomliaaGreat
