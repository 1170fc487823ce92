/-
  Lists of texts: 'Strs': a slice that reads as a list of texts; the functions 'has', 'in', 'SameTexts' on them.
-/
import Derived.Test.YthpjkfcaabhdhaaGreatProg
import Derived.Test.YthpjkfcaabhdhaaGreatMem
import Derived.Lib.Hide
import Derived.Deep.QuietTactic
import Derived.BigQuiet
namespace Go.Proofs.YthpjkfcaabhdhaaGreat
open Go.RowKit

/-- Two texts are the same, byte for byte. -/
def sEq (a b : ByteArray) : Bool := a.toList == b.toList
theorem sEq_iff (a b : ByteArray) : sEq a b = true ↔ a = b := by
  unfold sEq
  rw [ByteArray.toList_eq, ByteArray.toList_eq, beq_iff_eq]
  constructor
  · intro h
    cases a; cases b
    congr 1
    exact Array.toList_inj.1 h
  · intro h; rw [h]
theorem sEq_refl (a : ByteArray) : sEq a a = true := (sEq_iff a a).2 rfl
theorem sEq_comm (a b : ByteArray) : sEq a b = sEq b a := by
  rw [Bool.eq_iff_iff, sEq_iff, sEq_iff]
  exact eq_comm

/-- Is a text in a list? -/
def inL (xs : List ByteArray) (word : ByteArray) : Bool := xs.any fun x => sEq x word

theorem inL_hit {xs : List ByteArray} {word : ByteArray} {k : Nat} (hk : k < xs.length) (h : sEq (xs.getD k ByteArray.empty) word = true) : inL xs word = true := by
  unfold inL
  rw [List.any_eq_true]
  exact ⟨xs.getD k ByteArray.empty, by rw [List.getD_eq_getElem?_getD, List.getElem?_eq_getElem hk]; exact List.getElem_mem hk, h⟩
theorem inL_miss {xs : List ByteArray} {word : ByteArray} (h : ∀ j, j < xs.length → sEq (xs.getD j ByteArray.empty) word = false) : inL xs word = false := by
  unfold inL
  rw [List.any_eq_false]
  intro x hx
  obtain ⟨j, hj, rfl⟩ := List.mem_iff_getElem.1 hx
  have := h j hj
  rw [List.getD_eq_getElem?_getD, List.getElem?_eq_getElem hj] at this
  simpa using this

/-- Are two lists of texts the same? -/
def sameL (xs ys : List ByteArray) : Bool := decide (xs.length = ys.length) && (List.range xs.length).all fun i => sEq (xs.getD i ByteArray.empty) (ys.getD i ByteArray.empty)
theorem sameL_refl (xs : List ByteArray) : sameL xs xs = true := by
  unfold sameL
  simp [sEq_refl]

/-- A slice that reads as a list of texts. -/
structure Strs (w : World) (ao : Option Addr) (n cap : Nat) (xs : List ByteArray) : Prop where
  sl : Sl w 9 1 ao n cap (fun i => .string (xs.getD i ByteArray.empty))
  len : xs.length = n

theorem Strs.below {w w' : World} {ao : Option Addr} {n cap : Nat} {xs : List ByteArray} (h : Strs w ao n cap xs) (hb : Below w.heap.size w w') : Strs w' ao n cap xs := ⟨h.sl.below' hb, h.len⟩

def Rin (xs : List ByteArray) (word : ByteArray) (u5 : Value) : Prop := ∃ k : Nat, k ≤ xs.length ∧ u5 = .int .i64 k ∧ ∀ j, j < k → sEq (xs.getD j ByteArray.empty) word = false

theorem rin_next {xs : List ByteArray} {word : ByteArray} {k : Nat} (hno : ∀ j, j < k → sEq (xs.getD j ByteArray.empty) word = false) (h : sEq (xs.getD k ByteArray.empty) word = false) :
    ∀ j, j < k + 1 → sEq (xs.getD j ByteArray.empty) word = false := fun j hj => by
  by_cases e : j = k
  · subst e; exact h
  · exact hno j (by omega)

set_option maxRecDepth 100000 in
theorem in_any (w : World) (ao : Option Addr) (n cap : Nat) (xs : List ByteArray) (word : ByteArray) (h : Strs w ao n cap xs) (hn : n ≤ 1000000) :
    Calls Tryz.prog 35 #[.slice ao n cap, .string word] w fun e w' => e = .returned (.bool (inL xs word)) ∧ w = w' := by
  have hl := Lib.hid h.len
  go_enter Tryz.func35, Tryz.ntmps35
  go_wp2_with fail
  go_loop [5] (Rin xs word) (fun u5 => n - (intOf u5).toNat)
  case atStart => exact ⟨0, Nat.zero_le _, rfl, fun j hj => absurd hj (by omega)⟩
  case round =>
    obtain ⟨k, hk, rfl, hno⟩ := hrel
    rw [hl.out] at hk
    have hno' := Lib.hid hno
    clear hno
    by_cases hlt : k < n
    · obtain ⟨g, rfl, _, _⟩ := h.sl.some_ (by have := h.sl.le; omega)
      have hc : w.cell? ⟨g, k, none⟩ = some (.string (xs.getD k ByteArray.empty)) := h.sl.cell (i := k) (by omega)
      generalize hx : xs.getD k ByteArray.empty = x at hc
      have Hx := Lib.hid hx
      clear hx
      cases hs : sEq x word with
      | true =>
        have hs' : (x.toList == word.toList) = true := hs
        go_wp2_with fail
        go_ret
        have := inL_hit (xs := xs) (word := word) (k := k) (by rw [hl.out]; exact hlt) (by rw [Hx.out]; exact hs)
        exact ⟨by rw [this]; rfl, rfl⟩
      | false =>
        have hs' : (x.toList == word.toList) = false := hs
        go_wp2_with fail
        go_round
        case rel => exact ⟨k + 1, by rw [hl.out]; exact hlt, by go_num, rin_next hno'.out (by rw [Hx.out]; exact hs)⟩
        case measure => simp [intOf]; omega
    · go_wp2_with fail
      go_ret
      have := inL_miss (xs := xs) (word := word) (fun j hj => hno'.out j (by rw [hl.out] at hj; omega))
      exact ⟨by rw [this]; rfl, rfl⟩

set_option maxRecDepth 100000 in
theorem has_any (w : World) (ao : Option Addr) (n cap : Nat) (xs : List ByteArray) (word : ByteArray) (h : Strs w ao n cap xs) (hn : n ≤ 1000000) :
    Calls Tryz.prog 25 #[.slice ao n cap, .string word] w fun e w' => e = .returned (.bool (inL xs word)) ∧ w = w' := by
  have hl := Lib.hid h.len
  go_enter Tryz.func25, Tryz.ntmps25
  go_wp2_with fail
  go_loop [9] (Rin xs word) (fun u5 => n - (intOf u5).toNat)
  case atStart => exact ⟨0, Nat.zero_le _, rfl, fun j hj => absurd hj (by omega)⟩
  case round =>
    obtain ⟨k, hk, rfl, hno⟩ := hrel
    rw [hl.out] at hk
    have hno' := Lib.hid hno
    clear hno
    by_cases hlt : k < n
    · obtain ⟨g, rfl, _, _⟩ := h.sl.some_ (by have := h.sl.le; omega)
      have hc : w.cell? ⟨g, k, none⟩ = some (.string (xs.getD k ByteArray.empty)) := h.sl.cell (i := k) (by omega)
      generalize hx : xs.getD k ByteArray.empty = x at hc
      have Hx := Lib.hid hx
      clear hx
      cases hs : sEq x word with
      | true =>
        have hs' : (x.toList == word.toList) = true := hs
        go_wp2_with fail
        go_ret
        have := inL_hit (xs := xs) (word := word) (k := k) (by rw [hl.out]; exact hlt) (by rw [Hx.out]; exact hs)
        exact ⟨by rw [this]; rfl, rfl⟩
      | false =>
        have hs' : (x.toList == word.toList) = false := hs
        go_wp2_with fail
        go_round
        case rel => exact ⟨k + 1, by rw [hl.out]; exact hlt, by go_num, rin_next hno'.out (by rw [Hx.out]; exact hs)⟩
        case measure => simp [intOf]; omega
    · go_wp2_with fail
      go_ret
      have := inL_miss (xs := xs) (word := word) (fun j hj => hno'.out j (by rw [hl.out] at hj; omega))
      exact ⟨by rw [this]; rfl, rfl⟩

def Rsame (xs ys : List ByteArray) (w : World) (u5 : Value) (wr : World) : Prop := ∃ k : Nat, k ≤ xs.length ∧ u5 = .int .i64 k ∧ (∀ j, j < k → sEq (xs.getD j ByteArray.empty) (ys.getD j ByteArray.empty) = true) ∧ Below w.heap.size w wr

theorem sameL_len {xs ys : List ByteArray} (h : xs.length ≠ ys.length) : sameL xs ys = false := by simp [sameL, h]
theorem sameL_yes {xs ys : List ByteArray} (h : xs.length = ys.length) (hk : ∀ j, j < xs.length → sEq (xs.getD j ByteArray.empty) (ys.getD j ByteArray.empty) = true) : sameL xs ys = true := by
  simp only [sameL, h, decide_true, Bool.true_and, List.all_eq_true, List.mem_range]
  intro j hj
  exact hk j (by omega)
theorem sameL_no {xs ys : List ByteArray} {k : Nat} (hk : k < xs.length) (h : sEq (xs.getD k ByteArray.empty) (ys.getD k ByteArray.empty) = false) : sameL xs ys = false := by
  simp only [sameL, Bool.and_eq_false_iff, List.all_eq_false, List.mem_range]
  exact .inr ⟨k, hk, by rw [h]; exact Bool.false_ne_true⟩

set_option maxRecDepth 100000 in
theorem SameTexts_any (w : World) (ao bo : Option Addr) (n cap m cbp : Nat) (xs ys : List ByteArray) (h : Strs w ao n cap xs) (h' : Strs w bo m cbp ys) (hn : n ≤ 1000000) (hm : m ≤ 1000000) :
    Calls Tryz.prog 15 #[.slice ao n cap, .slice bo m cbp] w fun e w' => e = .returned (.bool (sameL xs ys)) ∧ Below w.heap.size w w' := by
  have hl := Lib.hid h.len
  have hl' := Lib.hid h'.len
  by_cases hnm : n = m
  · subst hnm
    go_enter Tryz.func15, Tryz.ntmps15
    go_wp2_with fail
    go_loopw [5] (Rsame xs ys w) (fun u5 _ => n - (intOf u5).toNat)
    case atStart => exact ⟨0, Nat.zero_le _, rfl, fun j hj => absurd hj (by omega), Below.refl _ _⟩
    case round =>
      obtain ⟨k, hk, rfl, hno, hb⟩ := hrel
      rw [hl.out] at hk
      have hno' := Lib.hid hno
      clear hno
      by_cases hlt : k < n
      · obtain ⟨g, rfl, _, hg⟩ := h.sl.some_ (by have := h.sl.le; omega)
        obtain ⟨g', rfl, _, hg'⟩ := h'.sl.some_ (by have := h'.sl.le; omega)
        have hc : wr.cell? ⟨g, k, none⟩ = some (.string (xs.getD k ByteArray.empty)) := (hb.cell (p := ⟨g, k, none⟩) hg).trans (h.sl.cell (i := k) (by omega))
        have hc' : wr.cell? ⟨g', k, none⟩ = some (.string (ys.getD k ByteArray.empty)) := (hb.cell (p := ⟨g', k, none⟩) hg').trans (h'.sl.cell (i := k) (by omega))
        generalize hx : xs.getD k ByteArray.empty = x at hc
        have Hx := Lib.hid hx
        clear hx
        generalize hy : ys.getD k ByteArray.empty = y at hc'
        have Hy := Lib.hid hy
        clear hy
        cases hs : sEq x y with
        | true =>
          have hs' : (x.toList == y.toList) = true := hs
          have hs2 : (x.toList != y.toList) = false := by simp [bne, hs']
          go_wp2_with fail
          go_quiet (fail)
          go_wp2_with fail
          go_roundw
          case rel => exact ⟨k + 1, by rw [hl.out]; exact hlt, by go_num, fun j hj => (by
            by_cases e : j = k
            · subst e; rw [Hx.out, Hy.out]; exact hs
            · exact hno'.out j (by omega)), ⟨hb.os, hb.tape, hb.output, hb.size, hb.block⟩⟩
          case measure => simp [intOf]; omega
        | false =>
          have hs' : (x.toList == y.toList) = false := hs
          have hs2 : (x.toList != y.toList) = true := by simp [bne, hs']
          go_wp2_with fail
          go_quiet (fail)
          go_wp2_with fail
          go_ret
          have := sameL_no (xs := xs) (ys := ys) (k := k) (by rw [hl.out]; exact hlt) (by rw [Hx.out, Hy.out]; exact hs)
          exact ⟨by rw [this]; rfl, ⟨hb.os, hb.tape, hb.output, hb.size, hb.block⟩⟩
      · go_wp2_with fail
        go_ret
        have := sameL_yes (xs := xs) (ys := ys) (by rw [hl.out, hl'.out]) (fun j hj => hno'.out j (by rw [hl.out] at hj; omega))
        exact ⟨by rw [this]; rfl, hb⟩
  · have hne : ((n : Int) != (m : Int)) = true := by rw [bne_iff_ne]; omega
    have hne2 : ((n : Int) == (m : Int)) = false := by rw [beq_eq_false_iff_ne]; omega
    go_enter Tryz.func15, Tryz.ntmps15
    go_wp2_with fail
    go_ret
    have := sameL_len (xs := xs) (ys := ys) (by rw [hl.out, hl'.out]; exact hnm)
    exact ⟨by rw [this]; rfl, Below.refl _ _⟩
end Go.Proofs.YthpjkfcaabhdhaaGreat
