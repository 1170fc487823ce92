/-
  The tests on a row of the table: the closures of Longs and Short, the reference's 'of'.
-/
import Derived.Test.YthpjkfcaabhdhaaGreatStrs
import Derived.BigGuardPart
namespace Go.Proofs.YthpjkfcaabhdhaaGreat
open Go.RowKit

abbrev Row := Int × ByteArray × ByteArray
def rowV (r : Row) : Value := .agg #[.int .u8 r.1, .string r.2.1, .string r.2.2]
def ofKind (kind : Int) (r : Row) : Bool := kind == 0 || r.1 == kind
/-- Longs: a row of the kind that has the word. -/
def ofR (kind : Int) (word : ByteArray) (r : Row) : Bool := ofKind kind r && (sEq r.2.1 word || sEq r.2.2 word)
/-- Short: a row of the kind whose long word it is. -/
def shR (kind : Int) (word : ByteArray) (r : Row) : Bool := ofKind kind r && sEq r.2.1 word
/-- The reference's 'of'. -/
def refOf (kind : Int) (word : ByteArray) (r : Row) : Bool := ofKind kind r && (sEq word r.2.1 || sEq word r.2.2)
theorem refOf_eq (kind : Int) (word : ByteArray) (r : Row) : refOf kind word r = ofR kind word r := by
  unfold refOf ofR
  rw [sEq_comm word r.2.1, sEq_comm word r.2.2]

set_option maxRecDepth 100000 in
set_option maxHeartbeats 1000000 in
theorem longsOf_any (w : World) (bk bw : Nat) (kind : Int) (word : ByteArray) (r1 : Int) (r2 r3 : ByteArray) (hk : w.cell? ⟨bk, 0, none⟩ = some (.int .u8 kind)) (hw : w.cell? ⟨bw, 0, none⟩ = some (.string word)) :
    Calls Tryz.prog 22 #[.agg #[.int .u8 r1, .string r2, .string r3], .pointer (some ⟨bk, 0, none⟩), .pointer (some ⟨bw, 0, none⟩)] w fun e w' => e = .returned (.bool (ofR kind word (r1, r2, r3))) ∧ Below w.heap.size w w' := by
  have hlk : bk < w.heap.size := World.block_lt_of_cell? _ _ hk
  have hlw : bw < w.heap.size := World.block_lt_of_cell? _ _ hw
  have hv : ofR kind word (r1, r2, r3) = ((kind == 0 || r1 == kind) && (r2.toList == word.toList || r3.toList == word.toList)) := rfl
  rw [hv]
  clear hv
  cases h0 : (kind == 0) <;> cases h1 : (r1 == kind) <;> cases h2 : (r2.toList == word.toList) <;> cases h3 : (r3.toList == word.toList)
  all_goals
    go_enter Tryz.func22, Tryz.ntmps22
    go_wp2_with fail
    go_ret
    exact ⟨rfl, (Below.refl _ _).alloc (Nat.le_refl _) _⟩

set_option maxRecDepth 100000 in
set_option maxHeartbeats 1000000 in
theorem shortOf_any (w : World) (bk bw : Nat) (kind : Int) (word : ByteArray) (r1 : Int) (r2 r3 : ByteArray) (hk : w.cell? ⟨bk, 0, none⟩ = some (.int .u8 kind)) (hw : w.cell? ⟨bw, 0, none⟩ = some (.string word)) :
    Calls Tryz.prog 32 #[.agg #[.int .u8 r1, .string r2, .string r3], .pointer (some ⟨bk, 0, none⟩), .pointer (some ⟨bw, 0, none⟩)] w fun e w' => e = .returned (.bool (shR kind word (r1, r2, r3))) ∧ Below w.heap.size w w' := by
  have hlk : bk < w.heap.size := World.block_lt_of_cell? _ _ hk
  have hlw : bw < w.heap.size := World.block_lt_of_cell? _ _ hw
  have hv : shR kind word (r1, r2, r3) = ((kind == 0 || r1 == kind) && (r2.toList == word.toList)) := rfl
  rw [hv]
  clear hv
  cases h0 : (kind == 0) <;> cases h1 : (r1 == kind) <;> cases h2 : (r2.toList == word.toList)
  all_goals
    go_enter Tryz.func32, Tryz.ntmps32
    go_wp2_with fail
    go_ret
    exact ⟨rfl, (Below.refl _ _).alloc (Nat.le_refl _) _⟩

set_option maxRecDepth 100000 in
set_option maxHeartbeats 1000000 in
theorem refOf_any (w : World) (kind : Int) (word : ByteArray) (r1 : Int) (r2 r3 : ByteArray) :
    Calls Tryz.prog 34 #[.agg #[.int .u8 r1, .string r2, .string r3], .int .u8 kind, .string word] w fun e w' => e = .returned (.bool (refOf kind word (r1, r2, r3))) ∧ Below w.heap.size w w' := by
  have hv : refOf kind word (r1, r2, r3) = ((kind == 0 || r1 == kind) && (word.toList == r2.toList || word.toList == r3.toList)) := rfl
  rw [hv]
  clear hv
  cases h0 : (kind == 0) <;> cases h1 : (r1 == kind) <;> cases h2 : (word.toList == r2.toList) <;> cases h3 : (word.toList == r3.toList)
  all_goals
    go_enter Tryz.func34, Tryz.ntmps34
    go_wp2_with fail
    go_ret
    exact ⟨rfl, (Below.refl _ _).alloc (Nat.le_refl _) _⟩
end Go.Proofs.YthpjkfcaabhdhaaGreat
