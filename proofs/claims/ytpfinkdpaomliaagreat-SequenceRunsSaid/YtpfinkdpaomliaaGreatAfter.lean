/-
  A region that only reads and calls what leaves the older memory as it was: one walk. Conditions: none. (XFlatTexts holds the same words: not both in one seat.)
-/
import Derived.Test.YtpfinkdpaomliaaGreatProg
import Derived.WalkKit
import Derived.Deep.QuietTactic
import Derived.BigQuiet
namespace Go.Proofs.YtpfinkdpaomliaaGreat
open Go.RowKit
/-- The worlds in which what was there is as it was. -/
def After (w : World) : Type := { w' : World // Below w.heap.size w w' }
instance afterNonempty (w : World) : Nonempty (After w) := ⟨⟨w, Below.refl _ _⟩⟩
theorem After.quiet {w : World} (d : After w) {f : FuncId} {args : Array Value} {v : Value} (h : Calls Tryz.prog f args d.val fun e w' => e = .returned v ∧ Below d.val.heap.size d.val w') :
    Calls Tryz.prog f args d.val fun e w' => e = .returned v ∧ ∃ d' : After w, w' = d'.val :=
  h.mono fun _ _ ⟨he, hb⟩ => ⟨he, ⟨_, d.2.trans (hb.mono d.2.size)⟩, rfl⟩
theorem wp_region_after {id : Nat} {Q : Exit → Act → World → Prop} {a : Act} {w : World} {l : List Oper} (hm : Tryz.prog.follows .mixedOrders = true) (hB : Region.lexB .any l.toArray = true)
    (h : wpQuiet Tryz.prog l.toArray (fun w' => ∃ d : After w, w' = d.val) (fun a' => ∀ w', (∃ d : After w, w' = d.val) → Q .normal a' w') l a) : (Code.region id l.toArray true).wp Tryz.prog Q a w :=
  wp_region_quiet (C := fun w' => ∃ d : After w, w' = d.val) hm hB ⟨⟨w.drew, (Below.refl _ _).drew⟩, rfl⟩ (by simpa using h)
theorem after_cell {w : World} {g i : Nat} {v : Value} (h : w.cell? ⟨g, i, none⟩ = some v) : ∀ d : After w, d.val.cell? ⟨g, i, none⟩ = some v :=
  fun d => (d.2.cell (p := ⟨g, i, none⟩) (World.block_lt_of_cell? _ _ h)).trans h
end Go.Proofs.YtpfinkdpaomliaaGreat
