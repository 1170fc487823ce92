/-
  No cell of these rows narrows 'for every input' (looked for: loops, veiled, ifaces, maps, wideKeys, modest, calm, conditions, laid).
  DERIVED. THE GIVEN ROWS OF THIS SEAT. 5 by the template 'for every input the law returns true; each argument reads behind the call as it read before'; 0 by the template 'total and deterministic' (their statements: YtpfinkdpaomliaaGreatTotals.lean).
  GIVEN WITH THE SEED: the statements are not yours to turn. If you find one false, say at which input.
  Laid BY PROGRAM, IN A SANDBOX (cutbox-rows.mjs): the forced cells as the released guide's own fill.sh prints them over the translation 608cf5587ea0a918… (all of the seat's roots in one cut). By AI agents, Wed Nov 11 2026. No macro, syntax, notation, axiom, sorry.
-/
import Derived.Test.YtpfinkdpaomliaaGreatChecked
import GoSem.Claim
import GoSem.ClaimJoined
import GoSem.ClaimMapViews
import Derived.JoinedTies
import Derived.KernelRfl
namespace Go.Proofs.YtpfinkdpaomliaaGreat
/- THE CELL 'sum', in the pinned program and in every row, IS THE sha256 OF THE DUMP (.gsa) THAT YtpfinkdpaomliaaGreatProg.lean LOADS. Nothing in Lean hashes anything: it is a label: what it is worth is what the hold of that sum in a sandbox is worth. -/
noncomputable def Tryz.pinned : Pinned := { name := "ytpfinkdpaomliaagreat", sum := "608cf5587ea0a91819e7e0182ef1d0f7e14a3604d97fa5cfd9feaa43c787c203", checked := Tryz.checked }
namespace Rows
def none {H : Type} : Left H := { results := [], args := [] }

/-- 'letterbaglaw28.SequenceTells': WHATEVER THE INPUT: true; the input reads as it did. -/
def sequenceTellsSpec : ChangeSpec := { name := "sequenceTells", fn := fun _ => fun
  | [d1, d2] => { results := [.lit (.bool true)], args := [d1, d2] }
  | _ => none }
def sequenceTellsRow : OpenClaim := { program := "ytpfinkdpaomliaagreat", sum := "608cf5587ea0a91819e7e0182ef1d0f7e14a3604d97fa5cfd9feaa43c787c203", func := "letterbag/letterbaglaw28.SequenceTells", spec := "sequenceTells", unfollowed := true, recurses := true, apart := false }
def SequenceTellsSaid : Prop := sequenceTellsRow.holds Tryz.pinned (OpenSpec.ofChange sequenceTellsSpec)

/-- ITS FALSE NEIGHBOUR: 'it returns false'. Refute it at one input. -/
def sequenceTellsWrong : ChangeSpec := { name := "sequenceTells", fn := fun _ => fun
  | [d1, d2] => { results := [.lit (.bool false)], args := [d1, d2] }
  | _ => none }
def SequenceTellsWrongFalsely : Prop := sequenceTellsRow.holds Tryz.pinned (OpenSpec.ofChange sequenceTellsWrong)

/-- 'letterbaglaw28.SequenceRuns': WHATEVER THE INPUT: true; the input reads as it did. -/
def sequenceRunsSpec : ChangeSpec := { name := "sequenceRuns", fn := fun _ => fun
  | [d1, d2] => { results := [.lit (.bool true)], args := [d1, d2] }
  | _ => none }
def sequenceRunsRow : OpenClaim := { program := "ytpfinkdpaomliaagreat", sum := "608cf5587ea0a91819e7e0182ef1d0f7e14a3604d97fa5cfd9feaa43c787c203", func := "letterbag/letterbaglaw28.SequenceRuns", spec := "sequenceRuns", unfollowed := true, recurses := true, apart := false }
def SequenceRunsSaid : Prop := sequenceRunsRow.holds Tryz.pinned (OpenSpec.ofChange sequenceRunsSpec)

/-- ITS FALSE NEIGHBOUR: 'it returns false'. Refute it at one input. -/
def sequenceRunsWrong : ChangeSpec := { name := "sequenceRuns", fn := fun _ => fun
  | [d1, d2] => { results := [.lit (.bool false)], args := [d1, d2] }
  | _ => none }
def SequenceRunsWrongFalsely : Prop := sequenceRunsRow.holds Tryz.pinned (OpenSpec.ofChange sequenceRunsWrong)

/-- 'letterbaglaw29.SorterTells': WHATEVER THE INPUT: true; the input reads as it did. -/
def sorterTellsSpec : ChangeSpec := { name := "sorterTells", fn := fun _ => fun
  | [d1, d2, d3] => { results := [.lit (.bool true)], args := [d1, d2, d3] }
  | _ => none }
def sorterTellsRow : OpenClaim := { program := "ytpfinkdpaomliaagreat", sum := "608cf5587ea0a91819e7e0182ef1d0f7e14a3604d97fa5cfd9feaa43c787c203", func := "letterbag/letterbaglaw29.SorterTells", spec := "sorterTells", apart := false }
def SorterTellsSaid : Prop := sorterTellsRow.holds Tryz.pinned (OpenSpec.ofChange sorterTellsSpec)

/-- ITS FALSE NEIGHBOUR: 'it returns false'. Refute it at one input. -/
def sorterTellsWrong : ChangeSpec := { name := "sorterTells", fn := fun _ => fun
  | [d1, d2, d3] => { results := [.lit (.bool false)], args := [d1, d2, d3] }
  | _ => none }
def SorterTellsWrongFalsely : Prop := sorterTellsRow.holds Tryz.pinned (OpenSpec.ofChange sorterTellsWrong)

/-- 'letterbaglaw29.SorterTwo': WHATEVER THE INPUT: true; the input reads as it did. -/
def sorterTwoSpec : ChangeSpec := { name := "sorterTwo", fn := fun _ => fun
  | [d1, d2, d3] => { results := [.lit (.bool true)], args := [d1, d2, d3] }
  | _ => none }
def sorterTwoRow : OpenClaim := { program := "ytpfinkdpaomliaagreat", sum := "608cf5587ea0a91819e7e0182ef1d0f7e14a3604d97fa5cfd9feaa43c787c203", func := "letterbag/letterbaglaw29.SorterTwo", spec := "sorterTwo", apart := false }
def SorterTwoSaid : Prop := sorterTwoRow.holds Tryz.pinned (OpenSpec.ofChange sorterTwoSpec)

/-- ITS FALSE NEIGHBOUR: 'it returns false'. Refute it at one input. -/
def sorterTwoWrong : ChangeSpec := { name := "sorterTwo", fn := fun _ => fun
  | [d1, d2, d3] => { results := [.lit (.bool false)], args := [d1, d2, d3] }
  | _ => none }
def SorterTwoWrongFalsely : Prop := sorterTwoRow.holds Tryz.pinned (OpenSpec.ofChange sorterTwoWrong)

/-- 'letterbaglaw29.SorterSmall': WHATEVER THE INPUT: true; the input reads as it did. -/
def sorterSmallSpec : ChangeSpec := { name := "sorterSmall", fn := fun _ => fun
  | [] => { results := [.lit (.bool true)], args := [] }
  | _ => none }
def sorterSmallRow : OpenClaim := { program := "ytpfinkdpaomliaagreat", sum := "608cf5587ea0a91819e7e0182ef1d0f7e14a3604d97fa5cfd9feaa43c787c203", func := "letterbag/letterbaglaw29.SorterSmall", spec := "sorterSmall", apart := false }
def SorterSmallSaid : Prop := sorterSmallRow.holds Tryz.pinned (OpenSpec.ofChange sorterSmallSpec)

/-- ITS FALSE NEIGHBOUR: 'it returns false'. Refute it at one input. -/
def sorterSmallWrong : ChangeSpec := { name := "sorterSmall", fn := fun _ => fun
  | [] => { results := [.lit (.bool false)], args := [] }
  | _ => none }
def SorterSmallWrongFalsely : Prop := sorterSmallRow.holds Tryz.pinned (OpenSpec.ofChange sorterSmallWrong)

/- THE SECOND FORM. 'bulk': how many values and letters a reading holds, each counted each time it is reached (what is shared counts as often as it is met; a slice's spare places count too). A statement '..UptoSaid' is the law's where the arguments, and the package variables that the reading takes, are together of bulk at most 1048576: NARROWER than '..Said'. Prove '..Said' where nothing that the law and all that it calls make is longer than what came in: it says more and counts as full. Else prove '..UptoSaid'. A law counts once. -/
mutual
def uptoBulk {H : Type} : DataW H → Nat
  | .lit (.string bytes) => bytes.length + 1
  | .lit _ => 1
  | .nil => 1
  | .ptr d => uptoBulk d + 1
  | .slice elems spare => uptoBulkAll elems + uptoBulkAll spare + 1
  | .agg parts => uptoBulkAll parts + 1
  | .iface _ d => uptoBulk d + 1
  | .map entries => uptoBulkEntries entries + 1
  | .held _ => 1
def uptoBulkAll {H : Type} : List (DataW H) → Nat
  | [] => 0
  | d :: r => uptoBulk d + uptoBulkAll r
def uptoBulkEntries {H : Type} : List (Lit × DataW H) → Nat
  | [] => 0
  | x :: r => uptoBulkEntry x + uptoBulkEntries r
def uptoBulkEntry {H : Type} : Lit × DataW H → Nat
  | (.string bytes, d) => bytes.length + uptoBulk d + 1
  | (_, d) => uptoBulk d + 1
 end
def uptoSmall : (H : Type) → List (DataW H) → Bool := fun _ ds => decide (uptoBulkAll ds ≤ 1048576)
def OpenSpec.upto (s : _root_.Go.ChangeSpec) : _root_.Go.OpenSpec := { _root_.Go.OpenSpec.ofChange s with cond := some uptoSmall }

/-- 'letterbaglaw28.SequenceTells', WHERE WHAT IT READS IS OF BULK AT MOST 1048576: true; the input reads as it did. -/
def sequenceTellsUptoRow : OpenClaim := { program := "ytpfinkdpaomliaagreat", sum := "608cf5587ea0a91819e7e0182ef1d0f7e14a3604d97fa5cfd9feaa43c787c203", func := "letterbag/letterbaglaw28.SequenceTells", spec := "sequenceTells", unfollowed := true, recurses := true, apart := false, narrowed := true }
def SequenceTellsUptoSaid : Prop := sequenceTellsUptoRow.holds Tryz.pinned (OpenSpec.upto sequenceTellsSpec)

/-- 'letterbaglaw28.SequenceRuns', WHERE WHAT IT READS IS OF BULK AT MOST 1048576: true; the input reads as it did. -/
def sequenceRunsUptoRow : OpenClaim := { program := "ytpfinkdpaomliaagreat", sum := "608cf5587ea0a91819e7e0182ef1d0f7e14a3604d97fa5cfd9feaa43c787c203", func := "letterbag/letterbaglaw28.SequenceRuns", spec := "sequenceRuns", unfollowed := true, recurses := true, apart := false, narrowed := true }
def SequenceRunsUptoSaid : Prop := sequenceRunsUptoRow.holds Tryz.pinned (OpenSpec.upto sequenceRunsSpec)

/-- 'letterbaglaw29.SorterTells', WHERE WHAT IT READS IS OF BULK AT MOST 1048576: true; the input reads as it did. -/
def sorterTellsUptoRow : OpenClaim := { program := "ytpfinkdpaomliaagreat", sum := "608cf5587ea0a91819e7e0182ef1d0f7e14a3604d97fa5cfd9feaa43c787c203", func := "letterbag/letterbaglaw29.SorterTells", spec := "sorterTells", apart := false, narrowed := true }
def SorterTellsUptoSaid : Prop := sorterTellsUptoRow.holds Tryz.pinned (OpenSpec.upto sorterTellsSpec)

/-- 'letterbaglaw29.SorterTwo', WHERE WHAT IT READS IS OF BULK AT MOST 1048576: true; the input reads as it did. -/
def sorterTwoUptoRow : OpenClaim := { program := "ytpfinkdpaomliaagreat", sum := "608cf5587ea0a91819e7e0182ef1d0f7e14a3604d97fa5cfd9feaa43c787c203", func := "letterbag/letterbaglaw29.SorterTwo", spec := "sorterTwo", apart := false, narrowed := true }
def SorterTwoUptoSaid : Prop := sorterTwoUptoRow.holds Tryz.pinned (OpenSpec.upto sorterTwoSpec)

/-- 'letterbaglaw29.SorterSmall', WHERE WHAT IT READS IS OF BULK AT MOST 1048576: true; the input reads as it did. -/
def sorterSmallUptoRow : OpenClaim := { program := "ytpfinkdpaomliaagreat", sum := "608cf5587ea0a91819e7e0182ef1d0f7e14a3604d97fa5cfd9feaa43c787c203", func := "letterbag/letterbaglaw29.SorterSmall", spec := "sorterSmall", apart := false, narrowed := true }
def SorterSmallUptoSaid : Prop := sorterSmallUptoRow.holds Tryz.pinned (OpenSpec.upto sorterSmallSpec)

end Rows
end Go.Proofs.YtpfinkdpaomliaaGreat
