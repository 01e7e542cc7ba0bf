/-
  No cell of these rows narrows 'for every input' (looked for: loops, veiled, ifaces, maps, wideKeys, modest, calm, conditions, laid).
  DERIVED. THE GIVEN ROWS OF THIS SEAT. 8 by the template 'for every input the law returns true; each argument reads behind the call as it read before'; 0 by the template 'total and deterministic' (their statements: YtppbknpiipfidaaTotals.lean).
  GIVEN WITH THE SEED: the statements are not yours to turn. If you find one false, say at which input.
  Laid BY PROGRAM, IN A SANDBOX (cutbox-rows.mjs): the forced cells as the released guide's own fill.sh prints them over the translation 464bad34ac58abcf… (all of the seat's roots in one cut). By AI agents, Wed Nov 11 2026. No macro, syntax, notation, axiom, sorry.
-/
import Derived.Test.YtppbknpiipfidaaChecked
import GoSem.Claim
import GoSem.ClaimJoined
import GoSem.ClaimMapViews
import Derived.JoinedTies
import Derived.KernelRfl
namespace Go.Proofs.Ytppbknpiipfidaa
/- THE CELL 'sum', in the pinned program and in every row, IS THE sha256 OF THE DUMP (.gsa) THAT YtppbknpiipfidaaProg.lean LOADS. Nothing in Lean hashes anything: it is a label: what it is worth is what the hold of that sum in a sandbox is worth. -/
noncomputable def Try.pinned : Pinned := { name := "ytppbknpiipfidaa", sum := "464bad34ac58abcfe825011aca85aaba9c2fdf5d2154f57cbfc2dfe2a461693e", checked := Try.checked }
namespace Rows
def none {H : Type} : Left H := { results := [], args := [] }

/-- 'quartolaw24.SchedTurns': WHATEVER THE INPUT: true; the input reads as it did. -/
def schedTurnsSpec : ChangeSpec := { name := "schedTurns", fn := fun _ => fun
  | [d1, d2, d3] => { results := [.lit (.bool true)], args := [d1, d2, d3] }
  | _ => none }
def schedTurnsRow : OpenClaim := { program := "ytppbknpiipfidaa", sum := "464bad34ac58abcfe825011aca85aaba9c2fdf5d2154f57cbfc2dfe2a461693e", func := "quarto/quartolaw24.SchedTurns", spec := "schedTurns", unfollowed := true, recurses := true, apart := false }
def SchedTurnsSaid : Prop := schedTurnsRow.holds Try.pinned (OpenSpec.ofChange schedTurnsSpec)

/-- ITS FALSE NEIGHBOUR: 'it returns false'. Refute it at one input. -/
def schedTurnsWrong : ChangeSpec := { name := "schedTurns", fn := fun _ => fun
  | [d1, d2, d3] => { results := [.lit (.bool false)], args := [d1, d2, d3] }
  | _ => none }
def SchedTurnsWrongFalsely : Prop := schedTurnsRow.holds Try.pinned (OpenSpec.ofChange schedTurnsWrong)

/-- 'quartolaw24.SchedBursts': WHATEVER THE INPUT: true; the input reads as it did. -/
def schedBurstsSpec : ChangeSpec := { name := "schedBursts", fn := fun _ => fun
  | [d] => { results := [.lit (.bool true)], args := [d] }
  | _ => none }
def schedBurstsRow : OpenClaim := { program := "ytppbknpiipfidaa", sum := "464bad34ac58abcfe825011aca85aaba9c2fdf5d2154f57cbfc2dfe2a461693e", func := "quarto/quartolaw24.SchedBursts", spec := "schedBursts", apart := false }
def SchedBurstsSaid : Prop := schedBurstsRow.holds Try.pinned (OpenSpec.ofChange schedBurstsSpec)

/-- ITS FALSE NEIGHBOUR: 'it returns false'. Refute it at one input. -/
def schedBurstsWrong : ChangeSpec := { name := "schedBursts", fn := fun _ => fun
  | [d] => { results := [.lit (.bool false)], args := [d] }
  | _ => none }
def SchedBurstsWrongFalsely : Prop := schedBurstsRow.holds Try.pinned (OpenSpec.ofChange schedBurstsWrong)

/-- 'quartolaw24.SchedGaps': WHATEVER THE INPUT: true; the input reads as it did. -/
def schedGapsSpec : ChangeSpec := { name := "schedGaps", fn := fun _ => fun
  | [d1, d2, d3] => { results := [.lit (.bool true)], args := [d1, d2, d3] }
  | _ => none }
def schedGapsRow : OpenClaim := { program := "ytppbknpiipfidaa", sum := "464bad34ac58abcfe825011aca85aaba9c2fdf5d2154f57cbfc2dfe2a461693e", func := "quarto/quartolaw24.SchedGaps", spec := "schedGaps", apart := false }
def SchedGapsSaid : Prop := schedGapsRow.holds Try.pinned (OpenSpec.ofChange schedGapsSpec)

/-- ITS FALSE NEIGHBOUR: 'it returns false'. Refute it at one input. -/
def schedGapsWrong : ChangeSpec := { name := "schedGaps", fn := fun _ => fun
  | [d1, d2, d3] => { results := [.lit (.bool false)], args := [d1, d2, d3] }
  | _ => none }
def SchedGapsWrongFalsely : Prop := schedGapsRow.holds Try.pinned (OpenSpec.ofChange schedGapsWrong)

/-- 'quartolaw24.SchedFairness': WHATEVER THE INPUT: true; the input reads as it did. -/
def schedFairnessSpec : ChangeSpec := { name := "schedFairness", fn := fun _ => fun
  | [d1, d2, d3] => { results := [.lit (.bool true)], args := [d1, d2, d3] }
  | _ => none }
def schedFairnessRow : OpenClaim := { program := "ytppbknpiipfidaa", sum := "464bad34ac58abcfe825011aca85aaba9c2fdf5d2154f57cbfc2dfe2a461693e", func := "quarto/quartolaw24.SchedFairness", spec := "schedFairness", apart := false }
def SchedFairnessSaid : Prop := schedFairnessRow.holds Try.pinned (OpenSpec.ofChange schedFairnessSpec)

/-- ITS FALSE NEIGHBOUR: 'it returns false'. Refute it at one input. -/
def schedFairnessWrong : ChangeSpec := { name := "schedFairness", fn := fun _ => fun
  | [d1, d2, d3] => { results := [.lit (.bool false)], args := [d1, d2, d3] }
  | _ => none }
def SchedFairnessWrongFalsely : Prop := schedFairnessRow.holds Try.pinned (OpenSpec.ofChange schedFairnessWrong)

/-- 'quartolaw24.SchedDivides': WHATEVER THE INPUT: true; the input reads as it did. -/
def schedDividesSpec : ChangeSpec := { name := "schedDivides", fn := fun _ => fun
  | [d1, d2, d3] => { results := [.lit (.bool true)], args := [d1, d2, d3] }
  | _ => none }
def schedDividesRow : OpenClaim := { program := "ytppbknpiipfidaa", sum := "464bad34ac58abcfe825011aca85aaba9c2fdf5d2154f57cbfc2dfe2a461693e", func := "quarto/quartolaw24.SchedDivides", spec := "schedDivides", apart := false }
def SchedDividesSaid : Prop := schedDividesRow.holds Try.pinned (OpenSpec.ofChange schedDividesSpec)

/-- ITS FALSE NEIGHBOUR: 'it returns false'. Refute it at one input. -/
def schedDividesWrong : ChangeSpec := { name := "schedDivides", fn := fun _ => fun
  | [d1, d2, d3] => { results := [.lit (.bool false)], args := [d1, d2, d3] }
  | _ => none }
def SchedDividesWrongFalsely : Prop := schedDividesRow.holds Try.pinned (OpenSpec.ofChange schedDividesWrong)

/-- 'quartolaw24.SchedPicks': WHATEVER THE INPUT: true; the input reads as it did. -/
def schedPicksSpec : ChangeSpec := { name := "schedPicks", fn := fun _ => fun
  | [d1, d2] => { results := [.lit (.bool true)], args := [d1, d2] }
  | _ => none }
def schedPicksRow : OpenClaim := { program := "ytppbknpiipfidaa", sum := "464bad34ac58abcfe825011aca85aaba9c2fdf5d2154f57cbfc2dfe2a461693e", func := "quarto/quartolaw24.SchedPicks", spec := "schedPicks", apart := false }
def SchedPicksSaid : Prop := schedPicksRow.holds Try.pinned (OpenSpec.ofChange schedPicksSpec)

/-- ITS FALSE NEIGHBOUR: 'it returns false'. Refute it at one input. -/
def schedPicksWrong : ChangeSpec := { name := "schedPicks", fn := fun _ => fun
  | [d1, d2] => { results := [.lit (.bool false)], args := [d1, d2] }
  | _ => none }
def SchedPicksWrongFalsely : Prop := schedPicksRow.holds Try.pinned (OpenSpec.ofChange schedPicksWrong)

/-- 'quartolaw24.SchedTakesTurns': WHATEVER THE INPUT: true; the input reads as it did. -/
def schedTakesTurnsSpec : ChangeSpec := { name := "schedTakesTurns", fn := fun _ => fun
  | [d1, d2] => { results := [.lit (.bool true)], args := [d1, d2] }
  | _ => none }
def schedTakesTurnsRow : OpenClaim := { program := "ytppbknpiipfidaa", sum := "464bad34ac58abcfe825011aca85aaba9c2fdf5d2154f57cbfc2dfe2a461693e", func := "quarto/quartolaw24.SchedTakesTurns", spec := "schedTakesTurns", unfollowed := true, recurses := true, apart := false }
def SchedTakesTurnsSaid : Prop := schedTakesTurnsRow.holds Try.pinned (OpenSpec.ofChange schedTakesTurnsSpec)

/-- ITS FALSE NEIGHBOUR: 'it returns false'. Refute it at one input. -/
def schedTakesTurnsWrong : ChangeSpec := { name := "schedTakesTurns", fn := fun _ => fun
  | [d1, d2] => { results := [.lit (.bool false)], args := [d1, d2] }
  | _ => none }
def SchedTakesTurnsWrongFalsely : Prop := schedTakesTurnsRow.holds Try.pinned (OpenSpec.ofChange schedTakesTurnsWrong)

/-- 'quartolaw24.SchedExamples': WHATEVER THE INPUT: true; the input reads as it did. -/
def schedExamplesSpec : ChangeSpec := { name := "schedExamples", fn := fun _ => fun
  | [] => { results := [.lit (.bool true)], args := [] }
  | _ => none }
def schedExamplesRow : OpenClaim := { program := "ytppbknpiipfidaa", sum := "464bad34ac58abcfe825011aca85aaba9c2fdf5d2154f57cbfc2dfe2a461693e", func := "quarto/quartolaw24.SchedExamples", spec := "schedExamples", unfollowed := true, recurses := true, apart := false }
def SchedExamplesSaid : Prop := schedExamplesRow.holds Try.pinned (OpenSpec.ofChange schedExamplesSpec)

/-- ITS FALSE NEIGHBOUR: 'it returns false'. Refute it at one input. -/
def schedExamplesWrong : ChangeSpec := { name := "schedExamples", fn := fun _ => fun
  | [] => { results := [.lit (.bool false)], args := [] }
  | _ => none }
def SchedExamplesWrongFalsely : Prop := schedExamplesRow.holds Try.pinned (OpenSpec.ofChange schedExamplesWrong)

/- THE SECOND FORM. 'bulk': how many values and letters a reading holds, each counted each time it is reached (what is shared counts as often as it is met; a slice's spare places count too). A statement '..UptoSaid' is the law's where the arguments, and the package variables that the reading takes, are together of bulk at most 1048576: NARROWER than '..Said'. Prove '..Said' where nothing that the law and all that it calls make is longer than what came in: it says more and counts as full. Else prove '..UptoSaid'. A law counts once. -/
mutual
def uptoBulk {H : Type} : DataW H → Nat
  | .lit (.string bytes) => bytes.length + 1
  | .lit _ => 1
  | .nil => 1
  | .ptr d => uptoBulk d + 1
  | .slice elems spare => uptoBulkAll elems + uptoBulkAll spare + 1
  | .agg parts => uptoBulkAll parts + 1
  | .iface _ d => uptoBulk d + 1
  | .map entries => uptoBulkEntries entries + 1
  | .held _ => 1
def uptoBulkAll {H : Type} : List (DataW H) → Nat
  | [] => 0
  | d :: r => uptoBulk d + uptoBulkAll r
def uptoBulkEntries {H : Type} : List (Lit × DataW H) → Nat
  | [] => 0
  | x :: r => uptoBulkEntry x + uptoBulkEntries r
def uptoBulkEntry {H : Type} : Lit × DataW H → Nat
  | (.string bytes, d) => bytes.length + uptoBulk d + 1
  | (_, d) => uptoBulk d + 1
 end
def uptoSmall : (H : Type) → List (DataW H) → Bool := fun _ ds => decide (uptoBulkAll ds ≤ 1048576)
def OpenSpec.upto (s : _root_.Go.ChangeSpec) : _root_.Go.OpenSpec := { _root_.Go.OpenSpec.ofChange s with cond := some uptoSmall }

/-- 'quartolaw24.SchedTurns', WHERE WHAT IT READS IS OF BULK AT MOST 1048576: true; the input reads as it did. -/
def schedTurnsUptoRow : OpenClaim := { program := "ytppbknpiipfidaa", sum := "464bad34ac58abcfe825011aca85aaba9c2fdf5d2154f57cbfc2dfe2a461693e", func := "quarto/quartolaw24.SchedTurns", spec := "schedTurns", unfollowed := true, recurses := true, apart := false, narrowed := true }
def SchedTurnsUptoSaid : Prop := schedTurnsUptoRow.holds Try.pinned (OpenSpec.upto schedTurnsSpec)

/-- 'quartolaw24.SchedBursts', WHERE WHAT IT READS IS OF BULK AT MOST 1048576: true; the input reads as it did. -/
def schedBurstsUptoRow : OpenClaim := { program := "ytppbknpiipfidaa", sum := "464bad34ac58abcfe825011aca85aaba9c2fdf5d2154f57cbfc2dfe2a461693e", func := "quarto/quartolaw24.SchedBursts", spec := "schedBursts", apart := false, narrowed := true }
def SchedBurstsUptoSaid : Prop := schedBurstsUptoRow.holds Try.pinned (OpenSpec.upto schedBurstsSpec)

/-- 'quartolaw24.SchedGaps', WHERE WHAT IT READS IS OF BULK AT MOST 1048576: true; the input reads as it did. -/
def schedGapsUptoRow : OpenClaim := { program := "ytppbknpiipfidaa", sum := "464bad34ac58abcfe825011aca85aaba9c2fdf5d2154f57cbfc2dfe2a461693e", func := "quarto/quartolaw24.SchedGaps", spec := "schedGaps", apart := false, narrowed := true }
def SchedGapsUptoSaid : Prop := schedGapsUptoRow.holds Try.pinned (OpenSpec.upto schedGapsSpec)

/-- 'quartolaw24.SchedFairness', WHERE WHAT IT READS IS OF BULK AT MOST 1048576: true; the input reads as it did. -/
def schedFairnessUptoRow : OpenClaim := { program := "ytppbknpiipfidaa", sum := "464bad34ac58abcfe825011aca85aaba9c2fdf5d2154f57cbfc2dfe2a461693e", func := "quarto/quartolaw24.SchedFairness", spec := "schedFairness", apart := false, narrowed := true }
def SchedFairnessUptoSaid : Prop := schedFairnessUptoRow.holds Try.pinned (OpenSpec.upto schedFairnessSpec)

/-- 'quartolaw24.SchedDivides', WHERE WHAT IT READS IS OF BULK AT MOST 1048576: true; the input reads as it did. -/
def schedDividesUptoRow : OpenClaim := { program := "ytppbknpiipfidaa", sum := "464bad34ac58abcfe825011aca85aaba9c2fdf5d2154f57cbfc2dfe2a461693e", func := "quarto/quartolaw24.SchedDivides", spec := "schedDivides", apart := false, narrowed := true }
def SchedDividesUptoSaid : Prop := schedDividesUptoRow.holds Try.pinned (OpenSpec.upto schedDividesSpec)

/-- 'quartolaw24.SchedPicks', WHERE WHAT IT READS IS OF BULK AT MOST 1048576: true; the input reads as it did. -/
def schedPicksUptoRow : OpenClaim := { program := "ytppbknpiipfidaa", sum := "464bad34ac58abcfe825011aca85aaba9c2fdf5d2154f57cbfc2dfe2a461693e", func := "quarto/quartolaw24.SchedPicks", spec := "schedPicks", apart := false, narrowed := true }
def SchedPicksUptoSaid : Prop := schedPicksUptoRow.holds Try.pinned (OpenSpec.upto schedPicksSpec)

/-- 'quartolaw24.SchedTakesTurns', WHERE WHAT IT READS IS OF BULK AT MOST 1048576: true; the input reads as it did. -/
def schedTakesTurnsUptoRow : OpenClaim := { program := "ytppbknpiipfidaa", sum := "464bad34ac58abcfe825011aca85aaba9c2fdf5d2154f57cbfc2dfe2a461693e", func := "quarto/quartolaw24.SchedTakesTurns", spec := "schedTakesTurns", unfollowed := true, recurses := true, apart := false, narrowed := true }
def SchedTakesTurnsUptoSaid : Prop := schedTakesTurnsUptoRow.holds Try.pinned (OpenSpec.upto schedTakesTurnsSpec)

/-- 'quartolaw24.SchedExamples', WHERE WHAT IT READS IS OF BULK AT MOST 1048576: true; the input reads as it did. -/
def schedExamplesUptoRow : OpenClaim := { program := "ytppbknpiipfidaa", sum := "464bad34ac58abcfe825011aca85aaba9c2fdf5d2154f57cbfc2dfe2a461693e", func := "quarto/quartolaw24.SchedExamples", spec := "schedExamples", unfollowed := true, recurses := true, apart := false, narrowed := true }
def SchedExamplesUptoSaid : Prop := schedExamplesUptoRow.holds Try.pinned (OpenSpec.upto schedExamplesSpec)

end Rows
end Go.Proofs.Ytppbknpiipfidaa
