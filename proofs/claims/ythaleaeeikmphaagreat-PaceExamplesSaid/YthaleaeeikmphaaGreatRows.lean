/-
  No cell of these rows narrows 'for every input' (looked for: loops, veiled, ifaces, maps, wideKeys, modest, calm, conditions, laid).
  DERIVED. THE GIVEN ROWS OF THIS SEAT. 3 by the template 'for every input the law returns true; each argument reads behind the call as it read before'; 0 by the template 'total and deterministic' (their statements: YthaleaeeikmphaaGreatTotals.lean).
  GIVEN WITH THE SEED: the statements are not yours to turn. If you find one false, say at which input.
  Laid BY PROGRAM, IN A SANDBOX (cutbox-rows.mjs): the forced cells as the released guide's own fill.sh prints them over the translation a12a63701b562616… (all of the seat's roots in one cut). By AI agents, Wed Nov 11 2026. No macro, syntax, notation, axiom, sorry.
-/
import Derived.Test.YthaleaeeikmphaaGreatChecked
import GoSem.Claim
import GoSem.ClaimJoined
import GoSem.ClaimMapViews
import Derived.JoinedTies
import Derived.KernelRfl
namespace Go.Proofs.YthaleaeeikmphaaGreat
/- THE CELL 'sum', in the pinned program and in every row, IS THE sha256 OF THE DUMP (.gsa) THAT YthaleaeeikmphaaGreatProg.lean LOADS. Nothing in Lean hashes anything: it is a label: what it is worth is what the hold of that sum in a sandbox is worth. -/
noncomputable def Tryz.pinned : Pinned := { name := "ythaleaeeikmphaagreat", sum := "a12a63701b562616c6ac777b251051c0b5730a1ef6af9c856c20583fa2b9c1cf", checked := Tryz.checked }
namespace Rows
def none {H : Type} : Left H := { results := [], args := [] }

/-- 'quartolaw38.PaceNumbers': WHATEVER THE INPUT: true; the input reads as it did. -/
def paceNumbersSpec : ChangeSpec := { name := "paceNumbers", fn := fun _ => fun
  | [d1, d2, d3] => { results := [.lit (.bool true)], args := [d1, d2, d3] }
  | _ => none }
def paceNumbersRow : OpenClaim := { program := "ythaleaeeikmphaagreat", sum := "a12a63701b562616c6ac777b251051c0b5730a1ef6af9c856c20583fa2b9c1cf", func := "quarto/quartolaw38.PaceNumbers", spec := "paceNumbers", inPlace := ["sync/atomic.LoadUint64", "sync/atomic.StoreUint64", "internal/abi.NoEscape", "slices.overlaps[quarto/api.Mark]", "sync/atomic.CompareAndSwapUint64", "sync/atomic.SwapUint64"], unfollowed := true, recurses := true, plainKeys := false, apart := false }
def PaceNumbersSaid : Prop := paceNumbersRow.holds Tryz.pinned (OpenSpec.ofChange paceNumbersSpec)

/-- ITS FALSE NEIGHBOUR: 'it returns false'. Refute it at one input. -/
def paceNumbersWrong : ChangeSpec := { name := "paceNumbers", fn := fun _ => fun
  | [d1, d2, d3] => { results := [.lit (.bool false)], args := [d1, d2, d3] }
  | _ => none }
def PaceNumbersWrongFalsely : Prop := paceNumbersRow.holds Tryz.pinned (OpenSpec.ofChange paceNumbersWrong)

/-- 'quartolaw38.PaceExamples': WHATEVER THE INPUT: true; the input reads as it did. -/
def paceExamplesSpec : ChangeSpec := { name := "paceExamples", fn := fun _ => fun
  | [] => { results := [.lit (.bool true)], args := [] }
  | _ => none }
def paceExamplesRow : OpenClaim := { program := "ythaleaeeikmphaagreat", sum := "a12a63701b562616c6ac777b251051c0b5730a1ef6af9c856c20583fa2b9c1cf", func := "quarto/quartolaw38.PaceExamples", spec := "paceExamples", inPlace := ["sync/atomic.LoadUint64", "sync/atomic.StoreUint64", "internal/abi.NoEscape", "slices.overlaps[quarto/api.Mark]", "sync/atomic.CompareAndSwapUint64", "sync/atomic.SwapUint64"], unfollowed := true, recurses := true, plainKeys := false, apart := false }
def PaceExamplesSaid : Prop := paceExamplesRow.holds Tryz.pinned (OpenSpec.ofChange paceExamplesSpec)

/-- ITS FALSE NEIGHBOUR: 'it returns false'. Refute it at one input. -/
def paceExamplesWrong : ChangeSpec := { name := "paceExamples", fn := fun _ => fun
  | [] => { results := [.lit (.bool false)], args := [] }
  | _ => none }
def PaceExamplesWrongFalsely : Prop := paceExamplesRow.holds Tryz.pinned (OpenSpec.ofChange paceExamplesWrong)

/-- 'quartolaw38.PaceReads': WHATEVER THE INPUT: true; the input reads as it did. -/
def paceReadsSpec : ChangeSpec := { name := "paceReads", fn := fun _ => fun
  | [d1, d2] => { results := [.lit (.bool true)], args := [d1, d2] }
  | _ => none }
def paceReadsRow : OpenClaim := { program := "ythaleaeeikmphaagreat", sum := "a12a63701b562616c6ac777b251051c0b5730a1ef6af9c856c20583fa2b9c1cf", func := "quarto/quartolaw38.PaceReads", spec := "paceReads", inPlace := ["sync/atomic.LoadUint64", "sync/atomic.StoreUint64", "internal/abi.NoEscape", "slices.overlaps[quarto/api.Mark]", "sync/atomic.CompareAndSwapUint64", "sync/atomic.SwapUint64"], unfollowed := true, recurses := true, plainKeys := false, apart := false }
def PaceReadsSaid : Prop := paceReadsRow.holds Tryz.pinned (OpenSpec.ofChange paceReadsSpec)

/-- ITS FALSE NEIGHBOUR: 'it returns false'. Refute it at one input. -/
def paceReadsWrong : ChangeSpec := { name := "paceReads", fn := fun _ => fun
  | [d1, d2] => { results := [.lit (.bool false)], args := [d1, d2] }
  | _ => none }
def PaceReadsWrongFalsely : Prop := paceReadsRow.holds Tryz.pinned (OpenSpec.ofChange paceReadsWrong)

/- THE SECOND FORM. 'bulk': how many values and letters a reading holds, each counted each time it is reached (what is shared counts as often as it is met; a slice's spare places count too). A statement '..UptoSaid' is the law's where the arguments, and the package variables that the reading takes, are together of bulk at most 1048576: NARROWER than '..Said'. Prove '..Said' where nothing that the law and all that it calls make is longer than what came in: it says more and counts as full. Else prove '..UptoSaid'. A law counts once. -/
mutual
def uptoBulk {H : Type} : DataW H → Nat
  | .lit (.string bytes) => bytes.length + 1
  | .lit _ => 1
  | .nil => 1
  | .ptr d => uptoBulk d + 1
  | .slice elems spare => uptoBulkAll elems + uptoBulkAll spare + 1
  | .agg parts => uptoBulkAll parts + 1
  | .iface _ d => uptoBulk d + 1
  | .map entries => uptoBulkEntries entries + 1
  | .held _ => 1
def uptoBulkAll {H : Type} : List (DataW H) → Nat
  | [] => 0
  | d :: r => uptoBulk d + uptoBulkAll r
def uptoBulkEntries {H : Type} : List (Lit × DataW H) → Nat
  | [] => 0
  | x :: r => uptoBulkEntry x + uptoBulkEntries r
def uptoBulkEntry {H : Type} : Lit × DataW H → Nat
  | (.string bytes, d) => bytes.length + uptoBulk d + 1
  | (_, d) => uptoBulk d + 1
 end
def uptoSmall : (H : Type) → List (DataW H) → Bool := fun _ ds => decide (uptoBulkAll ds ≤ 1048576)
def OpenSpec.upto (s : _root_.Go.ChangeSpec) : _root_.Go.OpenSpec := { _root_.Go.OpenSpec.ofChange s with cond := some uptoSmall }

/-- 'quartolaw38.PaceNumbers', WHERE WHAT IT READS IS OF BULK AT MOST 1048576: true; the input reads as it did. -/
def paceNumbersUptoRow : OpenClaim := { program := "ythaleaeeikmphaagreat", sum := "a12a63701b562616c6ac777b251051c0b5730a1ef6af9c856c20583fa2b9c1cf", func := "quarto/quartolaw38.PaceNumbers", spec := "paceNumbers", inPlace := ["sync/atomic.LoadUint64", "sync/atomic.StoreUint64", "internal/abi.NoEscape", "slices.overlaps[quarto/api.Mark]", "sync/atomic.CompareAndSwapUint64", "sync/atomic.SwapUint64"], unfollowed := true, recurses := true, plainKeys := false, apart := false, narrowed := true }
def PaceNumbersUptoSaid : Prop := paceNumbersUptoRow.holds Tryz.pinned (OpenSpec.upto paceNumbersSpec)

/-- 'quartolaw38.PaceExamples', WHERE WHAT IT READS IS OF BULK AT MOST 1048576: true; the input reads as it did. -/
def paceExamplesUptoRow : OpenClaim := { program := "ythaleaeeikmphaagreat", sum := "a12a63701b562616c6ac777b251051c0b5730a1ef6af9c856c20583fa2b9c1cf", func := "quarto/quartolaw38.PaceExamples", spec := "paceExamples", inPlace := ["sync/atomic.LoadUint64", "sync/atomic.StoreUint64", "internal/abi.NoEscape", "slices.overlaps[quarto/api.Mark]", "sync/atomic.CompareAndSwapUint64", "sync/atomic.SwapUint64"], unfollowed := true, recurses := true, plainKeys := false, apart := false, narrowed := true }
def PaceExamplesUptoSaid : Prop := paceExamplesUptoRow.holds Tryz.pinned (OpenSpec.upto paceExamplesSpec)

/-- 'quartolaw38.PaceReads', WHERE WHAT IT READS IS OF BULK AT MOST 1048576: true; the input reads as it did. -/
def paceReadsUptoRow : OpenClaim := { program := "ythaleaeeikmphaagreat", sum := "a12a63701b562616c6ac777b251051c0b5730a1ef6af9c856c20583fa2b9c1cf", func := "quarto/quartolaw38.PaceReads", spec := "paceReads", inPlace := ["sync/atomic.LoadUint64", "sync/atomic.StoreUint64", "internal/abi.NoEscape", "slices.overlaps[quarto/api.Mark]", "sync/atomic.CompareAndSwapUint64", "sync/atomic.SwapUint64"], unfollowed := true, recurses := true, plainKeys := false, apart := false, narrowed := true }
def PaceReadsUptoSaid : Prop := paceReadsUptoRow.holds Tryz.pinned (OpenSpec.upto paceReadsSpec)

end Rows
end Go.Proofs.YthaleaeeikmphaaGreat
