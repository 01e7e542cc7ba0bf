/-
  No cell of these rows narrows 'for every input' (looked for: loops, veiled, ifaces, maps, wideKeys, modest, calm, conditions, laid).
  DERIVED. THE GIVEN ROWS OF THIS SEAT. 2 by the template 'for every input the law returns true; each argument reads behind the call as it read before'; 0 by the template 'total and deterministic' (their statements: YtmhgicpjeeegcaaGreatTotals.lean).
  GIVEN WITH THE SEED: the statements are not yours to turn. If you find one false, say at which input.
  Laid BY PROGRAM, IN A SANDBOX (cutbox-rows.mjs): the forced cells as the released guide's own fill.sh prints them over the translation 73094ec9e2f539f5… (all of the seat's roots in one cut). By AI agents, Wed Nov 11 2026. No macro, syntax, notation, axiom, sorry.
-/
import Derived.Test.YtmhgicpjeeegcaaGreatChecked
import GoSem.Claim
import GoSem.ClaimJoined
import GoSem.ClaimMapViews
import Derived.JoinedTies
import Derived.KernelRfl
namespace Go.Proofs.YtmhgicpjeeegcaaGreat
/- THE CELL 'sum', in the pinned program and in every row, IS THE sha256 OF THE DUMP (.gsa) THAT YtmhgicpjeeegcaaGreatProg.lean LOADS. Nothing in Lean hashes anything: it is a label: what it is worth is what the hold of that sum in a sandbox is worth. -/
noncomputable def Tryz.pinned : Pinned := { name := "ytmhgicpjeeegcaagreat", sum := "73094ec9e2f539f562f06a5385f794d0bcccc3da1b833e76ab72d671a546ed7c", checked := Tryz.checked }
namespace Rows
def none {H : Type} : Left H := { results := [], args := [] }

/-- 'quartolaw31.WriterExamples': WHATEVER THE INPUT: true; the input reads as it did. -/
def writerExamplesSpec : ChangeSpec := { name := "writerExamples", fn := fun _ => fun
  | [] => { results := [.lit (.bool true)], args := [] }
  | _ => none }
def writerExamplesRow : OpenClaim := { program := "ytmhgicpjeeegcaagreat", sum := "73094ec9e2f539f562f06a5385f794d0bcccc3da1b833e76ab72d671a546ed7c", func := "quarto/quartolaw31.WriterExamples", spec := "writerExamples", inPlace := ["sync/atomic.LoadUint64", "sync/atomic.StoreUint64", "internal/abi.NoEscape", "slices.overlaps[quarto/api.Mark]", "sync/atomic.CompareAndSwapUint64", "sync/atomic.SwapUint64"], unfollowed := true, recurses := true, apart := false }
def WriterExamplesSaid : Prop := writerExamplesRow.holds Tryz.pinned (OpenSpec.ofChange writerExamplesSpec)

/-- ITS FALSE NEIGHBOUR: 'it returns false'. Refute it at one input. -/
def writerExamplesWrong : ChangeSpec := { name := "writerExamples", fn := fun _ => fun
  | [] => { results := [.lit (.bool false)], args := [] }
  | _ => none }
def WriterExamplesWrongFalsely : Prop := writerExamplesRow.holds Tryz.pinned (OpenSpec.ofChange writerExamplesWrong)

/-- 'quartolaw33.BufferExamples': WHATEVER THE INPUT: true; the input reads as it did. -/
def bufferExamplesSpec : ChangeSpec := { name := "bufferExamples", fn := fun _ => fun
  | [] => { results := [.lit (.bool true)], args := [] }
  | _ => none }
def bufferExamplesRow : OpenClaim := { program := "ytmhgicpjeeegcaagreat", sum := "73094ec9e2f539f562f06a5385f794d0bcccc3da1b833e76ab72d671a546ed7c", func := "quarto/quartolaw33.BufferExamples", spec := "bufferExamples", inPlace := ["sync/atomic.LoadUint64", "sync/atomic.StoreUint64", "internal/abi.NoEscape", "slices.overlaps[quarto/api.Mark]", "sync/atomic.CompareAndSwapUint64", "sync/atomic.SwapUint64"], unfollowed := true, recurses := true, apart := false }
def BufferExamplesSaid : Prop := bufferExamplesRow.holds Tryz.pinned (OpenSpec.ofChange bufferExamplesSpec)

/-- ITS FALSE NEIGHBOUR: 'it returns false'. Refute it at one input. -/
def bufferExamplesWrong : ChangeSpec := { name := "bufferExamples", fn := fun _ => fun
  | [] => { results := [.lit (.bool false)], args := [] }
  | _ => none }
def BufferExamplesWrongFalsely : Prop := bufferExamplesRow.holds Tryz.pinned (OpenSpec.ofChange bufferExamplesWrong)

/- THE SECOND FORM. 'bulk': how many values and letters a reading holds, each counted each time it is reached (what is shared counts as often as it is met; a slice's spare places count too). A statement '..UptoSaid' is the law's where the arguments, and the package variables that the reading takes, are together of bulk at most 1048576: NARROWER than '..Said'. Prove '..Said' where nothing that the law and all that it calls make is longer than what came in: it says more and counts as full. Else prove '..UptoSaid'. A law counts once. -/
mutual
def uptoBulk {H : Type} : DataW H → Nat
  | .lit (.string bytes) => bytes.length + 1
  | .lit _ => 1
  | .nil => 1
  | .ptr d => uptoBulk d + 1
  | .slice elems spare => uptoBulkAll elems + uptoBulkAll spare + 1
  | .agg parts => uptoBulkAll parts + 1
  | .iface _ d => uptoBulk d + 1
  | .map entries => uptoBulkEntries entries + 1
  | .held _ => 1
def uptoBulkAll {H : Type} : List (DataW H) → Nat
  | [] => 0
  | d :: r => uptoBulk d + uptoBulkAll r
def uptoBulkEntries {H : Type} : List (Lit × DataW H) → Nat
  | [] => 0
  | x :: r => uptoBulkEntry x + uptoBulkEntries r
def uptoBulkEntry {H : Type} : Lit × DataW H → Nat
  | (.string bytes, d) => bytes.length + uptoBulk d + 1
  | (_, d) => uptoBulk d + 1
 end
def uptoSmall : (H : Type) → List (DataW H) → Bool := fun _ ds => decide (uptoBulkAll ds ≤ 1048576)
def OpenSpec.upto (s : _root_.Go.ChangeSpec) : _root_.Go.OpenSpec := { _root_.Go.OpenSpec.ofChange s with cond := some uptoSmall }

/-- 'quartolaw31.WriterExamples', WHERE WHAT IT READS IS OF BULK AT MOST 1048576: true; the input reads as it did. -/
def writerExamplesUptoRow : OpenClaim := { program := "ytmhgicpjeeegcaagreat", sum := "73094ec9e2f539f562f06a5385f794d0bcccc3da1b833e76ab72d671a546ed7c", func := "quarto/quartolaw31.WriterExamples", spec := "writerExamples", inPlace := ["sync/atomic.LoadUint64", "sync/atomic.StoreUint64", "internal/abi.NoEscape", "slices.overlaps[quarto/api.Mark]", "sync/atomic.CompareAndSwapUint64", "sync/atomic.SwapUint64"], unfollowed := true, recurses := true, apart := false, narrowed := true }
def WriterExamplesUptoSaid : Prop := writerExamplesUptoRow.holds Tryz.pinned (OpenSpec.upto writerExamplesSpec)

/-- 'quartolaw33.BufferExamples', WHERE WHAT IT READS IS OF BULK AT MOST 1048576: true; the input reads as it did. -/
def bufferExamplesUptoRow : OpenClaim := { program := "ytmhgicpjeeegcaagreat", sum := "73094ec9e2f539f562f06a5385f794d0bcccc3da1b833e76ab72d671a546ed7c", func := "quarto/quartolaw33.BufferExamples", spec := "bufferExamples", inPlace := ["sync/atomic.LoadUint64", "sync/atomic.StoreUint64", "internal/abi.NoEscape", "slices.overlaps[quarto/api.Mark]", "sync/atomic.CompareAndSwapUint64", "sync/atomic.SwapUint64"], unfollowed := true, recurses := true, apart := false, narrowed := true }
def BufferExamplesUptoSaid : Prop := bufferExamplesUptoRow.holds Tryz.pinned (OpenSpec.upto bufferExamplesSpec)

end Rows
end Go.Proofs.YtmhgicpjeeegcaaGreat
