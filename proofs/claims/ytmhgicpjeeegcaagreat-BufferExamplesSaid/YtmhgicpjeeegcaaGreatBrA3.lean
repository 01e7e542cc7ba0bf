/- A closed cell of the row. -/
import Derived.Test.YtmhgicpjeeegcaaGreatRows
import Derived.WalkKit
import Derived.ProofKit
import Derived.ClosedOfChecked
namespace Go.Proofs.YtmhgicpjeeegcaaGreat.Closed.br
set_option maxRecDepth 1000000
set_option maxHeartbeats 0
theorem a3 : (Rows.bufferExamplesRow.recurses == Tryz.pinned.checked.prog.recurses 4) = true := by kernel_rfl
end Go.Proofs.YtmhgicpjeeegcaaGreat.Closed.br
