/- A closed cell of the row. -/
import Derived.Test.YthaleaeeikmphaaGreatRows
import Derived.WalkKit
import Derived.ProofKit
import Derived.ClosedOfChecked
namespace Go.Proofs.YthaleaeeikmphaaGreat.Closed.px
set_option maxRecDepth 1000000
set_option maxHeartbeats 0
theorem a1 : (Rows.paceExamplesRow.inPlace == Tryz.pinned.checked.prog.inPlace 4) = true := by kernel_rfl
end Go.Proofs.YthaleaeeikmphaaGreat.Closed.px
