/- A closed cell of the row. -/
import Derived.Test.YthaleaeeikmphaaGreatRows
import Derived.WalkKit
import Derived.ProofKit
import Derived.ClosedOfChecked
namespace Go.Proofs.YthaleaeeikmphaaGreat.Closed.pn
set_option maxRecDepth 1000000
set_option maxHeartbeats 0
theorem a3 : (Rows.paceNumbersRow.recurses == Tryz.pinned.checked.prog.recurses 3) = true := by kernel_rfl
end Go.Proofs.YthaleaeeikmphaaGreat.Closed.pn
