/- A closed cell of the row. -/
import Derived.Test.YtbjadgggpkbjmaaGreatRows
import Derived.WalkKit
import Derived.ProofKit
import Derived.ClosedOfChecked
namespace Go.Proofs.YtbjadgggpkbjmaaGreat.Closed.sr
set_option maxRecDepth 1000000
set_option maxHeartbeats 0
theorem a1 : (Rows.scriptExamplesRow.inPlace == Tryz.pinned.checked.prog.inPlace 3) = true := by kernel_rfl
end Go.Proofs.YtbjadgggpkbjmaaGreat.Closed.sr
