/- A closed cell of the row. -/
import Derived.Test.YthaleaeeikmphaaGreatRows
import Derived.WalkKit
import Derived.ProofKit
import Derived.ClosedOfChecked
namespace Go.Proofs.YthaleaeeikmphaaGreat.Closed.pr
set_option maxRecDepth 1000000
set_option maxHeartbeats 0
theorem a6 : Tryz.pinned.checked.prog.stopsHeard = true := by kernel_rfl
theorem a7 : Tryz.pinned.checked.prog.mayEnter = true := by kernel_rfl
theorem named : Tryz.pinned.checked.prog.funcNamed Rows.paceReadsRow.func = some 5 := by kernel_rfl
theorem inst : Tryz.f5.isInstance Tryz.pinned.checked.prog Rows.paceReadsRow.origin Rows.paceReadsRow.targs := of_decide_eq_true (by kernel_rfl)
theorem wrap : Tryz.f5.isWrapper Tryz.pinned.checked.prog Rows.paceReadsRow.wrapper Rows.paceReadsRow.mainSum := by unfold Func.isWrapper; first | (rw [if_pos (by decide +kernel)]; kernel_rfl) | (rw [if_neg (by decide +kernel)]; exact ⟨rfl, rfl⟩)
end Go.Proofs.YthaleaeeikmphaaGreat.Closed.pr
