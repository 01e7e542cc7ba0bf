/- A closed cell of the row. -/
import Derived.Test.YthaleaeeikmphaaGreatRows
import Derived.WalkKit
import Derived.ProofKit
import Derived.ClosedOfChecked
namespace Go.Proofs.YthaleaeeikmphaaGreat.Closed.px
set_option maxRecDepth 1000000
set_option maxHeartbeats 0
theorem a6 : Tryz.pinned.checked.prog.stopsHeard = true := by kernel_rfl
theorem a7 : Tryz.pinned.checked.prog.mayEnter = true := by kernel_rfl
theorem named : Tryz.pinned.checked.prog.funcNamed Rows.paceExamplesRow.func = some 4 := by kernel_rfl
theorem inst : Tryz.f4.isInstance Tryz.pinned.checked.prog Rows.paceExamplesRow.origin Rows.paceExamplesRow.targs := of_decide_eq_true (by kernel_rfl)
theorem wrap : Tryz.f4.isWrapper Tryz.pinned.checked.prog Rows.paceExamplesRow.wrapper Rows.paceExamplesRow.mainSum := by unfold Func.isWrapper; first | (rw [if_pos (by decide +kernel)]; kernel_rfl) | (rw [if_neg (by decide +kernel)]; exact ⟨rfl, rfl⟩)
theorem b3 : (Rows.paceExamplesRow.plainKeys == Tryz.pinned.checked.prog.plainKeys) = true := by kernel_rfl
end Go.Proofs.YthaleaeeikmphaaGreat.Closed.px
