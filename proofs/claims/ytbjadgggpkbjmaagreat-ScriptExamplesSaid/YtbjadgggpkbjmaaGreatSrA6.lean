/- A closed cell of the row. -/
import Derived.Test.YtbjadgggpkbjmaaGreatRows
import Derived.WalkKit
import Derived.ProofKit
import Derived.ClosedOfChecked
namespace Go.Proofs.YtbjadgggpkbjmaaGreat.Closed.sr
set_option maxRecDepth 1000000
set_option maxHeartbeats 0
theorem a6 : Tryz.pinned.checked.prog.stopsHeard = true := by kernel_rfl
theorem a7 : Tryz.pinned.checked.prog.mayEnter = true := by kernel_rfl
theorem named : Tryz.pinned.checked.prog.funcNamed Rows.scriptExamplesRow.func = some 3 := by kernel_rfl
theorem inst : Tryz.f3.isInstance Tryz.pinned.checked.prog Rows.scriptExamplesRow.origin Rows.scriptExamplesRow.targs := of_decide_eq_true (by kernel_rfl)
theorem wrap : Tryz.f3.isWrapper Tryz.pinned.checked.prog Rows.scriptExamplesRow.wrapper Rows.scriptExamplesRow.mainSum := by unfold Func.isWrapper; first | (rw [if_pos (by decide +kernel)]; kernel_rfl) | (rw [if_neg (by decide +kernel)]; exact ⟨rfl, rfl⟩)
end Go.Proofs.YtbjadgggpkbjmaaGreat.Closed.sr
