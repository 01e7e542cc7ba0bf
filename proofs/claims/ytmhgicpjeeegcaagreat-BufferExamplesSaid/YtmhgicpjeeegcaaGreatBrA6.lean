/- A closed cell of the row. -/
import Derived.Test.YtmhgicpjeeegcaaGreatRows
import Derived.WalkKit
import Derived.ProofKit
import Derived.ClosedOfChecked
namespace Go.Proofs.YtmhgicpjeeegcaaGreat.Closed.br
set_option maxRecDepth 1000000
set_option maxHeartbeats 0
theorem a6 : Tryz.pinned.checked.prog.stopsHeard = true := by kernel_rfl
theorem a7 : Tryz.pinned.checked.prog.mayEnter = true := by kernel_rfl
theorem named : Tryz.pinned.checked.prog.funcNamed Rows.bufferExamplesRow.func = some 4 := by kernel_rfl
theorem inst : Tryz.f4.isInstance Tryz.pinned.checked.prog Rows.bufferExamplesRow.origin Rows.bufferExamplesRow.targs := of_decide_eq_true (by kernel_rfl)
theorem wrap : Tryz.f4.isWrapper Tryz.pinned.checked.prog Rows.bufferExamplesRow.wrapper Rows.bufferExamplesRow.mainSum := by unfold Func.isWrapper; first | (rw [if_pos (by decide +kernel)]; kernel_rfl) | (rw [if_neg (by decide +kernel)]; exact ⟨rfl, rfl⟩)
end Go.Proofs.YtmhgicpjeeegcaaGreat.Closed.br
