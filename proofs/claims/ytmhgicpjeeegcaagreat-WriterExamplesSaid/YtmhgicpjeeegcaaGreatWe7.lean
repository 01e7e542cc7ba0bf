/- Cut states of the run of this law's function, and the steps between them: checked by the kernel. -/
import Derived.Test.YtmhgicpjeeegcaaGreatWe6
namespace Go.Proofs.YtmhgicpjeeegcaaGreat.Closed.we
open Go.Ab Go.Ab.Cut Go.RowKit
set_option maxRecDepth 1000000
set_option maxHeartbeats 0
/-- The function, called with no argument in any world, returns true. -/
theorem walk (w : World) : Calls Tryz.prog 3 #[] w fun e w' => e = .returned (.bool true) ∧ Below w.heap.size w w' := by
  refine closed_true types xOk mixed (d := 60) ?_ w
  rw [start_den (by kernel_rfl)]
  have h0 : den Tryz.prog xt (bitK true) z_0 = some true := by
    rw [runM_den _ seg0, runM_den _ seg1, runM_den _ seg2, runM_den _ seg3, runM_den _ seg4, runM_den _ seg5]
    rfl
  exact h0
end Go.Proofs.YtmhgicpjeeegcaaGreat.Closed.we
