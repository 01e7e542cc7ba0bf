/- Cut states of the run of this law's function, and the steps between them: checked by the kernel. -/
import Derived.Test.YthaleaeeikmphaaGreatAw14
namespace Go.Proofs.YthaleaeeikmphaaGreat.Closed.aw
open Go.Ab Go.Ab.Cut Go.RowKit
set_option maxRecDepth 1000000
set_option maxHeartbeats 0
/-- The function, called with no argument in any world, returns true. -/
theorem walk (w : World) : Calls Tryz.prog 10 #[] w fun e w' => e = .returned (.bool true) ∧ Below w.heap.size w w' := by
  refine closed_true types xOk mixed (d := 60) ?_ w
  rw [start_den (by kernel_rfl)]
  have h0 : den Tryz.prog xt (bitK true) z_0 = some true := by
    rw [runM_den _ seg0, runM_den _ seg1, runM_den _ seg2, runM_den _ seg3, runM_den _ seg4, runM_den _ seg5, runM_den _ seg6, runM_den _ seg7, runM_den _ seg8, runM_den _ seg9, runM_den _ seg10, runM_den _ seg11, runM_den _ seg12, runM_den _ seg13, runM_den _ seg14, runM_den _ seg15, runM_den _ seg16, runM_den _ seg17, runM_den _ seg18, runM_den _ seg19, runM_den _ seg20, runM_den _ seg21, runM_den _ seg22, runM_den _ seg23, runM_den _ seg24, runM_den _ seg25, runM_den _ seg26, runM_den _ seg27, runM_den _ seg28, runM_den _ seg29, runM_den _ seg30, runM_den _ seg31, runM_den _ seg32, runM_den _ seg33, runM_den _ seg34, runM_den _ seg35, runM_den _ seg36, runM_den _ seg37, runM_den _ seg38, runM_den _ seg39, runM_den _ seg40, runM_den _ seg41, runM_den _ seg42, runM_den _ seg43, runM_den _ seg44, runM_den _ seg45, runM_den _ seg46, runM_den _ seg47, runM_den _ seg48, runM_den _ seg49, runM_den _ seg50, runM_den _ seg51, runM_den _ seg52, runM_den _ seg53, runM_den _ seg54, runM_den _ seg55]
    rfl
  exact h0
end Go.Proofs.YthaleaeeikmphaaGreat.Closed.aw
