/- A closed cell of the row. -/
import Derived.Test.YthaleaeeikmphaaGreatPxA1
import Derived.Test.YthaleaeeikmphaaGreatPxA2
import Derived.Test.YthaleaeeikmphaaGreatPxA3
import Derived.Test.YthaleaeeikmphaaGreatPxA4
import Derived.Test.YthaleaeeikmphaaGreatPxA5
import Derived.Test.YthaleaeeikmphaaGreatPxA6
import Derived.WalkKit
import Derived.ProofKit
import Derived.ClosedOfChecked
namespace Go.Proofs.YthaleaeeikmphaaGreat.Closed.px
set_option maxRecDepth 1000000
set_option maxHeartbeats 0
theorem facts : joinedFacts Tryz.pinned.checked.prog 4 Tryz.f4 Rows.paceExamplesSpec Rows.paceExamplesRow = true := by
  unfold joinedFacts
  repeat' (with_reducible refine Bool.and_eq_true_iff.mpr ⟨?_, ?_⟩)
  all_goals first | with_reducible exact a1 | with_reducible exact a2 | with_reducible exact a3 | with_reducible exact a4 | with_reducible exact a6 | with_reducible exact a7 | with_reducible exact b1 | with_reducible exact b2 | with_reducible exact b3 | (as_aux_lemma => kernel_rfl)
end Go.Proofs.YthaleaeeikmphaaGreat.Closed.px
