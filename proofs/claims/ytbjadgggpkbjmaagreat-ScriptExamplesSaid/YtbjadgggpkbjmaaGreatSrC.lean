/- A closed cell of the row. -/
import Derived.Test.YtbjadgggpkbjmaaGreatSrA1
import Derived.Test.YtbjadgggpkbjmaaGreatSrA2
import Derived.Test.YtbjadgggpkbjmaaGreatSrA3
import Derived.Test.YtbjadgggpkbjmaaGreatSrA4
import Derived.Test.YtbjadgggpkbjmaaGreatSrA5
import Derived.Test.YtbjadgggpkbjmaaGreatSrA6
import Derived.WalkKit
import Derived.ProofKit
import Derived.ClosedOfChecked
namespace Go.Proofs.YtbjadgggpkbjmaaGreat.Closed.sr
set_option maxRecDepth 1000000
set_option maxHeartbeats 0
theorem facts : joinedFacts Tryz.pinned.checked.prog 3 Tryz.f3 Rows.scriptExamplesSpec Rows.scriptExamplesRow = true := by
  unfold joinedFacts
  repeat' (with_reducible refine Bool.and_eq_true_iff.mpr ⟨?_, ?_⟩)
  all_goals first | with_reducible exact a1 | with_reducible exact a2 | with_reducible exact a3 | with_reducible exact a4 | with_reducible exact a6 | with_reducible exact a7 | with_reducible exact b1 | with_reducible exact b2 | with_reducible exact b3 | (as_aux_lemma => kernel_rfl)
end Go.Proofs.YtbjadgggpkbjmaaGreat.Closed.sr
