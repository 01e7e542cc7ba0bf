/- The law ScriptChecks over an argument as it is read. -/
import Derived.Test.YtcicememljlafaaE14
import Derived.Test.YtcicememljlafaaL4
namespace Go.Proofs.Ytcicememljlafaa
open Go.RowKit

theorem ScrWf.kb {s : ScrV} (h : ScrWf s) : ∀ p ∈ s.progs, ∀ o ∈ p, o.kind ≤ 255 := fun p hp o ho => (h.ops p hp o ho).in8.2
theorem scriptChecks_walk (va : Value) (s : ScrV) (w : World) (ha : ScrAt w w.heap.size va s) (wa : ScrWf s) :
    Calls Try.prog 5 #[va] w (BoolBelow true w) := by
  obtain ⟨Ap, cp, Ak, ck, rfl, p1, k1⟩ := ha
  exact scriptChecks small_sz s Ap Ak cp ck w wa.sz wa.ty wa.kb p1 k1
end Go.Proofs.Ytcicememljlafaa
