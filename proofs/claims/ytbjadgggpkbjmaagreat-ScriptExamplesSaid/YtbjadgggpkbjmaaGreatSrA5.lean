/- A closed cell of the row. -/
import Derived.Test.YtbjadgggpkbjmaaGreatRows
import Derived.WalkKit
import Derived.ProofKit
import Derived.ClosedOfChecked
namespace Go.Proofs.YtbjadgggpkbjmaaGreat.Closed.sr
set_option maxRecDepth 1000000
set_option maxHeartbeats 0
theorem hty : Tryz.checked.prog.types = Tryz.checked.src.types := by kernel_rfl
theorem rest : (Tryz.checked.prog.globals.all (fun g => decide (g.type < Tryz.checked.prog.types.size)) && Tryz.checked.prog.funcs.all (fun f => f.params.all fun t => decide (t < Tryz.checked.prog.types.size))) = true := by kernel_rfl
theorem keys : Go.ClosedOfChecked.keysListB Tryz.checked.prog = true := by kernel_rfl
theorem three : laidOutB Tryz.checked.prog = true ∧ mapsRowed Tryz.checked.prog = true ∧ Tryz.checked.prog.plainKeys = true := Go.ClosedOfChecked.closed_of_checked Tryz.checked hty rest keys
theorem b1 : laidOutB Tryz.pinned.checked.prog = true := three.1
theorem b2 : mapsRowed Tryz.pinned.checked.prog = true := three.2.1
theorem b3' : Tryz.pinned.checked.prog.plainKeys = true := three.2.2
theorem b3 : (Rows.scriptExamplesRow.plainKeys == Tryz.pinned.checked.prog.plainKeys) = true := by rw [b3']; rfl
end Go.Proofs.YtbjadgggpkbjmaaGreat.Closed.sr
