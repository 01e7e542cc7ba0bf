/- A closed cell of the row. -/
import Derived.Test.YthaleaeeikmphaaGreatRows
import Derived.WalkKit
import Derived.ProofKit
import Derived.ClosedOfChecked
namespace Go.Proofs.YthaleaeeikmphaaGreat.Closed.px
set_option maxRecDepth 1000000
set_option maxHeartbeats 0
theorem hty : Tryz.checked.prog.types = Tryz.checked.src.types := by kernel_rfl
theorem rest : (Tryz.checked.prog.globals.all (fun g => decide (g.type < Tryz.checked.prog.types.size)) && Tryz.checked.prog.funcs.all (fun f => f.params.all fun t => decide (t < Tryz.checked.prog.types.size))) = true := by kernel_rfl
theorem spec : Go.ClosedOfChecked.AllSpec Tryz.checked.prog := Go.ClosedOfChecked.allSpec_of Tryz.checked.wellFormed hty
theorem b1' : laidOutB Tryz.checked.prog = true := Go.ClosedOfChecked.laidOutB_of spec rest
theorem b1 : laidOutB Tryz.pinned.checked.prog = true := b1'
theorem b2' : mapsRowed Tryz.checked.prog = true := Go.ClosedOfChecked.mapsRowed_of spec
theorem b2 : mapsRowed Tryz.pinned.checked.prog = true := b2'
end Go.Proofs.YthaleaeeikmphaaGreat.Closed.px
