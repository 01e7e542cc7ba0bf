/- Cut states of the run of a call, and the steps between them: checked by the kernel. -/
import Derived.Test.YtbjadgggpkbjmaaGreatXu
namespace Go.Proofs.YtbjadgggpkbjmaaGreat.Closed.ra
open Go.Ab Go.Ab.Cut Go.RowKit
set_option maxRecDepth 1000000
set_option maxHeartbeats 0
noncomputable def zArg : List Value := [st []]
noncomputable def zHeap : AHeap := ⟨.nil, 0⟩
noncomputable def ra_0 : M := .at 4 59 (.code []) (vL (st [])) [] zHeap []
noncomputable def ra0 : T Value := vS (vS (vS (vL (st [])) (i 0) vE) (ik .u64 1) (vS (vL (sn 0 0)) (i 1) vE)) (i 16) (vS (vS (vL (sn 0 0)) (i 1) vE) (i 0) (vL (i 1)))
noncomputable def ra1 : T AObj := hS (hS (hL (c 55 1 true false [] (vL (fn 10 [] [(p 0 0)])))) (c 28 10 true false [] ra0) hE) (c 9 1 true false [] (vL (st []))) (hL (c 28 10 true false [] ra0))
noncomputable def ra_1 : M := .done (ag [(i 16), (ik .u64 1), (i 0), (i 0), (i 1), (i 1), (i 1), (st []), (sn 0 0), (sn 0 0)]) ⟨ra1 , 4⟩
theorem seg0 : runM Tryz.prog xt 600 ra_0 = some ra_1 := by kernel_rfl
/-- The end of the run. -/
noncomputable def zV : Value := (ag [(i 16), (ik .u64 1), (i 0), (i 0), (i 1), (i 1), (i 1), (st []), (sn 0 0), (sn 0 0)])
noncomputable def zH : AHeap := ⟨ra1 , 4⟩
theorem z_end : ra_1 = .done zV zH := rfl
theorem run {w0 w : World} {base : Nat} {φ : Phi} {us : Array Value} (H : HR w0 base φ zHeap w) (ha : AsR φ zArg.toArray us) :
    Calls Tryz.prog 4 us w (fun e w' => ∃ u φ', e = .returned u ∧ VR φ' zV u ∧ HR w0 base φ' zH w' ∧ Ext φ φ') := by
  refine call_at types xOk mixed (d := 60) (args := zArg.toArray) ?_ H ha
  have ho : ∀ {β : Type} (k : T Value → Option β), ofK zArg 0 .nil k = k (vL (st [])) := fun k => rfl
  rw [show zArg.toArray.toList = zArg from rfl, start_den_at (by kernel_rfl), ho]
  have h0 : den Tryz.prog xt pairK ra_0 = some (zV, zH) := by
    rw [runM_den _ seg0, z_end]
    rfl
  exact h0
end Go.Proofs.YtbjadgggpkbjmaaGreat.Closed.ra
