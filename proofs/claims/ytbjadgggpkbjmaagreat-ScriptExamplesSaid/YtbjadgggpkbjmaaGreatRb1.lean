/- Cut states of the run of a call, and the steps between them: checked by the kernel. -/
import Derived.Test.YtbjadgggpkbjmaaGreatXu
namespace Go.Proofs.YtbjadgggpkbjmaaGreat.Closed.rb
open Go.Ab Go.Ab.Cut Go.RowKit
set_option maxRecDepth 1000000
set_option maxHeartbeats 0
noncomputable def zArg : List Value := [st [0, 0, 1, 0, 0, 0, 0, 1, 2, 1, 6, 3, 0, 1, 0, 1]]
noncomputable def zHeap : AHeap := ⟨.nil, 0⟩
noncomputable def rb_0 : M := .at 4 59 (.code []) (vL (st [0, 0, 1, 0, 0, 0, 0, 1, 2, 1, 6, 3, 0, 1, 0, 1])) [] zHeap []
noncomputable def rb0 : Value := ag [(i 16), (ik .u64 1), (i 1), (i 0), (i 1), (i 1), (i 1), (st [99]), (s 25 0 1 36893488147419103233), (s 29 0 2 36893488147419103234)]
noncomputable def rb1 : T Value := vS (vS (vL (i 1)) (i 3) (vL (ik .u8 0))) (ik .u8 7) (vS (vL (ik .u32 0)) (i 0) (vL (st [])))
noncomputable def rb2 : T AObj := hS (hL (c 60 2 true false [] (vS (vL (ik .u8 1)) (ik .u8 0) vE))) (c 60 3 true false [] (vS (vL (ik .u8 3)) (ik .u8 1) (vL (ik .u8 4)))) (hL (c 40 7 false false [] rb1))
noncomputable def rb3 : T AObj := hS (hL (c 60 0 true false [] vE)) (c 60 3 true false [] (vS (vL (ik .u8 1)) (ik .u8 0) (vL (ik .u8 2)))) (hL (c 3 1 false true [] (vL (i 0))))
noncomputable def rb4 : T Value := vS (vS (vL (st [99])) (i 0) vE) (ik .u64 1) (vS (vL (s 29 0 2 36893488147419103234)) (i 1) vE)
noncomputable def rb5 : AObj := c 28 10 true false [] (vS rb4 (i 16) (vS (vS (vL (s 25 0 1 36893488147419103233)) (i 1) vE) (i 1) (vL (i 1))))
noncomputable def rb6 : T AObj := hS (hL (c 60 1 true false [] (vL (ik .u8 0)))) (c 60 0 true false [] vE) (hL (c 41 1 false false [] (vL (s 23 0 1 147573952589676412929))))
noncomputable def rb7 : T Value := vS (vS (vS (vL (s 20 0 0 0)) (s 12 0 2 2) vE) (s 8 0 1 1) (vL (s 16 0 2 2))) (s 6 0 2 2) (vS (vL (s 14 0 2 2)) (s 10 0 1 1) (vL (s 18 0 0 0)))
noncomputable def rb8 : T Value := vS (vS (vL (s 13 0 2 2)) (s 9 0 0 0) (vL (s 17 0 1 1))) (s 7 0 3 3) (vS (vL (s 15 0 2 2)) (s 11 0 3 3) (vL (s 19 0 0 0)))
noncomputable def rb9 : T AObj := hS (hL (c 82 16 true false [] (vS rb7 (s 5 0 2 2) rb8))) (c 60 2 true false [] (vS (vL (ik .u8 2)) (ik .u8 0) vE)) (hL (c 3 2 false false [27] (vS (vL (i 1)) (i 0) vE)))
noncomputable def rb10 : T AObj := hS (hS rb2 (c 55 1 true false [] (vL (fn 10 [] [(p 0 0)]))) rb3) rb5 (hS rb6 (c 60 2 true false [] (vS (vL (ik .u8 5)) (ik .u8 1) vE)) rb9)
noncomputable def rb11 : T AObj := hS (hL (c 60 2 true false [] (vS (vL (ik .u8 2)) (ik .u8 0) vE))) (c 60 1 true false [] (vL (ik .u8 3))) (hL (c 41 1 true false [] (vL (s 23 0 1 147573952589676412929))))
noncomputable def rb12 : T AObj := hS (hL (c 60 0 true false [] vE)) (c 60 2 true false [] (vS (vL (ik .u8 2)) (ik .u8 0) vE)) (hL (c 3 1 true false [] (vL (i 1))))
noncomputable def rb13 : T AObj := hS (hL (c 60 0 true false [] vE)) (c 60 1 true false [] (vL (ik .u8 0))) (hL (c 3 1 true false [] (vL (i 0))))
noncomputable def rb14 : T AObj := hS (hL (c 40 7 true false [] rb1)) (c 60 2 true false [] (vS (vL (ik .u8 3)) (ik .u8 0) vE)) hE
noncomputable def rb15 : T AObj := hS (hS rb11 (c 40 7 true false [] rb1) rb12) rb5 (hS rb13 (c 60 2 true false [] (vS (vL (ik .u8 2)) (ik .u8 1) vE)) rb14)
noncomputable def rb_1 : M := .done rb0 ⟨(hS rb10 (c 9 1 true false [] (vL (st []))) rb15) , 30⟩
theorem seg0 : runM Tryz.prog xt 600 rb_0 = some rb_1 := by kernel_rfl
/-- The end of the run. -/
noncomputable def zV : Value := rb0
noncomputable def zH : AHeap := ⟨(hS rb10 (c 9 1 true false [] (vL (st []))) rb15) , 30⟩
theorem z_end : rb_1 = .done zV zH := rfl
theorem run {w0 w : World} {base : Nat} {φ : Phi} {us : Array Value} (H : HR w0 base φ zHeap w) (ha : AsR φ zArg.toArray us) :
    Calls Tryz.prog 4 us w (fun e w' => ∃ u φ', e = .returned u ∧ VR φ' zV u ∧ HR w0 base φ' zH w' ∧ Ext φ φ') := by
  refine call_at types xOk mixed (d := 60) (args := zArg.toArray) ?_ H ha
  have ho : ∀ {β : Type} (k : T Value → Option β), ofK zArg 0 .nil k = k (vL (st [0, 0, 1, 0, 0, 0, 0, 1, 2, 1, 6, 3, 0, 1, 0, 1])) := fun k => rfl
  rw [show zArg.toArray.toList = zArg from rfl, start_den_at (by kernel_rfl), ho]
  have h0 : den Tryz.prog xt pairK rb_0 = some (zV, zH) := by
    rw [runM_den _ seg0, z_end]
    rfl
  exact h0
end Go.Proofs.YtbjadgggpkbjmaaGreat.Closed.rb
