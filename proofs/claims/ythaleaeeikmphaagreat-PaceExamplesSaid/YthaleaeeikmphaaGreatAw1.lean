/- Cut states of the run of this law's function, and the steps between them: checked by the kernel. -/
import Derived.Test.YthaleaeeikmphaaGreatXu
namespace Go.Proofs.YthaleaeeikmphaaGreat.Closed.aw
open Go.Ab Go.Ab.Cut Go.RowKit
set_option maxRecDepth 1000000
set_option maxHeartbeats 0
noncomputable def z_0 : M := .at 10 59 (.code []) .nil [] ⟨.nil, 0⟩ []
noncomputable def z0 : T Value := vS (vO (vS (vL (st [97, 98])) (i 0) vE) vE) (st [97, 98]) (vS (vS (vL bf) (i 0) vE) (i 0) vE)
noncomputable def z1 : T Value := vS (vS (vS (vL (st [97, 98])) (i 1) vE) (ik .u64 9) (vL (i 1))) (i 64) (vS (vL (i 1)) (i 1) (vL (i 2)))
noncomputable def z2 : T Value := vS (vS (vL (i 0)) (i 0) (vL (ik .u8 0))) (ik .u8 15) (vS (vL (ik .u32 0)) (i 0) (vL (st [])))
noncomputable def z3 : T AObj := hS (hS (hL (c 24 8 true false [] z1)) (c 24 8 true false [] z1) hE) (c 24 8 true false [] z1) (hL (c 27 7 true false [] z2))
noncomputable def z4 : T Value := vS (vO (vO (vL bt) vE) (vO (vL (st [97, 98])) vE)) (st [97, 98]) (vS vE bf (vL (st [97, 98])))
noncomputable def z5 : T Value := vS (vS (vS (vL (p 3 4)) (ik .u64 9) (vL bf)) bf (vS (vL bt) bf (vL (st [97, 98])))) bf (vS (vS (vL bf) (p 3 2) (vL (i 2))) bf (vS (vL (p 3 6)) bt vE))
noncomputable def z6 : T Value := vS (vS (vS (vL bt) bf (vL (p 3 7))) (p 3 1) (vS (vL bf) (p 3 3) vE)) (i 64) (vS (vS (vL (p 3 5)) bt vE) bf (vS (vL bt) bf vE))
noncomputable def z7 : T Value := vS (vS (vS (vL (i 1)) bf (vL bf)) bf (vS (vL bf) bf vE)) (p 3 0) (vS (vS (vL bf) (i 1) (vL bf)) bf (vS (vL (i 2)) bf vE))
noncomputable def z8 : T Value := vS (vS (vS (vL bf) bf (vL (st [97, 98]))) (ik .u64 9) (vS (vL bf) (i 1) vE)) bt (vS (vS (vL (i 1)) bf (vL (p 3 7))) (p 3 1) (vS (vL bf) bf vE))
noncomputable def z9 : T Value := vS (vS z5 (p 3 0) z6) (ag [(i 64), (ik .u64 9), (i 1), (i 1), (i 1), (i 1), (i 2), (st [97, 98])]) (vS z7 (i 0) z8)
noncomputable def z10 : T Value := vS (vL (i 0)) (p 1 0) (vL (ag [(i 64), (ik .u64 9), (i 1), (i 1), (i 1), (i 1), (i 2), (st [97, 98])]))
noncomputable def z11 : T Value := vS (vS z10 (ag [(ik .u8 15), (i 0), (i 0), (i 0), (ik .u32 0), (ik .u8 0), (st [])]) vE) (ag [(i 64), (ik .u64 9), (i 1), (i 1), (i 1), (i 1), (i 2), (st [97, 98])]) (vS (vL (p 2 0)) (i 0) (vL (i 0)))
noncomputable def z12 : T Value := vS (vS (vO (vL (i 0)) (vL (i 3))) (i 1) (vO (vL (i 0)) vE)) (i 8) (vO (vO (vL (i 0)) vE) (vO (vL (i 0)) vE))
noncomputable def z13 : T Value := vO (vL (tu [(i 8), (i 0)])) (vL (ag [(i 64), (ik .u64 9), (i 1), (i 1), (i 1), (i 1), (i 2), (st [97, 98])]))
noncomputable def z14 : T Value := vS (vS z13 (i 0) (vO (vL (tu [(i 1), (i 0)])) vE)) (i 12) (vO (vO (vL (tu [(i 12), (i 0)])) vE) (vS (vL (tu [(i 0), (i 3)])) (tu [(i 4), (i 0)]) vE))
noncomputable def z15 : T Value := vS (vS (vO (vL (tu [(i 8), (i 0)])) vE) (i 0) (vO (vL (tu [(i 1), (i 0)])) vE)) (i 0) (vO (vO (vL (tu [(i 12), (i 0)])) vE) (vS (vL (tu [(i 0), (i 3)])) (tu [(i 4), (i 0)]) vE))
noncomputable def z16 : T Value := vO (vL (i 8)) (vL (ag [(ik .u8 15), (i 0), (i 0), (i 0), (ik .u32 0), (ik .u8 0), (st [])]))
noncomputable def z17 : T Value := vS (vS z16 (i 3) (vO (vL (i 1)) vE)) (i 0) (vO (vO (vL (i 12)) vE) (vS (vL (i 0)) (i 4) vE))
noncomputable def z_1 : M := .at 65 55 (.code [0, 1, 1]) z0 [] ⟨z3 , 4⟩ [.seq [1, 1, 1], .call 34 56 [0, 0, 1, 0, 0, 0, 1] 1 z4 [], .seq [1, 0, 1, 0, 0, 0, 1], .blk 1, .loop [0, 0, 0, 1] 1048575, .blk 0, .seq [1, 1], .call 17 57 [0, 1, 1, 1, 1, 0, 0, 1] 2 z9 [], .seq [1, 1, 1, 1, 1, 0, 0, 1], .blk 0, .seq [1, 1], .call 8 58 [0, 0, 1] 1 z11 [], .seq [1, 0, 1], .seq [1, 1], .call 10 59 [0, 1, 1, 1, 1, 1, 1] 2 (vS (vS z12 (i 4) z14) bf (vS z15 (i 0) z17)) [], .seq [1, 1, 1, 1, 1, 1, 1]]
theorem seg0 : runM Tryz.prog xt 600 z_0 = some z_1 := by kernel_rfl
noncomputable def z18 : T Value := vS z10 (ag [(ik .u8 15), (i 0), (i 0), (i 0), (ik .u32 0), (ik .u8 0), (st [])]) (vO vE (vL (i 0)))
noncomputable def z19 : T Value := vS z18 (ag [(i 64), (ik .u64 9), (i 1), (i 1), (i 1), (i 1), (i 2), (st [97, 98])]) (vS (vS (vL (i 0)) (p 2 0) (vL (i 0))) (i 0) (vS vE (i 0) (vL bf)))
noncomputable def z_2 : M := .at 8 58 (.exit .normal) z19 [] ⟨z3 , 4⟩ [.seq [1, 1, 0, 1], .seq [1, 1], .call 10 59 [0, 1, 1, 1, 1, 1, 1] 2 (vS (vS z12 (i 4) z14) bf (vS z15 (i 0) z17)) [], .seq [1, 1, 1, 1, 1, 1, 1]]
theorem seg1 : runM Tryz.prog xt 600 z_1 = some z_2 := by kernel_rfl
noncomputable def z20 : T AObj := hS (hS (hL (c 24 8 true false [] z1)) (c 3 1 true false [] (vL (i 1))) hE) (c 24 8 true false [] z1) (hL (c 3 1 true false [] (vL (i 1))))
noncomputable def z21 : T AObj := hS (hS (hL (c 24 8 true false [] z1)) (c 3 1 true false [] (vL (i 1))) hE) (c 3 1 true false [] (vL (i 4))) (hL (c 27 7 true false [] z2))
noncomputable def z22 : T Value := vS (vS (vL (i 0)) (i 0) (vL (ik .u8 0))) (ik .u8 8) (vS (vL (ik .u32 0)) (i 0) (vL (st [])))
noncomputable def z23 : AObj := om [(en (ik .u8 5) (fn 36 [] [(p 5 0)]) 0), (en (ik .u8 14) (fn 36 [] [(p 6 0)]) 1), (en (ik .u8 6) (fn 36 [] [(p 7 0)]) 2), (en (ik .u8 10) (fn 36 [] [(p 8 0)]) 3), (en (ik .u8 11) (fn 36 [] [(p 9 0)]) 4), (en (ik .u8 13) (fn 36 [] [(p 10 0)]) 5), (en (ik .u8 16) (fn 36 [] [(p 11 0)]) 6), (en (ik .u8 15) (fn 39 [] []) 7), (en (ik .u8 8) (fn 37 [] []) 8), (en (ik .u8 9) (fn 37 [] []) 9), (en (ik .u8 7) (fn 38 [] []) 10), (en (ik .u8 12) (fn 38 [] []) 11)] 12
noncomputable def z24 : T AObj := hS (hS (hL (c 27 7 true false [] z22)) (c 3 1 true false [] (vL (i 1))) hE) z23 (hL (c 24 8 true false [] z1))
noncomputable def z25 : T AObj := hS (hL (c 3 1 true false [] (vL (i 1)))) (c 3 1 true false [] (vL (i 3))) (hL (c 24 8 true false [] z1))
noncomputable def z26 : T AObj := hS (hS z20 (c 24 8 true false [] z1) z21) (c 24 8 true false [] z1) (hS z24 (c 27 7 true false [] z2) z25)
noncomputable def z27 : T Value := vO (vS (vS (vL bf) bt vE) (i 97) (vL (i 97))) (vS (vS (vL (i 1)) (st [98]) vE) (i 0) (vL (i 0)))
noncomputable def z28 : T Value := vS (vS (vS (vL (st [97, 98])) (tu [(i 97), (i 1), (i 0)]) vE) (i 1) (vL (i 1))) bf (vS (vS (vL (st [98])) (tu [(i 97), (i 1), (i 0)]) vE) (st [98]) (vL (i 0)))
noncomputable def z29 : T Value := vS (vS (vS (vL (p 17 4)) (ik .u64 9) (vL bf)) bf (vS (vL bt) bf (vL (st [97, 98])))) bf (vS (vS (vL bf) (p 17 2) (vL (i 2))) bf (vS (vL (p 17 6)) bt vE))
noncomputable def z30 : T Value := vS (vS (vS (vL bt) bf (vL (p 17 7))) (p 17 1) (vS (vL bf) (p 17 3) vE)) (i 64) (vS (vS (vL (p 17 5)) bt vE) bf (vS (vL bt) bf vE))
noncomputable def z31 : T Value := vS (vS (vS (vL (i 1)) bf (vL bf)) bf (vS (vL bf) bf vE)) (p 17 0) (vS (vS (vL bf) (i 1) (vL bf)) bf (vS (vL (i 2)) bf vE))
noncomputable def z32 : T Value := vS (vS (vS (vL bf) bf (vL (st [97, 98]))) (ik .u64 9) (vS (vL bf) (i 1) vE)) bt (vS (vS (vL (i 1)) bf (vL (p 17 7))) (p 17 1) (vS (vL bf) bf vE))
noncomputable def z33 : T Value := vS (vS z29 (p 17 0) z30) (ag [(i 64), (ik .u64 9), (i 1), (i 1), (i 1), (i 1), (i 2), (st [97, 98])]) (vS z31 (i 0) z32)
noncomputable def z34 : T Value := vS (vL (i 0)) (p 15 0) (vL (ag [(i 64), (ik .u64 9), (i 1), (i 1), (i 1), (i 1), (i 2), (st [97, 98])]))
noncomputable def z35 : T Value := vS (vS z34 (ag [(ik .u8 8), (i 0), (i 0), (i 0), (ik .u32 0), (ik .u8 0), (st [])]) vE) (ag [(i 64), (ik .u64 9), (i 1), (i 1), (i 1), (i 1), (i 2), (st [97, 98])]) (vS (vL (p 16 0)) (i 5) (vL (i 0)))
noncomputable def z36 : T Value := vO (vL (i 0)) (vL (ag [(i 64), (ik .u64 9), (i 1), (i 1), (i 1), (i 1), (i 2), (st [97, 98])]))
noncomputable def z37 : T Value := vS (vS (vO (vL (i 0)) (vL (i 3))) (i 1) z36) (i 8) (vS (vO (vL (i 0)) (vL (tu [(i 17), (i 0)]))) (i 17) (vO (vL (i 0)) vE))
noncomputable def z38 : T Value := vO (vO (vL (tu [(i 12), (i 0)])) (vL (i 0))) (vS (vL (tu [(i 0), (i 3)])) (tu [(i 4), (i 0)]) vE)
noncomputable def z39 : T Value := vO (vL (tu [(i 1), (i 0)])) (vL (ag [(ik .u8 8), (i 0), (i 0), (i 0), (ik .u32 0), (ik .u8 0), (st [])]))
noncomputable def z40 : T Value := vS (vO (vL (tu [(i 12), (i 0)])) (vL (i 17))) (i 0) (vS (vL (tu [(i 0), (i 3)])) (tu [(i 4), (i 0)]) vE)
noncomputable def z41 : T Value := vS (vS (vS (vO (vL (tu [(i 8), (i 0)])) (vL (tu [(i 17), (i 0)]))) (i 0) z39) (i 0) z40) (i 0) z17
noncomputable def z_3 : M := .at 65 55 (.code [1]) (vS (vO (vL (i 0)) vE) (st [98]) (vS (vL (i 0)) (i 0) vE)) [] ⟨z26 , 18⟩ [.call 34 56 [0, 0, 1, 0, 0, 0, 1] 1 (vS z27 (st [98]) z28) [], .seq [1, 0, 1, 0, 0, 0, 1], .blk 1, .loop [0, 0, 0, 1] 1048574, .blk 0, .seq [1, 1], .call 17 57 [0, 1, 1, 1, 1, 0, 0, 1] 2 z33 [], .seq [1, 1, 1, 1, 1, 0, 0, 1], .blk 0, .seq [1, 1], .call 8 58 [0, 0, 1] 1 z35 [], .seq [1, 0, 1], .seq [1, 1], .call 10 59 [0, 1, 1, 1, 1, 1, 1, 1] 2 (vS (vS z37 (i 4) (vS (vS z13 (i 0) (vO (vL (tu [(i 1), (i 0)])) vE)) (i 12) z38)) bf z41) [], .seq [1, 1, 1, 1, 1, 1, 1, 1]]
theorem seg2 : runM Tryz.prog xt 600 z_2 = some z_3 := by kernel_rfl
noncomputable def z42 : T AObj := hS (hS (hL (c 24 8 true false [] z1)) (c 24 8 true false [] z1) hE) (c 3 1 true false [] (vL (i 1))) (hL (c 3 1 true false [] (vL (i 1))))
noncomputable def z43 : T AObj := hS (hL (c 3 1 true false [] (vL (i 4)))) (c 3 1 true false [] (vL (i 1))) (hL (c 27 7 true false [] z22))
noncomputable def z44 : T AObj := hS (hL (c 24 8 true false [] z1)) (c 3 1 true false [] (vL (i 1))) (hL (c 3 1 true false [] (vL (i 1))))
noncomputable def z45 : T AObj := hS (hL (c 3 1 true false [] (vL (i 1)))) (c 27 7 true false [] z2) (hL (c 24 8 true false [] z1))
noncomputable def z46 : T AObj := hS (hS z42 (c 24 8 true false [] z1) z43) (c 24 8 true false [] z1) (hS z44 (c 3 1 true false [] (vL (i 4))) z45)
noncomputable def z47 : T AObj := hS (hL (c 27 7 true false [] z22)) (c 3 1 true false [] (vL (i 1))) (hL (c 3 1 true false [] (vL (i 1))))
noncomputable def z48 : T AObj := hS (hL (c 3 1 true false [] (vL (i 3)))) (c 24 8 true false [] z1) (hL (c 24 8 true false [] z1))
noncomputable def z49 : AObj := om [(en (ik .u8 5) (fn 36 [] [(p 19 0)]) 0), (en (ik .u8 14) (fn 36 [] [(p 20 0)]) 1), (en (ik .u8 6) (fn 36 [] [(p 21 0)]) 2), (en (ik .u8 10) (fn 36 [] [(p 22 0)]) 3), (en (ik .u8 11) (fn 36 [] [(p 23 0)]) 4), (en (ik .u8 13) (fn 36 [] [(p 24 0)]) 5), (en (ik .u8 16) (fn 36 [] [(p 25 0)]) 6), (en (ik .u8 15) (fn 39 [] []) 7), (en (ik .u8 8) (fn 37 [] []) 8), (en (ik .u8 9) (fn 37 [] []) 9), (en (ik .u8 7) (fn 38 [] []) 10), (en (ik .u8 12) (fn 38 [] []) 11)] 12
noncomputable def z50 : T Value := vS (vS (vL (i 0)) (i 0) (vL (ik .u8 0))) (ik .u8 1) (vS (vL (ik .u32 0)) (i 0) (vL (st [])))
noncomputable def z51 : T AObj := hS (hL (c 3 1 true false [] (vL (i 1)))) (c 24 8 true false [] z1) (hL (c 27 7 true false [] z50))
noncomputable def z52 : T AObj := hS (hS (hL z49) (c 3 1 true false [] (vL (i 1))) (hL (c 24 8 true false [] z1))) (c 3 1 true false [] (vL (i 3))) z51
noncomputable def z53 : T Value := vS (vS (vS (vL (p 31 4)) (ik .u64 9) (vL bf)) bf (vS (vL bt) bf (vL (st [97, 98])))) bf (vS (vS (vL bf) (p 31 2) (vL (i 2))) bf (vS (vL (p 31 6)) bt vE))
noncomputable def z54 : T Value := vS (vS (vS (vL bt) bf (vL (p 31 7))) (p 31 1) (vS (vL bf) (p 31 3) vE)) (i 64) (vS (vS (vL (p 31 5)) bt vE) bf (vS (vL bt) bf vE))
noncomputable def z55 : T Value := vS (vS (vS (vL (i 1)) bf (vL bf)) bf (vS (vL bf) bf vE)) (p 31 0) (vS (vS (vL bf) (i 1) (vL bf)) bf (vS (vL (i 2)) bf vE))
noncomputable def z56 : T Value := vS (vS (vS (vL bf) bf (vL (st [97, 98]))) (ik .u64 9) (vS (vL bf) (i 1) vE)) bt (vS (vS (vL (i 1)) bf (vL (p 31 7))) (p 31 1) (vS (vL bf) bf vE))
noncomputable def z57 : T Value := vS (vS z53 (p 31 0) z54) (ag [(i 64), (ik .u64 9), (i 1), (i 1), (i 1), (i 1), (i 2), (st [97, 98])]) (vS z55 (i 0) z56)
noncomputable def z58 : T Value := vS (vL (i 0)) (p 29 0) (vL (ag [(i 64), (ik .u64 9), (i 1), (i 1), (i 1), (i 1), (i 2), (st [97, 98])]))
noncomputable def z59 : T Value := vS (vS z58 (ag [(ik .u8 1), (i 0), (i 0), (i 0), (ik .u32 0), (ik .u8 0), (st [])]) vE) (ag [(i 64), (ik .u64 9), (i 1), (i 1), (i 1), (i 1), (i 2), (st [97, 98])]) (vS (vL (p 30 0)) (i 0) (vL (i 0)))
noncomputable def z60 : T Value := vS (vS (vO (vL (i 0)) (vL (i 3))) (i 1) z36) (i 8) (vS (vO (vL (i 0)) (vL (tu [(i 17), (i 0)]))) (i 17) (vO (vL (i 0)) (vL (i 0))))
noncomputable def z61 : T Value := vS (vL (tu [(i 0), (i 3)])) (tu [(i 4), (i 0)]) (vL (ag [(i 64), (ik .u64 9), (i 1), (i 1), (i 1), (i 1), (i 2), (st [97, 98])]))
noncomputable def z62 : T Value := vS (vS z13 (i 0) (vO (vL (tu [(i 1), (i 0)])) (vL (tu [(i 6), (i 0)])))) (i 12) (vS (vO (vL (tu [(i 12), (i 0)])) (vL (i 0))) (i 6) z61)
noncomputable def z63 : T Value := vS (vL (i 0)) (i 4) (vL (ag [(ik .u8 1), (i 0), (i 0), (i 0), (ik .u32 0), (ik .u8 0), (st [])]))
noncomputable def z64 : T Value := vS (vS z16 (i 3) (vO (vL (i 1)) (vL (i 6)))) (i 0) (vS (vO (vL (i 12)) (vL (tu [(i 6), (i 0)]))) (i 0) z63)
noncomputable def z65 : T Value := vS (vS (vS (vO (vL (tu [(i 8), (i 0)])) (vL (tu [(i 17), (i 0)]))) (i 0) z39) (i 0) z40) (i 0) z64
noncomputable def z_4 : M := .at 34 56 (.code [0, 0, 0, 0, 1]) (vS vE (st [97, 98]) (vL bf)) [] ⟨(hS z46 (c 24 8 true false [] z1) (hS (hS z47 z23 z48) (c 27 7 true false [] z2) z52)) , 32⟩ [.seq [1, 0, 0, 0, 1], .loop [0, 0, 0, 1] 1048575, .blk 0, .seq [1, 1], .call 17 57 [0, 1, 1, 1, 1, 0, 0, 1] 2 z57 [], .seq [1, 1, 1, 1, 1, 0, 0, 1], .blk 0, .seq [1, 1], .call 8 58 [0, 0, 1] 1 z59 [], .seq [1, 0, 1], .seq [1, 1], .call 10 59 [0, 1, 1, 1, 1, 1, 1, 1, 1] 2 (vS (vS z60 (i 4) z62) bf z65) [], .seq [1, 1, 1, 1, 1, 1, 1, 1, 1]]
theorem seg3 : runM Tryz.prog xt 600 z_3 = some z_4 := by kernel_rfl
end Go.Proofs.YthaleaeeikmphaaGreat.Closed.aw
