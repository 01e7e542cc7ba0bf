/- Cut states of the run of this law's function, and the steps between them: checked by the kernel. -/
import Derived.Test.YtmhgicpjeeegcaaGreatXt
namespace Go.Proofs.YtmhgicpjeeegcaaGreat.Closed.we
open Go.Ab Go.Ab.Cut Go.RowKit
set_option maxRecDepth 1000000
set_option maxHeartbeats 0
noncomputable def z_0 : M := .at 3 59 (.code []) .nil [] ⟨.nil, 0⟩ []
noncomputable def z0 : T Value := vS (vS (vO vE (vL (tu [(p 13 0), (i 0)]))) (ik .u64 3) (vS (vL (i 8)) (i 0) (vL (i 0)))) (i 8) (vO (vS (vL (tu [(p 13 0), (i 0)])) pn (vL (p 13 0))) (vS (vL (ik .u64 3)) (p 13 0) vE))
noncomputable def z1 : T Value := vS (vS (vS (vL (i 0)) (ik .u32 0) vE) (ik .u8 0) (vS (vL (i 0)) (i 0) vE)) (i 7) (vS (vS (vL (i 0)) (st []) vE) (i 0) (vS (vL (ik .u8 0)) (st []) vE))
noncomputable def z2 : T Value := vS (vS (vS (vL (i 0)) (ik .u8 0) vE) (i 0) (vS (vL (ik .u8 0)) (i 0) vE)) (sn 0 0) (vS (vS (vL (i 0)) (i 0) vE) (i 0) (vS (vL (sn 0 0)) (i 0) vE))
noncomputable def z3 : T Value := vS (vS (vS (vL (sn 0 0)) (i 0) vE) (ik .u32 0) (vS (vL (st [])) (i 0) vE)) pn (vS (vS (vL (i 0)) (i 0) vE) (st []) (vS (vL (i 0)) (ik .u8 0) vE))
noncomputable def z4 : T Value := vS (vS (vS (vL (i 0)) (i 0) vE) (ik .u8 0) (vS (vL (i 0)) (i 0) vE)) (i 0) (vS (vS (vL (i 0)) (i 0) vE) (ik .u8 0) (vL (ik .u8 0)))
noncomputable def z5 : T Value := vS (vS (vS (vL (i 0)) (st []) vE) (i 0) (vS (vL (i 0)) (ik .u8 0) vE)) (i 19) (vS (vS (vL (i 0)) (i 0) vE) (ik .u32 0) (vS (vL (i 0)) (i 0) vE))
noncomputable def z6 : T Value := vS (vS (vS (vL (st [])) (ik .u8 0) vE) (i 0) (vS (vL (i 0)) (sn 0 0) vE)) (i 0) (vS (vS (vL (i 0)) (ik .u8 0) vE) (ik .u8 0) (vL (i 0)))
noncomputable def z7 : T Value := vS (vS (vS (vL (i 0)) (i 0) vE) (st []) (vS (vL (i 0)) (i 0) vE)) pn (vS (vS (vL (ik .u8 0)) (st []) vE) (i 0) (vS (vL (i 0)) (i 0) vE))
noncomputable def z8 : T Value := vS (vS (vS (vL (ik .u8 0)) (ik .u32 0) vE) (ik .u8 0) (vS (vL (i 0)) (i 0) vE)) (ik .u8 0) (vS (vS (vL (sn 0 0)) (i 0) vE) (i 0) (vL (i 0)))
noncomputable def z9 : T Value := vS (vS (vS z1 (st [97, 98]) z2) (i 0) (vS z3 (i 3) z4)) (ik .u64 3) (vS (vS z5 (i 1) z6) (i 2) (vS z7 (i 5) z8))
noncomputable def z10 : T Value := vS (vS (vS (vL (ik .u8 0)) (ik .u8 0) vE) (i 0) (vS (vL (i 0)) (i 0) vE)) (i 9) (vS (vS (vL (sn 0 0)) (i 0) vE) (i 0) (vS (vL (st [])) (i 0) vE))
noncomputable def z11 : T Value := vS (vS (vS (vL (ik .u8 0)) (st []) vE) (i 0) (vS (vL (i 0)) (i 0) vE)) (ik .u8 0) (vS (vS (vL (i 0)) (i 0) vE) (ik .u32 0) (vL (i 0)))
noncomputable def z12 : T Value := vS (vS (vS (vL (i 0)) (i 0) vE) (ik .u8 0) (vS (vL (i 0)) (i 0) vE)) pn (vS (vS (vL (i 0)) (ik .u8 0) vE) (ik .u8 0) (vS (vL (ik .u8 0)) (i 0) vE))
noncomputable def z13 : T Value := vS (vS (vS (vL (i 0)) (i 0) vE) (st []) (vS (vL (i 0)) (i 0) vE)) (ik .u32 0) (vS (vS (vL (i 0)) (sn 0 0) vE) (i 0) (vL (st [])))
noncomputable def z14 : T Value := vS (vS (vS (vL (i 0)) (ik .u8 0) vE) (i 0) (vS (vL (ik .u8 0)) (st []) vE)) (p 9 0) (vS (vS (vL (i 0)) (i 0) vE) (ik .u8 0) (vS (vL (i 0)) (i 0) vE))
noncomputable def z15 : T Value := vS (vS (vS (vL (i 0)) (i 0) vE) (ik .u32 0) (vS (vL (sn 0 0)) (i 0) vE)) (i 0) (vS (vS (vL (ik .u8 0)) (i 0) vE) (st []) (vL (i 0)))
noncomputable def z16 : T Value := vS (vS (vS (vL (i 0)) (ik .u32 0) vE) (ik .u8 0) (vS (vL (i 0)) (ik .u8 0) vE)) (sn 0 0) (vS (vS (vL (st [])) (i 0) vE) (i 0) (vS (vL (i 0)) (sn 0 0) vE))
noncomputable def z17 : T Value := vS (vS (vS (vL (i 0)) (ik .u8 0) vE) (i 0) (vS (vL (i 0)) (ik .u8 0) vE)) (st []) (vS (vS (vL (i 0)) (i 0) vE) (i 0) (vL (i 0)))
noncomputable def z18 : T Value := vS (vS (vS z10 (i 0) z11) (i 2) (vS z12 (i 4) z13)) (i 2) (vS (vS z14 (i 2) z15) (i 1) (vS z16 (i 7) z17))
noncomputable def z19 : T Value := vS (vS (vS (vL (i 7)) (i 3) vE) (i 1) (vS (vL (i 19)) (i 5) vE)) (i 0) (vS (vS (vL (i 9)) (i 4) vE) (i 2) (vL (i 7)))
noncomputable def z20 : T Value := vS (vS (vS (vL (ik .u8 0)) (ik .u8 0) vE) (ik .u8 0) (vL (ik .u8 0))) (ik .u8 0) (vS (vL (ik .u8 0)) (ik .u8 0) (vL (ik .u8 0)))
noncomputable def z21 : T AObj := hS (hL (c 142 184 true false [] (vS z9 (i 8) z18))) (c 136 10 true false [] z19) (hL (c 224 8 true false [] z20))
noncomputable def z22 : T Value := vS (vS (vS (vL (st [97, 98])) (i 0) vE) (ik .u64 3) (vL (i 2))) (i 8) (vS (vL (i 2)) (i 2) (vL (i 1)))
noncomputable def z23 : AObj := c 222 4 true false [] (vS (vS (vL (ik .u64 3)) (s 11 0 8 8) vE) (s 10 0 8 8) (vL (s 12 0 8 8)))
noncomputable def z24 : T AObj := hS (hL (c 215 2 true false [] (vS (vL (sn 0 0)) (s 8 0 19 19) vE))) (c 136 10 true false [] z19) (hL z23)
noncomputable def z25 : T Value := vS (vS (vS (vL (ik .u64 0)) (ik .u64 0) vE) (ik .u64 0) (vL (ik .u64 0))) (ik .u64 0) (vS (vS (vL (ik .u64 0)) (ik .u64 0) vE) (ik .u64 0) (vL (ik .u64 0)))
noncomputable def z26 : T Value := vS (vS (vS (vL (ik .u64 1)) (ik .u64 1) vE) (ik .u64 1) (vL (ik .u64 1))) (ik .u64 1) (vS (vL (ik .u64 1)) (ik .u64 1) (vL (ik .u64 1)))
noncomputable def z27 : T AObj := hS (hL (c 301 19 true false [] (vS z25 (ik .u64 0) z25))) (c 26 8 true false [] z22) (hL (c 24 8 true false [] z26))
noncomputable def z28 : AObj := c 3 8 true false [] (vS (vS (vS (vL (i 0)) (i 4) vE) (i 6) (vL (i 2))) (i 7) (vS (vL (i 3)) (i 5) (vL (i 1))))
noncomputable def z29 : T AObj := hS (hS z21 (c 26 8 true false [] z22) z24) (c 26 8 true false [] z22) (hS z27 (c 26 8 true false [] z22) (hS (hL z28) (c 136 10 true false [] z19) hE))
noncomputable def z30 : T Value := vS (vL (ag [(i 8), (ik .u64 3), (i 2), (i 0), (i 2), (i 2), (i 1), (st [97, 98])])) (tu [(ag [(i 0), (i 1), (i 2), (i 3), (i 4), (i 5), (i 7), (i 7), (i 9), (i 19)]), (i 0)]) (vL (tu [(p 9 0), (i 0)]))
noncomputable def z31 : Value := ag [(i 8), (ik .u64 3), (i 2), (i 0), (i 2), (i 2), (i 1), (st [97, 98]), (i 0), (i 1), (i 2), (i 3), (i 4), (i 5), (i 7), (i 7), (i 9), (i 19), pn, pn, pn, pn, (sn 0 0), (sn 0 0), (ik .u8 0), (i 0), (i 0), (i 0), (ik .u32 0), (ik .u8 0), (st []), (ik .u8 0), (i 0), (i 0), (i 0), (ik .u32 0), (ik .u8 0), (st []), (ik .u8 0), (i 0), (i 0), (i 0), (ik .u32 0), (ik .u8 0), (st []), (ik .u8 0), (i 0), (i 0), (i 0), (ik .u32 0), (ik .u8 0), (st []), (ik .u8 0), (i 0), (i 0), (i 0), (ik .u32 0), (ik .u8 0), (st []), (ik .u8 0), (i 0), (i 0), (i 0), (ik .u32 0), (ik .u8 0), (st []), (ik .u8 0), (i 0), (i 0), (i 0), (ik .u32 0), (ik .u8 0), (st []), (ik .u8 0), (i 0), (i 0), (i 0), (ik .u32 0), (ik .u8 0), (st []), (i 0), (i 0), (i 0), (i 0), (ik .u8 0), (st []), (i 0), (i 0), (i 0), (ik .u8 0), (i 0), (i 0), (sn 0 0), (i 0), (i 0), (i 0), (i 0), (ik .u8 0), (st []), (i 0), (i 0), (i 0), (ik .u8 0), (i 0), (i 0), (sn 0 0), (i 0), (i 0), (i 0), (i 0), (ik .u8 0), (st []), (i 0), (i 0), (i 0), (ik .u8 0), (i 0), (i 0), (sn 0 0), (i 0), (i 0), (i 0), (i 0), (ik .u8 0), (st []), (i 0), (i 0), (i 0), (ik .u8 0), (i 0), (i 0), (sn 0 0), (i 0), (i 0), (i 0), (i 0), (ik .u8 0), (st []), (i 0), (i 0), (i 0), (ik .u8 0), (i 0), (i 0), (sn 0 0), (i 0), (i 0), (i 0), (i 0), (ik .u8 0), (st []), (i 0), (i 0), (i 0), (ik .u8 0), (i 0), (i 0), (sn 0 0), (i 0), (i 0), (i 0), (i 0), (ik .u8 0), (st []), (i 0), (i 0), (i 0), (ik .u8 0), (i 0), (i 0), (sn 0 0), (i 0), (i 0), (i 0), (i 0), (ik .u8 0), (st []), (i 0), (i 0), (i 0), (ik .u8 0), (i 0), (i 0), (sn 0 0)]
noncomputable def z32 : T Value := vS (vS (vL (p 1 0)) z31 vE) (tu [(ag [(i 0), (i 1), (i 2), (i 3), (i 4), (i 5), (i 7), (i 7), (i 9), (i 19)]), (i 0)]) (vL (i 0))
noncomputable def z33 : T Value := vS (vS (vO (vS (vL (p 7 18)) (i 0) vE) (vS (vL (p 1 1)) (tu [(p 9 0), (i 0)]) vE)) (i 0) z30) (p 1 0) (vS (vO (vS (vL bf) bf vE) (vL (p 6 9))) (i 0) z32)
noncomputable def z34 : T Value := vS (vL (p 7 0)) (ag [(i 0), (i 1), (i 2), (i 3), (i 4), (i 5), (i 7), (i 7), (i 9), (i 19)]) vE
noncomputable def z35 : T Value := vS z34 (ag [(i 8), (ik .u64 3), (i 2), (i 0), (i 2), (i 2), (i 1), (st [97, 98])]) (vL (p 9 0))
noncomputable def z36 : T Value := vS (vS (vL (i 8)) (p 7 0) vE) (ag [(i 0), (i 1), (i 2), (i 3), (i 4), (i 5), (i 7), (i 7), (i 9), (i 19)]) (vL (p 7 0))
noncomputable def z37 : T Value := vS (vS (vO (vS (vL (i 0)) (i 0) vE) (vS (vL (ik .u64 3)) (p 7 0) vE)) (p 6 0) z35) pn (vS (vO vE (vL (i 19))) (p 7 0) z36)
noncomputable def z38 : T Value := vS (vO (vL (ag [(i 8), (ik .u64 3), (i 2), (i 0), (i 2), (i 2), (i 1), (st [97, 98])])) vE) (p 0 0) vE
noncomputable def z39 : T Value := vO (vO (vL (ag [(i 8), (ik .u64 3), (i 2), (i 0), (i 2), (i 2), (i 1), (st [97, 98])])) vE) vE
noncomputable def z_1 : M := .at 98 56 (.ops [0, 1] 7) z0 [] ⟨z29 , 14⟩ [.seq [1, 1], .call 40 57 [0, 0, 1, 1, 1, 1, 1] 5 (vS z33 (ag [(i 8), (ik .u64 3), (i 2), (i 0), (i 2), (i 2), (i 1), (st [97, 98])]) z37) [], .seq [1, 0, 1, 1, 1, 1, 1], .seq [1, 1, 1, 1, 1, 1], .call 5 58 [0, 1] 1 (vS z38 (ag [(i 8), (ik .u64 3), (i 2), (i 0), (i 2), (i 2), (i 1), (st [97, 98])]) (vL pn)) [], .seq [1, 1], .call 3 59 [0, 1] 1 (vS (vO vE z39) bf vE) [], .seq [1, 1]]
theorem seg0 : runM Tryz.prog xt 1500 z_0 = some z_1 := by kernel_rfl
end Go.Proofs.YtmhgicpjeeegcaaGreat.Closed.we
