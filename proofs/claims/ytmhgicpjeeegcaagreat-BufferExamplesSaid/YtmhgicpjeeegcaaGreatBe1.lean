/- Cut states of the run of this law's function, and the steps between them: checked by the kernel. -/
import Derived.Test.YtmhgicpjeeegcaaGreatXu
namespace Go.Proofs.YtmhgicpjeeegcaaGreat.Closed.be
open Go.Ab Go.Ab.Cut Go.RowKit
set_option maxRecDepth 1000000
set_option maxHeartbeats 0
noncomputable def z_0 : M := .at 4 59 (.code []) .nil [] ⟨.nil, 0⟩ []
noncomputable def z0 : T Value := vS (vS (vS (vL (st [97, 98])) (i 1) vE) (ik .u64 9) (vL (i 1))) (i 64) (vS (vL (i 1)) (i 1) (vL (i 1)))
noncomputable def z1 : T Value := vS (vS (vS (vL (i 0)) (ik .u8 1) vE) (i 0) (vS (vL (ik .u8 0)) (ik .u32 0) vE)) (i 0) (vS (vS (vL (i 2)) (i 2) vE) (ik .u8 0) (vL (st [99])))
noncomputable def z2 : T Value := vS (vS (vS (vL (i 0)) (i 0) vE) (ik .u32 0) (vS (vL (st [])) (ik .u8 0) vE)) (i 0) (vS (vS (vL (ik .u32 0)) (i 0) vE) (st []) (vL (ik .u8 7)))
noncomputable def z3 : T AObj := hS (hS (hL (c 26 8 true false [] z0)) (c 31 21 true false [] (vS z1 (ik .u8 5) z2)) hE) (c 26 8 true false [] z0) (hS (hL (c 26 8 true false [] z0)) (c 84 1 true false [] (vL (s 1 0 3 3))) hE)
noncomputable def z4 : T Value := vS (vO (vS (vL (st [98])) (i 0) vE) (vO (vL (st [98])) vE)) (st [98]) (vS (vS (vL bf) (i 0) vE) (i 0) (vO (vL (ik .u8 98)) vE))
noncomputable def z5 : T Value := vO (vS (vS (vL bf) bt vE) (i 97) (vL (i 97))) (vS (vS (vL (i 1)) (st [98]) vE) (i 0) (vL (i 0)))
noncomputable def z6 : T Value := vS (vS (vS (vL (st [97, 98])) (tu [(i 97), (i 1), (i 0)]) vE) (i 1) (vL (i 1))) bf (vS (vS (vL (st [98])) (tu [(i 97), (i 1), (i 0)]) vE) (st [98]) (vL (i 0)))
noncomputable def z7 : T Value := vS (vS (vS (vL (p 4 4)) (ik .u64 9) (vL bf)) bf (vS (vL bt) bf (vL (st [97, 98])))) bf (vS (vS (vL bf) (p 4 2) (vL (i 2))) bf (vS (vL (p 4 6)) bt vE))
noncomputable def z8 : T Value := vS (vS (vS (vL bt) bf (vL (p 4 7))) (p 4 1) (vS (vL bf) (p 4 3) vE)) (i 64) (vS (vS (vL (p 4 5)) bt vE) bf (vS (vL bt) bf vE))
noncomputable def z9 : T Value := vS (vS (vS (vL (i 1)) bf (vL bf)) bf (vS (vL bf) bf vE)) (p 4 0) (vS (vS (vL bf) (i 1) (vL bf)) bf (vS (vL (i 1)) bf vE))
noncomputable def z10 : T Value := vS (vS (vS (vL bf) bf (vL (st [97, 98]))) (ik .u64 9) (vS (vL bf) (i 1) vE)) bt (vS (vS (vL (i 1)) bf (vL (p 4 7))) (p 4 1) (vS (vL bf) bf vE))
noncomputable def z11 : T Value := vS (vS z7 (p 4 0) z8) (ag [(i 64), (ik .u64 9), (i 1), (i 1), (i 1), (i 1), (i 1), (st [97, 98])]) (vS z9 (i 0) z10)
noncomputable def z12 : T Value := vS (vO (vL (ag [(i 64), (ik .u64 9), (i 1), (i 1), (i 1), (i 1), (i 1), (st [97, 98])])) vE) (i 0) vE
noncomputable def z13 : T Value := vS (vS vE (s 2 0 1 1) z12) (ag [(i 64), (ik .u64 9), (i 1), (i 1), (i 1), (i 1), (i 1), (st [97, 98])]) (vS (vL pn) (p 3 0) vE)
noncomputable def z14 : T Value := vO vE (vO vE (vL (ag [(ik .u8 5), (i 0), (i 0), (i 0), (ik .u32 0), (ik .u8 0), (st [])])))
noncomputable def z15 : T Value := vO (vO (vO (vL (s 1 0 3 3)) vE) vE) (vO vE (vL (ag [(ik .u8 7), (i 0), (i 0), (i 2), (ik .u32 0), (ik .u8 0), (st [])])))
noncomputable def z16 : T Value := vO (vO (vL (ag [(i 64), (ik .u64 9), (i 1), (i 1), (i 1), (i 1), (i 1), (st [97, 98])])) vE) vE
noncomputable def z17 : T Value := vO z16 (vO vE (vL (ag [(ik .u8 1), (i 0), (i 2), (i 0), (ik .u32 0), (ik .u8 0), (st [99])])))
noncomputable def z18 : T Value := vO (vO (vL (s 2 0 1 1)) vE) (vL (ag [(i 64), (ik .u64 9), (i 1), (i 1), (i 1), (i 1), (i 1), (st [97, 98])]))
noncomputable def z_1 : M := .at 234 54 (.ops [0, 0, 0, 0, 0, 0, 0, 0, 0, 0, 0, 0, 0, 0, 0, 1, 1] 2) (vS (vO (vL (i 0)) (vL (ik .u8 98))) (ik .u8 98) (vS vE (i 0) (vL bf))) [] ⟨z3 , 5⟩ [.seq [1, 0, 0, 0, 0, 0, 0, 0, 0, 0, 0, 0, 0, 0, 0, 1, 1], .seq [1, 0, 0, 0, 0, 0, 0, 0, 0, 0, 0, 0, 0, 0, 1, 1], .seq [1, 0, 0, 0, 0, 0, 0, 0, 0, 0, 0, 0, 0, 1, 1], .blk 1, .seq [1, 0, 0, 0, 0, 0, 0, 0, 0, 0, 0, 1, 1], .blk 2, .seq [1, 0, 0, 0, 0, 0, 0, 0, 0, 1, 1], .blk 3, .seq [1, 0, 0, 0, 0, 0, 0, 1, 1], .blk 4, .seq [1, 0, 0, 0, 0, 1, 1], .blk 5, .seq [1, 0, 0, 1, 1], .blk 0, .seq [1, 1, 1], .call 195 55 [0, 1, 1] 2 z4 [], .seq [1, 1, 1], .call 138 56 [0, 0, 1, 0, 0, 0, 1] 1 (vS z5 (st [98]) z6) [], .seq [1, 0, 1, 0, 0, 0, 1], .blk 1, .loop [0, 0, 0, 1] 1048574, .blk 0, .seq [1, 1], .call 75 57 [0, 1, 1, 1, 1, 0, 0, 1] 2 z11 [], .seq [1, 1, 1, 1, 1, 0, 0, 1], .blk 0, .seq [1, 1], .call 24 58 [0, 0, 1] 1 z13 [], .seq [1, 0, 1], .seq [1, 1], .call 4 59 [0, 1, 1, 1] 3 (vS (vS z14 (p 0 0) z15) bf (vS z17 (s 1 0 3 3) (vO z18 (vO vE (vL (s 1 0 3 3)))))) [], .seq [1, 1, 1, 1]]
theorem seg0 : runM Tryz.prog xt 600 z_0 = some z_1 := by kernel_rfl
noncomputable def z19 : T Value := vS (vS (vS (vL (i 0)) (i 0) vE) (i 0) (vS (vL (i 0)) (i 0) vE)) (i 0) (vS (vS (vL (i 0)) (i 0) vE) (i 0) (vL (i 0)))
noncomputable def z20 : T AObj := hS (hS (hL (c 136 10 true false [] z19)) (c 26 8 true false [] z0) hE) (c 31 21 true false [] (vS z1 (ik .u8 5) z2)) (hL (c 26 8 true false [] z0))
noncomputable def z21 : T AObj := hS (hS (hL (c 26 8 true false [] z0)) (c 26 8 true false [] z0) hE) (c 84 1 true false [] (vL (s 1 0 3 3))) (hL (c 26 8 true false [] z0))
noncomputable def z22 : T Value := vS (vO (vO (vL bt) vE) (vO (vL (st [97, 98])) vE)) (st [97, 98]) (vS vE bf (vL (st [97, 98])))
noncomputable def z23 : T Value := vS (vS (vS (vL (p 8 4)) (ik .u64 9) (vL bf)) bf (vS (vL bt) bf (vL (st [97, 98])))) bf (vS (vS (vL bf) (p 8 2) (vL (i 2))) bf (vS (vL (p 8 6)) bt vE))
noncomputable def z24 : T Value := vS (vS (vS (vL bt) bf (vL (p 8 7))) (p 8 1) (vS (vL bf) (p 8 3) vE)) (i 64) (vS (vS (vL (p 8 5)) bt vE) bf (vS (vL bt) bf vE))
noncomputable def z25 : T Value := vS (vS (vS (vL (i 1)) bf (vL bf)) bf (vS (vL bf) bf vE)) (p 8 0) (vS (vS (vL bf) (i 1) (vL bf)) bf (vS (vL (i 1)) bf vE))
noncomputable def z26 : T Value := vS (vS (vS (vL bf) bf (vL (st [97, 98]))) (ik .u64 9) (vS (vL bf) (i 1) vE)) bt (vS (vS (vL (i 1)) bf (vL (p 8 7))) (p 8 1) (vS (vL bf) bf vE))
noncomputable def z27 : T Value := vS (vS z23 (p 8 0) z24) (ag [(i 64), (ik .u64 9), (i 1), (i 1), (i 1), (i 1), (i 1), (st [97, 98])]) (vS z25 (i 0) z26)
noncomputable def z28 : T Value := vS vE (p 7 0) (vL (ag [(i 64), (ik .u64 9), (i 1), (i 1), (i 1), (i 1), (i 1), (st [97, 98])]))
noncomputable def z29 : T Value := vS (vS (vL (i 0)) (p 6 0) vE) (ag [(i 64), (ik .u64 9), (i 1), (i 1), (i 1), (i 1), (i 1), (st [97, 98])]) z28
noncomputable def z30 : T Value := vS (vO vE (vL (ag [(i 64), (ik .u64 9), (i 1), (i 1), (i 1), (i 1), (i 1), (st [97, 98])]))) pn vE
noncomputable def z31 : T Value := vS (vS (vL (i 0)) (p 5 0) vE) (ag [(i 64), (ik .u64 9), (i 1), (i 1), (i 1), (i 1), (i 1), (st [97, 98])]) z30
noncomputable def z32 : T Value := vS (vL (s 1 0 3 3)) (ag [(i 64), (ik .u64 9), (i 1), (i 1), (i 1), (i 1), (i 1), (st [97, 98])]) vE
noncomputable def z33 : T Value := vS (vO (vO (vO (vL (p 2 0)) vE) (vL (i 1))) (vO (vS (vL bf) (i 0) vE) (vL (s 2 0 1 1)))) (s 2 0 1 1) (vS (vO z32 (vL (i 1))) (i 0) (vO vE (vL (i 1))))
noncomputable def z34 : T Value := vS (vS (vO (vL (s 1 0 3 3)) vE) (s 1 0 3 3) (vL (p 3 2))) pn (vO (vS (vL (i 1)) bf vE) (vL (i 1)))
noncomputable def z35 : T Value := vS (vL (ag [(i 64), (ik .u64 9), (i 1), (i 1), (i 1), (i 1), (i 1), (st [97, 98])])) (s 2 0 1 1) vE
noncomputable def z36 : T Value := vS z33 (ag [(i 64), (ik .u64 9), (i 1), (i 1), (i 1), (i 1), (i 1), (st [97, 98])]) (vS z34 (p 3 0) (vS (vO (vS (vL (i 3)) (i 0) vE) (vL bf)) (i 0) (vO z35 (vL bf))))
noncomputable def z_2 : M := .at 195 53 (.ops [0, 0, 1] 1) (vS (vO (vS (vL (st [97, 98])) (i 0) vE) vE) (st [97, 98]) (vS (vL (i 0)) (i 0) vE)) [] ⟨(hS z20 (c 26 8 true false [] z0) z21) , 9⟩ [.seq [1, 0, 1], .seq [1, 1], .call 138 54 [0, 0, 1, 0, 0, 0, 1] 1 z22 [], .seq [1, 0, 1, 0, 0, 0, 1], .blk 1, .loop [0, 0, 0, 1] 1048575, .blk 0, .seq [1, 1], .call 75 55 [0, 1, 1, 1, 1, 0, 0, 1] 2 z27 [], .seq [1, 1, 1, 1, 1, 0, 0, 1], .blk 0, .seq [1, 1], .call 96 56 [0, 0, 1] 1 z29 [], .seq [1, 0, 1], .seq [1, 1], .call 40 57 [0, 1] 1 z31 [], .seq [1, 1], .call 24 58 [0, 1, 1, 1, 1] 1 z36 [], .seq [1, 1, 1, 1, 1], .call 4 59 [0, 1, 1, 1] 3 (vS (vS z14 (p 0 0) z15) bf (vS z17 (s 1 0 3 3) (vO z18 (vO vE (vL (s 1 0 3 3)))))) [], .seq [1, 1, 1, 1]]
theorem seg1 : runM Tryz.prog xt 600 z_1 = some z_2 := by kernel_rfl
noncomputable def z37 : T Value := vS (vL (i 0)) (p 7 0) (vL (ag [(i 64), (ik .u64 9), (i 1), (i 1), (i 1), (i 1), (i 1), (st [97, 98])]))
noncomputable def z38 : T Value := vS (vS (vS (vL (i 0)) (i 0) vE) (p 6 0) vE) (ag [(i 64), (ik .u64 9), (i 1), (i 1), (i 1), (i 1), (i 1), (st [97, 98])]) z37
noncomputable def z_3 : M := .at 96 56 (.ops [0, 0, 1] 3) z38 [] ⟨(hS z20 (c 26 8 true false [] z0) z21) , 9⟩ [.seq [1, 0, 1], .seq [1, 1], .call 40 57 [0, 1] 1 z31 [], .seq [1, 1], .call 24 58 [0, 1, 1, 1, 1] 1 z36 [], .seq [1, 1, 1, 1, 1], .call 4 59 [0, 1, 1, 1] 3 (vS (vS z14 (p 0 0) z15) bf (vS z17 (s 1 0 3 3) (vO z18 (vO vE (vL (s 1 0 3 3)))))) [], .seq [1, 1, 1, 1]]
theorem seg2 : runM Tryz.prog xt 600 z_2 = some z_3 := by kernel_rfl
noncomputable def z39 : T Value := vO (vS (vS (vL (i 64)) (ik .u64 9) (vL (p 17 2))) (i 7) (vS (vL (i 7)) (s 14 0 64 64) vE)) (vS (vS (vL (p 17 0)) (ik .u64 9) (vL (i 7))) (i 64) (vS (vL (i 56)) (s 16 0 64 64) vE))
noncomputable def z40 : T Value := vS (vS (vL (p 17 0)) bf vE) bf (vS (vL (p 17 0)) (ag [(s 14 0 64 64), (s 15 0 64 64), (s 16 0 64 64), (ik .u64 9)]) vE)
noncomputable def z41 : T Value := vS z39 (ik .u64 9) (vS (vS (vS (vL bt) bf (vL (i 7))) bf (vS (vL (i 63)) (s 15 0 64 64) vE)) (i 0) z40)
noncomputable def z42 : T Value := vS (vS (vS (vL (i 7)) bf (vL (s 16 0 64 64))) (i 64) (vS (vL (i 64)) (i 64) vE)) pn (vS (vS (vL (p 17 0)) bf vE) bf (vS (vL (p 14 7)) (ik .u64 9) vE))
noncomputable def z43 : T Value := vS (vS (vS (vL (i 7)) bf (vL (p 16 7))) bf (vS (vL (i 7)) (i 64) vE)) (p 17 0) (vS (vS (vL (s 14 0 64 64)) (i 64) vE) bf (vS (vL (p 17 0)) (p 17 0) vE))
noncomputable def z44 : T Value := vS (vS (vS (vL (ik .u8 0)) (ik .u8 0) vE) (ik .u8 0) (vL (ik .u8 0))) (ik .u8 0) (vS (vL (ik .u8 0)) (ik .u8 0) (vL (ik .u8 0)))
noncomputable def z45 : T Value := vS (vS (vL (ik .u8 0)) (ik .u8 0) (vL (ik .u8 0))) (ik .u8 0) (vS (vL (ik .u8 0)) (ik .u8 0) (vL (ik .u8 0)))
noncomputable def z46 : T Value := vS (vS (vS z44 (ik .u8 0) z45) (ik .u8 0) (vS z45 (ik .u8 0) z45)) (ik .u8 0) (vS (vS z45 (ik .u8 0) z45) (ik .u8 0) (vS z45 (ik .u8 0) z45))
noncomputable def z47 : T Value := vS (vS (vS (vL (i 7)) (i 3) vE) (i 1) (vS (vL (i 13)) (i 5) vE)) (i 0) (vS (vS (vL (i 8)) (i 4) vE) (i 2) (vL (i 6)))
noncomputable def z48 : T Value := vS (vS (vS (vL (i 0)) (ik .u32 0) vE) (ik .u8 0) (vS (vL (i 0)) (i 0) vE)) (i 7) (vS (vS (vL (i 0)) (st []) vE) (i 0) (vS (vL (ik .u8 0)) (st []) vE))
noncomputable def z49 : T Value := vS (vS (vS (vL (i 0)) (ik .u8 0) vE) (i 0) (vS (vL (ik .u8 0)) (i 0) vE)) (sn 0 0) (vS (vS (vL (i 0)) (i 0) vE) (i 0) (vS (vL (sn 0 0)) (i 0) vE))
noncomputable def z50 : T Value := vS (vS (vS (vL (sn 0 0)) (i 0) vE) (ik .u32 0) (vS (vL (st [])) (i 0) vE)) pn (vS (vS (vL (i 0)) (i 0) vE) (st []) (vS (vL (i 0)) (ik .u8 0) vE))
noncomputable def z51 : T Value := vS (vS (vS (vL (i 0)) (i 0) vE) (ik .u8 0) (vS (vL (i 0)) (i 0) vE)) (i 0) (vS (vS (vL (i 0)) (i 0) vE) (ik .u8 0) (vL (ik .u8 0)))
noncomputable def z52 : T Value := vS (vS (vS (vL (i 0)) (st []) vE) (i 0) (vS (vL (i 0)) (ik .u8 0) vE)) (i 13) (vS (vS (vL (i 0)) (i 0) vE) (ik .u32 0) (vS (vL (i 0)) (i 0) vE))
noncomputable def z53 : T Value := vS (vS (vS (vL (st [])) (ik .u8 0) vE) (i 0) (vS (vL (i 0)) (sn 0 0) vE)) (i 0) (vS (vS (vL (i 0)) (ik .u8 0) vE) (ik .u8 0) (vL (i 0)))
noncomputable def z54 : T Value := vS (vS (vS (vL (i 0)) (i 0) vE) (st []) (vS (vL (i 0)) (i 0) vE)) pn (vS (vS (vL (ik .u8 0)) (st []) vE) (i 0) (vS (vL (i 0)) (i 0) vE))
noncomputable def z55 : T Value := vS (vS (vS (vL (ik .u8 0)) (ik .u32 0) vE) (ik .u8 0) (vS (vL (i 0)) (i 0) vE)) (ik .u8 0) (vS (vS (vL (sn 0 0)) (i 0) vE) (i 0) (vL (i 0)))
noncomputable def z56 : T Value := vS (vS (vS z48 (st [97, 98]) z49) (i 1) (vS z50 (i 3) z51)) (ik .u64 9) (vS (vS z52 (i 1) z53) (i 1) (vS z54 (i 5) z55))
noncomputable def z57 : T Value := vS (vS (vS (vL (ik .u8 0)) (ik .u8 0) vE) (i 0) (vS (vL (i 0)) (i 0) vE)) (i 8) (vS (vS (vL (sn 0 0)) (i 0) vE) (i 0) (vS (vL (st [])) (i 0) vE))
noncomputable def z58 : T Value := vS (vS (vS (vL (ik .u8 0)) (st []) vE) (i 0) (vS (vL (i 0)) (i 0) vE)) (ik .u8 0) (vS (vS (vL (i 0)) (i 0) vE) (ik .u32 0) (vL (i 0)))
noncomputable def z59 : T Value := vS (vS (vS (vL (i 0)) (i 0) vE) (ik .u8 0) (vS (vL (i 0)) (i 0) vE)) pn (vS (vS (vL (i 0)) (ik .u8 0) vE) (ik .u8 0) (vS (vL (ik .u8 0)) (i 0) vE))
noncomputable def z60 : T Value := vS (vS (vS (vL (i 0)) (i 0) vE) (st []) (vS (vL (i 0)) (i 0) vE)) (ik .u32 0) (vS (vS (vL (i 0)) (sn 0 0) vE) (i 0) (vL (st [])))
noncomputable def z61 : T Value := vS (vS (vS (vL (i 0)) (ik .u8 0) vE) (i 0) (vS (vL (ik .u8 0)) (st []) vE)) (p 13 0) (vS (vS (vL (i 0)) (i 0) vE) (ik .u8 0) (vS (vL (i 0)) (i 0) vE))
noncomputable def z62 : T Value := vS (vS (vS (vL (i 0)) (i 0) vE) (ik .u32 0) (vS (vL (sn 0 0)) (i 0) vE)) (i 0) (vS (vS (vL (ik .u8 0)) (i 0) vE) (st []) (vL (i 0)))
noncomputable def z63 : T Value := vS (vS (vS (vL (i 0)) (ik .u32 0) vE) (ik .u8 0) (vS (vL (i 0)) (ik .u8 0) vE)) (sn 0 0) (vS (vS (vL (st [])) (i 0) vE) (i 0) (vS (vL (i 0)) (sn 0 0) vE))
noncomputable def z64 : T Value := vS (vS (vS (vL (i 0)) (ik .u8 0) vE) (i 0) (vS (vL (i 0)) (ik .u8 0) vE)) (st []) (vS (vS (vL (i 0)) (i 0) vE) (i 0) (vL (i 0)))
noncomputable def z65 : T Value := vS (vS (vS z57 (i 0) z58) (i 1) (vS z59 (i 4) z60)) (i 1) (vS (vS z61 (i 2) z62) (i 1) (vS z63 (i 6) z64))
noncomputable def z66 : T AObj := hS (hS (hL (c 224 64 true false [] z46)) (c 136 10 true false [] z47) hE) (c 26 8 true false [] z0) (hL (c 142 184 true false [] (vS z56 (i 64) z65)))
noncomputable def z67 : AObj := c 222 4 true false [] (vS (vS (vL (ik .u64 9)) (s 15 0 64 64) vE) (s 14 0 64 64) (vL (s 16 0 64 64)))
noncomputable def z68 : T AObj := hS (hS (hL z67) (c 136 10 true false [] z47) hE) (c 26 8 true false [] z0) (hL (c 215 2 true false [] (vS (vL (sn 0 0)) (s 12 0 13 13) vE)))
noncomputable def z69 : T Value := vS (vS (vS (vL (ik .u64 0)) (ik .u64 0) vE) (ik .u64 0) (vL (ik .u64 0))) (ik .u64 1) (vS (vL (ik .u64 0)) (ik .u64 0) (vL (ik .u64 0)))
noncomputable def z70 : T Value := vS (vS (vL (ik .u64 0)) (ik .u64 0) (vL (ik .u64 0))) (ik .u64 0) (vS (vL (ik .u64 0)) (ik .u64 0) (vL (ik .u64 0)))
noncomputable def z71 : T Value := vS (vS (vS z69 (ik .u64 1) z70) (ik .u64 1) (vS z70 (ik .u64 1) z70)) (ik .u64 1) (vS (vS z70 (ik .u64 1) z70) (ik .u64 1) (vS z70 (ik .u64 1) z70))
noncomputable def z72 : T Value := vS (vS (vL (ik .u64 0)) (ik .u64 0) (vL (ik .u64 0))) (ik .u64 0) (vS (vL (ik .u64 0)) (ik .u64 0) vE)
noncomputable def z73 : T AObj := hS (hS (hL (c 24 64 true false [] z71)) (c 26 8 true false [] z0) hE) (c 26 8 true false [] z0) (hL (c 301 13 true false [] (vS z72 (ik .u64 0) z72)))
noncomputable def z74 : T Value := vS (vS (vS (vS (vL (i 0)) (i 0) vE) (i 0) (vL (i 0))) (i 56) (vS (vL (i 0)) (i 0) (vL (i 0)))) (i 60) (vS (vS (vL (i 0)) (i 0) (vL (i 0))) (i 0) (vS (vL (i 0)) (i 0) (vL (i 0))))
noncomputable def z75 : T Value := vS (vS (vS (vL (i 0)) (i 0) (vL (i 0))) (i 0) (vS (vL (i 0)) (i 0) (vL (i 0)))) (i 58) (vS (vS (vL (i 0)) (i 0) (vL (i 0))) (i 0) (vS (vL (i 0)) (i 0) (vL (i 0))))
noncomputable def z76 : T Value := vS (vS (vS (vL (i 0)) (i 0) (vL (i 0))) (i 0) (vS (vL (i 0)) (i 0) (vL (i 0)))) (i 59) (vS (vS (vL (i 0)) (i 0) (vL (i 0))) (i 0) (vS (vL (i 0)) (i 0) (vL (i 0))))
noncomputable def z77 : T Value := vS (vS (vS (vL (i 0)) (i 0) (vL (i 0))) (i 0) (vS (vL (i 0)) (i 0) (vL (i 0)))) (i 57) (vS (vS (vL (i 0)) (i 0) (vL (i 0))) (i 0) (vS (vL (i 0)) (i 0) (vL (i 0))))
noncomputable def z78 : T AObj := hS (hL (c 136 10 true false [] z47)) (c 26 8 true false [] z0) (hL (c 3 64 true false [] (vS (vS z74 (i 62) z75) (i 63) (vS z76 (i 61) z77))))
noncomputable def z79 : T AObj := hS (hS z66 (c 31 21 true false [] (vS z1 (ik .u8 5) z2)) z68) (c 26 8 true false [] z0) (hS z73 (c 84 1 true false [] (vL (s 1 0 3 3))) z78)
noncomputable def z80 : T Value := vS (vS vE (ik .u64 9) (vS (vL (i 64)) (i 0) vE)) (i 64) (vO (vL pn) (vO (vL (ik .u64 9)) vE))
noncomputable def z81 : T Value := vS (vL (ag [(i 64), (ik .u64 9), (i 1), (i 1), (i 1), (i 1), (i 1), (st [97, 98])])) (tu [(ag [(i 0), (i 1), (i 2), (i 3), (i 4), (i 5), (i 6), (i 7), (i 8), (i 13)]), (i 0)]) (vL (tu [(p 13 0), (i 0)]))
noncomputable def z82 : Value := ag [(i 64), (ik .u64 9), (i 1), (i 1), (i 1), (i 1), (i 1), (st [97, 98]), (i 0), (i 1), (i 2), (i 3), (i 4), (i 5), (i 6), (i 7), (i 8), (i 13), pn, pn, pn, pn, (sn 0 0), (sn 0 0), (ik .u8 0), (i 0), (i 0), (i 0), (ik .u32 0), (ik .u8 0), (st []), (ik .u8 0), (i 0), (i 0), (i 0), (ik .u32 0), (ik .u8 0), (st []), (ik .u8 0), (i 0), (i 0), (i 0), (ik .u32 0), (ik .u8 0), (st []), (ik .u8 0), (i 0), (i 0), (i 0), (ik .u32 0), (ik .u8 0), (st []), (ik .u8 0), (i 0), (i 0), (i 0), (ik .u32 0), (ik .u8 0), (st []), (ik .u8 0), (i 0), (i 0), (i 0), (ik .u32 0), (ik .u8 0), (st []), (ik .u8 0), (i 0), (i 0), (i 0), (ik .u32 0), (ik .u8 0), (st []), (ik .u8 0), (i 0), (i 0), (i 0), (ik .u32 0), (ik .u8 0), (st []), (i 0), (i 0), (i 0), (i 0), (ik .u8 0), (st []), (i 0), (i 0), (i 0), (ik .u8 0), (i 0), (i 0), (sn 0 0), (i 0), (i 0), (i 0), (i 0), (ik .u8 0), (st []), (i 0), (i 0), (i 0), (ik .u8 0), (i 0), (i 0), (sn 0 0), (i 0), (i 0), (i 0), (i 0), (ik .u8 0), (st []), (i 0), (i 0), (i 0), (ik .u8 0), (i 0), (i 0), (sn 0 0), (i 0), (i 0), (i 0), (i 0), (ik .u8 0), (st []), (i 0), (i 0), (i 0), (ik .u8 0), (i 0), (i 0), (sn 0 0), (i 0), (i 0), (i 0), (i 0), (ik .u8 0), (st []), (i 0), (i 0), (i 0), (ik .u8 0), (i 0), (i 0), (sn 0 0), (i 0), (i 0), (i 0), (i 0), (ik .u8 0), (st []), (i 0), (i 0), (i 0), (ik .u8 0), (i 0), (i 0), (sn 0 0), (i 0), (i 0), (i 0), (i 0), (ik .u8 0), (st []), (i 0), (i 0), (i 0), (ik .u8 0), (i 0), (i 0), (sn 0 0), (i 0), (i 0), (i 0), (i 0), (ik .u8 0), (st []), (i 0), (i 0), (i 0), (ik .u8 0), (i 0), (i 0), (sn 0 0)]
noncomputable def z83 : T Value := vS (vS (vL (p 5 0)) z82 vE) (tu [(ag [(i 0), (i 1), (i 2), (i 3), (i 4), (i 5), (i 6), (i 7), (i 8), (i 13)]), (i 0)]) (vL (i 0))
noncomputable def z84 : T Value := vS (vS (vO (vS (vL (p 11 18)) (i 0) vE) (vS (vL (p 5 1)) (tu [(p 13 0), (i 0)]) vE)) (i 0) z81) (p 5 0) (vS (vO (vS (vL bf) bf vE) (vL (p 10 9))) (i 0) z83)
noncomputable def z85 : T Value := vS (vL (p 11 0)) (ag [(i 0), (i 1), (i 2), (i 3), (i 4), (i 5), (i 6), (i 7), (i 8), (i 13)]) vE
noncomputable def z86 : T Value := vS z85 (ag [(i 64), (ik .u64 9), (i 1), (i 1), (i 1), (i 1), (i 1), (st [97, 98])]) (vL (p 13 0))
noncomputable def z87 : T Value := vS (vS (vL (i 64)) (p 11 0) vE) (ag [(i 0), (i 1), (i 2), (i 3), (i 4), (i 5), (i 6), (i 7), (i 8), (i 13)]) (vL (p 11 0))
noncomputable def z88 : T Value := vS (vS (vO (vS (vL (i 0)) (i 0) vE) (vS (vL (ik .u64 9)) (p 11 0) vE)) (p 10 0) z86) pn (vS (vO vE (vL (i 13))) (p 11 0) z87)
noncomputable def z_4 : M := .at 155 55 (.exit .normal) (vS z41 (i 64) (vO z42 z43)) [] ⟨z79 , 18⟩ [.seq [1, 1, 1, 0, 0, 1, 0, 1, 1, 1], .loop [0, 0, 1, 0, 1, 1, 1] 1048568, .blk 0, .seq [1, 1, 1, 1], .call 98 56 [0, 1] 2 z80 [], .seq [1, 1], .call 40 57 [0, 0, 1, 1, 1, 1, 1] 5 (vS z84 (ag [(i 64), (ik .u64 9), (i 1), (i 1), (i 1), (i 1), (i 1), (st [97, 98])]) z88) [], .seq [1, 0, 1, 1, 1, 1, 1], .seq [1, 1, 1, 1, 1, 1], .call 24 58 [0, 1, 1, 1, 1] 1 z36 [], .seq [1, 1, 1, 1, 1], .call 4 59 [0, 1, 1, 1] 3 (vS (vS z14 (p 0 0) z15) bf (vS z17 (s 1 0 3 3) (vO z18 (vO vE (vL (s 1 0 3 3)))))) [], .seq [1, 1, 1, 1]]
theorem seg3 : runM Tryz.prog xt 600 z_3 = some z_4 := by kernel_rfl
end Go.Proofs.YtmhgicpjeeegcaaGreat.Closed.be
