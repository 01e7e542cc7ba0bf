/- Cut states of the run of this law's function, and the steps between them: checked by the kernel. -/
import Derived.Test.YthaleaeeikmphaaGreatAw1
namespace Go.Proofs.YthaleaeeikmphaaGreat.Closed.aw
open Go.Ab Go.Ab.Cut Go.RowKit
set_option maxRecDepth 1000000
set_option maxHeartbeats 0
noncomputable def z66 : T Value := vO (vS (vS (vL bf) bf vE) (i 98) (vL (i 98))) (vS (vS (vL (i 1)) (st [98]) vE) (i 0) (vL (i 0)))
noncomputable def z67 : T Value := vS (vS (vS (vL (st [98])) (tu [(i 98), (i 1), (i 0)]) vE) (i 1) (vL (i 1))) bf (vS (vS (vL (st [])) (tu [(i 98), (i 1), (i 0)]) vE) (st []) (vL (i 0)))
noncomputable def z_5 : M := .at 34 56 (.exit (.exit 0)) (vS z66 (st []) z67) [] ⟨(hS z46 (c 24 8 true false [] z1) (hS (hS z47 z23 z48) (c 27 7 true false [] z2) z52)) , 32⟩ [.blk 0, .seq [1, 1], .call 17 57 [0, 1, 1, 1, 1, 0, 0, 1] 2 z57 [], .seq [1, 1, 1, 1, 1, 0, 0, 1], .blk 0, .seq [1, 1], .call 8 58 [0, 0, 1] 1 z59 [], .seq [1, 0, 1], .seq [1, 1], .call 10 59 [0, 1, 1, 1, 1, 1, 1, 1, 1] 2 (vS (vS z60 (i 4) z62) bf z65) [], .seq [1, 1, 1, 1, 1, 1, 1, 1, 1]]
theorem seg4 : runM Tryz.prog xt 600 z_4 = some z_5 := by kernel_rfl
noncomputable def z68 : T Value := vS (vO (vL (i 0)) (vL (ik .u8 97))) (ik .u8 97) (vS (vS (vL (ik .u8 97)) bf vE) (i 0) (vL bf))
noncomputable def z69 : T AObj := hS (hS (hL (c 24 8 true false [] z1)) (c 24 8 true false [] z1) hE) (c 3 1 true false [] (vL (i 1))) (hS (hL (c 3 1 true false [] (vL (i 1)))) (c 3 1 true false [] (vL (i 1))) hE)
noncomputable def z70 : T AObj := hS (hS (hL (c 3 1 true false [] (vL (i 1)))) (c 3 1 true false [] (vL (i 4))) hE) (c 3 1 true false [] (vL (i 1))) (hS (hL (c 24 8 true false [] z1)) (c 27 7 true false [] z22) hE)
noncomputable def z71 : T Value := vS (vS (vS (vL (i 0)) (ik .u8 1) vE) (i 0) (vS (vL (ik .u8 0)) (ik .u32 0) vE)) (i 0) (vS (vS (vL (i 2)) (i 2) vE) (ik .u8 0) (vL (st [99])))
noncomputable def z72 : T Value := vS (vS (vS (vL (i 0)) (i 0) vE) (ik .u32 0) (vS (vL (st [])) (ik .u8 0) vE)) (i 0) (vS (vS (vL (ik .u32 0)) (i 0) vE) (st []) (vL (ik .u8 7)))
noncomputable def z73 : T AObj := hS (hL (c 27 21 true false [] (vS z71 (ik .u8 5) z72))) (c 3 1 true false [] (vL (i 1))) hE
noncomputable def z74 : T AObj := hS (hS (hL (c 3 1 true false [] (vL (i 4)))) (c 24 8 true false [] z1) hE) (c 3 1 true false [] (vL (i 1))) z73
noncomputable def z75 : T AObj := hS (hS (hL (c 3 1 true false [] (vL (i 1)))) (c 3 1 true false [] (vL (i 1))) hE) (c 27 7 true false [] z2) (hL (c 24 8 true false [] z1))
noncomputable def z76 : T AObj := hS (hS z69 (c 24 8 true false [] z1) z70) (c 24 8 true false [] z1) (hS z74 (c 3 1 true false [] (vL (i 4))) z75)
noncomputable def z77 : AObj := om [(en (ik .u8 5) (fn 36 [] [(p 33 0)]) 0), (en (ik .u8 14) (fn 36 [] [(p 34 0)]) 1), (en (ik .u8 6) (fn 36 [] [(p 35 0)]) 2), (en (ik .u8 10) (fn 36 [] [(p 36 0)]) 3), (en (ik .u8 11) (fn 36 [] [(p 37 0)]) 4), (en (ik .u8 13) (fn 36 [] [(p 38 0)]) 5), (en (ik .u8 16) (fn 36 [] [(p 39 0)]) 6), (en (ik .u8 15) (fn 39 [] []) 7), (en (ik .u8 8) (fn 37 [] []) 8), (en (ik .u8 9) (fn 37 [] []) 9), (en (ik .u8 7) (fn 38 [] []) 10), (en (ik .u8 12) (fn 38 [] []) 11)] 12
noncomputable def z78 : T AObj := hS (hS (hL z77) (c 27 7 true false [] z22) hE) (c 3 1 true false [] (vL (i 1))) (hS (hL (c 24 8 true false [] z1)) (c 3 1 true false [] (vL (i 1))) hE)
noncomputable def z79 : T AObj := hS (hS (hL (c 3 1 true false [] (vL (i 1)))) (c 3 1 true false [] (vL (i 3))) hE) (c 24 8 true false [] z1) (hS (hL (c 24 8 true false [] z1)) (c 24 8 true false [] z1) hE)
noncomputable def z80 : T AObj := hS (hS (hL (c 3 1 true false [] (vL (i 3)))) z49 hE) (c 3 1 true false [] (vL (i 1))) (hS (hL (c 96 1 true false [] (vL (s 41 0 3 3)))) (c 24 8 true false [] z1) hE)
noncomputable def z81 : T AObj := hS (hS (hL (c 3 1 true false [] (vL (i 1)))) (c 3 1 true false [] (vL (i 1))) hE) (c 24 8 true false [] z1) (hL (c 27 7 true false [] z50))
noncomputable def z82 : T AObj := hS (hS z78 z23 z79) (c 27 7 true false [] z2) (hS z80 (c 3 1 true false [] (vL (i 3))) z81)
noncomputable def z83 : T Value := vS (vO (vS (vL (st [97, 98])) (i 0) vE) (vO (vL (st [97, 98])) vE)) (st [97, 98]) (vS (vS (vL bf) (i 0) vE) (i 0) (vO (vL (ik .u8 97)) vE))
noncomputable def z84 : T Value := vS (vS (vS (vL (p 44 4)) (ik .u64 9) (vL bf)) bf (vS (vL bt) bf (vL (st [97, 98])))) bf (vS (vS (vL bf) (p 44 2) (vL (i 2))) bf (vS (vL (p 44 6)) bt vE))
noncomputable def z85 : T Value := vS (vS (vS (vL bt) bf (vL (p 44 7))) (p 44 1) (vS (vL bf) (p 44 3) vE)) (i 64) (vS (vS (vL (p 44 5)) bt vE) bf (vS (vL bt) bf vE))
noncomputable def z86 : T Value := vS (vS (vS (vL (i 1)) bf (vL bf)) bf (vS (vL bf) bf vE)) (p 44 0) (vS (vS (vL bf) (i 1) (vL bf)) bf (vS (vL (i 2)) bf vE))
noncomputable def z87 : T Value := vS (vS (vS (vL bf) bf (vL (st [97, 98]))) (ik .u64 9) (vS (vL bf) (i 1) vE)) bt (vS (vS (vL (i 1)) bf (vL (p 44 7))) (p 44 1) (vS (vL bf) bf vE))
noncomputable def z88 : T Value := vS (vS z84 (p 44 0) z85) (ag [(i 64), (ik .u64 9), (i 1), (i 1), (i 1), (i 1), (i 2), (st [97, 98])]) (vS z86 (i 0) z87)
noncomputable def z89 : T Value := vS (vO (vL (ag [(i 64), (ik .u64 9), (i 1), (i 1), (i 1), (i 1), (i 2), (st [97, 98])])) vE) (i 0) vE
noncomputable def z90 : T Value := vS (vS vE (s 42 0 1 1) z89) (ag [(i 64), (ik .u64 9), (i 1), (i 1), (i 1), (i 1), (i 2), (st [97, 98])]) (vS (vL pn) (p 43 0) vE)
noncomputable def z91 : T Value := vO (vS (vL (i 8)) (i 0) (vL bt)) (vS (vL bf) (ag [(i 64), (ik .u64 9), (i 1), (i 1), (i 1), (i 1), (i 2), (st [97, 98])]) vE)
noncomputable def z92 : T Value := vS (vS (vS (vL (tu [(i 0), (i 2)])) (i 0) (vL (i 17))) (i 0) (vS (vL bt) (i 3) (vL bf))) (i 1) z91
noncomputable def z93 : T Value := vS (vO (vS (vL (i 0)) (i 0) (vL bf)) (vS (vL (i 1)) (tu [(i 17), (i 0)]) vE)) (i 17) (vO (vS (vL bf) (i 0) (vL (i 0))) (vS (vL bt) (i 0) vE))
noncomputable def z94 : T Value := vS (vL bf) (ag [(i 64), (ik .u64 9), (i 1), (i 1), (i 1), (i 1), (i 2), (st [97, 98])]) (vL (ag [(i 64), (ik .u64 9), (i 1), (i 1), (i 1), (i 1), (i 2), (st [97, 98])]))
noncomputable def z95 : T Value := vS (vO (vS (vL (i 2)) (tu [(i 8), (i 0)]) (vL bt)) z94) (i 0) (vO (vS (vL bt) (tu [(i 1), (i 0)]) (vL bf)) (vS (vL (i 0)) (tu [(i 6), (i 0)]) vE))
noncomputable def z96 : T Value := vS (vS (vL (i 12)) (tu [(i 0), (i 3)]) (vL bt)) (tu [(i 4), (i 0)]) (vS (vL bf) (ag [(i 64), (ik .u64 9), (i 1), (i 1), (i 1), (i 1), (i 2), (st [97, 98])]) vE)
noncomputable def z97 : T Value := vS z95 (i 12) (vS (vO (vS (vL bf) (tu [(i 12), (i 0)]) (vL (i 6))) (vS (vL bt) (i 0) vE)) (i 6) z96)
noncomputable def z98 : T Value := vS (vS (vL (i 0)) (tu [(i 8), (i 0)]) (vL (i 0))) (i 2) (vS (vL bf) (tu [(i 17), (i 0)]) vE)
noncomputable def z99 : T Value := vO (vS (vL (i 0)) (tu [(i 1), (i 0)]) (vL bf)) (vS (vL bf) (ag [(ik .u8 8), (i 0), (i 0), (i 0), (ik .u32 0), (ik .u8 0), (st [])]) vE)
noncomputable def z100 : T Value := vS (vS (vL bf) (tu [(i 0), (i 3)]) (vL (i 2))) (tu [(i 4), (i 0)]) (vS (vL bf) (tu [(i 0), (i 2)]) vE)
noncomputable def z101 : T Value := vS (vS z98 (i 0) z99) (i 0) (vS (vO (vS (vL bt) (tu [(i 12), (i 0)]) (vL bf)) (vS (vL (i 0)) (i 17) vE)) (i 0) z100)
noncomputable def z102 : T Value := vS (vL bf) (ag [(ik .u8 15), (i 0), (i 0), (i 0), (ik .u32 0), (ik .u8 0), (st [])]) (vL (s 42 0 1 1))
noncomputable def z103 : T Value := vS (vO (vS (vL (i 4)) (i 8) (vL bf)) z102) (i 3) (vO (vS (vL bf) (i 1) (vL bf)) (vS (vL (i 3)) (i 6) vE))
noncomputable def z104 : T Value := vS (vS (vL (i 0)) (i 0) (vL bf)) (i 4) (vS (vL bf) (ag [(ik .u8 1), (i 0), (i 0), (i 0), (ik .u32 0), (ik .u8 0), (st [])]) vE)
noncomputable def z105 : T Value := vS z103 (i 0) (vS (vO (vS (vL bf) (i 12) (vL (i 0))) (vS (vL bf) (tu [(i 6), (i 0)]) vE)) (i 0) z104)
noncomputable def z_6 : M := .at 105 54 (.ops [0, 0, 1, 0, 0, 0, 0, 0, 0, 0, 0, 0, 0, 0, 0, 0, 1, 1] 1) z68 [] ⟨(hS z76 (c 24 8 true false [] z1) z82) , 45⟩ [.seq [1, 0, 1, 0, 0, 0, 0, 0, 0, 0, 0, 0, 0, 0, 0, 0, 1, 1], .seq [1, 1, 0, 0, 0, 0, 0, 0, 0, 0, 0, 0, 0, 0, 0, 1, 1], .seq [1, 0, 0, 0, 0, 0, 0, 0, 0, 0, 0, 0, 0, 1, 1], .blk 1, .seq [1, 0, 0, 0, 0, 0, 0, 0, 0, 0, 0, 1, 1], .blk 2, .seq [1, 0, 0, 0, 0, 0, 0, 0, 0, 1, 1], .blk 3, .seq [1, 0, 0, 0, 0, 0, 0, 1, 1], .blk 4, .seq [1, 0, 0, 0, 0, 1, 1], .blk 5, .seq [1, 0, 0, 1, 1], .blk 0, .seq [1, 1, 1], .call 65 55 [0, 1, 1] 2 z83 [], .seq [1, 1, 1], .call 34 56 [0, 0, 1, 0, 0, 0, 1] 1 z4 [], .seq [1, 0, 1, 0, 0, 0, 1], .blk 1, .loop [0, 0, 0, 1] 1048575, .blk 0, .seq [1, 1], .call 17 57 [0, 1, 1, 1, 1, 0, 0, 1] 2 z88 [], .seq [1, 1, 1, 1, 1, 0, 0, 1], .blk 0, .seq [1, 1], .call 22 58 [0, 0, 1] 1 z90 [], .seq [1, 0, 1], .seq [1, 1], .call 10 59 [0, 1, 1, 1, 1, 1, 1, 1, 1, 1, 1] 2 (vS (vS (vS z92 (i 8) z93) (i 4) z97) bf (vS z101 (i 0) z105)) [], .seq [1, 1, 1, 1, 1, 1, 1, 1, 1, 1, 1]]
theorem seg5 : runM Tryz.prog xt 600 z_5 = some z_6 := by kernel_rfl
noncomputable def z106 : T Value := vO (vL (ag [(i 64), (ik .u64 9), (i 1), (i 1), (i 1), (i 1), (i 2), (st [97, 98])])) (vL (i 1))
noncomputable def z107 : T Value := vS (vO (vO (vO (vL (p 42 0)) vE) (vL (i 1))) (vO (vL (i 0)) (vL (s 42 0 1 1)))) (s 42 0 1 1) (vS z106 (i 0) (vO vE (vL (i 0))))
noncomputable def z108 : T Value := vS (vS (vO (vO (vL (s 41 0 3 3)) vE) (vL (p 43 2))) pn (vO (vL bf) (vL (i 1)))) (p 43 0) (vS (vO (vL (i 0)) (vL bf)) (i 0) (vO (vL (s 42 0 1 1)) (vL bt)))
noncomputable def z_7 : M := .at 22 58 (.ops [0, 0, 0, 1, 1, 0, 0, 1, 0, 1, 1, 1] 2) (vS z107 (ag [(i 64), (ik .u64 9), (i 1), (i 1), (i 1), (i 1), (i 2), (st [97, 98])]) z108) [] ⟨(hS z76 (c 24 8 true false [] z1) z82) , 45⟩ [.seq [1, 0, 0, 1, 1, 0, 0, 1, 0, 1, 1, 1], .blk 1, .seq [1, 1, 1, 0, 0, 1, 0, 1, 1, 1], .loop [0, 0, 1, 0, 1, 1, 1] 1048575, .blk 0, .seq [1, 1, 1, 1], .call 10 59 [0, 1, 1, 1, 1, 1, 1, 1, 1, 1, 1] 2 (vS (vS (vS z92 (i 8) z93) (i 4) z97) bf (vS z101 (i 0) z105)) [], .seq [1, 1, 1, 1, 1, 1, 1, 1, 1, 1, 1]]
theorem seg6 : runM Tryz.prog xt 600 z_6 = some z_7 := by kernel_rfl
noncomputable def z109 : T Value := vS (vS (vS (vL (i 0)) (i 0) vE) (i 0) (vS (vL (i 0)) (i 0) vE)) (i 0) (vS (vS (vL (i 0)) (i 0) vE) (i 0) (vL (i 0)))
noncomputable def z110 : T AObj := hS (hL (c 24 8 true false [] z1)) (c 24 8 true false [] z1) (hL (c 149 10 true false [] z109))
noncomputable def z111 : T AObj := hS z110 (c 3 1 true false [] (vL (i 1))) (hS (hL (c 3 1 true false [] (vL (i 1)))) (c 3 1 true false [] (vL (i 1))) hE)
noncomputable def z112 : T AObj := hS (hS (hL (c 3 1 true false [] (vL (i 1)))) (c 3 1 true false [] (vL (i 1))) hE) (c 27 7 true false [] z2) (hS (hL (c 24 8 true false [] z1)) (c 24 8 true false [] z1) hE)
noncomputable def z113 : T AObj := hS (hS z111 (c 24 8 true false [] z1) z70) (c 24 8 true false [] z1) (hS z74 (c 3 1 true false [] (vL (i 4))) z112)
noncomputable def z114 : T AObj := hS (hS (hL z77) (c 27 7 true false [] z22) (hL (c 24 8 true false [] z1))) (c 3 1 true false [] (vL (i 1))) (hS (hL (c 24 8 true false [] z1)) (c 3 1 true false [] (vL (i 1))) hE)
noncomputable def z115 : T AObj := hS (hS (hL (c 3 1 true false [] (vL (i 1)))) (c 3 1 true false [] (vL (i 1))) hE) (c 24 8 true false [] z1) (hS (hL (c 24 8 true false [] z1)) (c 27 7 true false [] z50) hE)
noncomputable def z116 : T AObj := hS (hS z114 z23 z79) (c 27 7 true false [] z2) (hS z80 (c 3 1 true false [] (vL (i 3))) z115)
noncomputable def z117 : T Value := vS (vO (vS (vL (st [98])) (i 0) vE) (vO (vL (st [98])) vE)) (st [98]) (vS (vS (vL bf) (i 0) vE) (i 0) (vO (vL (ik .u8 98)) vE))
noncomputable def z118 : T Value := vS (vS (vS (vL (p 48 4)) (ik .u64 9) (vL bf)) bf (vS (vL bt) bf (vL (st [97, 98])))) bf (vS (vS (vL bf) (p 48 2) (vL (i 2))) bf (vS (vL (p 48 6)) bt vE))
noncomputable def z119 : T Value := vS (vS (vS (vL bt) bf (vL (p 48 7))) (p 48 1) (vS (vL bf) (p 48 3) vE)) (i 64) (vS (vS (vL (p 48 5)) bt vE) bf (vS (vL bt) bf vE))
noncomputable def z120 : T Value := vS (vS (vS (vL (i 1)) bf (vL bf)) bf (vS (vL bf) bf vE)) (p 48 0) (vS (vS (vL bf) (i 1) (vL bf)) bf (vS (vL (i 2)) bf vE))
noncomputable def z121 : T Value := vS (vS (vS (vL bf) bf (vL (st [97, 98]))) (ik .u64 9) (vS (vL bf) (i 1) vE)) bt (vS (vS (vL (i 1)) bf (vL (p 48 7))) (p 48 1) (vS (vL bf) bf vE))
noncomputable def z122 : T Value := vS (vS z118 (p 48 0) z119) (ag [(i 64), (ik .u64 9), (i 1), (i 1), (i 1), (i 1), (i 2), (st [97, 98])]) (vS z120 (i 0) z121)
noncomputable def z123 : T Value := vS vE (p 47 0) (vL (ag [(i 64), (ik .u64 9), (i 1), (i 1), (i 1), (i 1), (i 2), (st [97, 98])]))
noncomputable def z124 : T Value := vS (vS (vL (i 0)) (p 46 0) vE) (ag [(i 64), (ik .u64 9), (i 1), (i 1), (i 1), (i 1), (i 2), (st [97, 98])]) z123
noncomputable def z125 : T Value := vS (vO vE (vL (ag [(i 64), (ik .u64 9), (i 1), (i 1), (i 1), (i 1), (i 2), (st [97, 98])]))) pn vE
noncomputable def z126 : T Value := vS (vS (vL (i 0)) (p 45 0) vE) (ag [(i 64), (ik .u64 9), (i 1), (i 1), (i 1), (i 1), (i 2), (st [97, 98])]) z125
noncomputable def z127 : T Value := vS (vL (s 41 0 3 3)) (ag [(i 64), (ik .u64 9), (i 1), (i 1), (i 1), (i 1), (i 2), (st [97, 98])]) vE
noncomputable def z128 : T Value := vS (vO (vO (vO (vL (p 42 0)) vE) (vL (i 1))) (vO (vS (vL bf) (i 0) vE) (vL (s 42 0 1 1)))) (s 42 0 1 1) (vS (vO z127 (vL (i 1))) (i 0) (vO vE (vL (i 1))))
noncomputable def z129 : T Value := vS (vS (vO (vL (s 41 0 3 3)) vE) (s 41 0 3 3) (vL (p 43 2))) pn (vO (vS (vL (i 1)) bf vE) (vL (i 1)))
noncomputable def z130 : T Value := vS (vL (ag [(i 64), (ik .u64 9), (i 1), (i 1), (i 1), (i 1), (i 2), (st [97, 98])])) (s 42 0 1 1) vE
noncomputable def z131 : T Value := vS z128 (ag [(i 64), (ik .u64 9), (i 1), (i 1), (i 1), (i 1), (i 2), (st [97, 98])]) (vS z129 (p 43 0) (vS (vO (vS (vL (i 3)) (i 0) vE) (vL bf)) (i 0) (vO z130 (vL bf))))
noncomputable def z_8 : M := .at 105 52 (.exit .normal) (vS (vO (vL (i 0)) vE) (ik .u8 98) (vL (i 0))) [] ⟨(hS z113 (c 24 8 true false [] z1) z116) , 49⟩ [.seq [1, 1], .call 65 53 [0, 1, 1] 2 z117 [], .seq [1, 1, 1], .call 34 54 [0, 0, 1, 0, 0, 0, 1] 1 (vS z27 (st [98]) z28) [], .seq [1, 0, 1, 0, 0, 0, 1], .blk 1, .loop [0, 0, 0, 1] 1048574, .blk 0, .seq [1, 1], .call 17 55 [0, 1, 1, 1, 1, 0, 0, 1] 2 z122 [], .seq [1, 1, 1, 1, 1, 0, 0, 1], .blk 0, .seq [1, 1], .call 67 56 [0, 0, 1] 1 z124 [], .seq [1, 0, 1], .seq [1, 1], .call 41 57 [0, 1] 1 z126 [], .seq [1, 1], .call 22 58 [0, 1, 1, 1, 1] 1 z131 [], .seq [1, 1, 1, 1, 1], .call 10 59 [0, 1, 1, 1, 1, 1, 1, 1, 1, 1, 1] 2 (vS (vS (vS z92 (i 8) z93) (i 4) z97) bf (vS z101 (i 0) z105)) [], .seq [1, 1, 1, 1, 1, 1, 1, 1, 1, 1, 1]]
theorem seg7 : runM Tryz.prog xt 600 z_7 = some z_8 := by kernel_rfl
end Go.Proofs.YthaleaeeikmphaaGreat.Closed.aw
