/- Cut states of the run of this law's function, and the steps between them: checked by the kernel. -/
import Derived.Test.YtmhgicpjeeegcaaGreatBe1
namespace Go.Proofs.YtmhgicpjeeegcaaGreat.Closed.be
open Go.Ab Go.Ab.Cut Go.RowKit
set_option maxRecDepth 1000000
set_option maxHeartbeats 0
noncomputable def z89 : T Value := vO (vS (vS (vL (i 64)) (ik .u64 9) (vL (p 17 2))) (i 20) (vS (vL (i 19)) (s 14 0 64 64) vE)) (vS (vS (vL (p 17 0)) (ik .u64 9) (vL (i 20))) (i 64) (vS (vL (i 44)) (s 16 0 64 64) vE))
noncomputable def z90 : T Value := vS z89 (ik .u64 9) (vS (vS (vS (vL bt) bf (vL (i 19))) bf (vS (vL (i 63)) (s 15 0 64 64) vE)) (i 0) z40)
noncomputable def z91 : T Value := vS (vS (vS (vL (i 20)) bf (vL (s 16 0 64 64))) (i 64) (vS (vL (i 64)) (i 64) vE)) pn (vS (vS (vL (p 17 0)) bf vE) bf (vS (vL (p 14 19)) (ik .u64 9) vE))
noncomputable def z92 : T Value := vS (vS (vS (vL (i 20)) bf (vL (p 16 19))) bf (vS (vL (i 19)) (i 64) vE)) (p 17 0) (vS (vS (vL (s 14 0 64 64)) (i 64) vE) bf (vS (vL (p 17 0)) (p 17 0) vE))
noncomputable def z93 : T Value := vS (vS (vS (vL (ik .u64 0)) (ik .u64 0) vE) (ik .u64 1) (vL (ik .u64 0))) (ik .u64 1) (vS (vL (ik .u64 0)) (ik .u64 0) (vL (ik .u64 0)))
noncomputable def z94 : T Value := vS (vS (vL (ik .u64 0)) (ik .u64 1) (vL (ik .u64 0))) (ik .u64 1) (vS (vL (ik .u64 0)) (ik .u64 0) (vL (ik .u64 0)))
noncomputable def z95 : T Value := vS (vS (vL (ik .u64 0)) (ik .u64 0) (vL (ik .u64 0))) (ik .u64 1) (vS (vL (ik .u64 0)) (ik .u64 0) (vL (ik .u64 0)))
noncomputable def z96 : T Value := vS (vS (vS z93 (ik .u64 1) z94) (ik .u64 1) (vS z94 (ik .u64 1) z95)) (ik .u64 1) (vS (vS z94 (ik .u64 1) z95) (ik .u64 1) (vS z94 (ik .u64 1) z95))
noncomputable def z97 : T AObj := hS (hS (hL (c 24 64 true false [] z96)) (c 26 8 true false [] z0) hE) (c 26 8 true false [] z0) (hL (c 301 13 true false [] (vS z72 (ik .u64 0) z72)))
noncomputable def z98 : T Value := vS (vS (vS (vS (vL (i 0)) (i 0) vE) (i 48) (vL (i 0))) (i 56) (vS (vL (i 0)) (i 0) (vL (i 0)))) (i 60) (vS (vS (vL (i 0)) (i 44) (vL (i 0))) (i 52) (vS (vL (i 0)) (i 0) (vL (i 0))))
noncomputable def z99 : T Value := vS (vS (vS (vL (i 0)) (i 46) (vL (i 0))) (i 54) (vS (vL (i 0)) (i 0) (vL (i 0)))) (i 58) (vS (vS (vL (i 0)) (i 0) (vL (i 0))) (i 50) (vS (vL (i 0)) (i 0) (vL (i 0))))
noncomputable def z100 : T Value := vS (vS (vS (vL (i 0)) (i 47) (vL (i 0))) (i 55) (vS (vL (i 0)) (i 0) (vL (i 0)))) (i 59) (vS (vS (vL (i 0)) (i 0) (vL (i 0))) (i 51) (vS (vL (i 0)) (i 0) (vL (i 0))))
noncomputable def z101 : T Value := vS (vS (vS (vL (i 0)) (i 45) (vL (i 0))) (i 53) (vS (vL (i 0)) (i 0) (vL (i 0)))) (i 57) (vS (vS (vL (i 0)) (i 0) (vL (i 0))) (i 49) (vS (vL (i 0)) (i 0) (vL (i 0))))
noncomputable def z102 : T AObj := hS (hL (c 136 10 true false [] z47)) (c 26 8 true false [] z0) (hL (c 3 64 true false [] (vS (vS z98 (i 62) z99) (i 63) (vS z100 (i 61) z101))))
noncomputable def z103 : T AObj := hS (hS z66 (c 31 21 true false [] (vS z1 (ik .u8 5) z2)) z68) (c 26 8 true false [] z0) (hS z97 (c 84 1 true false [] (vL (s 1 0 3 3))) z102)
noncomputable def z_5 : M := .at 155 55 (.code [0, 1, 0, 0, 1, 1, 0, 0, 1, 0, 1, 1, 1]) (vS z90 (i 64) (vO z91 z92)) [] ⟨z103 , 18⟩ [.seq [1, 1, 0, 0, 1, 1, 0, 0, 1, 0, 1, 1, 1], .blk 1, .seq [1, 1, 1, 0, 0, 1, 0, 1, 1, 1], .loop [0, 0, 1, 0, 1, 1, 1] 1048555, .blk 0, .seq [1, 1, 1, 1], .call 98 56 [0, 1] 2 z80 [], .seq [1, 1], .call 40 57 [0, 0, 1, 1, 1, 1, 1] 5 (vS z84 (ag [(i 64), (ik .u64 9), (i 1), (i 1), (i 1), (i 1), (i 1), (st [97, 98])]) z88) [], .seq [1, 0, 1, 1, 1, 1, 1], .seq [1, 1, 1, 1, 1, 1], .call 24 58 [0, 1, 1, 1, 1] 1 z36 [], .seq [1, 1, 1, 1, 1], .call 4 59 [0, 1, 1, 1] 3 (vS (vS z14 (p 0 0) z15) bf (vS z17 (s 1 0 3 3) (vO z18 (vO vE (vL (s 1 0 3 3)))))) [], .seq [1, 1, 1, 1]]
theorem seg4 : runM Tryz.prog xt 600 z_4 = some z_5 := by kernel_rfl
noncomputable def z104 : T Value := vO (vS (vS (vL (i 64)) (ik .u64 9) (vL (p 17 2))) (i 32) (vS (vL (i 32)) (s 14 0 64 64) vE)) (vS (vS (vL (p 17 0)) (ik .u64 9) (vL (i 32))) (i 64) (vS (vL (i 31)) (s 16 0 64 64) vE))
noncomputable def z105 : T Value := vS z104 (ik .u64 9) (vS (vS (vS (vL bt) bf (vL (i 32))) bf (vS (vL (i 63)) (s 15 0 64 64) vE)) (i 0) z40)
noncomputable def z106 : T Value := vS (vS (vS (vL (i 32)) bf (vL (s 16 0 64 64))) (i 64) (vS (vL (i 64)) (i 64) vE)) pn (vS (vS (vL (p 17 0)) bf vE) bf (vS (vL (p 14 32)) (ik .u64 9) vE))
noncomputable def z107 : T Value := vS (vS (vS (vL (i 32)) bf (vL (p 16 32))) bf (vS (vL (i 32)) (i 64) vE)) (p 17 0) (vS (vS (vL (s 14 0 64 64)) (i 64) vE) bf (vS (vL (p 17 0)) (p 17 0) vE))
noncomputable def z108 : T Value := vS (vS (vS (vL (ik .u64 0)) (ik .u64 1) vE) (ik .u64 1) (vL (ik .u64 0))) (ik .u64 1) (vS (vL (ik .u64 0)) (ik .u64 1) (vL (ik .u64 0)))
noncomputable def z109 : T Value := vS (vS (vL (ik .u64 0)) (ik .u64 1) (vL (ik .u64 0))) (ik .u64 1) (vS (vL (ik .u64 0)) (ik .u64 1) (vL (ik .u64 0)))
noncomputable def z110 : T Value := vS (vS (vL (ik .u64 1)) (ik .u64 1) (vL (ik .u64 0))) (ik .u64 1) (vS (vL (ik .u64 0)) (ik .u64 1) (vL (ik .u64 0)))
noncomputable def z111 : T Value := vS (vS (vS z108 (ik .u64 1) z109) (ik .u64 1) (vS z109 (ik .u64 1) z109)) (ik .u64 1) (vS (vS z110 (ik .u64 1) z109) (ik .u64 1) (vS z109 (ik .u64 1) z109))
noncomputable def z112 : T AObj := hS (hS (hL (c 24 64 true false [] z111)) (c 26 8 true false [] z0) hE) (c 26 8 true false [] z0) (hL (c 301 13 true false [] (vS z72 (ik .u64 0) z72)))
noncomputable def z113 : T Value := vS (vS (vS (vL (i 0)) (i 32) vE) (i 48) (vL (i 0))) (i 56) (vS (vL (i 0)) (i 40) (vL (i 0)))
noncomputable def z114 : T Value := vS z113 (i 60) (vS (vS (vL (i 0)) (i 44) (vL (i 0))) (i 52) (vS (vL (i 0)) (i 36) (vL (i 0))))
noncomputable def z115 : T Value := vS (vS (vS (vL (i 0)) (i 46) (vL (i 0))) (i 54) (vS (vL (i 0)) (i 38) (vL (i 0)))) (i 58) (vS (vS (vL (i 0)) (i 42) (vL (i 0))) (i 50) (vS (vL (i 0)) (i 34) (vL (i 0))))
noncomputable def z116 : T Value := vS (vS (vS (vL (i 31)) (i 47) (vL (i 0))) (i 55) (vS (vL (i 0)) (i 39) (vL (i 0)))) (i 59) (vS (vS (vL (i 0)) (i 43) (vL (i 0))) (i 51) (vS (vL (i 0)) (i 35) (vL (i 0))))
noncomputable def z117 : T Value := vS (vS (vS (vL (i 0)) (i 45) (vL (i 0))) (i 53) (vS (vL (i 0)) (i 37) (vL (i 0)))) (i 57) (vS (vS (vL (i 0)) (i 41) (vL (i 0))) (i 49) (vS (vL (i 0)) (i 33) (vL (i 0))))
noncomputable def z118 : T AObj := hS (hL (c 136 10 true false [] z47)) (c 26 8 true false [] z0) (hL (c 3 64 true false [] (vS (vS z114 (i 62) z115) (i 63) (vS z116 (i 61) z117))))
noncomputable def z119 : T AObj := hS (hS z66 (c 31 21 true false [] (vS z1 (ik .u8 5) z2)) z68) (c 26 8 true false [] z0) (hS z112 (c 84 1 true false [] (vL (s 1 0 3 3))) z118)
noncomputable def z_6 : M := .at 155 55 (.exit .normal) (vS z105 (i 64) (vO z106 z107)) [] ⟨z119 , 18⟩ [.seq [1, 1, 1, 0, 0, 1, 0, 1, 1, 1], .loop [0, 0, 1, 0, 1, 1, 1] 1048543, .blk 0, .seq [1, 1, 1, 1], .call 98 56 [0, 1] 2 z80 [], .seq [1, 1], .call 40 57 [0, 0, 1, 1, 1, 1, 1] 5 (vS z84 (ag [(i 64), (ik .u64 9), (i 1), (i 1), (i 1), (i 1), (i 1), (st [97, 98])]) z88) [], .seq [1, 0, 1, 1, 1, 1, 1], .seq [1, 1, 1, 1, 1, 1], .call 24 58 [0, 1, 1, 1, 1] 1 z36 [], .seq [1, 1, 1, 1, 1], .call 4 59 [0, 1, 1, 1] 3 (vS (vS z14 (p 0 0) z15) bf (vS z17 (s 1 0 3 3) (vO z18 (vO vE (vL (s 1 0 3 3)))))) [], .seq [1, 1, 1, 1]]
theorem seg5 : runM Tryz.prog xt 600 z_5 = some z_6 := by kernel_rfl
noncomputable def z120 : T Value := vO (vS (vS (vL (i 64)) (ik .u64 9) (vL (p 17 2))) (i 45) (vS (vL (i 44)) (s 14 0 64 64) vE)) (vS (vS (vL (p 17 0)) (ik .u64 9) (vL (i 45))) (i 64) (vS (vL (i 19)) (s 16 0 64 64) vE))
noncomputable def z121 : T Value := vS z120 (ik .u64 9) (vS (vS (vS (vL bt) bf (vL (i 44))) bf (vS (vL (i 63)) (s 15 0 64 64) vE)) (i 0) z40)
noncomputable def z122 : T Value := vS (vS (vS (vL (i 45)) bf (vL (s 16 0 64 64))) (i 64) (vS (vL (i 64)) (i 64) vE)) pn (vS (vS (vL (p 17 0)) bf vE) bf (vS (vL (p 14 44)) (ik .u64 9) vE))
noncomputable def z123 : T Value := vS (vS (vS (vL (i 45)) bf (vL (p 16 44))) bf (vS (vL (i 44)) (i 64) vE)) (p 17 0) (vS (vS (vL (s 14 0 64 64)) (i 64) vE) bf (vS (vL (p 17 0)) (p 17 0) vE))
noncomputable def z124 : T Value := vS (vS (vS (vL (ik .u64 0)) (ik .u64 1) vE) (ik .u64 1) (vL (ik .u64 0))) (ik .u64 1) (vS (vL (ik .u64 1)) (ik .u64 1) (vL (ik .u64 0)))
noncomputable def z125 : T Value := vS (vS (vL (ik .u64 1)) (ik .u64 1) (vL (ik .u64 0))) (ik .u64 1) (vS (vL (ik .u64 1)) (ik .u64 1) (vL (ik .u64 0)))
noncomputable def z126 : T Value := vS (vS (vS z124 (ik .u64 1) z125) (ik .u64 1) (vS z125 (ik .u64 1) z110)) (ik .u64 1) (vS (vS z125 (ik .u64 1) z125) (ik .u64 1) (vS z125 (ik .u64 1) z110))
noncomputable def z127 : T AObj := hS (hS (hL (c 24 64 true false [] z126)) (c 26 8 true false [] z0) hE) (c 26 8 true false [] z0) (hL (c 301 13 true false [] (vS z72 (ik .u64 0) z72)))
noncomputable def z128 : T Value := vS (vS (vS (vL (i 0)) (i 32) vE) (i 48) (vL (i 0))) (i 56) (vS (vL (i 24)) (i 40) (vL (i 0)))
noncomputable def z129 : T Value := vS z128 (i 60) (vS (vS (vL (i 28)) (i 44) (vL (i 0))) (i 52) (vS (vL (i 20)) (i 36) (vL (i 0))))
noncomputable def z130 : T Value := vS (vS (vS (vL (i 30)) (i 46) (vL (i 0))) (i 54) (vS (vL (i 22)) (i 38) (vL (i 0)))) (i 58) (vS (vS (vL (i 26)) (i 42) (vL (i 0))) (i 50) (vS (vL (i 0)) (i 34) (vL (i 0))))
noncomputable def z131 : T Value := vS (vS (vS (vL (i 31)) (i 47) (vL (i 0))) (i 55) (vS (vL (i 23)) (i 39) (vL (i 0)))) (i 59) (vS (vS (vL (i 27)) (i 43) (vL (i 0))) (i 51) (vS (vL (i 19)) (i 35) (vL (i 0))))
noncomputable def z132 : T Value := vS (vS (vS (vL (i 29)) (i 45) (vL (i 0))) (i 53) (vS (vL (i 21)) (i 37) (vL (i 0)))) (i 57) (vS (vS (vL (i 25)) (i 41) (vL (i 0))) (i 49) (vS (vL (i 0)) (i 33) (vL (i 0))))
noncomputable def z133 : T AObj := hS (hL (c 136 10 true false [] z47)) (c 26 8 true false [] z0) (hL (c 3 64 true false [] (vS (vS z129 (i 62) z130) (i 63) (vS z131 (i 61) z132))))
noncomputable def z134 : T AObj := hS (hS z66 (c 31 21 true false [] (vS z1 (ik .u8 5) z2)) z68) (c 26 8 true false [] z0) (hS z127 (c 84 1 true false [] (vL (s 1 0 3 3))) z133)
noncomputable def z_7 : M := .at 155 55 (.code [0, 1, 0, 0, 1, 1, 0, 0, 1, 0, 1, 1, 1]) (vS z121 (i 64) (vO z122 z123)) [] ⟨z134 , 18⟩ [.seq [1, 1, 0, 0, 1, 1, 0, 0, 1, 0, 1, 1, 1], .blk 1, .seq [1, 1, 1, 0, 0, 1, 0, 1, 1, 1], .loop [0, 0, 1, 0, 1, 1, 1] 1048530, .blk 0, .seq [1, 1, 1, 1], .call 98 56 [0, 1] 2 z80 [], .seq [1, 1], .call 40 57 [0, 0, 1, 1, 1, 1, 1] 5 (vS z84 (ag [(i 64), (ik .u64 9), (i 1), (i 1), (i 1), (i 1), (i 1), (st [97, 98])]) z88) [], .seq [1, 0, 1, 1, 1, 1, 1], .seq [1, 1, 1, 1, 1, 1], .call 24 58 [0, 1, 1, 1, 1] 1 z36 [], .seq [1, 1, 1, 1, 1], .call 4 59 [0, 1, 1, 1] 3 (vS (vS z14 (p 0 0) z15) bf (vS z17 (s 1 0 3 3) (vO z18 (vO vE (vL (s 1 0 3 3)))))) [], .seq [1, 1, 1, 1]]
theorem seg6 : runM Tryz.prog xt 600 z_6 = some z_7 := by kernel_rfl
noncomputable def z135 : T Value := vO (vS (vS (vL (i 64)) (ik .u64 9) (vL (p 17 2))) (i 57) (vS (vL (i 57)) (s 14 0 64 64) vE)) (vS (vS (vL (p 17 0)) (ik .u64 9) (vL (i 57))) (i 64) (vS (vL (i 6)) (s 16 0 64 64) vE))
noncomputable def z136 : T Value := vS z135 (ik .u64 9) (vS (vS (vS (vL bt) bf (vL (i 57))) bf (vS (vL (i 63)) (s 15 0 64 64) vE)) (i 0) z40)
noncomputable def z137 : T Value := vS (vS (vS (vL (i 57)) bf (vL (s 16 0 64 64))) (i 64) (vS (vL (i 64)) (i 64) vE)) pn (vS (vS (vL (p 17 0)) bf vE) bf (vS (vL (p 14 57)) (ik .u64 9) vE))
noncomputable def z138 : T Value := vS (vS (vS (vL (i 57)) bf (vL (p 16 57))) bf (vS (vL (i 57)) (i 64) vE)) (p 17 0) (vS (vS (vL (s 14 0 64 64)) (i 64) vE) bf (vS (vL (p 17 0)) (p 17 0) vE))
noncomputable def z139 : T Value := vS (vS (vS (vL (ik .u64 0)) (ik .u64 1) vE) (ik .u64 1) (vL (ik .u64 1))) (ik .u64 1) (vS (vL (ik .u64 1)) (ik .u64 1) (vL (ik .u64 1)))
noncomputable def z140 : T Value := vS (vS (vL (ik .u64 1)) (ik .u64 1) (vL (ik .u64 1))) (ik .u64 1) (vS (vL (ik .u64 1)) (ik .u64 1) (vL (ik .u64 0)))
noncomputable def z141 : T Value := vS (vS (vL (ik .u64 1)) (ik .u64 1) (vL (ik .u64 1))) (ik .u64 1) (vS (vL (ik .u64 1)) (ik .u64 1) (vL (ik .u64 1)))
noncomputable def z142 : T Value := vS (vS (vS z139 (ik .u64 1) z140) (ik .u64 1) (vS z141 (ik .u64 1) z140)) (ik .u64 1) (vS (vS z141 (ik .u64 1) z140) (ik .u64 1) (vS z140 (ik .u64 1) z140))
noncomputable def z143 : T AObj := hS (hS (hL (c 24 64 true false [] z142)) (c 26 8 true false [] z0) hE) (c 26 8 true false [] z0) (hL (c 301 13 true false [] (vS z72 (ik .u64 0) z72)))
noncomputable def z144 : T Value := vS (vS (vS (vL (i 0)) (i 32) vE) (i 48) (vL (i 16))) (i 56) (vS (vL (i 24)) (i 40) (vL (i 8)))
noncomputable def z145 : T Value := vS z144 (i 60) (vS (vS (vL (i 28)) (i 44) (vL (i 12))) (i 52) (vS (vL (i 20)) (i 36) (vL (i 0))))
noncomputable def z146 : T Value := vS (vS (vS (vL (i 30)) (i 46) (vL (i 14))) (i 54) (vS (vL (i 22)) (i 38) (vL (i 6)))) (i 58) (vS (vS (vL (i 26)) (i 42) (vL (i 10))) (i 50) (vS (vL (i 18)) (i 34) (vL (i 0))))
noncomputable def z147 : T Value := vS (vS (vS (vL (i 31)) (i 47) (vL (i 15))) (i 55) (vS (vL (i 23)) (i 39) (vL (i 7)))) (i 59) (vS (vS (vL (i 27)) (i 43) (vL (i 11))) (i 51) (vS (vL (i 19)) (i 35) (vL (i 0))))
noncomputable def z148 : T Value := vS (vS (vS (vL (i 29)) (i 45) (vL (i 13))) (i 53) (vS (vL (i 21)) (i 37) (vL (i 0)))) (i 57) (vS (vS (vL (i 25)) (i 41) (vL (i 9))) (i 49) (vS (vL (i 17)) (i 33) (vL (i 0))))
noncomputable def z149 : T AObj := hS (hL (c 136 10 true false [] z47)) (c 26 8 true false [] z0) (hL (c 3 64 true false [] (vS (vS z145 (i 62) z146) (i 63) (vS z147 (i 61) z148))))
noncomputable def z150 : T AObj := hS (hS z66 (c 31 21 true false [] (vS z1 (ik .u8 5) z2)) z68) (c 26 8 true false [] z0) (hS z143 (c 84 1 true false [] (vL (s 1 0 3 3))) z149)
noncomputable def z_8 : M := .at 155 55 (.exit .normal) (vS z136 (i 64) (vO z137 z138)) [] ⟨z150 , 18⟩ [.seq [1, 1, 1, 0, 0, 1, 0, 1, 1, 1], .loop [0, 0, 1, 0, 1, 1, 1] 1048518, .blk 0, .seq [1, 1, 1, 1], .call 98 56 [0, 1] 2 z80 [], .seq [1, 1], .call 40 57 [0, 0, 1, 1, 1, 1, 1] 5 (vS z84 (ag [(i 64), (ik .u64 9), (i 1), (i 1), (i 1), (i 1), (i 1), (st [97, 98])]) z88) [], .seq [1, 0, 1, 1, 1, 1, 1], .seq [1, 1, 1, 1, 1, 1], .call 24 58 [0, 1, 1, 1, 1] 1 z36 [], .seq [1, 1, 1, 1, 1], .call 4 59 [0, 1, 1, 1] 3 (vS (vS z14 (p 0 0) z15) bf (vS z17 (s 1 0 3 3) (vO z18 (vO vE (vL (s 1 0 3 3)))))) [], .seq [1, 1, 1, 1]]
theorem seg7 : runM Tryz.prog xt 600 z_7 = some z_8 := by kernel_rfl
end Go.Proofs.YtmhgicpjeeegcaaGreat.Closed.be
