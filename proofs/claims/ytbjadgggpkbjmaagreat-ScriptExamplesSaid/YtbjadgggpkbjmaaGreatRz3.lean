/- Cut states of the run of a call, and the steps between them: checked by the kernel. -/
import Derived.Test.YtbjadgggpkbjmaaGreatRz2
namespace Go.Proofs.YtbjadgggpkbjmaaGreat.Closed.rz
open Go.Ab Go.Ab.Cut Go.RowKit
set_option maxRecDepth 1000000
set_option maxHeartbeats 0
noncomputable def rz374 : T Value := vS (vS (vS (vL (i 0)) (i 0) vE) (ik .u32 0) (vL (ik .u8 0))) (ik .u8 7) (vS (vS (vL (i 0)) (st []) vE) (ik .u8 0) (vL (i 0)))
noncomputable def rz375 : T Value := vS (vS (vS (vL (i 0)) (i 0) vE) (st []) (vL (i 0))) (i 0) (vS (vL (i 0)) bt (vL (ik .u64 0)))
noncomputable def rz376 : T Value := vS (vS (vS (vL (i 0)) (i 0) vE) (ik .u8 0) (vL (i 0))) (i 3) (vS (vS (vL (i 0)) (i 0) vE) nf (vL pn))
noncomputable def rz377 : T Value := vS (vS (vS (vL (sn 0 0)) (ik .u8 0) vE) bf (vL (sn 0 0))) (i 1) (vS (vL (i 0)) (i 2) (vL (i 0)))
noncomputable def rz378 : T AObj := hL (c 226 37 true false [] (vS (vS rz374 (i 0) rz375) (p 84 0) (vS rz376 (s 174 0 0 0) rz377)))
noncomputable def rz379 : T AObj := hS (hS rz192 rz5 (hS (hL (c 22 12 true false [] rz132)) rz193 (hL (c 40 7 true false [] rz6)))) (c 60 2 true false [] (vS (vL (ik .u8 1)) (ik .u8 0) vE)) (hS rz310 (c 60 2 true false [] (vS (vL (ik .u8 2)) (ik .u8 0) vE)) (hS rz378 rz193 hE))
noncomputable def rz380 : T AObj := hS rz201 (c 60 1 true false [] (vL (ik .u8 3))) (hS (hL (c 156 1 true false [] (vL (p 166 0)))) rz193 (hL (c 40 7 true false [] rz6)))
noncomputable def rz381 : T AObj := hS rz380 (c 40 7 false false [] rz6) (hS rz313 (c 40 7 true false [] rz6) (hS (hL (c 40 7 true false [] rz6)) rz204 hE))
noncomputable def rz382 : T AObj := hS (hL (c 224 0 true false [] vE)) (c 9 1 true false [] (vL (st [99]))) (hL (c 40 7 true false [] rz6))
noncomputable def rz383 : T Value := vS (vS (vL (p 210 0)) (mp 170) vE) (s 225 0 1 516508834063867445249) (vS (vL (i 0)) (s 196 0 1 36893488147419103233) vE)
noncomputable def rz384 : AObj := c 116 6 true false [] (vS (vS (vL (ik .u64 0)) (ik .u8 1) (vL bt)) (i 0) (vS (vL bt) bf vE))
noncomputable def rz385 : T AObj := hS rz318 (c 60 2 true false [] (vS (vL (ik .u8 2)) (ik .u8 0) vE)) (hS (hL (c 105 10 true false [] (vS rz383 (p 214 0) rz320))) rz193 (hL rz384))
noncomputable def rz386 : T AObj := hS rz385 (c 3 1 false true [] (vL (i 0))) (hS rz322 (c 60 1 true false [] (vL (ik .u8 3))) rz216)
noncomputable def rz387 : T AObj := hS (hS (hS rz206 (c 40 7 true false [] rz6) rz382) (c 60 0 true false [] vE) rz317) (c 60 3 true false [] (vS (vL (ik .u8 1)) (ik .u8 0) (vL (ik .u8 2)))) rz386
noncomputable def rz388 : T AObj := hS (hS rz379 (c 60 3 true false [] (vS (vL (ik .u8 3)) (ik .u8 1) (vL (ik .u8 4)))) rz381) (c 55 1 true false [] (vL (fn 10 [] [(p 0 0)]))) rz387
noncomputable def rz389 : T Value := vS (vS (vS (vL (i 0)) (ik .u8 0) (vL (ik .u8 0))) (i 3) (vS (vL (st [])) (i 0) vE)) (i 0) (vS (vS (vL (i 0)) (i 0) (vL (i 0))) (i 1) (vS (vL (i 0)) (i 0) vE))
noncomputable def rz390 : T Value := vS (vS (vS (vL (i 0)) (st []) (vL (i 0))) (i 0) (vS (vL (i 0)) (jk .i64 0) vE)) (ik .u8 7) (vS (vS (vL (ik .u8 0)) (jk .i64 0) (vL (sn 0 0))) (ik .u32 0) (vS (vL (i 0)) (i 0) vE))
noncomputable def rz391 : T AObj := hS (hL rz221) (c 3 1 true false [] (vL (i 1))) (hL (c 53 27 false false [] (vS rz389 (i 0) rz390)))
noncomputable def rz392 : T AObj := hS (hS rz220 (c 24 8 true false [] rz9) rz391) (c 60 1 true false [] (vL (ik .u8 0))) (hS rz326 (c 60 0 true false [] vE) (hS (hL (c 40 7 false false [] rz6)) rz193 hE))
noncomputable def rz393 : T AObj := hS rz223 (c 60 1 true false [] (vL (ik .u8 0))) (hS (hL (om [(en (i 0) (i 0) 0)] 1)) rz193 (hL rz384))
noncomputable def rz394 : T AObj := hS rz393 (c 41 1 false false [] (vL (s 23 0 1 147573952589676412929))) (hS rz328 (c 60 2 true false [] (vS (vL (ik .u8 2)) (ik .u8 1) vE)) rz216)
noncomputable def rz395 : AObj := om [(en (ik .u8 1) (fn 176 [(p 178 0)] []) 0), (en (ik .u8 2) (fn 176 [(p 178 0)] []) 1), (en (ik .u8 3) (fn 176 [(p 178 0)] []) 2), (en (ik .u8 4) (fn 176 [(p 178 0)] []) 3), (en (ik .u8 14) (fn 177 [(p 178 0)] []) 4), (en (ik .u8 15) (fn 178 [(p 178 0)] []) 5), (en (ik .u8 16) (fn 179 [(p 178 0)] []) 6)] 7
noncomputable def rz396 : T AObj := hS rz226 (c 60 2 true false [] (vS (vL (ik .u8 2)) (ik .u8 1) vE)) (hS (hL (c 22 12 true false [] rz132)) rz193 (hL rz395))
noncomputable def rz397 : T AObj := hS (hS rz396 (c 82 16 true false [] (vS rz11 (s 5 0 2 2) rz12)) rz331) (c 60 2 true false [] (vS (vL (ik .u8 2)) (ik .u8 0) vE)) (hS rz333 (c 3 2 false false [27] (vS (vL (i 1)) (i 0) vE)) rz334)
noncomputable def rz398 : T AObj := hS (hS rz392 (c 60 0 true false [] vE) rz394) (c 60 2 true false [] (vS (vL (ik .u8 5)) (ik .u8 1) vE)) rz397
noncomputable def rz399 : T AObj := hS (hL (c 212 1 true false [] (vL (s 159 0 12 12)))) (c 3 1 true false [] (vL (i 1))) (hL (c 53 27 true false [] (vS rz389 (i 0) rz390)))
noncomputable def rz400 : T AObj := hS rz239 (c 60 0 true false [] vE) (hS (hL (c 156 1 false false [] (vL (p 166 0)))) rz193 (hL rz384))
noncomputable def rz401 : T AObj := hS (hS (hS rz235 rz5 rz399) (c 60 2 true false [] (vS (vL (ik .u8 2)) (ik .u8 0) vE)) rz338) (c 60 1 true false [] (vL (ik .u8 3))) (hS rz400 (c 41 1 true false [] (vL (s 23 0 1 147573952589676412929))) rz340)
noncomputable def rz402 : AObj := c 116 6 true false [] (vS (vS (vL (ik .u64 0)) (ik .u8 1) (vL bt)) (i 0) (vS (vL bf) bf vE))
noncomputable def rz403 : T AObj := hS rz245 (c 60 2 true false [] (vS (vL (ik .u8 5)) (ik .u8 1) vE)) (hS (hL rz246) (c 9 1 false false [] (vL (st [99]))) (hL rz402))
noncomputable def rz404 : T AObj := hS (hS rz403 (c 60 0 true false [] vE) rz343) (c 60 2 true false [] (vS (vL (ik .u8 2)) (ik .u8 0) vE)) (hS rz345 (c 3 1 true false [] (vL (i 1))) rz346)
noncomputable def rz405 : T AObj := hS rz267 (c 40 7 true false [] rz6) (hS (hL (c 22 12 true false [] rz132)) (c 3 1 true false [] (vL (i 1))) (hL rz312))
noncomputable def rz406 : T AObj := hS rz405 (c 60 0 true false [] vE) (hS rz350 (c 60 0 true false [] vE) (hS (hL (c 165 24 true false [] rz271)) rz193 hE))
noncomputable def rz407 : T AObj := hS rz352 (c 60 3 true false [] (vS (vL (ik .u8 1)) (ik .u8 0) (vL (ik .u8 2)))) (hS (hL (om [(en (i 0) (i 1) 0)] 1)) rz204 (hL (c 51 13 true false [] rz266)))
noncomputable def rz408 : T AObj := hS rz406 (c 60 1 true false [] (vL (ik .u8 0))) (hS rz407 (c 3 1 true false [] (vL (i 0))) rz354)
noncomputable def rz409 : T AObj := hS rz279 (c 60 3 true false [] (vS (vL (ik .u8 3)) (ik .u8 1) (vL (ik .u8 4)))) (hS (hL (c 222 8 true false [] rz280)) rz281 (hL (c 40 7 true false [] rz6)))
noncomputable def rz410 : T AObj := hS (hS rz409 (c 40 7 true false [] rz6) (hS rz358 rz5 (hS (hL rz284) rz193 hE))) (c 60 2 true false [] (vS (vL (ik .u8 3)) (ik .u8 0) vE)) (hS rz360 rz5 rz362)
noncomputable def rz411 : T AObj := hS (hS rz401 (c 40 7 true false [] rz6) rz404) rz5 (hS rz408 (c 60 2 true false [] (vS (vL (ik .u8 2)) (ik .u8 1) vE)) rz410)
noncomputable def rz412 : T Value := vS (vS (vL (fn 179 [(p 178 0)] [])) (i 0) (vL (p 175 0))) (p 178 3) (vS (vL (ik .u8 7)) (p 86 0) vE)
noncomputable def rz413 : T Value := vS (vS (vO (vL (fn 176 [(p 178 0)] [])) vE) bf (vS vE (p 178 0) (vL (p 228 3)))) (mp 229) rz412
noncomputable def rz414 : T Value := vS (vL (fn 177 [(p 178 0)] [])) (s 177 0 1 147573952589676412929) (vL (tu [(ag [(i 0), (ik .u8 1), bf, (ik .u64 0), bt, bt]), (i 0)]))
noncomputable def rz415 : T Value := vS (vS rz414 (p 178 4) (vS vE (p 178 0) (vL (p 178 0)))) bf (vO (vS (vL (i 0)) (p 178 0) (vL (p 235 3))) (vS (vL bf) (fn 176 [(p 178 0)] []) vE))
noncomputable def rz416 : T Value := vS (vS (vL (fn 176 [(p 178 0)] [])) (p 178 0) vE) (p 178 0) (vS vE (ik .u8 1) (vL (p 178 0)))
noncomputable def rz417 : T Value := vS (vL (ag [(ik .u8 7), (i 3), (i 0), (i 1), (ik .u32 0), (ik .u8 0), (st [])])) (ag [(ik .u8 7), (i 3), (i 0), (i 1), (ik .u32 0), (ik .u8 0), (st [])]) (vL (ag [(i 0), (ik .u8 1), bf, (ik .u64 0), bt, bt]))
noncomputable def rz418 : T Value := vS (vS (vL (fn 178 [(p 178 0)] [])) (p 178 0) (vL (p 178 0))) (p 178 0) (vS (vL (mp 229)) (p 178 1) (vL (p 175 0)))
noncomputable def rz419 : T Value := vS (vS rz416 (i 0) (vS rz417 (i 1) (vS (vL nf) (mp 229) vE))) (p 228 0) (vS rz418 (i 0) (vO (vS vE (i 0) (vL (p 235 5))) (vL (fn 176 [(p 178 0)] []))))
noncomputable def rz420 : T Value := vS (vL (mp 229)) (p 177 0) (vL (tu [(ag [(i 0), (ik .u8 1), bf, (ik .u64 0), bt, bt]), (i 0)]))
noncomputable def rz421 : T Value := vS (vO (vS (vL (p 178 0)) (p 178 0) vE) (vS vE (p 178 6) (vL (p 228 5)))) bf (vS rz420 (s 177 0 1 147573952589676412929) (vS (vL (tu [nf, bf])) (i 0) vE))
noncomputable def rz422 : T Value := vS (vS (vL (p 178 0)) (p 178 0) (vL (p 178 0))) (i 0) (vS (vL (tu [nf, bf])) (p 178 0) (vL (p 178 0)))
noncomputable def rz423 : T Value := vS rz421 (p 227 0) (vS rz422 (p 235 0) (vO (vS (vL bf) (p 178 2) (vL (ik .u64 0))) (vL (p 178 0))))
noncomputable def rz424 : T Value := vS (vS (vL (p 178 0)) (p 178 3) vE) (p 178 0) (vS vE (ag [(i 0), (ik .u8 1), bf, (ik .u64 0), bf, bf]) (vL (p 178 0)))
noncomputable def rz425 : T Value := vS (vS (vS (vL (p 178 0)) (p 178 4) (vL (p 178 0))) (p 178 0) (vS (vL (p 227 0)) (p 84 0) vE)) (p 178 0) (vO (vS vE (p 178 0) (vL bt)) (vL (p 178 0)))
noncomputable def rz426 : T Value := vS (vS rz424 nf (vS (vS (vL (i 0)) (p 178 0) (vL (i 0))) bf (vS (vL bf) (p 178 0) vE))) (i 0) rz425
noncomputable def rz427 : T Value := vS (vS (vL bt) (s 196 0 1 36893488147419103233) (vL (p 200 0))) (i 0) (vS (vL (i 0)) (p 171 0) (vL (p 171 1)))
noncomputable def rz428 : T Value := vS (vL bt) (p 178 0) (vL (ag [(ik .u8 7), (i 3), (i 0), (i 1), (ik .u32 0), (ik .u8 0), (st [])]))
noncomputable def rz429 : T Value := vS (vS (vL bf) (p 196 0) (vL (i 0))) (i 0) (vS (vL (i 0)) (s 200 0 1 36893488147419103233) (vL (mp 170)))
noncomputable def rz430 : T Value := vS (vS (vL (p 171 0)) (i 0) (vL (p 171 0))) (p 171 0) (vS (vL (s 200 0 1 36893488147419103233)) (i 1) vE)
noncomputable def rz431 : T Value := vS (vS (vL (p 178 0)) (i 0) (vL (s 198 0 1 147573952589676412929))) (p 178 0) (vS (vL (i 0)) (p 171 6) (vL (p 171 3)))
noncomputable def rz432 : T Value := vS (vS (vL (p 171 0)) (i 0) (vL (tu []))) (p 171 0) (vS (vL (p 171 6)) (s 198 0 1 147573952589676412929) (vL (i 1)))
noncomputable def rz433 : T Value := vS (vS (vL (p 171 1)) (p 171 0) (vL (p 171 0))) (p 171 5) (vS (vL (i 0)) bt (vL (p 178 0)))
noncomputable def rz434 : T Value := vS (vO (vS (vL bt) (p 178 0) (vL (p 198 0))) (vS (vL (p 171 0)) (i 0) (vL (i 0)))) (p 218 0) rz433
noncomputable def rz435 : T Value := vS (vS (vO rz427 (vO rz428 (vS (vL (p 171 0)) (p 200 0) (vL (i 0))))) (i 0) (vO rz429 rz430)) (p 171 0) (vS (vO rz431 rz432) (i 0) rz434)
noncomputable def rz_9 : M := .at 89 54 (.code [0, 1]) (vS vE (p 175 0) (vL (ik .u8 0))) [] ⟨(hS (hS rz388 rz5 rz398) (c 9 1 true false [] (vL (st []))) rz411) , 236⟩ [.seq [1, 1], .call 128 55 [0, 1, 1, 1, 1, 1, 1, 1, 1, 0, 1, 1, 1, 1, 1, 1, 1, 1] 5 (vS (vO (vS rz413 (i 0) rz415) rz419) (p 178 0) (vS rz423 (p 226 0) rz426)) [], .seq [1, 1, 1, 1, 1, 1, 1, 1, 1, 0, 1, 1, 1, 1, 1, 1, 1, 1], .seq [1, 1, 1, 1, 1, 1, 1, 1, 1], .call 72 56 [0, 1, 1, 1, 1] 1 rz435 [], .seq [1, 1, 1, 1, 1], .call 40 57 [0, 0, 1, 0, 1, 1, 1, 1, 1] 3 (vS (vS rz365 (i 0) rz366) (p 171 0) (vO rz367 rz368)) [], .seq [1, 0, 1, 0, 1, 1, 1, 1, 1], .seq [1, 1, 1, 1, 1, 1], .call 25 58 [0, 1, 0, 0, 1, 1, 0, 0, 1, 0, 1, 1, 1, 1] 2 (vS rz369 (p 171 0) (vO rz370 (vS (vO (vL (i 0)) vE) (i 0) (vL (i 2))))) [], .seq [1, 1, 0, 0, 1, 1, 0, 0, 1, 0, 1, 1, 1, 1], .blk 1, .seq [1, 1, 1, 0, 0, 1, 0, 1, 1, 1, 1], .loop [0, 0, 1, 0, 1, 1, 1, 1] 1048575, .blk 0, .seq [1, 1, 1, 1, 1], .call 9 59 [0, 0, 1, 1, 1, 1] 3 (vS rz371 rz2 (vS rz372 (sn 0 0) rz373)) [], .seq [1, 0, 1, 1, 1, 1], .seq [1, 1, 1, 1, 1]]
theorem seg8 : runM Tryz.prog xt 600 rz_8 = some rz_9 := by kernel_rfl
noncomputable def rz436 : T AObj := hS rz310 (c 60 2 true false [] (vS (vL (ik .u8 2)) (ik .u8 0) vE)) (hS rz378 rz193 (hL (c 106 1 true false [] (vL (p 178 0)))))
noncomputable def rz437 : T AObj := hS (hS rz192 rz5 (hS (hL (c 22 12 true false [] rz132)) rz193 (hL (c 40 7 true false [] rz6)))) (c 60 2 true false [] (vS (vL (ik .u8 1)) (ik .u8 0) vE)) rz436
noncomputable def rz438 : T AObj := hS (hL (c 46 3 true false [] (vS (vL (i 1)) (i 1) (vL (i 0))))) (c 3 16 true false [] rz182) (hL rz384)
noncomputable def rz439 : T AObj := hS rz380 (c 40 7 false false [] rz6) (hS rz438 (c 40 7 true false [] rz6) (hS (hL (c 40 7 true false [] rz6)) rz204 (hL rz312)))
noncomputable def rz440 : T AObj := hS rz316 (c 60 0 true false [] vE) (hS (hL (c 106 1 true false [] (vL (p 178 0)))) rz209 (hL (c 51 13 true false [] rz266)))
noncomputable def rz441 : T AObj := hS (hL (c 40 7 true false [] rz6)) (c 380 3 true false [] (vS (vL (st [99])) (i 0) (vL (sn 0 0)))) (hL rz312)
noncomputable def rz442 : T AObj := hS rz385 (c 3 1 false true [] (vL (i 0))) (hS rz322 (c 60 1 true false [] (vL (ik .u8 3))) rz441)
noncomputable def rz443 : T AObj := hS (hS (hS rz206 (c 40 7 true false [] rz6) rz382) (c 60 0 true false [] vE) rz440) (c 60 3 true false [] (vS (vL (ik .u8 1)) (ik .u8 0) (vL (ik .u8 2)))) rz442
noncomputable def rz444 : T AObj := hS (hS rz437 (c 60 3 true false [] (vS (vL (ik .u8 3)) (ik .u8 1) (vL (ik .u8 4)))) rz439) (c 55 1 true false [] (vL (fn 10 [] [(p 0 0)]))) rz443
noncomputable def rz445 : T Value := vS (vS (vS (vL (i 0)) (ik .u8 0) (vL (ik .u8 0))) (i 3) (vS (vL (st [])) (i 0) vE)) (i 0) (vS (vS (vL (i 0)) (i 0) (vL (i 0))) (i 1) (vS (vL (i 0)) (i 1) vE))
noncomputable def rz446 : T Value := vS (vS (vS (vL (i 0)) (st []) (vL (i 0))) (i 0) (vS (vL (i 0)) (i 0) vE)) (ik .u8 7) (vS (vS (vL (ik .u8 0)) (i 0) (vL (sn 0 0))) (ik .u32 0) (vS (vL (i 0)) (i 2) vE))
noncomputable def rz447 : T AObj := hS (hL rz221) (c 3 1 true false [] (vL (i 1))) (hL (c 53 27 false false [] (vS rz445 (i 0) rz446)))
noncomputable def rz448 : AObj := lo (rg 53 [0, 1, 1, 1]) [(p 178 0), (p 238 0), (tu []), (tu []), (tu []), (p 178 0), (p 178 0), (p 178 0), (p 178 5), (p 178 0), (p 178 6), (p 178 0), (fn 141 [] [(p 239 0)]), (tu []), (tu []), (tu []), (tu []), (tu []), (tu []), (tu []), (tu []), (tu []), (tu []), (tu []), (tu []), (tu []), (tu []), (tu []), (tu []), (tu []), (tu []), (tu []), (tu []), (tu []), (tu []), (tu []), (tu []), (tu []), (tu []), (tu []), (tu []), (tu []), (tu []), (tu []), (tu []), (tu []), (tu []), (tu []), (tu []), (tu []), (tu []), (tu []), (tu []), (tu []), (tu []), (tu []), (tu []), (tu []), (tu []), (tu []), (tu []), (tu []), (tu []), (tu []), (tu []), (tu []), (tu []), (tu []), (tu []), (tu []), (tu []), (tu [])] [13, 14] .exhausted none 240
noncomputable def rz449 : T AObj := hS (hS rz220 (c 24 8 true false [] rz9) rz447) (c 60 1 true false [] (vL (ik .u8 0))) (hS rz326 (c 60 0 true false [] vE) (hS (hL (c 40 7 false false [] rz6)) rz193 (hL rz448)))
noncomputable def rz450 : T AObj := hS (hL (c 114 1 false false [] (vL (ik .u64 65536)))) (c 22 16 true false [] (vS rz185 (ik .u64 1) rz186)) (hL (c 3 1 false true [] (vL (i 0))))
noncomputable def rz451 : T AObj := hS (hL (c 40 7 true false [] rz6)) (c 380 3 true false [] (vS (vL (st [99])) (i 0) (vL (sn 0 0)))) (hL (c 3 2 false false [217] (vS (vL (i 1)) (i 0) vE)))
noncomputable def rz452 : T AObj := hS (hS rz223 (c 60 1 true false [] (vL (ik .u8 0))) (hS (hL (om [] 1)) rz193 (hL rz384))) (c 41 1 false false [] (vL (s 23 0 1 147573952589676412929))) (hS rz450 (c 60 2 true false [] (vS (vL (ik .u8 2)) (ik .u8 1) vE)) rz451)
noncomputable def rz453 : T AObj := hS (hL od) (c 294 3 true false [] (vS (vL am) (p 92 0) (vL (p 119 0)))) (hL (c 51 13 true false [] rz266))
noncomputable def rz454 : T AObj := hS rz396 (c 82 16 true false [] (vS rz11 (s 5 0 2 2) rz12)) (hS rz330 (c 58 1 true false [] (vL (s 42 0 3 3))) rz453)
noncomputable def rz455 : T AObj := hS rz332 (c 60 2 true false [] (vS (vL (ik .u8 3)) (ik .u8 0) vE)) (hS (hL (c 24 8 true false [] rz9)) rz193 (hL (c 51 13 true false [] rz266)))
noncomputable def rz456 : T AObj := hS rz454 (c 60 2 true false [] (vS (vL (ik .u8 2)) (ik .u8 0) vE)) (hS rz455 (c 3 2 false false [27] (vS (vL (i 1)) (i 0) vE)) rz334)
noncomputable def rz457 : T AObj := hS (hS rz449 (c 60 0 true false [] vE) rz452) (c 60 2 true false [] (vS (vL (ik .u8 5)) (ik .u8 1) vE)) rz456
noncomputable def rz458 : T AObj := hS rz337 (c 60 1 true false [] (vL (ik .u8 0))) (hS (hL (c 40 0 true false [] vE)) rz193 (hL od))
noncomputable def rz459 : T AObj := hS (hL rz242) (c 380 3 true false [] (vS (vL (st [99])) (i 0) (vL (sn 0 0)))) (hL (c 3 1 true false [] (vL (i 1))))
noncomputable def rz460 : T AObj := hS rz400 (c 41 1 true false [] (vL (s 23 0 1 147573952589676412929))) (hS rz339 (c 60 2 true false [] (vS (vL (ik .u8 5)) (ik .u8 1) vE)) rz459)
noncomputable def rz461 : T AObj := hS (hS (hS rz235 rz5 rz399) (c 60 2 true false [] (vS (vL (ik .u8 2)) (ik .u8 0) vE)) rz458) (c 60 1 true false [] (vL (ik .u8 3))) rz460
noncomputable def rz462 : T AObj := hS rz245 (c 60 2 true false [] (vS (vL (ik .u8 5)) (ik .u8 1) vE)) (hS (hL rz246) (c 9 1 false false [] (vL (st [99]))) (hL rz384))
noncomputable def rz463 : T AObj := hS (hL (c 106 1 true false [] (vL (p 178 0)))) (c 3 16 true false [] rz257) (hL (c 51 13 true false [] rz266))
noncomputable def rz464 : T AObj := hS rz462 (c 60 0 true false [] vE) (hS rz342 (c 82 16 true false [] (vS rz39 (s 36 0 2 2) rz40)) rz463)
noncomputable def rz465 : T AObj := hS rz344 (c 60 2 true false [] (vS (vL (ik .u8 2)) (ik .u8 0) vE)) (hS (hL (c 24 8 true false [] rz9)) rz193 (hL (c 51 13 true false [] rz266)))
noncomputable def rz466 : T AObj := hS rz464 (c 60 2 true false [] (vS (vL (ik .u8 2)) (ik .u8 0) vE)) (hS rz465 (c 3 1 true false [] (vL (i 1))) rz346)
noncomputable def rz467 : T AObj := hS rz267 (c 40 7 true false [] rz6) (hS (hL (c 22 12 true false [] rz132)) (c 3 1 true false [] (vL (i 1))) (hL rz384))
noncomputable def rz468 : T Value := vS (vS (vL (i 0)) (i 2) (vL (i 0))) (s 177 0 1 147573952589676412929) (vS (vL (sn 0 0)) (ik .u8 0) vE)
noncomputable def rz469 : T Value := vS (vS (vS (vL (ik .u8 0)) (i 0) vE) (i 1) (vS (vL pn) (st []) vE)) (i 0) (vS (vS (vL (i 0)) (i 0) vE) (ik .u8 0) (vS (vL bf) (i 0) vE))
noncomputable def rz470 : T Value := vS (vS rz468 (p 84 0) (vS (vS (vL (i 0)) (i 0) vE) bf (vS (vL pn) (i 0) vE))) (p 175 0) rz469
noncomputable def rz471 : T AObj := hS rz350 (c 60 0 true false [] vE) (hS (hL (c 165 24 true false [] rz470)) rz193 (hL rz384))
noncomputable def rz472 : T AObj := hS (hL (c 40 7 true false [] rz6)) (c 46 3 true false [] (vS (vL (i 1)) (i 1) (vL (i 0)))) (hL rz312)
noncomputable def rz473 : T AObj := hS (hS (hL rz204) rz275 (hL rz384)) (c 60 3 true false [] (vS (vL (ik .u8 3)) (ik .u8 1) (vL (ik .u8 4)))) rz472
noncomputable def rz474 : T AObj := hS (hS rz467 (c 60 0 true false [] vE) rz471) (c 60 1 true false [] (vL (ik .u8 0))) (hS rz407 (c 3 1 true false [] (vL (i 0))) rz473)
noncomputable def rz475 : T Value := vS (vS (vS (vL (i 0)) (i 0) vE) (i 0) (vL (i 0))) (i 1) (vS (vS (vL (s 249 0 2 36893488147419103234)) (i 0) vE) (i 0) (vL (i 0)))
noncomputable def rz476 : T Value := vS rz475 (i 2) (vS (vS (vS (vL (i 0)) (i 0) vE) (i 0) (vL (i 0))) (i 1) (vS (vL (i 0)) (i 0) (vL (i 0))))
noncomputable def rz477 : T AObj := hS (hL (c 473 3 true false [] (vS (vL (i 1)) (i 1) (vL (i 0))))) (c 198 2 true false [] (vS (vL (sn 0 0)) (s 85 0 12 12) vE)) (hL (c 189 18 true false [] rz476))
noncomputable def rz478 : T AObj := hS rz359 (c 60 2 true false [] (vS (vL (ik .u8 1)) (ik .u8 0) vE)) (hS (hL (c 359 0 true false [] vE)) rz193 (hL (c 106 1 true false [] (vL (p 178 0)))))
noncomputable def rz479 : T AObj := hS (hS rz409 (c 40 7 true false [] rz6) (hS rz477 rz5 (hS (hL rz284) rz193 (hL rz384)))) (c 60 2 true false [] (vS (vL (ik .u8 3)) (ik .u8 0) vE)) (hS rz478 rz5 rz362)
noncomputable def rz480 : T AObj := hS (hS rz461 (c 40 7 true false [] rz6) rz466) rz5 (hS rz474 (c 60 2 true false [] (vS (vL (ik .u8 2)) (ik .u8 1) vE)) rz479)
noncomputable def rz481 : T Value := vS (vS (vO (vO (vL (p 210 0)) vE) vE) (i 1) (vS vE (i 0) (vL (p 171 0)))) (p 171 0) (vO (vS vE (p 250 0) (vL (p 171 0))) (vO vE (vL (p 171 7))))
noncomputable def rz482 : T Value := vO (vS (vL (p 171 0)) (i 1) (vL (p 214 0))) (vO (vS (vL (p 171 5)) (p 171 0) vE) (vL (i 0)))
noncomputable def rz483 : T Value := vS (vS (vS (vL (p 171 0)) (i 1) vE) (p 171 0) (vL (tu [(i 1), (i 0)]))) (i 0) (vS (vS (vL (i 1)) (p 171 0) vE) (p 171 0) (vS (vL (p 171 0)) bf vE))
noncomputable def rz484 : T Value := vS (vS (vS (vL (i 1)) (p 214 0) vE) (i 0) (vL (i 1))) (p 247 0) (vS (vS (vL (s 196 0 1 36893488147419103233)) (p 171 0) vE) (p 171 0) (vL (i 0)))
noncomputable def rz485 : T Value := vS (vS (vS (vL (p 171 0)) (tu [(i 1), (i 0)]) vE) bf (vL (i 1))) (i 1) (vS (vS (vL bf) (p 171 0) vE) (p 171 0) (vO (vL (i 1)) vE))
noncomputable def rz486 : T Value := vO (vO (vS (vL (p 246 5)) bf vE) (vL (p 171 0))) (vS (vS (vL (i 1)) bt vE) (p 171 0) (vL (i 0)))
noncomputable def rz487 : T Value := vS (vS (vL (i 0)) (i 2) vE) (p 246 0) (vL (tu [(ag [(i 0), (ik .u8 1), bf, (ik .u64 0), bt, bt]), (i 0)]))
noncomputable def rz488 : T Value := vS rz486 (s 29 0 2 36893488147419103234) (vS rz487 (i 0) (vS (vL (i 1)) (s 29 0 2 36893488147419103234) (vL bf)))
noncomputable def rz489 : T Value := vS (vS (vS (vL bt) (s 29 0 2 36893488147419103234) vE) (i 1) (vL (i 1))) (i 0) (vS (vL (p 29 1)) bf (vL (i 0)))
noncomputable def rz490 : T Value := vS (vS (vS (vL (i 1)) (i 1) vE) (i 0) (vL (ag [(i 0), (ik .u8 1), bf, (ik .u64 0), bt, bt]))) (i 1) (vS (vL (tu [(ag [(i 0), (ik .u8 1), bf, (ik .u64 0), bt, bt]), (i 0)])) (i 2) vE)
noncomputable def rz_10 : M := .at 132 55 (.code [1, 0, 1]) (vS (vO (vS (vL (p 210 0)) (i 0) vE) vE) (p 210 0) (vS (vO (vL bf) vE) (p 251 0) vE)) [] ⟨(hS (hS rz444 rz5 rz457) (c 9 1 true false [] (vL (st []))) rz480) , 252⟩ [.seq [1, 1], .call 73 56 [0, 1] 4 rz481 [], .seq [1, 1], .call 40 57 [0, 1, 1, 1, 1, 1, 1] 2 (vS (vS rz482 (i 1) rz483) (p 171 0) (vO rz484 rz485)) [], .seq [1, 1, 1, 1, 1, 1, 1], .call 25 58 [0, 1, 0, 0, 1, 1, 0, 0, 1, 0, 1, 1, 1, 1] 2 (vS rz488 (p 171 0) (vO rz489 rz490)) [], .seq [1, 1, 0, 0, 1, 1, 0, 0, 1, 0, 1, 1, 1, 1], .blk 1, .seq [1, 1, 1, 0, 0, 1, 0, 1, 1, 1, 1], .loop [0, 0, 1, 0, 1, 1, 1, 1] 1048574, .blk 0, .seq [1, 1, 1, 1, 1], .call 9 59 [0, 0, 1, 1, 1, 1] 3 (vS rz371 rz2 (vS rz372 (sn 0 0) rz373)) [], .seq [1, 0, 1, 1, 1, 1], .seq [1, 1, 1, 1, 1]]
theorem seg9 : runM Tryz.prog xt 600 rz_9 = some rz_10 := by kernel_rfl
noncomputable def rz491 : AObj := c 377 6 false false [] (vS (vS (vL (ik .u64 0)) (i 5) (vL bf)) (i 1) (vS (vL (ik .u64 0)) (ik .u8 1) vE))
noncomputable def rz492 : T AObj := hS (hS (hL rz491) (c 46 3 true false [] (vS (vL (i 1)) (i 1) (vL (i 0)))) hE) (c 60 2 true false [] (vS (vL (ik .u8 2)) (ik .u8 0) vE)) (hL (c 40 7 true false [] rz6))
noncomputable def rz493 : T AObj := hS (hS rz492 rz5 (hS (hL (c 22 12 true false [] rz132)) rz193 (hL (c 40 7 true false [] rz6)))) (c 60 2 true false [] (vS (vL (ik .u8 1)) (ik .u8 0) vE)) rz436
noncomputable def rz494 : AObj := c 116 6 true false [] (vS (vS (vL (ik .u64 0)) (ik .u8 19) (vL bf)) (i 1) (vS (vL bf) bt vE))
noncomputable def rz495 : T AObj := hS rz380 (c 40 7 false false [] rz6) (hS rz438 (c 40 7 true false [] rz6) (hS (hL (c 40 7 true false [] rz6)) rz204 (hL rz494)))
noncomputable def rz496 : T AObj := hS (hS (hL rz494) (c 380 3 true false [] (vS (vL (st [99])) (i 0) (vL (sn 0 0)))) hE) (c 60 2 true false [] (vS (vL (ik .u8 2)) (ik .u8 0) vE)) (hL (c 106 1 true false [] (vL (p 178 0))))
noncomputable def rz497 : T AObj := hS (hL (c 40 7 true false [] rz6)) (c 380 3 true false [] (vS (vL (st [99])) (i 0) (vL (sn 0 0)))) (hL rz494)
noncomputable def rz498 : T AObj := hS rz385 (c 3 1 false true [] (vL (i 0))) (hS rz322 (c 60 1 true false [] (vL (ik .u8 3))) rz497)
noncomputable def rz499 : T AObj := hS (hS (hS rz496 (c 40 7 true false [] rz6) rz382) (c 60 0 true false [] vE) rz440) (c 60 3 true false [] (vS (vL (ik .u8 1)) (ik .u8 0) (vL (ik .u8 2)))) rz498
noncomputable def rz500 : T AObj := hS (hS rz493 (c 60 3 true false [] (vS (vL (ik .u8 3)) (ik .u8 1) (vL (ik .u8 4)))) rz495) (c 55 1 true false [] (vL (fn 10 [] [(p 0 0)]))) rz499
noncomputable def rz501 : T AObj := hS (hL (c 1 1 true false [] (vL (fn 147 [] [(p 256 0)])))) (c 473 3 true false [] (vS (vL (i 1)) (i 1) (vL (i 0)))) hE
noncomputable def rz502 : T AObj := hS rz501 (c 60 2 true false [] (vS (vL (ik .u8 3)) (ik .u8 0) vE)) (hL (c 159 1 true false [] (vL (p 175 0))))
noncomputable def rz503 : AObj := c 215 6 true false [] (vS (vS (vL (i 5)) (i 3) (vL (p 252 0))) (p 86 0) (vS (vL (ik .u64 1)) (i 4) vE))
noncomputable def rz504 : T AObj := hS (hL rz503) (c 3 1 true false [] (vL (i 1))) (hL (c 53 27 false false [] (vS rz445 (i 0) rz446)))
noncomputable def rz505 : T AObj := hS (hS rz502 (c 24 8 true false [] rz9) rz504) (c 60 1 true false [] (vL (ik .u8 0))) (hS rz326 (c 60 0 true false [] vE) (hS (hL (c 40 7 false false [] rz6)) rz193 (hL rz448)))
noncomputable def rz506 : T AObj := hS (hL (c 53 0 true false [] vE)) (c 46 3 true false [] (vS (vL (i 1)) (i 1) (vL (i 0)))) hE
noncomputable def rz507 : T AObj := hS (hS rz506 (c 60 0 true false [] vE) (hL (c 40 0 true false [] vE))) (c 60 2 true false [] (vS (vL (ik .u8 2)) (ik .u8 1) vE)) (hS (hL (c 22 12 true false [] rz132)) rz193 (hL rz395))
noncomputable def rz508 : T AObj := hS rz507 (c 82 16 true false [] (vS rz11 (s 5 0 2 2) rz12)) (hS rz330 (c 58 1 true false [] (vL (s 42 0 3 3))) rz453)
noncomputable def rz509 : AObj := om [(en (ik .u8 19) (fn 144 [] []) 0), (en (ik .u8 20) (fn 145 [] []) 1), (en (ik .u8 21) (fn 146 [] []) 2)] 3
noncomputable def rz510 : T AObj := hS (hL (c 40 7 true false [] rz6)) (c 380 3 true false [] (vS (vL (st [99])) (i 0) (vL (sn 0 0)))) (hL rz509)
noncomputable def rz511 : T AObj := hS (hS (hL (c 3 1 true false [] (vL (i 5)))) rz204 (hL od)) (c 60 1 true false [] (vL (ik .u8 0))) rz510
noncomputable def rz512 : T AObj := hS rz508 (c 60 2 true false [] (vS (vL (ik .u8 2)) (ik .u8 0) vE)) (hS rz455 (c 3 2 false false [27] (vS (vL (i 1)) (i 0) vE)) rz511)
noncomputable def rz513 : T AObj := hS (hS rz505 (c 60 0 true false [] vE) rz452) (c 60 2 true false [] (vS (vL (ik .u8 5)) (ik .u8 1) vE)) rz512
noncomputable def rz514 : T AObj := hS (hL (c 102 1 true false [] (vL (p 210 0)))) (c 473 3 true false [] (vS (vL (i 1)) (i 1) (vL (i 0)))) hE
noncomputable def rz515 : T AObj := hS rz514 (c 60 2 true false [] (vS (vL (ik .u8 2)) (ik .u8 0) vE)) (hL (c 40 7 true false [] rz6))
noncomputable def rz516 : T AObj := hS (hS (hS rz515 rz5 rz399) (c 60 2 true false [] (vS (vL (ik .u8 2)) (ik .u8 0) vE)) rz458) (c 60 1 true false [] (vL (ik .u8 3))) rz460
noncomputable def rz517 : T AObj := hS (hS (hL rz494) (c 46 3 true false [] (vS (vL (i 1)) (i 1) (vL (i 0)))) hE) (c 60 1 true false [] (vL (ik .u8 0))) (hL (c 106 1 false false [] (vL (p 178 0))))
noncomputable def rz518 : T AObj := hS rz517 (c 60 2 true false [] (vS (vL (ik .u8 5)) (ik .u8 1) vE)) (hS (hL rz246) (c 9 1 false false [] (vL (st [99]))) (hL rz384))
noncomputable def rz519 : T AObj := hS rz518 (c 60 0 true false [] vE) (hS rz342 (c 82 16 true false [] (vS rz39 (s 36 0 2 2) rz40)) rz463)
noncomputable def rz520 : T Value := vS (vS (vL (ik .u64 0)) (i 1) (vL (i 17))) (p 161 0) (vS (vL (ik .u8 0)) (ik .u64 0) (vL bt))
noncomputable def rz521 : T AObj := hS (hL (c 159 1 true false [] (vL (p 175 0)))) (c 380 3 true false [] (vS (vL (st [99])) (i 0) (vL (sn 0 0)))) (hL (c 303 7 true false [] rz520))
noncomputable def rz522 : T AObj := hS (hS (hL (c 151 8 true false [] rz261)) rz262 (hL (c 106 1 true false [] (vL (p 178 0))))) (c 60 0 true false [] vE) rz521
noncomputable def rz523 : T AObj := hS rz519 (c 60 2 true false [] (vS (vL (ik .u8 2)) (ik .u8 0) vE)) (hS rz465 (c 3 1 true false [] (vL (i 1))) rz522)
noncomputable def rz524 : T AObj := hS (hL (c 175 3 true false [] (vS (vL (sn 0 0)) (sn 0 0) (vL (sn 0 0))))) (c 46 3 true false [] (vS (vL (i 1)) (i 1) (vL (i 0)))) hE
noncomputable def rz525 : T AObj := hS rz524 (c 60 2 true false [] (vS (vL (ik .u8 1)) (ik .u8 0) vE)) (hL (c 51 13 true false [] rz266))
noncomputable def rz526 : T AObj := hS rz525 (c 40 7 true false [] rz6) (hS (hL (c 22 12 true false [] rz132)) (c 3 1 true false [] (vL (i 1))) (hL rz384))
noncomputable def rz527 : T Value := vS (vS (vS (vL pn) (i 0) (vL (sn 0 0))) (ik .u64 65536) (vS (vL (i 0)) (sn 0 0) vE)) (i 1) (vS (vS (vL (p 252 0)) (i 0) vE) (i 1) (vS (vL pn) (sn 0 0) vE))
noncomputable def rz528 : T AObj := hS (hL (c 380 3 true false [] (vS (vL (st [99])) (i 0) (vL (sn 0 0))))) (c 128 10 true false [] rz123) (hL (c 183 25 true false [] (vS rz527 (p 84 0) rz349)))
noncomputable def rz529 : T AObj := hS rz528 (c 60 0 true false [] vE) (hS (hL (c 165 24 true false [] rz470)) rz193 (hL rz384))
noncomputable def rz530 : T AObj := hS (hL (c 40 7 true false [] rz6)) (c 46 3 true false [] (vS (vL (i 1)) (i 1) (vL (i 0)))) (hL rz494)
noncomputable def rz531 : T AObj := hS (hS (hL rz204) rz275 (hL rz384)) (c 60 3 true false [] (vS (vL (ik .u8 3)) (ik .u8 1) (vL (ik .u8 4)))) rz530
noncomputable def rz532 : T AObj := hS (hS rz526 (c 60 0 true false [] vE) rz529) (c 60 1 true false [] (vL (ik .u8 0))) (hS rz407 (c 3 1 true false [] (vL (i 0))) rz531)
noncomputable def rz533 : T AObj := hS (hL (c 53 27 false false [] (vS rz445 (i 0) rz446))) (c 473 3 true false [] (vS (vL (i 1)) (i 1) (vL (i 0)))) hE
noncomputable def rz534 : T AObj := hS (hS rz533 (c 60 0 true false [] vE) (hL (c 40 7 false false [] rz6))) (c 60 3 true false [] (vS (vL (ik .u8 3)) (ik .u8 1) (vL (ik .u8 4)))) (hS (hL (c 222 8 true false [] rz280)) rz281 (hL (c 40 7 true false [] rz6)))
noncomputable def rz535 : T AObj := hS (hL (c 473 3 true false [] (vS (vL (i 1)) (i 1) (vL (i 0))))) (c 198 2 true false [] (vS (vL (s 255 0 1 129127208515966861313)) (s 85 0 12 12) vE)) (hL (c 189 18 true false [] rz476))
noncomputable def rz536 : AObj := c 377 6 true false [] (vS (vS (vL (ik .u64 0)) (i 5) (vL bf)) (i 1) (vS (vL (ik .u64 0)) (ik .u8 1) vE))
noncomputable def rz537 : T AObj := hS (hL (c 40 7 true false [] rz6)) (c 46 3 true false [] (vS (vL (i 1)) (i 1) (vL (i 0)))) (hL rz536)
noncomputable def rz538 : T AObj := hS (hS (hL (c 3 1 true false [] (vL (i 1)))) rz204 (hL rz361)) (c 60 3 true false [] (vS (vL (ik .u8 1)) (ik .u8 0) (vL (ik .u8 2)))) rz537
noncomputable def rz539 : T AObj := hS (hS rz534 (c 40 7 true false [] rz6) (hS rz535 rz5 (hS (hL rz284) rz193 (hL rz384)))) (c 60 2 true false [] (vS (vL (ik .u8 3)) (ik .u8 0) vE)) (hS rz478 rz5 rz538)
noncomputable def rz540 : T AObj := hS (hS rz516 (c 40 7 true false [] rz6) rz523) rz5 (hS rz532 (c 60 2 true false [] (vS (vL (ik .u8 2)) (ik .u8 1) vE)) rz539)
noncomputable def rz_11 : M := .done (tu [(s 262 0 1 516508834063867445249), (i 0)]) ⟨(hS (hS rz500 rz5 rz513) (c 9 1 true false [] (vL (st []))) rz540) , 263⟩
theorem seg10 : runM Tryz.prog xt 600 rz_10 = some rz_11 := by kernel_rfl
/-- The end of the run. -/
noncomputable def zV : Value := (tu [(s 262 0 1 516508834063867445249), (i 0)])
noncomputable def zH : AHeap := ⟨(hS (hS rz500 rz5 rz513) (c 9 1 true false [] (vL (st []))) rz540) , 263⟩
theorem z_end : rz_11 = .done zV zH := rfl
theorem run {w0 w : World} {base : Nat} {φ : Phi} {us : Array Value} (H : HR w0 base φ zHeap w) (ha : AsR φ zArg.toArray us) :
    Calls Tryz.prog 9 us w (fun e w' => ∃ u φ', e = .returned u ∧ VR φ' zV u ∧ HR w0 base φ' zH w' ∧ Ext φ φ') := by
  refine call_at types xOk mixed (d := 60) (args := zArg.toArray) ?_ H ha
  have ho : ∀ {β : Type} (k : T Value → Option β), ofK zArg 0 .nil k = k (vL rb.zV) := fun k => rfl
  rw [show zArg.toArray.toList = zArg from rfl, start_den_at (by kernel_rfl), ho]
  have h0 : den Tryz.prog xt pairK rz_0 = some (zV, zH) := by
    rw [runM_den _ seg0, runM_den _ seg1, runM_den _ seg2, runM_den _ seg3, runM_den _ seg4, runM_den _ seg5, runM_den _ seg6, runM_den _ seg7, runM_den _ seg8, runM_den _ seg9, runM_den _ seg10, z_end]
    rfl
  exact h0
end Go.Proofs.YtbjadgggpkbjmaaGreat.Closed.rz
