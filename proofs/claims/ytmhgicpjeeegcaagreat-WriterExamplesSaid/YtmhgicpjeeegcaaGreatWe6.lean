/- Cut states of the run of this law's function, and the steps between them: checked by the kernel. -/
import Derived.Test.YtmhgicpjeeegcaaGreatWe5
namespace Go.Proofs.YtmhgicpjeeegcaaGreat.Closed.we
open Go.Ab Go.Ab.Cut Go.RowKit
set_option maxRecDepth 1000000
set_option maxHeartbeats 0
noncomputable def z983 : T AObj := hS (hL z256) (c 365 3 true false [] (vS (vL (st [97, 120, 98])) (i 0) (vL (sn 0 0)))) (hL (c 58 3 true false [] (vS (vL (sn 0 0)) (sn 0 0) (vL (sn 0 0)))))
noncomputable def z984 : T AObj := hS z728 (c 243 7 true false [] z40) (hS z743 (c 201 2 false false [91] (vS (vL (p 93 0)) (p 89 0) vE)) (hS z983 z72 z418))
noncomputable def z985 : T AObj := hS z984 z745 (hS z748 (c 365 3 true false [] (vS (vL (st [97, 98])) (i 0) (vL (sn 0 0)))) z751)
noncomputable def z986 : T AObj := hS (hS (hL z177) (c 243 7 true false [] z146) (hL (c 54 13 true false [] z413))) (c 365 3 true false [] (vS (vL (st [97, 98])) (i 0) (vL (sn 0 0)))) z449
noncomputable def z987 : T AObj := hS (hS (hS z762 z175 z449) z763 z986) (c 49 3 true false [] (vS (vL (i 2)) (i 2) (vL (i 0)))) z784
noncomputable def z988 : T AObj := hS z985 (c 142 184 true false [] (vS z754 (i 8) z156)) (hS z761 (c 9 1 false false [] (vL (st [97, 98]))) z987)
noncomputable def z989 : T AObj := hS (hS (hL z480) z212 (hL (c 73 9 true false [] z133))) (c 40 1 false false [] (vL (ik .u64 65536))) z481
noncomputable def z990 : T AObj := hS (hS (hS z801 z211 z479) (c 201 1 false true [] (vL (p 89 0))) z989) (c 49 3 true false [] (vS (vL (i 2)) (i 2) (vL (i 0)))) (hS (hS z803 (c 49 3 true false [] (vS (vL (i 2)) (i 2) (vL (i 0)))) z483) z68 z484)
noncomputable def z991 : T AObj := hS (hS z797 (c 365 3 true false [] (vS (vL (st [97, 98])) (i 0) (vL (sn 0 0)))) z799) (c 243 7 true false [] z40) z990
noncomputable def z992 : T AObj := hS (hL (c 380 78 false true [604, 156, 151, 146, 140, 137, 134, 131, 124, 121, 118, 115] z512)) (c 49 3 true false [] (vS (vL (i 3)) (i 3) (vL (i 0)))) z188
noncomputable def z993 : T AObj := hS z992 (c 49 3 true false [] (vS (vL (i 2)) (i 2) (vL (i 0)))) (hS (hL z439) (c 73 3 true false [] (vS (vL (i 1)) (ik .u8 1) (vL (st [])))) hE)
noncomputable def z994 : T AObj := hS (hS z807 (c 243 7 true false [] z40) (hS z808 (c 67 8 true false [] z43) z993)) z72 z814
noncomputable def z995 : T AObj := hS (hL (c 311 7 true false [] z531)) (c 243 7 true false [] z146) (hL (c 52 4 true false [] (vS (vS (vL (sn 0 0)) (i 0) vE) (ik .u8 0) (vL (i 0)))))
noncomputable def z996 : T AObj := hS (hS z820 z138 z426) (c 296 8 true false [] z530) (hS z995 (c 365 3 true false [] (vS (vL (st [97, 98])) (i 0) (vL (sn 0 0)))) z460)
noncomputable def z997 : T AObj := hS (hS z817 (c 243 7 true false [] z40) z819) (c 243 7 false false [] z40) (hS z996 (c 498 3 true false [] (vS (vL (i 2)) (i 2) (vL (i 0)))) z822)
noncomputable def z998 : T AObj := hS z994 (c 215 2 true false [] (vS (vL (s 832 0 24 129127208515966861336)) (s 8 0 19 19) vE)) z997
noncomputable def z999 : AObj := c 3 7 true false [] (vS (vS (vL (i 4)) (i 2) (vL (i 6))) (i 0) (vS (vL (i 5)) (i 3) (vL (i 7))))
noncomputable def z1000 : T AObj := hS z846 (c 296 8 true false [] z564) (hS (hS (hL z194) (c 243 7 true false [] z146) (hL z999)) z72 z460)
noncomputable def z1001 : T AObj := hS z1000 (c 318 1 true false [] (vL (p 42 0))) (hS (hS z849 z72 z466) (c 31 7 true false [] z86) z567)
noncomputable def z1002 : T AObj := hS (hS z834 (c 3 1 true false [] (vL (i 2))) z840) z83 (hS (hS z842 (c 49 3 true false [] (vS (vL (i 2)) (i 2) (vL (i 0)))) z845) z72 z1001)
noncomputable def z1003 : T AObj := hS (hS z988 (c 136 10 true false [] z19) (hS z794 (c 224 8 true false [] z795) z991)) (c 26 8 true false [] z22) (hS z998 (c 136 10 true false [] z19) z1002)
noncomputable def z1004 : T AObj := hS (hL z574) (c 365 3 true false [] (vS (vL (st [97, 120, 98])) (i 0) (vL (sn 0 0)))) (hL z299)
noncomputable def z1005 : T AObj := hS z863 (c 243 7 true false [] z40) (hS z864 (c 67 8 true false [] z43) (hS z1004 z168 z575))
noncomputable def z1006 : T AObj := hS (hS (hL z194) (c 243 7 true false [] z146) (hL (c 54 13 true false [] z413))) (c 365 3 true false [] (vS (vL (st [97, 98])) (i 0) (vL (sn 0 0)))) z460
noncomputable def z1007 : T AObj := hS (hS (hS z878 z297 z449) (c 24 19 true false [] (vS z25 (ik .u64 0) z25)) z1006) (c 49 3 true false [] (vS (vL (i 2)) (i 2) (vL (i 0)))) (hS z879 z96 z596)
noncomputable def z1008 : T AObj := hS (hS z1005 z72 z870) (c 301 19 true false [] (vS z583 (ik .u64 0) z872)) (hS z877 (c 243 7 true false [] z40) z1007)
noncomputable def z1009 : AObj := c 75 7 true false [] (vS (vS (vL (i 0)) (i 7) (vL (i 1))) (i 8) (vS (vL (i 2)) (i 1) (vL (i 0))))
noncomputable def z1010 : T AObj := hS (hL (c 380 72 false true [156, 151, 146, 140, 137, 134, 131, 124, 121, 118, 115] z620)) (c 320 3 true false [] (vS (vL am) (p 15 0) (vL (p 350 0)))) (hL z1009)
noncomputable def z1011 : T AObj := hS z1010 (c 509 3 true false [] (vS (vL (i 1)) (st [97, 98]) (vL (s 219 0 1 36893488147419103233)))) z460
noncomputable def z1012 : T AObj := hS (hS z896 (c 380 66 false true [151, 146, 140, 137, 134, 131, 124, 121, 118, 115] z334) z449) (c 24 19 true false [] (vS z25 (ik .u64 0) z25)) z1011
noncomputable def z1013 : T AObj := hS (hS (hS z883 (c 243 7 true false [] z40) z885) (c 3 1 true false [] (vL (i 1))) z890) (c 24 8 true false [] z891) (hS z895 (c 243 7 true false [] z40) (hS z1012 (c 122 1 true false [] (vL (p 40 0))) z899))
noncomputable def z1014 : T AObj := hS (hS (hL z297) (c 365 3 true false [] (vS (vL (st [97, 120, 98])) (i 0) (vL (sn 0 0)))) z188) (c 365 3 true false [] (vS (vL (st [97, 98])) (i 0) (vL (sn 0 0)))) z633
noncomputable def z1015 : T AObj := hS z902 (c 243 7 true false [] z40) (hS (hS z903 (c 31 7 true false [] z44) z481) (c 67 8 true false [] z43) z1014)
noncomputable def z1016 : T AObj := hS (hL z256) z363 (hL (c 52 4 true false [] (vS (vS (vL (sn 0 0)) (i 0) vE) (ik .u8 0) (vL (i 0)))))
noncomputable def z1017 : T AObj := hS (hS z914 z256 z426) (c 201 1 true false [] (vL (p 89 0))) (hS z1016 (c 40 1 true false [] (vL (ik .u64 65536))) z481)
noncomputable def z1018 : T AObj := hS (hS z912 z72 (hS z913 (c 4 0 true false [] vE) z653)) (c 243 7 true false [] z40) (hS z1017 (c 498 3 true false [] (vS (vL (i 2)) (i 2) (vL (i 0)))) z917)
noncomputable def z1019 : T AObj := hS (hS (hL z297) z196 (hL z1009)) (c 243 7 true false [] z146) (hS (hL z439) (c 73 3 true false [] (vS (vL (i 1)) (ik .u8 1) (vL (st [])))) hE)
noncomputable def z1020 : T AObj := hS (hS z944 (c 201 1 true false [] (vL (p 93 0))) z1019) (c 443 1 true false [] (vL (fn 285 [] [(p 43 0)]))) (hS z945 (c 136 10 true false [] z19) z707)
noncomputable def z1021 : T AObj := hS (hS z936 (c 365 3 true false [] (vS (vL (st [97, 98])) (i 0) (vL (sn 0 0)))) z942) (c 243 7 true false [] z40) z1020
noncomputable def z1022 : T AObj := hS (hS (hS z1015 (c 243 7 true false [] z40) z909) z910 z1018) (c 136 10 true false [] z19) (hS z933 (om [(en (ik .u64 65537) (ag [(i 0), (st [97, 120, 98]), (sn 0 0)]) 1)] 2) z1021)
noncomputable def z1023 : T AObj := hS z1003 (c 26 8 true false [] z22) (hS (hS z1008 (c 26 8 true false [] z22) z1013) (c 26 8 true false [] z22) z1022)
noncomputable def z_6 : M := .done bt ⟨z1023 , 867⟩
theorem seg5 : runM Tryz.prog xt 1500 z_5 = some z_6 := by kernel_rfl
end Go.Proofs.YtmhgicpjeeegcaaGreat.Closed.we
