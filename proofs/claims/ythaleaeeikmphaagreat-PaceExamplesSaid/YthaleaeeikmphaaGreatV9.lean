/- The program's Bound. -/
import Derived.Test.YthaleaeeikmphaaGreatV8
import Derived.Deep.RegionLaw
namespace Go.Proofs.YthaleaeeikmphaaGreat
open Go.RowKit
open Pace (InR readI readV readE)
theorem kindK_none {n : Nat} (h : ¬ (5 ≤ n ∧ n ≤ 16)) : kindK n = 0 := by
  unfold kindK
  split <;> first | rfl | (exfalso; omega)
theorem fnIs_ok {w : World} {b n : Nat} {fv : Value} {ok : Bool} (h : 5 ≤ n ∧ n ≤ 16) : FnIs w b n fv ok → ok = true := by
  obtain rfl | rfl | rfl | rfl | rfl | rfl | rfl | rfl | rfl | rfl | rfl | rfl : n = 5 ∨ n = 6 ∨ n = 7 ∨ n = 8 ∨ n = 9 ∨ n = 10 ∨ n = 11 ∨ n = 12 ∨ n = 13 ∨ n = 14 ∨ n = 15 ∨ n = 16 := by omega
  all_goals (intro h; exact h.1)
theorem TabAt.look {w : World} {base : Nat} {m : Value} (h : TabAt w base m) (n : Nat) (k : Int) (hk : k = n) (hn : n < 256) :
    ∃ fv ok, (Instr.lookup 46 m (.int .u8 k) true).run Tryz.prog w = .ok (.tuple #[fv, .bool ok]) w ∧ FnIs w base n fv ok := by subst hk; exact h n hn
theorem fn_const {w : World} {b n : Nat} {fv : Value} {ok : Bool} (hk : kindK n = 1) (h : FnIs w b n fv ok) :
    ok = true ∧ ∃ c, b ≤ c ∧ c < w.heap.size ∧ fv = .func (.func 36) #[] #[.pointer (some ⟨c, 0, none⟩)] ∧ w.cell? ⟨c, 0, none⟩ = some (.int .i64 (constK n : Nat)) := by
  unfold FnIs at h; rw [hk] at h; exact h
theorem fn_37 {w : World} {b n : Nat} {fv : Value} {ok : Bool} (hk : kindK n = 2) (h : FnIs w b n fv ok) : ok = true ∧ fv = .func (.func 37) #[] #[] := by
  unfold FnIs at h; rw [hk] at h; exact h
theorem fn_38 {w : World} {b n : Nat} {fv : Value} {ok : Bool} (hk : kindK n = 3) (h : FnIs w b n fv ok) : ok = true ∧ fv = .func (.func 38) #[] #[] := by
  unfold FnIs at h; rw [hk] at h; exact h
theorem fn_39 {w : World} {b n : Nat} {fv : Value} {ok : Bool} (hk : kindK n = 4) (h : FnIs w b n fv ok) : ok = true ∧ fv = .func (.func 39) #[] #[] := by
  unfold FnIs at h; rw [hk] at h; exact h
set_option maxHeartbeats 0 in
set_option maxRecDepth 100000 in
theorem boundFn (c0 c1 c2 c3 c4 c5 c6 : Int) (c7 : ByteArray) (o0 o1 o2 o3 o4 o5 : Int) (o6 : ByteArray) (h : Int) (w : World) (hm : c7.size ≤ 9223372036854775807) (k0 : 0 ≤ o0) (k1 : o0 ≤ 255) :
    Calls Tryz.prog 8 #[cfgVal ⟨c0, c1, c2, c3, c4, c5, c6, c7⟩, opVal ⟨o0, o1, o2, o3, o4, o5, o6⟩, .int .i64 h] w (BoundRes ⟨c0, c1, c2, c3, c4, c5, c6, c7⟩ o0 o3 h w) := by
  have HCK := Lib.hid (fun W : World => checkFn c0 c1 c2 c3 c4 c5 c6 c7 W hm)
  have HT0 := Lib.hid (boxes_start w c0 c1 c2 c3 c4 c5 c6 c7 o0 o1 o2 o3 o4 o5 o6)
  have HTB := Lib.hid bounds_tab
  generalize hce : cfgErr ⟨c0, c1, c2, c3, c4, c5, c6, c7⟩ = ce at *
  have HCE := Lib.hid hce
  by_cases e0 : ce = 0
  · subst e0
    have hfd := cfg_feed hce
    simp only at hfd
    have hf1 := hfd.1
    have hf2 := hfd.2
    clear hce hfd
    by_cases hk : 5 ≤ o0 ∧ o0 ≤ 16
    · by_cases hh : 0 ≤ h ∧ h ≤ 16
      · have HK := Lib.hid hk
        have HH := Lib.hid hh
        have hh1 := hh.1
        have hh2 := hh.2
        have hcase : o0 = 5 ∨ o0 = 6 ∨ o0 = 7 ∨ o0 = 8 ∨ o0 = 9 ∨ o0 = 10 ∨ o0 = 11 ∨ o0 = 12 ∨ o0 = 13 ∨ o0 = 14 ∨ o0 = 15 ∨ o0 = 16 := by omega
        clear hk hh k0 k1
        obtain rfl | rfl | rfl | rfl | rfl | rfl | rfl | rfl | rfl | rfl | rfl | rfl := hcase
        · go_enter Tryz.func8, Tryz.ntmps8
          go_wp2_with ((with_reducible refine (HCK.out _).mono ?_); rintro e w1 ⟨rfl, hb1⟩; have HT1 := Lib.hid (boxes_go HT0.out.1 HT0.out.2.1 HT0.out.2.2 hb1); have q1c0 := HT1.out.1.pc0; have q1c1 := HT1.out.1.pc1; have q1c2 := HT1.out.1.pc2; have q1c3 := HT1.out.1.pc3; have q1c4 := HT1.out.1.pc4; have q1c5 := HT1.out.1.pc5; have q1c6 := HT1.out.1.pc6; have q1c7 := HT1.out.1.pc7; have q1o0 := HT1.out.1.po0; have q1o1 := HT1.out.1.po1; have q1o2 := HT1.out.1.po2; have q1o3 := HT1.out.1.po3; have q1o4 := HT1.out.1.po4; have q1o5 := HT1.out.1.po5; have q1o6 := HT1.out.1.po6)
          have HT1d : Hid (Boxes w1.drew w.heap.size c0 c1 c2 c3 c4 c5 c6 c7 5 o1 o2 o3 o4 o5 o6 ∧ Below w.heap.size w w1.drew ∧ w.heap.size + 1 < w1.drew.heap.size) := ⟨⟨HT1.out.1.hc, HT1.out.1.ho⟩, HT1.out.2.1.drew, HT1.out.2.2⟩
          have qd0 := HT1d.out.1.po0
          go_region_law (first
            | (go_simp; go_at_call 18; refine (HTB.out _).mono ?_; rintro e w2 ⟨m, rfl, htab, hb2⟩; have HT2 := Lib.hid (boxes_go HT1d.out.1 HT1d.out.2.1 HT1d.out.2.2 hb2); have q2c0 := HT2.out.1.pc0; have q2c1 := HT2.out.1.pc1; have q2c2 := HT2.out.1.pc2; have q2c3 := HT2.out.1.pc3; have q2c4 := HT2.out.1.pc4; have q2c5 := HT2.out.1.pc5; have q2c6 := HT2.out.1.pc6; have q2c7 := HT2.out.1.pc7; have q2o0 := HT2.out.1.po0; have q2o1 := HT2.out.1.po1; have q2o2 := HT2.out.1.po2; have q2o3 := HT2.out.1.po3; have q2o4 := HT2.out.1.po4; have q2o5 := HT2.out.1.po5; have q2o6 := HT2.out.1.po6; (obtain ⟨fv, ok, hrun, hfn⟩ := htab.look 5 5 rfl (by decide)); (obtain ⟨rfl, cc, hc1, hc2, rfl, hcell⟩ := fn_const rfl hfn); have HF := Lib.hid (f36Fn c0 c1 c2 c3 c4 c5 c6 c7 5 o1 o2 o3 o4 o5 o6 h 4 cc w2 (fun x y => ((below_two w2 x y).cell (p := ⟨cc, 0, none⟩) hc2).trans hcell))))
          all_goals
            go_wp2_with ((with_reducible refine HF.out.mono ?_); rintro e w3 ⟨rfl, hb3⟩)
            go_ret2
            exact bound_ok HCE.out HK.out HH.out rfl (below_then HT2.out.2.1 (by have := HT2.out.2.2; omega) hb3)
        · go_enter Tryz.func8, Tryz.ntmps8
          go_wp2_with ((with_reducible refine (HCK.out _).mono ?_); rintro e w1 ⟨rfl, hb1⟩; have HT1 := Lib.hid (boxes_go HT0.out.1 HT0.out.2.1 HT0.out.2.2 hb1); have q1c0 := HT1.out.1.pc0; have q1c1 := HT1.out.1.pc1; have q1c2 := HT1.out.1.pc2; have q1c3 := HT1.out.1.pc3; have q1c4 := HT1.out.1.pc4; have q1c5 := HT1.out.1.pc5; have q1c6 := HT1.out.1.pc6; have q1c7 := HT1.out.1.pc7; have q1o0 := HT1.out.1.po0; have q1o1 := HT1.out.1.po1; have q1o2 := HT1.out.1.po2; have q1o3 := HT1.out.1.po3; have q1o4 := HT1.out.1.po4; have q1o5 := HT1.out.1.po5; have q1o6 := HT1.out.1.po6)
          have HT1d : Hid (Boxes w1.drew w.heap.size c0 c1 c2 c3 c4 c5 c6 c7 6 o1 o2 o3 o4 o5 o6 ∧ Below w.heap.size w w1.drew ∧ w.heap.size + 1 < w1.drew.heap.size) := ⟨⟨HT1.out.1.hc, HT1.out.1.ho⟩, HT1.out.2.1.drew, HT1.out.2.2⟩
          have qd0 := HT1d.out.1.po0
          go_region_law (first
            | (go_simp; go_at_call 18; refine (HTB.out _).mono ?_; rintro e w2 ⟨m, rfl, htab, hb2⟩; have HT2 := Lib.hid (boxes_go HT1d.out.1 HT1d.out.2.1 HT1d.out.2.2 hb2); have q2c0 := HT2.out.1.pc0; have q2c1 := HT2.out.1.pc1; have q2c2 := HT2.out.1.pc2; have q2c3 := HT2.out.1.pc3; have q2c4 := HT2.out.1.pc4; have q2c5 := HT2.out.1.pc5; have q2c6 := HT2.out.1.pc6; have q2c7 := HT2.out.1.pc7; have q2o0 := HT2.out.1.po0; have q2o1 := HT2.out.1.po1; have q2o2 := HT2.out.1.po2; have q2o3 := HT2.out.1.po3; have q2o4 := HT2.out.1.po4; have q2o5 := HT2.out.1.po5; have q2o6 := HT2.out.1.po6; (obtain ⟨fv, ok, hrun, hfn⟩ := htab.look 6 6 rfl (by decide)); (obtain ⟨rfl, cc, hc1, hc2, rfl, hcell⟩ := fn_const rfl hfn); have HF := Lib.hid (f36Fn c0 c1 c2 c3 c4 c5 c6 c7 6 o1 o2 o3 o4 o5 o6 h 1 cc w2 (fun x y => ((below_two w2 x y).cell (p := ⟨cc, 0, none⟩) hc2).trans hcell))))
          all_goals
            go_wp2_with ((with_reducible refine HF.out.mono ?_); rintro e w3 ⟨rfl, hb3⟩)
            go_ret2
            exact bound_ok HCE.out HK.out HH.out rfl (below_then HT2.out.2.1 (by have := HT2.out.2.2; omega) hb3)
        · go_enter Tryz.func8, Tryz.ntmps8
          go_wp2_with ((with_reducible refine (HCK.out _).mono ?_); rintro e w1 ⟨rfl, hb1⟩; have HT1 := Lib.hid (boxes_go HT0.out.1 HT0.out.2.1 HT0.out.2.2 hb1); have q1c0 := HT1.out.1.pc0; have q1c1 := HT1.out.1.pc1; have q1c2 := HT1.out.1.pc2; have q1c3 := HT1.out.1.pc3; have q1c4 := HT1.out.1.pc4; have q1c5 := HT1.out.1.pc5; have q1c6 := HT1.out.1.pc6; have q1c7 := HT1.out.1.pc7; have q1o0 := HT1.out.1.po0; have q1o1 := HT1.out.1.po1; have q1o2 := HT1.out.1.po2; have q1o3 := HT1.out.1.po3; have q1o4 := HT1.out.1.po4; have q1o5 := HT1.out.1.po5; have q1o6 := HT1.out.1.po6)
          have HT1d : Hid (Boxes w1.drew w.heap.size c0 c1 c2 c3 c4 c5 c6 c7 7 o1 o2 o3 o4 o5 o6 ∧ Below w.heap.size w w1.drew ∧ w.heap.size + 1 < w1.drew.heap.size) := ⟨⟨HT1.out.1.hc, HT1.out.1.ho⟩, HT1.out.2.1.drew, HT1.out.2.2⟩
          have qd0 := HT1d.out.1.po0
          go_region_law (first
            | (go_simp; go_at_call 18; refine (HTB.out _).mono ?_; rintro e w2 ⟨m, rfl, htab, hb2⟩; have HT2 := Lib.hid (boxes_go HT1d.out.1 HT1d.out.2.1 HT1d.out.2.2 hb2); have q2c0 := HT2.out.1.pc0; have q2c1 := HT2.out.1.pc1; have q2c2 := HT2.out.1.pc2; have q2c3 := HT2.out.1.pc3; have q2c4 := HT2.out.1.pc4; have q2c5 := HT2.out.1.pc5; have q2c6 := HT2.out.1.pc6; have q2c7 := HT2.out.1.pc7; have q2o0 := HT2.out.1.po0; have q2o1 := HT2.out.1.po1; have q2o2 := HT2.out.1.po2; have q2o3 := HT2.out.1.po3; have q2o4 := HT2.out.1.po4; have q2o5 := HT2.out.1.po5; have q2o6 := HT2.out.1.po6; (obtain ⟨fv, ok, hrun, hfn⟩ := htab.look 7 7 rfl (by decide)); (obtain ⟨rfl, rfl⟩ := fn_38 rfl hfn); have HF := Lib.hid (f38Fn c0 c1 c2 c3 c4 c5 c6 c7 7 o1 o2 o3 o4 o5 o6 h w2 hh1 hh2)))
          all_goals
            go_wp2_with ((with_reducible refine HF.out.mono ?_); rintro e w3 ⟨rfl, hb3⟩)
            go_ret2
            exact bound_ok HCE.out HK.out HH.out rfl (below_then HT2.out.2.1 (by have := HT2.out.2.2; omega) hb3)
        · go_enter Tryz.func8, Tryz.ntmps8
          go_wp2_with ((with_reducible refine (HCK.out _).mono ?_); rintro e w1 ⟨rfl, hb1⟩; have HT1 := Lib.hid (boxes_go HT0.out.1 HT0.out.2.1 HT0.out.2.2 hb1); have q1c0 := HT1.out.1.pc0; have q1c1 := HT1.out.1.pc1; have q1c2 := HT1.out.1.pc2; have q1c3 := HT1.out.1.pc3; have q1c4 := HT1.out.1.pc4; have q1c5 := HT1.out.1.pc5; have q1c6 := HT1.out.1.pc6; have q1c7 := HT1.out.1.pc7; have q1o0 := HT1.out.1.po0; have q1o1 := HT1.out.1.po1; have q1o2 := HT1.out.1.po2; have q1o3 := HT1.out.1.po3; have q1o4 := HT1.out.1.po4; have q1o5 := HT1.out.1.po5; have q1o6 := HT1.out.1.po6)
          have HT1d : Hid (Boxes w1.drew w.heap.size c0 c1 c2 c3 c4 c5 c6 c7 8 o1 o2 o3 o4 o5 o6 ∧ Below w.heap.size w w1.drew ∧ w.heap.size + 1 < w1.drew.heap.size) := ⟨⟨HT1.out.1.hc, HT1.out.1.ho⟩, HT1.out.2.1.drew, HT1.out.2.2⟩
          have qd0 := HT1d.out.1.po0
          go_region_law (first
            | (go_simp; go_at_call 18; refine (HTB.out _).mono ?_; rintro e w2 ⟨m, rfl, htab, hb2⟩; have HT2 := Lib.hid (boxes_go HT1d.out.1 HT1d.out.2.1 HT1d.out.2.2 hb2); have q2c0 := HT2.out.1.pc0; have q2c1 := HT2.out.1.pc1; have q2c2 := HT2.out.1.pc2; have q2c3 := HT2.out.1.pc3; have q2c4 := HT2.out.1.pc4; have q2c5 := HT2.out.1.pc5; have q2c6 := HT2.out.1.pc6; have q2c7 := HT2.out.1.pc7; have q2o0 := HT2.out.1.po0; have q2o1 := HT2.out.1.po1; have q2o2 := HT2.out.1.po2; have q2o3 := HT2.out.1.po3; have q2o4 := HT2.out.1.po4; have q2o5 := HT2.out.1.po5; have q2o6 := HT2.out.1.po6; (obtain ⟨fv, ok, hrun, hfn⟩ := htab.look 8 8 rfl (by decide)); (obtain ⟨rfl, rfl⟩ := fn_37 rfl hfn); have HF := Lib.hid (f37Fn c0 c1 c2 c3 c4 c5 c6 c7 8 o1 o2 o3 o4 o5 o6 h w2 hh1 hh2)))
          all_goals
            go_wp2_with ((with_reducible refine HF.out.mono ?_); rintro e w3 ⟨rfl, hb3⟩)
            go_ret2
            exact bound_ok HCE.out HK.out HH.out rfl (below_then HT2.out.2.1 (by have := HT2.out.2.2; omega) hb3)
        · go_enter Tryz.func8, Tryz.ntmps8
          go_wp2_with ((with_reducible refine (HCK.out _).mono ?_); rintro e w1 ⟨rfl, hb1⟩; have HT1 := Lib.hid (boxes_go HT0.out.1 HT0.out.2.1 HT0.out.2.2 hb1); have q1c0 := HT1.out.1.pc0; have q1c1 := HT1.out.1.pc1; have q1c2 := HT1.out.1.pc2; have q1c3 := HT1.out.1.pc3; have q1c4 := HT1.out.1.pc4; have q1c5 := HT1.out.1.pc5; have q1c6 := HT1.out.1.pc6; have q1c7 := HT1.out.1.pc7; have q1o0 := HT1.out.1.po0; have q1o1 := HT1.out.1.po1; have q1o2 := HT1.out.1.po2; have q1o3 := HT1.out.1.po3; have q1o4 := HT1.out.1.po4; have q1o5 := HT1.out.1.po5; have q1o6 := HT1.out.1.po6)
          have HT1d : Hid (Boxes w1.drew w.heap.size c0 c1 c2 c3 c4 c5 c6 c7 9 o1 o2 o3 o4 o5 o6 ∧ Below w.heap.size w w1.drew ∧ w.heap.size + 1 < w1.drew.heap.size) := ⟨⟨HT1.out.1.hc, HT1.out.1.ho⟩, HT1.out.2.1.drew, HT1.out.2.2⟩
          have qd0 := HT1d.out.1.po0
          go_region_law (first
            | (go_simp; go_at_call 18; refine (HTB.out _).mono ?_; rintro e w2 ⟨m, rfl, htab, hb2⟩; have HT2 := Lib.hid (boxes_go HT1d.out.1 HT1d.out.2.1 HT1d.out.2.2 hb2); have q2c0 := HT2.out.1.pc0; have q2c1 := HT2.out.1.pc1; have q2c2 := HT2.out.1.pc2; have q2c3 := HT2.out.1.pc3; have q2c4 := HT2.out.1.pc4; have q2c5 := HT2.out.1.pc5; have q2c6 := HT2.out.1.pc6; have q2c7 := HT2.out.1.pc7; have q2o0 := HT2.out.1.po0; have q2o1 := HT2.out.1.po1; have q2o2 := HT2.out.1.po2; have q2o3 := HT2.out.1.po3; have q2o4 := HT2.out.1.po4; have q2o5 := HT2.out.1.po5; have q2o6 := HT2.out.1.po6; (obtain ⟨fv, ok, hrun, hfn⟩ := htab.look 9 9 rfl (by decide)); (obtain ⟨rfl, rfl⟩ := fn_37 rfl hfn); have HF := Lib.hid (f37Fn c0 c1 c2 c3 c4 c5 c6 c7 9 o1 o2 o3 o4 o5 o6 h w2 hh1 hh2)))
          all_goals
            go_wp2_with ((with_reducible refine HF.out.mono ?_); rintro e w3 ⟨rfl, hb3⟩)
            go_ret2
            exact bound_ok HCE.out HK.out HH.out rfl (below_then HT2.out.2.1 (by have := HT2.out.2.2; omega) hb3)
        · go_enter Tryz.func8, Tryz.ntmps8
          go_wp2_with ((with_reducible refine (HCK.out _).mono ?_); rintro e w1 ⟨rfl, hb1⟩; have HT1 := Lib.hid (boxes_go HT0.out.1 HT0.out.2.1 HT0.out.2.2 hb1); have q1c0 := HT1.out.1.pc0; have q1c1 := HT1.out.1.pc1; have q1c2 := HT1.out.1.pc2; have q1c3 := HT1.out.1.pc3; have q1c4 := HT1.out.1.pc4; have q1c5 := HT1.out.1.pc5; have q1c6 := HT1.out.1.pc6; have q1c7 := HT1.out.1.pc7; have q1o0 := HT1.out.1.po0; have q1o1 := HT1.out.1.po1; have q1o2 := HT1.out.1.po2; have q1o3 := HT1.out.1.po3; have q1o4 := HT1.out.1.po4; have q1o5 := HT1.out.1.po5; have q1o6 := HT1.out.1.po6)
          have HT1d : Hid (Boxes w1.drew w.heap.size c0 c1 c2 c3 c4 c5 c6 c7 10 o1 o2 o3 o4 o5 o6 ∧ Below w.heap.size w w1.drew ∧ w.heap.size + 1 < w1.drew.heap.size) := ⟨⟨HT1.out.1.hc, HT1.out.1.ho⟩, HT1.out.2.1.drew, HT1.out.2.2⟩
          have qd0 := HT1d.out.1.po0
          go_region_law (first
            | (go_simp; go_at_call 18; refine (HTB.out _).mono ?_; rintro e w2 ⟨m, rfl, htab, hb2⟩; have HT2 := Lib.hid (boxes_go HT1d.out.1 HT1d.out.2.1 HT1d.out.2.2 hb2); have q2c0 := HT2.out.1.pc0; have q2c1 := HT2.out.1.pc1; have q2c2 := HT2.out.1.pc2; have q2c3 := HT2.out.1.pc3; have q2c4 := HT2.out.1.pc4; have q2c5 := HT2.out.1.pc5; have q2c6 := HT2.out.1.pc6; have q2c7 := HT2.out.1.pc7; have q2o0 := HT2.out.1.po0; have q2o1 := HT2.out.1.po1; have q2o2 := HT2.out.1.po2; have q2o3 := HT2.out.1.po3; have q2o4 := HT2.out.1.po4; have q2o5 := HT2.out.1.po5; have q2o6 := HT2.out.1.po6; (obtain ⟨fv, ok, hrun, hfn⟩ := htab.look 10 10 rfl (by decide)); (obtain ⟨rfl, cc, hc1, hc2, rfl, hcell⟩ := fn_const rfl hfn); have HF := Lib.hid (f36Fn c0 c1 c2 c3 c4 c5 c6 c7 10 o1 o2 o3 o4 o5 o6 h 1 cc w2 (fun x y => ((below_two w2 x y).cell (p := ⟨cc, 0, none⟩) hc2).trans hcell))))
          all_goals
            go_wp2_with ((with_reducible refine HF.out.mono ?_); rintro e w3 ⟨rfl, hb3⟩)
            go_ret2
            exact bound_ok HCE.out HK.out HH.out rfl (below_then HT2.out.2.1 (by have := HT2.out.2.2; omega) hb3)
        · go_enter Tryz.func8, Tryz.ntmps8
          go_wp2_with ((with_reducible refine (HCK.out _).mono ?_); rintro e w1 ⟨rfl, hb1⟩; have HT1 := Lib.hid (boxes_go HT0.out.1 HT0.out.2.1 HT0.out.2.2 hb1); have q1c0 := HT1.out.1.pc0; have q1c1 := HT1.out.1.pc1; have q1c2 := HT1.out.1.pc2; have q1c3 := HT1.out.1.pc3; have q1c4 := HT1.out.1.pc4; have q1c5 := HT1.out.1.pc5; have q1c6 := HT1.out.1.pc6; have q1c7 := HT1.out.1.pc7; have q1o0 := HT1.out.1.po0; have q1o1 := HT1.out.1.po1; have q1o2 := HT1.out.1.po2; have q1o3 := HT1.out.1.po3; have q1o4 := HT1.out.1.po4; have q1o5 := HT1.out.1.po5; have q1o6 := HT1.out.1.po6)
          have HT1d : Hid (Boxes w1.drew w.heap.size c0 c1 c2 c3 c4 c5 c6 c7 11 o1 o2 o3 o4 o5 o6 ∧ Below w.heap.size w w1.drew ∧ w.heap.size + 1 < w1.drew.heap.size) := ⟨⟨HT1.out.1.hc, HT1.out.1.ho⟩, HT1.out.2.1.drew, HT1.out.2.2⟩
          have qd0 := HT1d.out.1.po0
          go_region_law (first
            | (go_simp; go_at_call 18; refine (HTB.out _).mono ?_; rintro e w2 ⟨m, rfl, htab, hb2⟩; have HT2 := Lib.hid (boxes_go HT1d.out.1 HT1d.out.2.1 HT1d.out.2.2 hb2); have q2c0 := HT2.out.1.pc0; have q2c1 := HT2.out.1.pc1; have q2c2 := HT2.out.1.pc2; have q2c3 := HT2.out.1.pc3; have q2c4 := HT2.out.1.pc4; have q2c5 := HT2.out.1.pc5; have q2c6 := HT2.out.1.pc6; have q2c7 := HT2.out.1.pc7; have q2o0 := HT2.out.1.po0; have q2o1 := HT2.out.1.po1; have q2o2 := HT2.out.1.po2; have q2o3 := HT2.out.1.po3; have q2o4 := HT2.out.1.po4; have q2o5 := HT2.out.1.po5; have q2o6 := HT2.out.1.po6; (obtain ⟨fv, ok, hrun, hfn⟩ := htab.look 11 11 rfl (by decide)); (obtain ⟨rfl, cc, hc1, hc2, rfl, hcell⟩ := fn_const rfl hfn); have HF := Lib.hid (f36Fn c0 c1 c2 c3 c4 c5 c6 c7 11 o1 o2 o3 o4 o5 o6 h 1 cc w2 (fun x y => ((below_two w2 x y).cell (p := ⟨cc, 0, none⟩) hc2).trans hcell))))
          all_goals
            go_wp2_with ((with_reducible refine HF.out.mono ?_); rintro e w3 ⟨rfl, hb3⟩)
            go_ret2
            exact bound_ok HCE.out HK.out HH.out rfl (below_then HT2.out.2.1 (by have := HT2.out.2.2; omega) hb3)
        · go_enter Tryz.func8, Tryz.ntmps8
          go_wp2_with ((with_reducible refine (HCK.out _).mono ?_); rintro e w1 ⟨rfl, hb1⟩; have HT1 := Lib.hid (boxes_go HT0.out.1 HT0.out.2.1 HT0.out.2.2 hb1); have q1c0 := HT1.out.1.pc0; have q1c1 := HT1.out.1.pc1; have q1c2 := HT1.out.1.pc2; have q1c3 := HT1.out.1.pc3; have q1c4 := HT1.out.1.pc4; have q1c5 := HT1.out.1.pc5; have q1c6 := HT1.out.1.pc6; have q1c7 := HT1.out.1.pc7; have q1o0 := HT1.out.1.po0; have q1o1 := HT1.out.1.po1; have q1o2 := HT1.out.1.po2; have q1o3 := HT1.out.1.po3; have q1o4 := HT1.out.1.po4; have q1o5 := HT1.out.1.po5; have q1o6 := HT1.out.1.po6)
          have HT1d : Hid (Boxes w1.drew w.heap.size c0 c1 c2 c3 c4 c5 c6 c7 12 o1 o2 o3 o4 o5 o6 ∧ Below w.heap.size w w1.drew ∧ w.heap.size + 1 < w1.drew.heap.size) := ⟨⟨HT1.out.1.hc, HT1.out.1.ho⟩, HT1.out.2.1.drew, HT1.out.2.2⟩
          have qd0 := HT1d.out.1.po0
          go_region_law (first
            | (go_simp; go_at_call 18; refine (HTB.out _).mono ?_; rintro e w2 ⟨m, rfl, htab, hb2⟩; have HT2 := Lib.hid (boxes_go HT1d.out.1 HT1d.out.2.1 HT1d.out.2.2 hb2); have q2c0 := HT2.out.1.pc0; have q2c1 := HT2.out.1.pc1; have q2c2 := HT2.out.1.pc2; have q2c3 := HT2.out.1.pc3; have q2c4 := HT2.out.1.pc4; have q2c5 := HT2.out.1.pc5; have q2c6 := HT2.out.1.pc6; have q2c7 := HT2.out.1.pc7; have q2o0 := HT2.out.1.po0; have q2o1 := HT2.out.1.po1; have q2o2 := HT2.out.1.po2; have q2o3 := HT2.out.1.po3; have q2o4 := HT2.out.1.po4; have q2o5 := HT2.out.1.po5; have q2o6 := HT2.out.1.po6; (obtain ⟨fv, ok, hrun, hfn⟩ := htab.look 12 12 rfl (by decide)); (obtain ⟨rfl, rfl⟩ := fn_38 rfl hfn); have HF := Lib.hid (f38Fn c0 c1 c2 c3 c4 c5 c6 c7 12 o1 o2 o3 o4 o5 o6 h w2 hh1 hh2)))
          all_goals
            go_wp2_with ((with_reducible refine HF.out.mono ?_); rintro e w3 ⟨rfl, hb3⟩)
            go_ret2
            exact bound_ok HCE.out HK.out HH.out rfl (below_then HT2.out.2.1 (by have := HT2.out.2.2; omega) hb3)
        · go_enter Tryz.func8, Tryz.ntmps8
          go_wp2_with ((with_reducible refine (HCK.out _).mono ?_); rintro e w1 ⟨rfl, hb1⟩; have HT1 := Lib.hid (boxes_go HT0.out.1 HT0.out.2.1 HT0.out.2.2 hb1); have q1c0 := HT1.out.1.pc0; have q1c1 := HT1.out.1.pc1; have q1c2 := HT1.out.1.pc2; have q1c3 := HT1.out.1.pc3; have q1c4 := HT1.out.1.pc4; have q1c5 := HT1.out.1.pc5; have q1c6 := HT1.out.1.pc6; have q1c7 := HT1.out.1.pc7; have q1o0 := HT1.out.1.po0; have q1o1 := HT1.out.1.po1; have q1o2 := HT1.out.1.po2; have q1o3 := HT1.out.1.po3; have q1o4 := HT1.out.1.po4; have q1o5 := HT1.out.1.po5; have q1o6 := HT1.out.1.po6)
          have HT1d : Hid (Boxes w1.drew w.heap.size c0 c1 c2 c3 c4 c5 c6 c7 13 o1 o2 o3 o4 o5 o6 ∧ Below w.heap.size w w1.drew ∧ w.heap.size + 1 < w1.drew.heap.size) := ⟨⟨HT1.out.1.hc, HT1.out.1.ho⟩, HT1.out.2.1.drew, HT1.out.2.2⟩
          have qd0 := HT1d.out.1.po0
          go_region_law (first
            | (go_simp; go_at_call 18; refine (HTB.out _).mono ?_; rintro e w2 ⟨m, rfl, htab, hb2⟩; have HT2 := Lib.hid (boxes_go HT1d.out.1 HT1d.out.2.1 HT1d.out.2.2 hb2); have q2c0 := HT2.out.1.pc0; have q2c1 := HT2.out.1.pc1; have q2c2 := HT2.out.1.pc2; have q2c3 := HT2.out.1.pc3; have q2c4 := HT2.out.1.pc4; have q2c5 := HT2.out.1.pc5; have q2c6 := HT2.out.1.pc6; have q2c7 := HT2.out.1.pc7; have q2o0 := HT2.out.1.po0; have q2o1 := HT2.out.1.po1; have q2o2 := HT2.out.1.po2; have q2o3 := HT2.out.1.po3; have q2o4 := HT2.out.1.po4; have q2o5 := HT2.out.1.po5; have q2o6 := HT2.out.1.po6; (obtain ⟨fv, ok, hrun, hfn⟩ := htab.look 13 13 rfl (by decide)); (obtain ⟨rfl, cc, hc1, hc2, rfl, hcell⟩ := fn_const rfl hfn); have HF := Lib.hid (f36Fn c0 c1 c2 c3 c4 c5 c6 c7 13 o1 o2 o3 o4 o5 o6 h 1 cc w2 (fun x y => ((below_two w2 x y).cell (p := ⟨cc, 0, none⟩) hc2).trans hcell))))
          all_goals
            go_wp2_with ((with_reducible refine HF.out.mono ?_); rintro e w3 ⟨rfl, hb3⟩)
            go_ret2
            exact bound_ok HCE.out HK.out HH.out rfl (below_then HT2.out.2.1 (by have := HT2.out.2.2; omega) hb3)
        · go_enter Tryz.func8, Tryz.ntmps8
          go_wp2_with ((with_reducible refine (HCK.out _).mono ?_); rintro e w1 ⟨rfl, hb1⟩; have HT1 := Lib.hid (boxes_go HT0.out.1 HT0.out.2.1 HT0.out.2.2 hb1); have q1c0 := HT1.out.1.pc0; have q1c1 := HT1.out.1.pc1; have q1c2 := HT1.out.1.pc2; have q1c3 := HT1.out.1.pc3; have q1c4 := HT1.out.1.pc4; have q1c5 := HT1.out.1.pc5; have q1c6 := HT1.out.1.pc6; have q1c7 := HT1.out.1.pc7; have q1o0 := HT1.out.1.po0; have q1o1 := HT1.out.1.po1; have q1o2 := HT1.out.1.po2; have q1o3 := HT1.out.1.po3; have q1o4 := HT1.out.1.po4; have q1o5 := HT1.out.1.po5; have q1o6 := HT1.out.1.po6)
          have HT1d : Hid (Boxes w1.drew w.heap.size c0 c1 c2 c3 c4 c5 c6 c7 14 o1 o2 o3 o4 o5 o6 ∧ Below w.heap.size w w1.drew ∧ w.heap.size + 1 < w1.drew.heap.size) := ⟨⟨HT1.out.1.hc, HT1.out.1.ho⟩, HT1.out.2.1.drew, HT1.out.2.2⟩
          have qd0 := HT1d.out.1.po0
          go_region_law (first
            | (go_simp; go_at_call 18; refine (HTB.out _).mono ?_; rintro e w2 ⟨m, rfl, htab, hb2⟩; have HT2 := Lib.hid (boxes_go HT1d.out.1 HT1d.out.2.1 HT1d.out.2.2 hb2); have q2c0 := HT2.out.1.pc0; have q2c1 := HT2.out.1.pc1; have q2c2 := HT2.out.1.pc2; have q2c3 := HT2.out.1.pc3; have q2c4 := HT2.out.1.pc4; have q2c5 := HT2.out.1.pc5; have q2c6 := HT2.out.1.pc6; have q2c7 := HT2.out.1.pc7; have q2o0 := HT2.out.1.po0; have q2o1 := HT2.out.1.po1; have q2o2 := HT2.out.1.po2; have q2o3 := HT2.out.1.po3; have q2o4 := HT2.out.1.po4; have q2o5 := HT2.out.1.po5; have q2o6 := HT2.out.1.po6; (obtain ⟨fv, ok, hrun, hfn⟩ := htab.look 14 14 rfl (by decide)); (obtain ⟨rfl, cc, hc1, hc2, rfl, hcell⟩ := fn_const rfl hfn); have HF := Lib.hid (f36Fn c0 c1 c2 c3 c4 c5 c6 c7 14 o1 o2 o3 o4 o5 o6 h 3 cc w2 (fun x y => ((below_two w2 x y).cell (p := ⟨cc, 0, none⟩) hc2).trans hcell))))
          all_goals
            go_wp2_with ((with_reducible refine HF.out.mono ?_); rintro e w3 ⟨rfl, hb3⟩)
            go_ret2
            exact bound_ok HCE.out HK.out HH.out rfl (below_then HT2.out.2.1 (by have := HT2.out.2.2; omega) hb3)
        · go_enter Tryz.func8, Tryz.ntmps8
          go_wp2_with ((with_reducible refine (HCK.out _).mono ?_); rintro e w1 ⟨rfl, hb1⟩; have HT1 := Lib.hid (boxes_go HT0.out.1 HT0.out.2.1 HT0.out.2.2 hb1); have q1c0 := HT1.out.1.pc0; have q1c1 := HT1.out.1.pc1; have q1c2 := HT1.out.1.pc2; have q1c3 := HT1.out.1.pc3; have q1c4 := HT1.out.1.pc4; have q1c5 := HT1.out.1.pc5; have q1c6 := HT1.out.1.pc6; have q1c7 := HT1.out.1.pc7; have q1o0 := HT1.out.1.po0; have q1o1 := HT1.out.1.po1; have q1o2 := HT1.out.1.po2; have q1o3 := HT1.out.1.po3; have q1o4 := HT1.out.1.po4; have q1o5 := HT1.out.1.po5; have q1o6 := HT1.out.1.po6)
          have HT1d : Hid (Boxes w1.drew w.heap.size c0 c1 c2 c3 c4 c5 c6 c7 15 o1 o2 o3 o4 o5 o6 ∧ Below w.heap.size w w1.drew ∧ w.heap.size + 1 < w1.drew.heap.size) := ⟨⟨HT1.out.1.hc, HT1.out.1.ho⟩, HT1.out.2.1.drew, HT1.out.2.2⟩
          have qd0 := HT1d.out.1.po0
          go_region_law (first
            | (go_simp; go_at_call 18; refine (HTB.out _).mono ?_; rintro e w2 ⟨m, rfl, htab, hb2⟩; have HT2 := Lib.hid (boxes_go HT1d.out.1 HT1d.out.2.1 HT1d.out.2.2 hb2); have q2c0 := HT2.out.1.pc0; have q2c1 := HT2.out.1.pc1; have q2c2 := HT2.out.1.pc2; have q2c3 := HT2.out.1.pc3; have q2c4 := HT2.out.1.pc4; have q2c5 := HT2.out.1.pc5; have q2c6 := HT2.out.1.pc6; have q2c7 := HT2.out.1.pc7; have q2o0 := HT2.out.1.po0; have q2o1 := HT2.out.1.po1; have q2o2 := HT2.out.1.po2; have q2o3 := HT2.out.1.po3; have q2o4 := HT2.out.1.po4; have q2o5 := HT2.out.1.po5; have q2o6 := HT2.out.1.po6; (obtain ⟨fv, ok, hrun, hfn⟩ := htab.look 15 15 rfl (by decide)); (obtain ⟨rfl, rfl⟩ := fn_39 rfl hfn); have HF := Lib.hid (f39Fn c0 c1 c2 c3 c4 c5 c6 c7 15 o1 o2 o3 o4 o5 o6 h w2 hf1 hf2)))
          all_goals
            go_wp2_with ((with_reducible refine HF.out.mono ?_); rintro e w3 ⟨rfl, hb3⟩)
            go_ret2
            exact bound_ok HCE.out HK.out HH.out rfl (below_then HT2.out.2.1 (by have := HT2.out.2.2; omega) hb3)
        · go_enter Tryz.func8, Tryz.ntmps8
          go_wp2_with ((with_reducible refine (HCK.out _).mono ?_); rintro e w1 ⟨rfl, hb1⟩; have HT1 := Lib.hid (boxes_go HT0.out.1 HT0.out.2.1 HT0.out.2.2 hb1); have q1c0 := HT1.out.1.pc0; have q1c1 := HT1.out.1.pc1; have q1c2 := HT1.out.1.pc2; have q1c3 := HT1.out.1.pc3; have q1c4 := HT1.out.1.pc4; have q1c5 := HT1.out.1.pc5; have q1c6 := HT1.out.1.pc6; have q1c7 := HT1.out.1.pc7; have q1o0 := HT1.out.1.po0; have q1o1 := HT1.out.1.po1; have q1o2 := HT1.out.1.po2; have q1o3 := HT1.out.1.po3; have q1o4 := HT1.out.1.po4; have q1o5 := HT1.out.1.po5; have q1o6 := HT1.out.1.po6)
          have HT1d : Hid (Boxes w1.drew w.heap.size c0 c1 c2 c3 c4 c5 c6 c7 16 o1 o2 o3 o4 o5 o6 ∧ Below w.heap.size w w1.drew ∧ w.heap.size + 1 < w1.drew.heap.size) := ⟨⟨HT1.out.1.hc, HT1.out.1.ho⟩, HT1.out.2.1.drew, HT1.out.2.2⟩
          have qd0 := HT1d.out.1.po0
          go_region_law (first
            | (go_simp; go_at_call 18; refine (HTB.out _).mono ?_; rintro e w2 ⟨m, rfl, htab, hb2⟩; have HT2 := Lib.hid (boxes_go HT1d.out.1 HT1d.out.2.1 HT1d.out.2.2 hb2); have q2c0 := HT2.out.1.pc0; have q2c1 := HT2.out.1.pc1; have q2c2 := HT2.out.1.pc2; have q2c3 := HT2.out.1.pc3; have q2c4 := HT2.out.1.pc4; have q2c5 := HT2.out.1.pc5; have q2c6 := HT2.out.1.pc6; have q2c7 := HT2.out.1.pc7; have q2o0 := HT2.out.1.po0; have q2o1 := HT2.out.1.po1; have q2o2 := HT2.out.1.po2; have q2o3 := HT2.out.1.po3; have q2o4 := HT2.out.1.po4; have q2o5 := HT2.out.1.po5; have q2o6 := HT2.out.1.po6; (obtain ⟨fv, ok, hrun, hfn⟩ := htab.look 16 16 rfl (by decide)); (obtain ⟨rfl, cc, hc1, hc2, rfl, hcell⟩ := fn_const rfl hfn); have HF := Lib.hid (f36Fn c0 c1 c2 c3 c4 c5 c6 c7 16 o1 o2 o3 o4 o5 o6 h 1 cc w2 (fun x y => ((below_two w2 x y).cell (p := ⟨cc, 0, none⟩) hc2).trans hcell))))
          all_goals
            go_wp2_with ((with_reducible refine HF.out.mono ?_); rintro e w3 ⟨rfl, hb3⟩)
            go_ret2
            exact bound_ok HCE.out HK.out HH.out rfl (below_then HT2.out.2.1 (by have := HT2.out.2.2; omega) hb3)
      · have HK := Lib.hid hk
        have HH := Lib.hid hh
        have hn : ∃ n : Nat, o0 = n ∧ n < 256 := ⟨o0.toNat, by omega, by omega⟩
        obtain ⟨n, rfl, hn⟩ := hn
        have hkn : 5 ≤ n ∧ n ≤ 16 := by omega
        have HKN := Lib.hid hkn
        clear hkn
        have hx : h < 0 ∨ (0 ≤ h ∧ 16 < h) := by omega
        clear hk hh
        rcases hx with hx | ⟨hx, hx2⟩
        · go_enter Tryz.func8, Tryz.ntmps8
          go_wp2_with ((with_reducible refine (HCK.out _).mono ?_); rintro e w1 ⟨rfl, hb1⟩; have HT1 := Lib.hid (boxes_go HT0.out.1 HT0.out.2.1 HT0.out.2.2 hb1); have q1c0 := HT1.out.1.pc0; have q1c1 := HT1.out.1.pc1; have q1c2 := HT1.out.1.pc2; have q1c3 := HT1.out.1.pc3; have q1c4 := HT1.out.1.pc4; have q1c5 := HT1.out.1.pc5; have q1c6 := HT1.out.1.pc6; have q1c7 := HT1.out.1.pc7; have q1o0 := HT1.out.1.po0; have q1o1 := HT1.out.1.po1; have q1o2 := HT1.out.1.po2; have q1o3 := HT1.out.1.po3; have q1o4 := HT1.out.1.po4; have q1o5 := HT1.out.1.po5; have q1o6 := HT1.out.1.po6)
          have HT1d : Hid (Boxes w1.drew w.heap.size c0 c1 c2 c3 c4 c5 c6 c7 (n : Int) o1 o2 o3 o4 o5 o6 ∧ Below w.heap.size w w1.drew ∧ w.heap.size + 1 < w1.drew.heap.size) := ⟨⟨HT1.out.1.hc, HT1.out.1.ho⟩, HT1.out.2.1.drew, HT1.out.2.2⟩
          have qd0 := HT1d.out.1.po0
          go_region_law (first
            | (go_simp; go_at_call 18; refine (HTB.out _).mono ?_; rintro e w2 ⟨m, rfl, htab, hb2⟩; have HT2 := Lib.hid (boxes_go HT1d.out.1 HT1d.out.2.1 HT1d.out.2.2 hb2); have q2c0 := HT2.out.1.pc0; have q2c1 := HT2.out.1.pc1; have q2c2 := HT2.out.1.pc2; have q2c3 := HT2.out.1.pc3; have q2c4 := HT2.out.1.pc4; have q2c5 := HT2.out.1.pc5; have q2c6 := HT2.out.1.pc6; have q2c7 := HT2.out.1.pc7; have q2o0 := HT2.out.1.po0; have q2o1 := HT2.out.1.po1; have q2o2 := HT2.out.1.po2; have q2o3 := HT2.out.1.po3; have q2o4 := HT2.out.1.po4; have q2o5 := HT2.out.1.po5; have q2o6 := HT2.out.1.po6; (obtain ⟨fv, ok, hrun, hfn⟩ := htab n hn); (obtain rfl := fnIs_ok HKN.out hfn)))
          all_goals
            go_wp2
            go_ret2
            exact bound_range HCE.out HK.out HH.out HT2.out.2.1
        · go_enter Tryz.func8, Tryz.ntmps8
          go_wp2_with ((with_reducible refine (HCK.out _).mono ?_); rintro e w1 ⟨rfl, hb1⟩; have HT1 := Lib.hid (boxes_go HT0.out.1 HT0.out.2.1 HT0.out.2.2 hb1); have q1c0 := HT1.out.1.pc0; have q1c1 := HT1.out.1.pc1; have q1c2 := HT1.out.1.pc2; have q1c3 := HT1.out.1.pc3; have q1c4 := HT1.out.1.pc4; have q1c5 := HT1.out.1.pc5; have q1c6 := HT1.out.1.pc6; have q1c7 := HT1.out.1.pc7; have q1o0 := HT1.out.1.po0; have q1o1 := HT1.out.1.po1; have q1o2 := HT1.out.1.po2; have q1o3 := HT1.out.1.po3; have q1o4 := HT1.out.1.po4; have q1o5 := HT1.out.1.po5; have q1o6 := HT1.out.1.po6)
          have HT1d : Hid (Boxes w1.drew w.heap.size c0 c1 c2 c3 c4 c5 c6 c7 (n : Int) o1 o2 o3 o4 o5 o6 ∧ Below w.heap.size w w1.drew ∧ w.heap.size + 1 < w1.drew.heap.size) := ⟨⟨HT1.out.1.hc, HT1.out.1.ho⟩, HT1.out.2.1.drew, HT1.out.2.2⟩
          have qd0 := HT1d.out.1.po0
          go_region_law (first
            | (go_simp; go_at_call 18; refine (HTB.out _).mono ?_; rintro e w2 ⟨m, rfl, htab, hb2⟩; have HT2 := Lib.hid (boxes_go HT1d.out.1 HT1d.out.2.1 HT1d.out.2.2 hb2); have q2c0 := HT2.out.1.pc0; have q2c1 := HT2.out.1.pc1; have q2c2 := HT2.out.1.pc2; have q2c3 := HT2.out.1.pc3; have q2c4 := HT2.out.1.pc4; have q2c5 := HT2.out.1.pc5; have q2c6 := HT2.out.1.pc6; have q2c7 := HT2.out.1.pc7; have q2o0 := HT2.out.1.po0; have q2o1 := HT2.out.1.po1; have q2o2 := HT2.out.1.po2; have q2o3 := HT2.out.1.po3; have q2o4 := HT2.out.1.po4; have q2o5 := HT2.out.1.po5; have q2o6 := HT2.out.1.po6; (obtain ⟨fv, ok, hrun, hfn⟩ := htab n hn); (obtain rfl := fnIs_ok HKN.out hfn)))
          all_goals
            go_wp2
            go_ret2
            exact bound_range HCE.out HK.out HH.out HT2.out.2.1
    · have HK := Lib.hid hk
      have hn : ∃ n : Nat, o0 = n ∧ n < 256 := ⟨o0.toNat, by omega, by omega⟩
      obtain ⟨n, rfl, hn⟩ := hn
      have HKN := Lib.hid (kindK_none (n := n) (by omega))
      clear hk
      go_enter Tryz.func8, Tryz.ntmps8
      go_wp2_with ((with_reducible refine (HCK.out _).mono ?_); rintro e w1 ⟨rfl, hb1⟩; have HT1 := Lib.hid (boxes_go HT0.out.1 HT0.out.2.1 HT0.out.2.2 hb1); have q1c0 := HT1.out.1.pc0; have q1c1 := HT1.out.1.pc1; have q1c2 := HT1.out.1.pc2; have q1c3 := HT1.out.1.pc3; have q1c4 := HT1.out.1.pc4; have q1c5 := HT1.out.1.pc5; have q1c6 := HT1.out.1.pc6; have q1c7 := HT1.out.1.pc7; have q1o0 := HT1.out.1.po0; have q1o1 := HT1.out.1.po1; have q1o2 := HT1.out.1.po2; have q1o3 := HT1.out.1.po3; have q1o4 := HT1.out.1.po4; have q1o5 := HT1.out.1.po5; have q1o6 := HT1.out.1.po6)
      have HT1d : Hid (Boxes w1.drew w.heap.size c0 c1 c2 c3 c4 c5 c6 c7 (n : Int) o1 o2 o3 o4 o5 o6 ∧ Below w.heap.size w w1.drew ∧ w.heap.size + 1 < w1.drew.heap.size) := ⟨⟨HT1.out.1.hc, HT1.out.1.ho⟩, HT1.out.2.1.drew, HT1.out.2.2⟩
      have qd0 := HT1d.out.1.po0
      go_region_law (first
        | (go_simp; go_at_call 18; refine (HTB.out _).mono ?_; rintro e w2 ⟨m, rfl, htab, hb2⟩; have HT2 := Lib.hid (boxes_go HT1d.out.1 HT1d.out.2.1 HT1d.out.2.2 hb2); have q2o0 := HT2.out.1.po0; (obtain ⟨fv, ok, hrun, hfn⟩ := htab n hn); unfold FnIs at hfn; rw [HKN.out] at hfn; simp only at hfn; subst hfn))
      all_goals
        go_wp2
        go_ret2
        exact bound_kind HCE.out HK.out HT2.out.2.1
  · have hne : (ce != 0) = true := by simpa using e0
    clear hce
    go_enter Tryz.func8, Tryz.ntmps8
    go_wp2_with ((with_reducible refine (HCK.out _).mono ?_); rintro e w1 ⟨rfl, hb1⟩; have HT1 := Lib.hid (boxes_go HT0.out.1 HT0.out.2.1 HT0.out.2.2 hb1); have q1c0 := HT1.out.1.pc0; have q1c1 := HT1.out.1.pc1; have q1c2 := HT1.out.1.pc2; have q1c3 := HT1.out.1.pc3; have q1c4 := HT1.out.1.pc4; have q1c5 := HT1.out.1.pc5; have q1c6 := HT1.out.1.pc6; have q1c7 := HT1.out.1.pc7; have q1o0 := HT1.out.1.po0; have q1o1 := HT1.out.1.po1; have q1o2 := HT1.out.1.po2; have q1o3 := HT1.out.1.po3; have q1o4 := HT1.out.1.po4; have q1o5 := HT1.out.1.po5; have q1o6 := HT1.out.1.po6)
    go_ret2
    exact bound_bad HCE.out e0 HT1.out.2.1
end Go.Proofs.YthaleaeeikmphaaGreat
