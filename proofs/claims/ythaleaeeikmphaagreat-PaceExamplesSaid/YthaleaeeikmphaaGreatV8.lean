/- The reference's Bound. -/
import Derived.Test.YthaleaeeikmphaaGreatV7
namespace Go.Proofs.YthaleaeeikmphaaGreat
open Go.RowKit
open Pace (InR readI readV readE)
/-- What Bound hands back. -/
def BoundRes (c : CfgV) (k num h : Int) (w : World) (e : Ending) (w' : World) : Prop :=
  e = .returned (.tuple #[.int .i64 (boundV c k num h), .int .i64 (boundE c k h)]) ∧ Below w.heap.size w w'
theorem boxes_start (w : World) (c0 c1 c2 c3 c4 c5 c6 : Int) (c7 : ByteArray) (o0 o1 o2 o3 o4 o5 : Int) (o6 : ByteArray) :
    Boxes ((w.alloc (Obj.cells #[.int .i64 c0, .int .u64 c1, .int .i64 c2, .int .i64 c3, .int .i64 c4, .int .i64 c5, .int .i64 c6, .string c7] 24)).alloc (Obj.cells #[.int .u8 o0, .int .i64 o1, .int .i64 o2, .int .i64 o3, .int .u32 o4, .int .u8 o5, .string o6] 27)) w.heap.size c0 c1 c2 c3 c4 c5 c6 c7 o0 o1 o2 o3 o4 o5 o6 ∧
    Below w.heap.size w ((w.alloc (Obj.cells #[.int .i64 c0, .int .u64 c1, .int .i64 c2, .int .i64 c3, .int .i64 c4, .int .i64 c5, .int .i64 c6, .string c7] 24)).alloc (Obj.cells #[.int .u8 o0, .int .i64 o1, .int .i64 o2, .int .i64 o3, .int .u32 o4, .int .u8 o5, .string o6] 27)) ∧
    w.heap.size + 1 < ((w.alloc (Obj.cells #[.int .i64 c0, .int .u64 c1, .int .i64 c2, .int .i64 c3, .int .i64 c4, .int .i64 c5, .int .i64 c6, .string c7] 24)).alloc (Obj.cells #[.int .u8 o0, .int .i64 o1, .int .i64 o2, .int .i64 o3, .int .u32 o4, .int .u8 o5, .string o6] 27)).heap.size :=
  ⟨boxes_new w c0 c1 c2 c3 c4 c5 c6 c7 o0 o1 o2 o3 o4 o5 o6, below_two w _ _, by simp⟩
theorem boxes_go {w w1 w2 : World} {b : Nat} {c0 c1 c2 c3 c4 c5 c6 o0 o1 o2 o3 o4 o5 : Int} {c7 o6 : ByteArray} (h : Boxes w1 b c0 c1 c2 c3 c4 c5 c6 c7 o0 o1 o2 o3 o4 o5 o6) (h0 : Below b w w1) (hs : b + 1 < w1.heap.size) (hb : Below w1.heap.size w1 w2) :
    Boxes w2 b c0 c1 c2 c3 c4 c5 c6 c7 o0 o1 o2 o3 o4 o5 o6 ∧ Below b w w2 ∧ b + 1 < w2.heap.size := ⟨h.below hb hs, below_then h0 (by omega) hb, by have := hb.size; omega⟩
section
variable {c : CfgV} {k num h : Int} {w w' : World}
theorem bound_bad {e : Int} (he : cfgErr c = e) (h0 : e ≠ 0) (hw : Below w.heap.size w w') : BoundRes c k num h w (.returned (.tuple #[.int .i64 0, .int .i64 e])) w' := by
  have e1 : boundE c k h = e := by unfold boundE; rw [he, if_pos h0]
  refine ⟨?_, hw⟩
  unfold boundV; rw [e1, if_pos h0]
theorem bound_kind (he : cfgErr c = 0) (h1 : ¬ (5 ≤ k ∧ k ≤ 16)) (hw : Below w.heap.size w w') : BoundRes c k num h w (.returned (.tuple #[.int .i64 0, .int .i64 2])) w' := by
  have e1 : boundE c k h = 2 := by unfold boundE; rw [he, if_neg (by omega), if_pos h1]
  refine ⟨?_, hw⟩
  unfold boundV; rw [e1, if_pos (by omega)]
theorem bound_range (he : cfgErr c = 0) (h1 : 5 ≤ k ∧ k ≤ 16) (h2 : ¬ (0 ≤ h ∧ h ≤ 16)) (hw : Below w.heap.size w w') : BoundRes c k num h w (.returned (.tuple #[.int .i64 0, .int .i64 3])) w' := by
  have e1 : boundE c k h = 3 := by unfold boundE; rw [he, if_neg (by omega), if_neg (by omega), if_pos h2]
  refine ⟨?_, hw⟩
  unfold boundV; rw [e1, if_pos (by omega)]
theorem bound_ok {v : Int} (he : cfgErr c = 0) (h1 : 5 ≤ k ∧ k ≤ 16) (h2 : 0 ≤ h ∧ h ≤ 16) (hv : boundI k num c.feed h = v) (hw : Below w.heap.size w w') : BoundRes c k num h w (.returned (.tuple #[.int .i64 v, .int .i64 0])) w' := by
  have e1 : boundE c k h = 0 := by unfold boundE; rw [he, if_neg (by omega), if_neg (by omega), if_neg (by omega)]
  refine ⟨?_, hw⟩
  unfold boundV; rw [e1, if_neg (by omega), hv]
theorem cfg_feed (he : cfgErr c = 0) : 1 ≤ c.feed ∧ c.feed ≤ 64 := by
  unfold cfgErr at he
  split at he
  · rename_i h; exact h.2.2.2.2
  · omega
end
theorem boundedFn (o0 o1 o2 o3 o4 o5 : Int) (o6 : ByteArray) (w : World) (h0 : 0 ≤ o0) (h1 : o0 ≤ 255) :
    Calls Tryz.prog 20 #[opVal ⟨o0, o1, o2, o3, o4, o5, o6⟩] w fun e w' => e = .returned (.bool (decide (5 ≤ o0 ∧ o0 ≤ 16))) ∧ Below w.heap.size w w' := by
  have HB := Lib.hid (below_box w)
  by_cases a : 5 ≤ o0
  · by_cases b : o0 ≤ 16
    · rw [decide_eq_true ⟨a, b⟩]
      go_enter Tryz.func20, Tryz.ntmps20
      go_wp2
      go_ret
      exact ⟨rfl, HB.out _⟩
    · rw [decide_eq_false (show ¬ (5 ≤ o0 ∧ o0 ≤ 16) by omega)]
      go_enter Tryz.func20, Tryz.ntmps20
      go_wp2
      go_ret
      exact ⟨rfl, HB.out _⟩
  · rw [decide_eq_false (show ¬ (5 ≤ o0 ∧ o0 ≤ 16) by omega)]
    go_enter Tryz.func20, Tryz.ntmps20
    go_wp2
    go_ret
    exact ⟨rfl, HB.out _⟩
set_option maxHeartbeats 0 in
set_option maxRecDepth 100000 in
theorem boundRef (c0 c1 c2 c3 c4 c5 c6 : Int) (c7 : ByteArray) (o0 o1 o2 o3 o4 o5 : Int) (o6 : ByteArray) (h : Int) (w : World) (hm : c7.size ≤ 9223372036854775807) (k0 : 0 ≤ o0) (k1 : o0 ≤ 255) :
    Calls Tryz.prog 9 #[cfgVal ⟨c0, c1, c2, c3, c4, c5, c6, c7⟩, opVal ⟨o0, o1, o2, o3, o4, o5, o6⟩, .int .i64 h] w (BoundRes ⟨c0, c1, c2, c3, c4, c5, c6, c7⟩ o0 o3 h w) := by
  have HCK := Lib.hid (fun W : World => checkRef c0 c1 c2 c3 c4 c5 c6 c7 W hm)
  have HBD := Lib.hid (fun W : World => boundedFn o0 o1 o2 o3 o4 o5 o6 W k0 k1)
  have HT0 := Lib.hid (boxes_start w c0 c1 c2 c3 c4 c5 c6 c7 o0 o1 o2 o3 o4 o5 o6)
  generalize hce : cfgErr ⟨c0, c1, c2, c3, c4, c5, c6, c7⟩ = ce at *
  have HCE := Lib.hid hce
  by_cases e0 : ce = 0
  · subst e0
    have hfd := cfg_feed hce
    simp only at hfd
    have hf1 := hfd.1
    have hf2 := hfd.2
    clear hce hfd
    by_cases hk : 5 ≤ o0 ∧ o0 ≤ 16
    · rw [decide_eq_true hk] at HBD
      by_cases hh : 0 ≤ h ∧ h ≤ 16
      · have hh1 := hh.1
        have hh2 := hh.2
        have HK := Lib.hid hk
        have HH := Lib.hid hh
        have hcb := clamp_bd o3
        have hr := fun W : World => readRef h (clamp o3) W ⟨hh, hcb.1, hcb.2⟩
        have hcl : max 0 (min o3 65536) = clamp o3 := by unfold clamp; (repeat' split) <;> omega
        have HR := Lib.hid hr
        clear hr hcb hk hh
        have hcase : o0 = 5 ∨ o0 = 14 ∨ o0 = 15 ∨ o0 = 8 ∨ o0 = 9 ∨ o0 = 7 ∨ o0 = 12 ∨ (o0 = 6 ∨ o0 = 10 ∨ o0 = 11 ∨ o0 = 13 ∨ o0 = 16) := by have := HK.out; omega
        clear k0 k1
        obtain rfl | rfl | rfl | rfl | rfl | rfl | rfl | hcase := hcase
        · go_enter Tryz.func9, Tryz.ntmps9
          go_wp2_with (first | ((with_reducible refine (HCK.out _).mono ?_); rintro e w1 ⟨rfl, hb1⟩; have HT1 := Lib.hid (boxes_go HT0.out.1 HT0.out.2.1 HT0.out.2.2 hb1); have q1c0 := HT1.out.1.pc0; have q1c1 := HT1.out.1.pc1; have q1c2 := HT1.out.1.pc2; have q1c3 := HT1.out.1.pc3; have q1c4 := HT1.out.1.pc4; have q1c5 := HT1.out.1.pc5; have q1c6 := HT1.out.1.pc6; have q1c7 := HT1.out.1.pc7; have q1o0 := HT1.out.1.po0; have q1o1 := HT1.out.1.po1; have q1o2 := HT1.out.1.po2; have q1o3 := HT1.out.1.po3; have q1o4 := HT1.out.1.po4; have q1o5 := HT1.out.1.po5; have q1o6 := HT1.out.1.po6) | ((with_reducible refine (HBD.out _).mono ?_); rintro e w2 ⟨rfl, hb2⟩; have HT2 := Lib.hid (boxes_go HT1.out.1 HT1.out.2.1 HT1.out.2.2 hb2); have q2c0 := HT2.out.1.pc0; have q2c1 := HT2.out.1.pc1; have q2c2 := HT2.out.1.pc2; have q2c3 := HT2.out.1.pc3; have q2c4 := HT2.out.1.pc4; have q2c5 := HT2.out.1.pc5; have q2c6 := HT2.out.1.pc6; have q2c7 := HT2.out.1.pc7; have q2o0 := HT2.out.1.po0; have q2o1 := HT2.out.1.po1; have q2o2 := HT2.out.1.po2; have q2o3 := HT2.out.1.po3; have q2o4 := HT2.out.1.po4; have q2o5 := HT2.out.1.po5; have q2o6 := HT2.out.1.po6) | ((with_reducible refine (HR.out _).mono ?_); rintro e w3 ⟨rfl, rfl⟩))
          go_ret2
          exact bound_ok HCE.out HK.out HH.out rfl HT2.out.2.1
        · go_enter Tryz.func9, Tryz.ntmps9
          go_wp2_with (first | ((with_reducible refine (HCK.out _).mono ?_); rintro e w1 ⟨rfl, hb1⟩; have HT1 := Lib.hid (boxes_go HT0.out.1 HT0.out.2.1 HT0.out.2.2 hb1); have q1c0 := HT1.out.1.pc0; have q1c1 := HT1.out.1.pc1; have q1c2 := HT1.out.1.pc2; have q1c3 := HT1.out.1.pc3; have q1c4 := HT1.out.1.pc4; have q1c5 := HT1.out.1.pc5; have q1c6 := HT1.out.1.pc6; have q1c7 := HT1.out.1.pc7; have q1o0 := HT1.out.1.po0; have q1o1 := HT1.out.1.po1; have q1o2 := HT1.out.1.po2; have q1o3 := HT1.out.1.po3; have q1o4 := HT1.out.1.po4; have q1o5 := HT1.out.1.po5; have q1o6 := HT1.out.1.po6) | ((with_reducible refine (HBD.out _).mono ?_); rintro e w2 ⟨rfl, hb2⟩; have HT2 := Lib.hid (boxes_go HT1.out.1 HT1.out.2.1 HT1.out.2.2 hb2); have q2c0 := HT2.out.1.pc0; have q2c1 := HT2.out.1.pc1; have q2c2 := HT2.out.1.pc2; have q2c3 := HT2.out.1.pc3; have q2c4 := HT2.out.1.pc4; have q2c5 := HT2.out.1.pc5; have q2c6 := HT2.out.1.pc6; have q2c7 := HT2.out.1.pc7; have q2o0 := HT2.out.1.po0; have q2o1 := HT2.out.1.po1; have q2o2 := HT2.out.1.po2; have q2o3 := HT2.out.1.po3; have q2o4 := HT2.out.1.po4; have q2o5 := HT2.out.1.po5; have q2o6 := HT2.out.1.po6) | ((with_reducible refine (HR.out _).mono ?_); rintro e w3 ⟨rfl, rfl⟩))
          go_ret2
          exact bound_ok HCE.out HK.out HH.out rfl HT2.out.2.1
        · go_enter Tryz.func9, Tryz.ntmps9
          go_wp2_with (first | ((with_reducible refine (HCK.out _).mono ?_); rintro e w1 ⟨rfl, hb1⟩; have HT1 := Lib.hid (boxes_go HT0.out.1 HT0.out.2.1 HT0.out.2.2 hb1); have q1c0 := HT1.out.1.pc0; have q1c1 := HT1.out.1.pc1; have q1c2 := HT1.out.1.pc2; have q1c3 := HT1.out.1.pc3; have q1c4 := HT1.out.1.pc4; have q1c5 := HT1.out.1.pc5; have q1c6 := HT1.out.1.pc6; have q1c7 := HT1.out.1.pc7; have q1o0 := HT1.out.1.po0; have q1o1 := HT1.out.1.po1; have q1o2 := HT1.out.1.po2; have q1o3 := HT1.out.1.po3; have q1o4 := HT1.out.1.po4; have q1o5 := HT1.out.1.po5; have q1o6 := HT1.out.1.po6) | ((with_reducible refine (HBD.out _).mono ?_); rintro e w2 ⟨rfl, hb2⟩; have HT2 := Lib.hid (boxes_go HT1.out.1 HT1.out.2.1 HT1.out.2.2 hb2); have q2c0 := HT2.out.1.pc0; have q2c1 := HT2.out.1.pc1; have q2c2 := HT2.out.1.pc2; have q2c3 := HT2.out.1.pc3; have q2c4 := HT2.out.1.pc4; have q2c5 := HT2.out.1.pc5; have q2c6 := HT2.out.1.pc6; have q2c7 := HT2.out.1.pc7; have q2o0 := HT2.out.1.po0; have q2o1 := HT2.out.1.po1; have q2o2 := HT2.out.1.po2; have q2o3 := HT2.out.1.po3; have q2o4 := HT2.out.1.po4; have q2o5 := HT2.out.1.po5; have q2o6 := HT2.out.1.po6) | ((with_reducible refine (HR.out _).mono ?_); rintro e w3 ⟨rfl, rfl⟩))
          go_ret2
          exact bound_ok HCE.out HK.out HH.out rfl HT2.out.2.1
        · go_enter Tryz.func9, Tryz.ntmps9
          go_wp2_with (first | ((with_reducible refine (HCK.out _).mono ?_); rintro e w1 ⟨rfl, hb1⟩; have HT1 := Lib.hid (boxes_go HT0.out.1 HT0.out.2.1 HT0.out.2.2 hb1); have q1c0 := HT1.out.1.pc0; have q1c1 := HT1.out.1.pc1; have q1c2 := HT1.out.1.pc2; have q1c3 := HT1.out.1.pc3; have q1c4 := HT1.out.1.pc4; have q1c5 := HT1.out.1.pc5; have q1c6 := HT1.out.1.pc6; have q1c7 := HT1.out.1.pc7; have q1o0 := HT1.out.1.po0; have q1o1 := HT1.out.1.po1; have q1o2 := HT1.out.1.po2; have q1o3 := HT1.out.1.po3; have q1o4 := HT1.out.1.po4; have q1o5 := HT1.out.1.po5; have q1o6 := HT1.out.1.po6) | ((with_reducible refine (HBD.out _).mono ?_); rintro e w2 ⟨rfl, hb2⟩; have HT2 := Lib.hid (boxes_go HT1.out.1 HT1.out.2.1 HT1.out.2.2 hb2); have q2c0 := HT2.out.1.pc0; have q2c1 := HT2.out.1.pc1; have q2c2 := HT2.out.1.pc2; have q2c3 := HT2.out.1.pc3; have q2c4 := HT2.out.1.pc4; have q2c5 := HT2.out.1.pc5; have q2c6 := HT2.out.1.pc6; have q2c7 := HT2.out.1.pc7; have q2o0 := HT2.out.1.po0; have q2o1 := HT2.out.1.po1; have q2o2 := HT2.out.1.po2; have q2o3 := HT2.out.1.po3; have q2o4 := HT2.out.1.po4; have q2o5 := HT2.out.1.po5; have q2o6 := HT2.out.1.po6) | ((with_reducible refine (HR.out _).mono ?_); rintro e w3 ⟨rfl, rfl⟩))
          go_ret2
          exact bound_ok HCE.out HK.out HH.out rfl HT2.out.2.1
        · go_enter Tryz.func9, Tryz.ntmps9
          go_wp2_with (first | ((with_reducible refine (HCK.out _).mono ?_); rintro e w1 ⟨rfl, hb1⟩; have HT1 := Lib.hid (boxes_go HT0.out.1 HT0.out.2.1 HT0.out.2.2 hb1); have q1c0 := HT1.out.1.pc0; have q1c1 := HT1.out.1.pc1; have q1c2 := HT1.out.1.pc2; have q1c3 := HT1.out.1.pc3; have q1c4 := HT1.out.1.pc4; have q1c5 := HT1.out.1.pc5; have q1c6 := HT1.out.1.pc6; have q1c7 := HT1.out.1.pc7; have q1o0 := HT1.out.1.po0; have q1o1 := HT1.out.1.po1; have q1o2 := HT1.out.1.po2; have q1o3 := HT1.out.1.po3; have q1o4 := HT1.out.1.po4; have q1o5 := HT1.out.1.po5; have q1o6 := HT1.out.1.po6) | ((with_reducible refine (HBD.out _).mono ?_); rintro e w2 ⟨rfl, hb2⟩; have HT2 := Lib.hid (boxes_go HT1.out.1 HT1.out.2.1 HT1.out.2.2 hb2); have q2c0 := HT2.out.1.pc0; have q2c1 := HT2.out.1.pc1; have q2c2 := HT2.out.1.pc2; have q2c3 := HT2.out.1.pc3; have q2c4 := HT2.out.1.pc4; have q2c5 := HT2.out.1.pc5; have q2c6 := HT2.out.1.pc6; have q2c7 := HT2.out.1.pc7; have q2o0 := HT2.out.1.po0; have q2o1 := HT2.out.1.po1; have q2o2 := HT2.out.1.po2; have q2o3 := HT2.out.1.po3; have q2o4 := HT2.out.1.po4; have q2o5 := HT2.out.1.po5; have q2o6 := HT2.out.1.po6) | ((with_reducible refine (HR.out _).mono ?_); rintro e w3 ⟨rfl, rfl⟩))
          go_ret2
          exact bound_ok HCE.out HK.out HH.out rfl HT2.out.2.1
        · have hI : boundI 7 o3 c6 h = readI h (clamp o3) := rfl
          generalize readI h (clamp o3) = v at *
          have HI := Lib.hid hI
          clear hI hcl
          by_cases a : o3 ≤ 0
          · have e : clamp o3 = 0 := by unfold clamp; (repeat' split) <;> omega
            rw [e] at HR
            clear e
            go_enter Tryz.func9, Tryz.ntmps9
            go_wp2_with (first | ((with_reducible refine (HCK.out _).mono ?_); rintro e w1 ⟨rfl, hb1⟩; have HT1 := Lib.hid (boxes_go HT0.out.1 HT0.out.2.1 HT0.out.2.2 hb1); have q1c0 := HT1.out.1.pc0; have q1c1 := HT1.out.1.pc1; have q1c2 := HT1.out.1.pc2; have q1c3 := HT1.out.1.pc3; have q1c4 := HT1.out.1.pc4; have q1c5 := HT1.out.1.pc5; have q1c6 := HT1.out.1.pc6; have q1c7 := HT1.out.1.pc7; have q1o0 := HT1.out.1.po0; have q1o1 := HT1.out.1.po1; have q1o2 := HT1.out.1.po2; have q1o3 := HT1.out.1.po3; have q1o4 := HT1.out.1.po4; have q1o5 := HT1.out.1.po5; have q1o6 := HT1.out.1.po6) | ((with_reducible refine (HBD.out _).mono ?_); rintro e w2 ⟨rfl, hb2⟩; have HT2 := Lib.hid (boxes_go HT1.out.1 HT1.out.2.1 HT1.out.2.2 hb2); have q2c0 := HT2.out.1.pc0; have q2c1 := HT2.out.1.pc1; have q2c2 := HT2.out.1.pc2; have q2c3 := HT2.out.1.pc3; have q2c4 := HT2.out.1.pc4; have q2c5 := HT2.out.1.pc5; have q2c6 := HT2.out.1.pc6; have q2c7 := HT2.out.1.pc7; have q2o0 := HT2.out.1.po0; have q2o1 := HT2.out.1.po1; have q2o2 := HT2.out.1.po2; have q2o3 := HT2.out.1.po3; have q2o4 := HT2.out.1.po4; have q2o5 := HT2.out.1.po5; have q2o6 := HT2.out.1.po6) | ((with_reducible refine (HR.out _).mono ?_); rintro e w3 ⟨rfl, rfl⟩))
            go_ret2
            exact bound_ok HCE.out HK.out HH.out HI.out HT2.out.2.1
          · by_cases b : 65536 < o3
            · have e : clamp o3 = 65536 := by unfold clamp; (repeat' split) <;> omega
              rw [e] at HR
              clear e
              go_enter Tryz.func9, Tryz.ntmps9
              go_wp2_with (first | ((with_reducible refine (HCK.out _).mono ?_); rintro e w1 ⟨rfl, hb1⟩; have HT1 := Lib.hid (boxes_go HT0.out.1 HT0.out.2.1 HT0.out.2.2 hb1); have q1c0 := HT1.out.1.pc0; have q1c1 := HT1.out.1.pc1; have q1c2 := HT1.out.1.pc2; have q1c3 := HT1.out.1.pc3; have q1c4 := HT1.out.1.pc4; have q1c5 := HT1.out.1.pc5; have q1c6 := HT1.out.1.pc6; have q1c7 := HT1.out.1.pc7; have q1o0 := HT1.out.1.po0; have q1o1 := HT1.out.1.po1; have q1o2 := HT1.out.1.po2; have q1o3 := HT1.out.1.po3; have q1o4 := HT1.out.1.po4; have q1o5 := HT1.out.1.po5; have q1o6 := HT1.out.1.po6) | ((with_reducible refine (HBD.out _).mono ?_); rintro e w2 ⟨rfl, hb2⟩; have HT2 := Lib.hid (boxes_go HT1.out.1 HT1.out.2.1 HT1.out.2.2 hb2); have q2c0 := HT2.out.1.pc0; have q2c1 := HT2.out.1.pc1; have q2c2 := HT2.out.1.pc2; have q2c3 := HT2.out.1.pc3; have q2c4 := HT2.out.1.pc4; have q2c5 := HT2.out.1.pc5; have q2c6 := HT2.out.1.pc6; have q2c7 := HT2.out.1.pc7; have q2o0 := HT2.out.1.po0; have q2o1 := HT2.out.1.po1; have q2o2 := HT2.out.1.po2; have q2o3 := HT2.out.1.po3; have q2o4 := HT2.out.1.po4; have q2o5 := HT2.out.1.po5; have q2o6 := HT2.out.1.po6) | ((with_reducible refine (HR.out _).mono ?_); rintro e w3 ⟨rfl, rfl⟩))
              go_ret2
              exact bound_ok HCE.out HK.out HH.out HI.out HT2.out.2.1
            · have e : clamp o3 = o3 := by unfold clamp; (repeat' split) <;> omega
              rw [e] at HR
              clear e
              go_enter Tryz.func9, Tryz.ntmps9
              go_wp2_with (first | ((with_reducible refine (HCK.out _).mono ?_); rintro e w1 ⟨rfl, hb1⟩; have HT1 := Lib.hid (boxes_go HT0.out.1 HT0.out.2.1 HT0.out.2.2 hb1); have q1c0 := HT1.out.1.pc0; have q1c1 := HT1.out.1.pc1; have q1c2 := HT1.out.1.pc2; have q1c3 := HT1.out.1.pc3; have q1c4 := HT1.out.1.pc4; have q1c5 := HT1.out.1.pc5; have q1c6 := HT1.out.1.pc6; have q1c7 := HT1.out.1.pc7; have q1o0 := HT1.out.1.po0; have q1o1 := HT1.out.1.po1; have q1o2 := HT1.out.1.po2; have q1o3 := HT1.out.1.po3; have q1o4 := HT1.out.1.po4; have q1o5 := HT1.out.1.po5; have q1o6 := HT1.out.1.po6) | ((with_reducible refine (HBD.out _).mono ?_); rintro e w2 ⟨rfl, hb2⟩; have HT2 := Lib.hid (boxes_go HT1.out.1 HT1.out.2.1 HT1.out.2.2 hb2); have q2c0 := HT2.out.1.pc0; have q2c1 := HT2.out.1.pc1; have q2c2 := HT2.out.1.pc2; have q2c3 := HT2.out.1.pc3; have q2c4 := HT2.out.1.pc4; have q2c5 := HT2.out.1.pc5; have q2c6 := HT2.out.1.pc6; have q2c7 := HT2.out.1.pc7; have q2o0 := HT2.out.1.po0; have q2o1 := HT2.out.1.po1; have q2o2 := HT2.out.1.po2; have q2o3 := HT2.out.1.po3; have q2o4 := HT2.out.1.po4; have q2o5 := HT2.out.1.po5; have q2o6 := HT2.out.1.po6) | ((with_reducible refine (HR.out _).mono ?_); rintro e w3 ⟨rfl, rfl⟩))
              go_ret2
              exact bound_ok HCE.out HK.out HH.out HI.out HT2.out.2.1
        · have hI : boundI 12 o3 c6 h = readI h (clamp o3) := rfl
          generalize readI h (clamp o3) = v at *
          have HI := Lib.hid hI
          clear hI hcl
          by_cases a : o3 ≤ 0
          · have e : clamp o3 = 0 := by unfold clamp; (repeat' split) <;> omega
            rw [e] at HR
            clear e
            go_enter Tryz.func9, Tryz.ntmps9
            go_wp2_with (first | ((with_reducible refine (HCK.out _).mono ?_); rintro e w1 ⟨rfl, hb1⟩; have HT1 := Lib.hid (boxes_go HT0.out.1 HT0.out.2.1 HT0.out.2.2 hb1); have q1c0 := HT1.out.1.pc0; have q1c1 := HT1.out.1.pc1; have q1c2 := HT1.out.1.pc2; have q1c3 := HT1.out.1.pc3; have q1c4 := HT1.out.1.pc4; have q1c5 := HT1.out.1.pc5; have q1c6 := HT1.out.1.pc6; have q1c7 := HT1.out.1.pc7; have q1o0 := HT1.out.1.po0; have q1o1 := HT1.out.1.po1; have q1o2 := HT1.out.1.po2; have q1o3 := HT1.out.1.po3; have q1o4 := HT1.out.1.po4; have q1o5 := HT1.out.1.po5; have q1o6 := HT1.out.1.po6) | ((with_reducible refine (HBD.out _).mono ?_); rintro e w2 ⟨rfl, hb2⟩; have HT2 := Lib.hid (boxes_go HT1.out.1 HT1.out.2.1 HT1.out.2.2 hb2); have q2c0 := HT2.out.1.pc0; have q2c1 := HT2.out.1.pc1; have q2c2 := HT2.out.1.pc2; have q2c3 := HT2.out.1.pc3; have q2c4 := HT2.out.1.pc4; have q2c5 := HT2.out.1.pc5; have q2c6 := HT2.out.1.pc6; have q2c7 := HT2.out.1.pc7; have q2o0 := HT2.out.1.po0; have q2o1 := HT2.out.1.po1; have q2o2 := HT2.out.1.po2; have q2o3 := HT2.out.1.po3; have q2o4 := HT2.out.1.po4; have q2o5 := HT2.out.1.po5; have q2o6 := HT2.out.1.po6) | ((with_reducible refine (HR.out _).mono ?_); rintro e w3 ⟨rfl, rfl⟩))
            go_ret2
            exact bound_ok HCE.out HK.out HH.out HI.out HT2.out.2.1
          · by_cases b : 65536 < o3
            · have e : clamp o3 = 65536 := by unfold clamp; (repeat' split) <;> omega
              rw [e] at HR
              clear e
              go_enter Tryz.func9, Tryz.ntmps9
              go_wp2_with (first | ((with_reducible refine (HCK.out _).mono ?_); rintro e w1 ⟨rfl, hb1⟩; have HT1 := Lib.hid (boxes_go HT0.out.1 HT0.out.2.1 HT0.out.2.2 hb1); have q1c0 := HT1.out.1.pc0; have q1c1 := HT1.out.1.pc1; have q1c2 := HT1.out.1.pc2; have q1c3 := HT1.out.1.pc3; have q1c4 := HT1.out.1.pc4; have q1c5 := HT1.out.1.pc5; have q1c6 := HT1.out.1.pc6; have q1c7 := HT1.out.1.pc7; have q1o0 := HT1.out.1.po0; have q1o1 := HT1.out.1.po1; have q1o2 := HT1.out.1.po2; have q1o3 := HT1.out.1.po3; have q1o4 := HT1.out.1.po4; have q1o5 := HT1.out.1.po5; have q1o6 := HT1.out.1.po6) | ((with_reducible refine (HBD.out _).mono ?_); rintro e w2 ⟨rfl, hb2⟩; have HT2 := Lib.hid (boxes_go HT1.out.1 HT1.out.2.1 HT1.out.2.2 hb2); have q2c0 := HT2.out.1.pc0; have q2c1 := HT2.out.1.pc1; have q2c2 := HT2.out.1.pc2; have q2c3 := HT2.out.1.pc3; have q2c4 := HT2.out.1.pc4; have q2c5 := HT2.out.1.pc5; have q2c6 := HT2.out.1.pc6; have q2c7 := HT2.out.1.pc7; have q2o0 := HT2.out.1.po0; have q2o1 := HT2.out.1.po1; have q2o2 := HT2.out.1.po2; have q2o3 := HT2.out.1.po3; have q2o4 := HT2.out.1.po4; have q2o5 := HT2.out.1.po5; have q2o6 := HT2.out.1.po6) | ((with_reducible refine (HR.out _).mono ?_); rintro e w3 ⟨rfl, rfl⟩))
              go_ret2
              exact bound_ok HCE.out HK.out HH.out HI.out HT2.out.2.1
            · have e : clamp o3 = o3 := by unfold clamp; (repeat' split) <;> omega
              rw [e] at HR
              clear e
              go_enter Tryz.func9, Tryz.ntmps9
              go_wp2_with (first | ((with_reducible refine (HCK.out _).mono ?_); rintro e w1 ⟨rfl, hb1⟩; have HT1 := Lib.hid (boxes_go HT0.out.1 HT0.out.2.1 HT0.out.2.2 hb1); have q1c0 := HT1.out.1.pc0; have q1c1 := HT1.out.1.pc1; have q1c2 := HT1.out.1.pc2; have q1c3 := HT1.out.1.pc3; have q1c4 := HT1.out.1.pc4; have q1c5 := HT1.out.1.pc5; have q1c6 := HT1.out.1.pc6; have q1c7 := HT1.out.1.pc7; have q1o0 := HT1.out.1.po0; have q1o1 := HT1.out.1.po1; have q1o2 := HT1.out.1.po2; have q1o3 := HT1.out.1.po3; have q1o4 := HT1.out.1.po4; have q1o5 := HT1.out.1.po5; have q1o6 := HT1.out.1.po6) | ((with_reducible refine (HBD.out _).mono ?_); rintro e w2 ⟨rfl, hb2⟩; have HT2 := Lib.hid (boxes_go HT1.out.1 HT1.out.2.1 HT1.out.2.2 hb2); have q2c0 := HT2.out.1.pc0; have q2c1 := HT2.out.1.pc1; have q2c2 := HT2.out.1.pc2; have q2c3 := HT2.out.1.pc3; have q2c4 := HT2.out.1.pc4; have q2c5 := HT2.out.1.pc5; have q2c6 := HT2.out.1.pc6; have q2c7 := HT2.out.1.pc7; have q2o0 := HT2.out.1.po0; have q2o1 := HT2.out.1.po1; have q2o2 := HT2.out.1.po2; have q2o3 := HT2.out.1.po3; have q2o4 := HT2.out.1.po4; have q2o5 := HT2.out.1.po5; have q2o6 := HT2.out.1.po6) | ((with_reducible refine (HR.out _).mono ?_); rintro e w3 ⟨rfl, rfl⟩))
              go_ret2
              exact bound_ok HCE.out HK.out HH.out HI.out HT2.out.2.1
        · have hb : boundI o0 o3 c6 h = 1 := by unfold boundI; rw [if_neg (by omega), if_neg (by omega), if_neg (by omega), if_neg (by omega), if_neg (by omega)]
          have HI := Lib.hid hb
          clear hb
          obtain rfl | rfl | rfl | rfl | rfl := hcase
          all_goals
            go_enter Tryz.func9, Tryz.ntmps9
            go_wp2_with (first | ((with_reducible refine (HCK.out _).mono ?_); rintro e w1 ⟨rfl, hb1⟩; have HT1 := Lib.hid (boxes_go HT0.out.1 HT0.out.2.1 HT0.out.2.2 hb1); have q1c0 := HT1.out.1.pc0; have q1c1 := HT1.out.1.pc1; have q1c2 := HT1.out.1.pc2; have q1c3 := HT1.out.1.pc3; have q1c4 := HT1.out.1.pc4; have q1c5 := HT1.out.1.pc5; have q1c6 := HT1.out.1.pc6; have q1c7 := HT1.out.1.pc7; have q1o0 := HT1.out.1.po0; have q1o1 := HT1.out.1.po1; have q1o2 := HT1.out.1.po2; have q1o3 := HT1.out.1.po3; have q1o4 := HT1.out.1.po4; have q1o5 := HT1.out.1.po5; have q1o6 := HT1.out.1.po6) | ((with_reducible refine (HBD.out _).mono ?_); rintro e w2 ⟨rfl, hb2⟩; have HT2 := Lib.hid (boxes_go HT1.out.1 HT1.out.2.1 HT1.out.2.2 hb2); have q2c0 := HT2.out.1.pc0; have q2c1 := HT2.out.1.pc1; have q2c2 := HT2.out.1.pc2; have q2c3 := HT2.out.1.pc3; have q2c4 := HT2.out.1.pc4; have q2c5 := HT2.out.1.pc5; have q2c6 := HT2.out.1.pc6; have q2c7 := HT2.out.1.pc7; have q2o0 := HT2.out.1.po0; have q2o1 := HT2.out.1.po1; have q2o2 := HT2.out.1.po2; have q2o3 := HT2.out.1.po3; have q2o4 := HT2.out.1.po4; have q2o5 := HT2.out.1.po5; have q2o6 := HT2.out.1.po6))
            go_ret2
            exact bound_ok HCE.out HK.out HH.out HI.out HT2.out.2.1
      · have HK := Lib.hid hk
        have HH := Lib.hid hh
        by_cases hh1 : h < 0
        · clear hh hk
          go_enter Tryz.func9, Tryz.ntmps9
          go_wp2_with (first | ((with_reducible refine (HCK.out _).mono ?_); rintro e w1 ⟨rfl, hb1⟩; have HT1 := Lib.hid (boxes_go HT0.out.1 HT0.out.2.1 HT0.out.2.2 hb1); have q1c0 := HT1.out.1.pc0; have q1c1 := HT1.out.1.pc1; have q1c2 := HT1.out.1.pc2; have q1c3 := HT1.out.1.pc3; have q1c4 := HT1.out.1.pc4; have q1c5 := HT1.out.1.pc5; have q1c6 := HT1.out.1.pc6; have q1c7 := HT1.out.1.pc7; have q1o0 := HT1.out.1.po0; have q1o1 := HT1.out.1.po1; have q1o2 := HT1.out.1.po2; have q1o3 := HT1.out.1.po3; have q1o4 := HT1.out.1.po4; have q1o5 := HT1.out.1.po5; have q1o6 := HT1.out.1.po6) | ((with_reducible refine (HBD.out _).mono ?_); rintro e w2 ⟨rfl, hb2⟩; have HT2 := Lib.hid (boxes_go HT1.out.1 HT1.out.2.1 HT1.out.2.2 hb2); have q2c0 := HT2.out.1.pc0; have q2c1 := HT2.out.1.pc1; have q2c2 := HT2.out.1.pc2; have q2c3 := HT2.out.1.pc3; have q2c4 := HT2.out.1.pc4; have q2c5 := HT2.out.1.pc5; have q2c6 := HT2.out.1.pc6; have q2c7 := HT2.out.1.pc7; have q2o0 := HT2.out.1.po0; have q2o1 := HT2.out.1.po1; have q2o2 := HT2.out.1.po2; have q2o3 := HT2.out.1.po3; have q2o4 := HT2.out.1.po4; have q2o5 := HT2.out.1.po5; have q2o6 := HT2.out.1.po6))
          go_ret2
          exact bound_range HCE.out HK.out HH.out HT2.out.2.1
        · have hh2 : 16 < h := by omega
          have hh3 : 0 ≤ h := by omega
          clear hh hk
          go_enter Tryz.func9, Tryz.ntmps9
          go_wp2_with (first | ((with_reducible refine (HCK.out _).mono ?_); rintro e w1 ⟨rfl, hb1⟩; have HT1 := Lib.hid (boxes_go HT0.out.1 HT0.out.2.1 HT0.out.2.2 hb1); have q1c0 := HT1.out.1.pc0; have q1c1 := HT1.out.1.pc1; have q1c2 := HT1.out.1.pc2; have q1c3 := HT1.out.1.pc3; have q1c4 := HT1.out.1.pc4; have q1c5 := HT1.out.1.pc5; have q1c6 := HT1.out.1.pc6; have q1c7 := HT1.out.1.pc7; have q1o0 := HT1.out.1.po0; have q1o1 := HT1.out.1.po1; have q1o2 := HT1.out.1.po2; have q1o3 := HT1.out.1.po3; have q1o4 := HT1.out.1.po4; have q1o5 := HT1.out.1.po5; have q1o6 := HT1.out.1.po6) | ((with_reducible refine (HBD.out _).mono ?_); rintro e w2 ⟨rfl, hb2⟩; have HT2 := Lib.hid (boxes_go HT1.out.1 HT1.out.2.1 HT1.out.2.2 hb2); have q2c0 := HT2.out.1.pc0; have q2c1 := HT2.out.1.pc1; have q2c2 := HT2.out.1.pc2; have q2c3 := HT2.out.1.pc3; have q2c4 := HT2.out.1.pc4; have q2c5 := HT2.out.1.pc5; have q2c6 := HT2.out.1.pc6; have q2c7 := HT2.out.1.pc7; have q2o0 := HT2.out.1.po0; have q2o1 := HT2.out.1.po1; have q2o2 := HT2.out.1.po2; have q2o3 := HT2.out.1.po3; have q2o4 := HT2.out.1.po4; have q2o5 := HT2.out.1.po5; have q2o6 := HT2.out.1.po6))
          go_ret2
          exact bound_range HCE.out HK.out HH.out HT2.out.2.1
    · rw [decide_eq_false hk] at HBD
      have HK := Lib.hid hk
      clear hk
      go_enter Tryz.func9, Tryz.ntmps9
      go_wp2_with (first | ((with_reducible refine (HCK.out _).mono ?_); rintro e w1 ⟨rfl, hb1⟩; have HT1 := Lib.hid (boxes_go HT0.out.1 HT0.out.2.1 HT0.out.2.2 hb1); have q1c0 := HT1.out.1.pc0; have q1c1 := HT1.out.1.pc1; have q1c2 := HT1.out.1.pc2; have q1c3 := HT1.out.1.pc3; have q1c4 := HT1.out.1.pc4; have q1c5 := HT1.out.1.pc5; have q1c6 := HT1.out.1.pc6; have q1c7 := HT1.out.1.pc7; have q1o0 := HT1.out.1.po0; have q1o1 := HT1.out.1.po1; have q1o2 := HT1.out.1.po2; have q1o3 := HT1.out.1.po3; have q1o4 := HT1.out.1.po4; have q1o5 := HT1.out.1.po5; have q1o6 := HT1.out.1.po6) | ((with_reducible refine (HBD.out _).mono ?_); rintro e w2 ⟨rfl, hb2⟩; have HT2 := Lib.hid (boxes_go HT1.out.1 HT1.out.2.1 HT1.out.2.2 hb2); have q2c0 := HT2.out.1.pc0; have q2c1 := HT2.out.1.pc1; have q2c2 := HT2.out.1.pc2; have q2c3 := HT2.out.1.pc3; have q2c4 := HT2.out.1.pc4; have q2c5 := HT2.out.1.pc5; have q2c6 := HT2.out.1.pc6; have q2c7 := HT2.out.1.pc7; have q2o0 := HT2.out.1.po0; have q2o1 := HT2.out.1.po1; have q2o2 := HT2.out.1.po2; have q2o3 := HT2.out.1.po3; have q2o4 := HT2.out.1.po4; have q2o5 := HT2.out.1.po5; have q2o6 := HT2.out.1.po6))
      go_ret2
      exact bound_kind HCE.out HK.out HT2.out.2.1
  · have hne : (ce != 0) = true := by simpa using e0
    clear hce
    go_enter Tryz.func9, Tryz.ntmps9
    go_wp2_with ((with_reducible refine (HCK.out _).mono ?_); rintro e w1 ⟨rfl, hb1⟩; have HT1 := Lib.hid (boxes_go HT0.out.1 HT0.out.2.1 HT0.out.2.2 hb1); have q1c0 := HT1.out.1.pc0; have q1c1 := HT1.out.1.pc1; have q1c2 := HT1.out.1.pc2; have q1c3 := HT1.out.1.pc3; have q1c4 := HT1.out.1.pc4; have q1c5 := HT1.out.1.pc5; have q1c6 := HT1.out.1.pc6; have q1c7 := HT1.out.1.pc7; have q1o0 := HT1.out.1.po0; have q1o1 := HT1.out.1.po1; have q1o2 := HT1.out.1.po2; have q1o3 := HT1.out.1.po3; have q1o4 := HT1.out.1.po4; have q1o5 := HT1.out.1.po5; have q1o6 := HT1.out.1.po6)
    go_ret2
    exact bound_bad HCE.out e0 HT1.out.2.1
end Go.Proofs.YthaleaeeikmphaaGreat
