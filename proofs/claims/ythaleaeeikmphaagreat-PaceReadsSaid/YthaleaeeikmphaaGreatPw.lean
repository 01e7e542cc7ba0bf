/- The walk of the law PaceReads. -/
import Derived.Test.YthaleaeeikmphaaGreatRd
import Derived.Test.YthaleaeeikmphaaGreatAw15
import Derived.Below
namespace Go.Proofs.YthaleaeeikmphaaGreat
open Go.RowKit
open Pace (InR readI)
theorem paceReads_walk (x y : Int) (w : World) (hx0 : -9223372036854775808 ≤ x) (hx1 : x ≤ 9223372036854775807) (hy0 : -9223372036854775808 ≤ y) (hy1 : y ≤ 9223372036854775807) :
    Calls Tryz.prog 5 #[.int .i64 x, .int .i64 y] w fun e w' => e = .returned (.bool true) ∧ Below w.heap.size w w' := by
  have hb := Pace.mod_bd x 17 (by omega)
  have kb := Pace.mod_bd y 65537 (by omega)
  have hm1 : ∀ W, Calls Tryz.prog 16 #[.int .i64 x, .int .i64 17] W fun e w' => e = .returned (.int .i64 (modI x 17)) ∧ W = w' := fun W => modFn x 17 W (by omega) (by omega) hx0 hx1
  have hm2 : ∀ W, Calls Tryz.prog 16 #[.int .i64 y, .int .i64 65537] W fun e w' => e = .returned (.int .i64 (modI y 65537)) ∧ W = w' := fun W => modFn y 65537 W (by omega) (by omega) hy0 hy1
  have HM1 := Lib.hid hm1
  have HM2 := Lib.hid hm2
  clear hm1 hm2
  change 0 ≤ modI x 17 ∧ modI x 17 < 17 at hb
  change 0 ≤ modI y 65537 ∧ modI y 65537 < 65537 at kb
  generalize modI x 17 = h at *
  generalize modI y 65537 = k at *
  have r0 : ∀ W, Calls Tryz.prog 6 #[.int .i64 h, .int .i64 k] W fun e w' => e = .returned (.tuple #[.int .i64 (readI h k), .int .i64 0]) ∧ W = w' := fun W => readFn h k W ⟨⟨by omega, by omega⟩, by omega, by omega⟩
  have r1 : h < 16 → ∀ W, Calls Tryz.prog 6 #[.int .i64 (h + 1), .int .i64 k] W fun e w' => e = .returned (.tuple #[.int .i64 (readI (h + 1) k), .int .i64 0]) ∧ W = w' := fun hh W => readFn (h + 1) k W ⟨⟨by omega, by omega⟩, by omega, by omega⟩
  have r2 : k < 65536 → ∀ W, Calls Tryz.prog 6 #[.int .i64 h, .int .i64 (k + 1)] W fun e w' => e = .returned (.tuple #[.int .i64 (readI h (k + 1)), .int .i64 0]) ∧ W = w' := fun hh W => readFn h (k + 1) W ⟨⟨by omega, by omega⟩, by omega, by omega⟩
  have r3 : k + 8 ≤ 65536 → ∀ W, Calls Tryz.prog 6 #[.int .i64 h, .int .i64 (k + 8)] W fun e w' => e = .returned (.tuple #[.int .i64 (readI h (k + 8)), .int .i64 0]) ∧ W = w' := fun hh W => readFn h (k + 8) W ⟨⟨by omega, by omega⟩, by omega, by omega⟩
  have f0 := Pace.readI_bd (h := h) (n := k) ⟨⟨by omega, by omega⟩, by omega, by omega⟩
  have f1 := Pace.readI_h (h := h) (n := k) (by omega) (by omega)
  have f2 := Pace.readI_n (h := h) (n := k) (by omega) (by omega)
  have f3 : 1 ≤ h → 2 ≤ k → readI h (k + 8) = readI h k + h + 1 := fun a b => Pace.readI_8 a b
  have R0 := Lib.hid r0
  have R1 := Lib.hid r1
  have R2 := Lib.hid r2
  have R3 := Lib.hid r3
  clear r0 r1 r2 r3
  generalize readI h k = a0 at *
  generalize readI (h + 1) k = a1 at *
  generalize readI h (k + 1) = a2 at *
  generalize readI h (k + 8) = a3 at *
  have hb0 := hb.1
  have hb1 := hb.2
  have kb0 := kb.1
  have kb1 := kb.2
  have f00 := f0.1
  have f01 := f0.2
  have HA := Lib.hid (fun W => Closed.aw.walk W)
  have HW := Lib.hid (Below.refl w.heap.size w)
  clear hb kb f0
  by_cases c1 : h < 16
  · by_cases c2 : k < 65536
    · by_cases c3 : 2 ≤ k ∧ 1 ≤ h ∧ k + 8 ≤ 65536
      · have c31 := c3.1
        have c32 := c3.2.1
        have c33 := c3.2.2
        have f4 := f3 c32 c31
        clear f3 c3
        go_enter Tryz.func5, Tryz.ntmps5
        go_wp2_with (first
          | ((with_reducible refine (HM1.out _).mono ?_); rintro e w' ⟨rfl, rfl⟩)
          | ((with_reducible refine (HM2.out _).mono ?_); rintro e w' ⟨rfl, rfl⟩)
          | ((with_reducible refine (R0.out _).mono ?_); rintro e w' ⟨rfl, rfl⟩)
          | ((with_reducible refine (R1.out (by omega) _).mono ?_); rintro e w' ⟨rfl, rfl⟩)
          | ((with_reducible refine (R2.out (by omega) _).mono ?_); rintro e w' ⟨rfl, rfl⟩)
          | ((with_reducible refine (R3.out (by omega) _).mono ?_); rintro e w' ⟨rfl, rfl⟩)
          | ((with_reducible refine (HA.out _).mono ?_); rintro e w' ⟨rfl, HB⟩))
        all_goals (go_ret; exact ⟨rfl, by assumption⟩)
      · clear f3
        go_enter Tryz.func5, Tryz.ntmps5
        go_wp2_with (first
          | ((with_reducible refine (HM1.out _).mono ?_); rintro e w' ⟨rfl, rfl⟩)
          | ((with_reducible refine (HM2.out _).mono ?_); rintro e w' ⟨rfl, rfl⟩)
          | ((with_reducible refine (R0.out _).mono ?_); rintro e w' ⟨rfl, rfl⟩)
          | ((with_reducible refine (R1.out (by omega) _).mono ?_); rintro e w' ⟨rfl, rfl⟩)
          | ((with_reducible refine (R2.out (by omega) _).mono ?_); rintro e w' ⟨rfl, rfl⟩)
          | ((with_reducible refine (R3.out (by omega) _).mono ?_); rintro e w' ⟨rfl, rfl⟩)
          | ((with_reducible refine (HA.out _).mono ?_); rintro e w' ⟨rfl, HB⟩))
        all_goals (go_ret; exact ⟨rfl, by assumption⟩)
    · clear f3
      go_enter Tryz.func5, Tryz.ntmps5
      go_wp2_with (first
          | ((with_reducible refine (HM1.out _).mono ?_); rintro e w' ⟨rfl, rfl⟩)
          | ((with_reducible refine (HM2.out _).mono ?_); rintro e w' ⟨rfl, rfl⟩)
          | ((with_reducible refine (R0.out _).mono ?_); rintro e w' ⟨rfl, rfl⟩)
          | ((with_reducible refine (R1.out (by omega) _).mono ?_); rintro e w' ⟨rfl, rfl⟩)
          | ((with_reducible refine (R2.out (by omega) _).mono ?_); rintro e w' ⟨rfl, rfl⟩)
          | ((with_reducible refine (R3.out (by omega) _).mono ?_); rintro e w' ⟨rfl, rfl⟩)
          | ((with_reducible refine (HA.out _).mono ?_); rintro e w' ⟨rfl, HB⟩))
      all_goals (go_ret; exact ⟨rfl, by assumption⟩)
  · by_cases c2 : k < 65536
    · by_cases c3 : 2 ≤ k ∧ 1 ≤ h ∧ k + 8 ≤ 65536
      · have c31 := c3.1
        have c32 := c3.2.1
        have c33 := c3.2.2
        have f4 := f3 c32 c31
        clear f3 c3
        go_enter Tryz.func5, Tryz.ntmps5
        go_wp2_with (first
          | ((with_reducible refine (HM1.out _).mono ?_); rintro e w' ⟨rfl, rfl⟩)
          | ((with_reducible refine (HM2.out _).mono ?_); rintro e w' ⟨rfl, rfl⟩)
          | ((with_reducible refine (R0.out _).mono ?_); rintro e w' ⟨rfl, rfl⟩)
          | ((with_reducible refine (R1.out (by omega) _).mono ?_); rintro e w' ⟨rfl, rfl⟩)
          | ((with_reducible refine (R2.out (by omega) _).mono ?_); rintro e w' ⟨rfl, rfl⟩)
          | ((with_reducible refine (R3.out (by omega) _).mono ?_); rintro e w' ⟨rfl, rfl⟩)
          | ((with_reducible refine (HA.out _).mono ?_); rintro e w' ⟨rfl, HB⟩))
        all_goals (go_ret; exact ⟨rfl, by assumption⟩)
      · clear f3
        go_enter Tryz.func5, Tryz.ntmps5
        go_wp2_with (first
          | ((with_reducible refine (HM1.out _).mono ?_); rintro e w' ⟨rfl, rfl⟩)
          | ((with_reducible refine (HM2.out _).mono ?_); rintro e w' ⟨rfl, rfl⟩)
          | ((with_reducible refine (R0.out _).mono ?_); rintro e w' ⟨rfl, rfl⟩)
          | ((with_reducible refine (R1.out (by omega) _).mono ?_); rintro e w' ⟨rfl, rfl⟩)
          | ((with_reducible refine (R2.out (by omega) _).mono ?_); rintro e w' ⟨rfl, rfl⟩)
          | ((with_reducible refine (R3.out (by omega) _).mono ?_); rintro e w' ⟨rfl, rfl⟩)
          | ((with_reducible refine (HA.out _).mono ?_); rintro e w' ⟨rfl, HB⟩))
        all_goals (go_ret; exact ⟨rfl, by assumption⟩)
    · clear f3
      go_enter Tryz.func5, Tryz.ntmps5
      go_wp2_with (first
          | ((with_reducible refine (HM1.out _).mono ?_); rintro e w' ⟨rfl, rfl⟩)
          | ((with_reducible refine (HM2.out _).mono ?_); rintro e w' ⟨rfl, rfl⟩)
          | ((with_reducible refine (R0.out _).mono ?_); rintro e w' ⟨rfl, rfl⟩)
          | ((with_reducible refine (R1.out (by omega) _).mono ?_); rintro e w' ⟨rfl, rfl⟩)
          | ((with_reducible refine (R2.out (by omega) _).mono ?_); rintro e w' ⟨rfl, rfl⟩)
          | ((with_reducible refine (R3.out (by omega) _).mono ?_); rintro e w' ⟨rfl, rfl⟩)
          | ((with_reducible refine (HA.out _).mono ?_); rintro e w' ⟨rfl, HB⟩))
      all_goals (go_ret; exact ⟨rfl, by assumption⟩)
end Go.Proofs.YthaleaeeikmphaaGreat
