/- Read's numbers: the plain law, and the walks of Read and mod. -/
import Derived.Test.YthaleaeeikmphaaGreatProg
import Derived.WalkKit
import Derived.WalkSpells
import Derived.WalkLawsBesides
import Derived.Deep.QuietTactic
import Derived.BigQuiet
import Derived.Lib.Hide
import Derived.Deep.Draws
import Derived.Below
/- Plain law: the number of steps of a read. -/
namespace Go.Proofs.YthaleaeeikmphaaGreat.Pace
/-- Within the document's limits. -/
def InR (h n : Int) : Prop := (0 ≤ h ∧ h ≤ 16) ∧ (0 ≤ n ∧ n ≤ 65536)
instance (h n : Int) : Decidable (InR h n) := by unfold InR; infer_instance
def readI (h n : Int) : Int := if n = 0 ∨ h = 0 then 1 else if n = 1 then h + 1 else (h + 1) * ((n - 2) / 8 + 2)
def readV (h n : Int) : Int := if InR h n then readI h n else 0
def readE (h n : Int) : Int := if InR h n then 0 else 3
theorem readI_pos {h n : Int} (h0 : 0 ≤ h) (n0 : 0 ≤ n) : 1 ≤ readI h n := by
  unfold readI
  split
  · omega
  · split
    · omega
    · have : 1 * 1 ≤ (h + 1) * ((n - 2) / 8 + 2) := Int.mul_le_mul (by omega) (by omega) (by omega) (by omega)
      omega
theorem readI_h {h n : Int} (h0 : 0 ≤ h) (n0 : 0 ≤ n) : readI h n ≤ readI (h + 1) n := by
  by_cases a : n = 0 ∨ h = 0
  · have e : readI h n = 1 := by unfold readI; rw [if_pos a]
    rw [e]; exact readI_pos (by omega) n0
  · have b : ¬ (n = 0 ∨ h + 1 = 0) := by omega
    unfold readI
    rw [if_neg a, if_neg b]
    split
    · omega
    · exact Int.mul_le_mul_of_nonneg_right (by omega) (by omega)
theorem readI_n {h n : Int} (h0 : 0 ≤ h) (n0 : 0 ≤ n) : readI h n ≤ readI h (n + 1) := by
  by_cases a : n = 0 ∨ h = 0
  · have e : readI h n = 1 := by unfold readI; rw [if_pos a]
    rw [e]; exact readI_pos h0 (by omega)
  · have b : ¬ (n + 1 = 0 ∨ h = 0) := by omega
    have b1 : ¬ (n + 1 = 1) := by omega
    unfold readI
    rw [if_neg a, if_neg b, if_neg b1]
    split
    · have : (h + 1) * 1 ≤ (h + 1) * ((n + 1 - 2) / 8 + 2) := Int.mul_le_mul_of_nonneg_left (by omega) (by omega)
      omega
    · exact Int.mul_le_mul_of_nonneg_left (by omega) (by omega)
theorem readI_8 {h n : Int} (h0 : 1 ≤ h) (n0 : 2 ≤ n) : readI h (n + 8) = readI h n + h + 1 := by
  unfold readI
  rw [if_neg (by omega), if_neg (by omega), if_neg (by omega), if_neg (by omega)]
  have e : (n + 8 - 2) / 8 + 2 = ((n - 2) / 8 + 2) + 1 := by omega
  rw [e, Int.mul_add, Int.mul_one]
  omega
theorem readI_bd {h n : Int} (hr : InR h n) : 1 ≤ readI h n ∧ readI h n ≤ 200000 := by
  obtain ⟨⟨a, b⟩, c, d⟩ := hr
  refine ⟨readI_pos a c, ?_⟩
  unfold readI
  split
  · omega
  · split
    · omega
    · have : (h + 1) * ((n - 2) / 8 + 2) ≤ 17 * 8194 := Int.mul_le_mul (by omega) (by omega) (by omega) (by omega)
      omega
theorem mod_bd (n m : Int) (hm : 0 < m) : 0 ≤ (Int.tmod n m + m) % m ∧ (Int.tmod n m + m) % m < m := ⟨Int.emod_nonneg _ (by omega), Int.emod_lt_of_pos _ hm⟩
end Go.Proofs.YthaleaeeikmphaaGreat.Pace

namespace Go.Proofs.YthaleaeeikmphaaGreat
open Go.RowKit
open Pace (InR readI)
def modI (n m : Int) : Int := (Int.tmod n m + m) % m
theorem small64 {x : Int} (h1 : -9223372036854775808 ≤ x) (h2 : x ≤ 9223372036854775807) : wrap64 x = x := by unfold wrap64; omega
theorem modFn (n m : Int) (w : World) (h0 : 0 < m) (h1 : m ≤ 100000) (hn0 : -9223372036854775808 ≤ n) (hn1 : n ≤ 9223372036854775807) :
    Calls Tryz.prog 16 #[.int .i64 n, .int .i64 m] w fun e w' => e = .returned (.int .i64 (modI n m)) ∧ w = w' := by
  have hb := Pace.mod_bd n m h0
  have ha : -m < Int.tmod n m := Int.lt_tmod_of_pos n h0
  have hc : Int.tmod n m < m := Int.tmod_lt_of_pos n h0
  have hz : m ≠ 0 := by omega
  go_enter Tryz.func16, Tryz.ntmps16
  go_wp2
  go_ret
  exact ⟨rfl, rfl⟩
theorem readFn (h n : Int) (w : World) (hr : InR h n) : Calls Tryz.prog 6 #[.int .i64 h, .int .i64 n] w fun e w' => e = .returned (.tuple #[.int .i64 (readI h n), .int .i64 0]) ∧ w = w' := by
  obtain ⟨⟨a, b⟩, c, d⟩ := hr
  by_cases h1 : n = 0 ∨ h = 0
  · have e : readI h n = 1 := by unfold readI; rw [if_pos h1]
    rw [e]
    rcases h1 with rfl | rfl
    · go_enter Tryz.func6, Tryz.ntmps6
      go_wp2
      all_goals go_ret2
      all_goals exact ⟨rfl, rfl⟩
    · go_enter Tryz.func6, Tryz.ntmps6
      go_wp2
      all_goals go_ret2
      all_goals exact ⟨rfl, rfl⟩
  · have h1a : n ≠ 0 := by omega
    have h1b : h ≠ 0 := by omega
    by_cases h2 : n = 1
    · have e : readI h n = h + 1 := by unfold readI; rw [if_neg h1, if_pos h2]
      rw [e]
      subst h2
      clear h1
      go_enter Tryz.func6, Tryz.ntmps6
      go_wp2
      all_goals go_ret2
      all_goals exact ⟨rfl, rfl⟩
    · have e : readI h n = (h + 1) * ((n - 2) / 8 + 2) := by unfold readI; rw [if_neg h1, if_neg h2]
      have hq : 0 ≤ (n - 2) / 8 ∧ (n - 2) / 8 ≤ 8192 := by omega
      have hm : 0 ≤ (h + 1) * ((n - 2) / 8 + 2) ∧ (h + 1) * ((n - 2) / 8 + 2) ≤ 17 * 8194 :=
        ⟨Int.mul_nonneg (by omega) (by omega), Int.mul_le_mul (by omega) (by omega) (by omega) (by omega)⟩
      have hval : wrap64 ((h + 1) * ((n - 2) / 8 + 2)) = (h + 1) * ((n - 2) / 8 + 2) := small64 (by omega) (by omega)
      have HV := Lib.hid hval
      rw [e]
      clear hval hm hq e h1
      have z1 : (n == 0) = false := by simpa using h1a
      have z2 : (h == 0) = false := by simpa using h1b
      have z3 : (n == 1) = false := by simpa using h2
      go_enter Tryz.func6, Tryz.ntmps6
      go_wp2
      all_goals go_ret2
      all_goals exact ⟨by show Ending.returned (.tuple #[.int .i64 (wrap64 ((h + 1) * ((n - 2) / 8 + 2))), .int .i64 0]) = _; rw [HV.out], rfl⟩
end Go.Proofs.YthaleaeeikmphaaGreat
