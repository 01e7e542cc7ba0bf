/- The reference's Valid and Check; Read for any numbers, of both. -/
import Derived.Test.YthaleaeeikmphaaGreatV4b
import Derived.Test.YthaleaeeikmphaaGreatRd
namespace Go.Proofs.YthaleaeeikmphaaGreat
open Go.RowKit
open Runes (dec)
open Pace (InR readI readV readE)
theorem below_then {B : Nat} {a b c : World} (h : Below B a b) (hB : B ≤ b.heap.size) (k : Below b.heap.size b c) : Below B a c := h.trans (k.mono hB)
theorem validRef (s : ByteArray) (b : Bool) (w : World) (hm : s.size ≤ 9223372036854775807) (hv : Runes.VF s 0 b) :
    Calls Tryz.prog 40 #[.string s] w (fun e w' => e = .returned (.bool b) ∧ Below w.heap.size w w') := by
  have HV := Lib.hid hv
  have HB0 := Lib.hid (Below.refl w.heap.size w)
  clear hv
  go_enter Tryz.func40, Tryz.ntmps40
  go_wp2
  go_loopw [3, 4, 5, 6] (fun i _ _ _ wr => ∃ k : Nat, i = .int .i64 k ∧ k ≤ s.size ∧ Hid (Runes.VF s k b) ∧ Hid (Below w.heap.size w wr)) (fun i _ _ _ _ => s.size - (intOf i).toNat)
  case atStart => exact ⟨0, rfl, by omega, HV, HB0⟩
  case round =>
    obtain ⟨k, rfl, hk, HK, HW⟩ := hrel
    by_cases hlt : k < s.size
    · have hki : (k : Int) < (s.size : Int) := by omega
      have hts : (s.extract k s.size).size = s.size - k := by simp
      by_cases hz : dec (s.extract k s.size) = 0
      · have HB : Hid (b = false) := HK.out.fail hlt hz
        have hc : ∀ W : World, Calls Tryz.prog 66 #[.string (s.extract k s.size)] W fun e w' => ∃ r, e = .returned (.tuple #[.int .i64 r, .int .i64 0, .int .i64 11]) ∧ Below W.heap.size W w' := fun W =>
          (decodeRef (s.extract k s.size) W (by omega) (by omega)).mono fun e w' ⟨r, he, hw⟩ => ⟨r, by rw [he, hz]; rfl, hw⟩
        have HC := Lib.hid hc
        clear hc hz
        go_wp2_with ((with_reducible refine (HC.out _).mono ?_); rintro e w' ⟨r, rfl, hbel⟩)
        go_ret
        exact ⟨by rw [HB.out]; rfl, below_then HW.out HW.out.size hbel⟩
      · have hle := Runes.dec_le (s.extract k s.size)
        have HN : Hid (Runes.VF s (k + dec (s.extract k s.size)) b) := HK.out.next hlt rfl (by omega)
        have hc : ∀ W : World, Calls Tryz.prog 66 #[.string (s.extract k s.size)] W fun e w' => ∃ r, e = .returned (.tuple #[.int .i64 r, .int .i64 (dec (s.extract k s.size)), .int .i64 0]) ∧ Below W.heap.size W w' := fun W =>
          (decodeRef (s.extract k s.size) W (by omega) (by omega)).mono fun e w' ⟨r, he, hw⟩ => ⟨r, by rw [he, if_neg hz], hw⟩
        have HC := Lib.hid hc
        clear hc
        generalize hn : dec (s.extract k s.size) = n at *
        clear hn
        have hni : (k : Int) + (n : Int) ≤ (s.size : Int) := by omega
        go_wp2_with ((with_reducible refine (HC.out _).mono ?_); rintro e w' ⟨r, rfl, hbel⟩)
        go_roundw
        case rel => exact ⟨k + n, by go_num, by omega, HN, below_then HW.out HW.out.size hbel⟩
        case measure => simp [intOf]; omega
    · have HB : Hid (b = true) := HK.out.stop (by omega)
      go_wp2
      go_ret
      exact ⟨by rw [HB.out]; rfl, HW.out⟩

set_option maxHeartbeats 0 in
set_option maxRecDepth 100000 in
theorem checkRef (x0 x1 x2 x3 x4 x5 x6 : Int) (x7 : ByteArray) (w : World) (hm : x7.size ≤ 9223372036854775807) :
    Calls Tryz.prog 19 #[cfgVal ⟨x0, x1, x2, x3, x4, x5, x6, x7⟩] w (CheckRes (cfgErr ⟨x0, x1, x2, x3, x4, x5, x6, x7⟩) w) := by
  have HV := Lib.hid (validRef x7 (Runes.valid x7))
  have hsp := Runes.valid_spec x7
  have HS := Lib.hid hsp
  clear hsp
  have HB := Lib.hid (below_box w)
  generalize hvx : Runes.valid x7 = vx at *
  have HX := Lib.hid hvx
  clear hvx
  go_enter Tryz.func19, Tryz.ntmps19
  go_wp2_with ((with_reducible refine (HV.out _ (by omega) HS.out).mono ?_); rintro e w' ⟨rfl, hbel⟩)
  all_goals go_ret
  all_goals first
    | exact check_out (by show ¬ (((1 ≤ x0 ∧ x0 ≤ 16384) ∧ (1 ≤ x1 ∧ x1 ≤ 4294967295)) ∧ ((0 ≤ x2 ∧ x2 ≤ 8) ∧ (0 ≤ x3 ∧ x3 ≤ 8)) ∧ ((1 ≤ x4 ∧ x4 ≤ 64) ∧ (1 ≤ x5 ∧ x5 ≤ 16) ∧ (1 ≤ x6 ∧ x6 ≤ 64))); omega) (HB.out _)
    | (have hin : CfgIn ⟨x0, x1, x2, x3, x4, x5, x6, x7⟩ := by show ((1 ≤ x0 ∧ x0 ≤ 16384) ∧ (1 ≤ x1 ∧ x1 ≤ 4294967295)) ∧ ((0 ≤ x2 ∧ x2 ≤ 8) ∧ (0 ≤ x3 ∧ x3 ≤ 8)) ∧ ((1 ≤ x4 ∧ x4 ≤ 64) ∧ (1 ≤ x5 ∧ x5 ≤ 16) ∧ (1 ≤ x6 ∧ x6 ≤ 64)); omega
       first
       | exact check_long hin (by show 65536 < x7.size; omega) (HB.out _)
       | (have hle : ¬ 65536 < x7.size := by omega
          first
          | exact check_ok hin hle (HX.out.trans (by cases vx <;> simp_all)) (below_then (HB.out _) (by simp) hbel)
          | exact check_utf hin hle (HX.out.trans (by cases vx <;> simp_all)) (below_then (HB.out _) (by simp) hbel)))

theorem readRef (h n : Int) (w : World) (hr : InR h n) : Calls Tryz.prog 7 #[.int .i64 h, .int .i64 n] w fun e w' => e = .returned (.tuple #[.int .i64 (readI h n), .int .i64 0]) ∧ w = w' := by
  obtain ⟨⟨a, b⟩, c, d⟩ := hr
  by_cases h1 : n = 0 ∨ h = 0
  · have e : readI h n = 1 := by unfold readI; rw [if_pos h1]
    rw [e]
    rcases h1 with rfl | rfl
    · go_enter Tryz.func7, Tryz.ntmps7
      go_wp2
      all_goals go_ret2
      all_goals exact ⟨rfl, rfl⟩
    · go_enter Tryz.func7, Tryz.ntmps7
      go_wp2
      all_goals go_ret2
      all_goals exact ⟨rfl, rfl⟩
  · have h1a : n ≠ 0 := by omega
    have h1b : h ≠ 0 := by omega
    by_cases h2 : n = 1
    · have e : readI h n = h + 1 := by unfold readI; rw [if_neg h1, if_pos h2]
      rw [e]
      subst h2
      clear h1
      go_enter Tryz.func7, Tryz.ntmps7
      go_wp2
      all_goals go_ret2
      all_goals exact ⟨rfl, rfl⟩
    · have e : readI h n = (h + 1) * ((n - 2) / 8 + 2) := by unfold readI; rw [if_neg h1, if_neg h2]
      have hq : 0 ≤ (n - 2) / 8 ∧ (n - 2) / 8 ≤ 8192 := by omega
      have hm : 0 ≤ (h + 1) * ((n - 2) / 8 + 2) ∧ (h + 1) * ((n - 2) / 8 + 2) ≤ 17 * 8194 :=
        ⟨Int.mul_nonneg (by omega) (by omega), Int.mul_le_mul (by omega) (by omega) (by omega) (by omega)⟩
      have hval : wrap64 ((h + 1) * ((n - 2) / 8 + 2)) = (h + 1) * ((n - 2) / 8 + 2) := small64 (by omega) (by omega)
      have HV := Lib.hid hval
      rw [e]
      clear hval hm hq e h1
      have z1 : (n == 0) = false := by simpa using h1a
      have z2 : (h == 0) = false := by simpa using h1b
      have z3 : (n == 1) = false := by simpa using h2
      go_enter Tryz.func7, Tryz.ntmps7
      go_wp2
      all_goals go_ret2
      all_goals exact ⟨by show Ending.returned (.tuple #[.int .i64 (wrap64 ((h + 1) * ((n - 2) / 8 + 2))), .int .i64 0]) = _; rw [HV.out], rfl⟩

theorem readAny (h n : Int) (w : World) (hh0 : -9223372036854775808 ≤ h) (hh1 : h ≤ 9223372036854775807) (hn0 : -9223372036854775808 ≤ n) (hn1 : n ≤ 9223372036854775807) :
    Calls Tryz.prog 6 #[.int .i64 h, .int .i64 n] w fun e w' => e = .returned (.tuple #[.int .i64 (readV h n), .int .i64 (readE h n)]) ∧ w = w' := by
  by_cases hr : InR h n
  · rw [show readV h n = readI h n from if_pos hr, show readE h n = 0 from if_pos hr]
    exact readFn h n w hr
  · rw [show readV h n = 0 from if_neg hr, show readE h n = 3 from if_neg hr]
    have c : h < 0 ∨ 16 < h ∨ n < 0 ∨ 65536 < n := by unfold InR at hr; omega
    clear hr
    rcases c with c | c | c | c
    · go_enter Tryz.func6, Tryz.ntmps6
      go_wp2
      all_goals go_ret2
      all_goals exact ⟨rfl, rfl⟩
    · go_enter Tryz.func6, Tryz.ntmps6
      go_wp2
      all_goals go_ret2
      all_goals exact ⟨rfl, rfl⟩
    · go_enter Tryz.func6, Tryz.ntmps6
      go_wp2
      all_goals go_ret2
      all_goals exact ⟨rfl, rfl⟩
    · go_enter Tryz.func6, Tryz.ntmps6
      go_wp2
      all_goals go_ret2
      all_goals exact ⟨rfl, rfl⟩

theorem readAnyRef (h n : Int) (w : World) (hh0 : -9223372036854775808 ≤ h) (hh1 : h ≤ 9223372036854775807) (hn0 : -9223372036854775808 ≤ n) (hn1 : n ≤ 9223372036854775807) :
    Calls Tryz.prog 7 #[.int .i64 h, .int .i64 n] w fun e w' => e = .returned (.tuple #[.int .i64 (readV h n), .int .i64 (readE h n)]) ∧ w = w' := by
  by_cases hr : InR h n
  · rw [show readV h n = readI h n from if_pos hr, show readE h n = 0 from if_pos hr]
    exact readRef h n w hr
  · rw [show readV h n = 0 from if_neg hr, show readE h n = 3 from if_neg hr]
    have c : h < 0 ∨ 16 < h ∨ n < 0 ∨ 65536 < n := by unfold InR at hr; omega
    clear hr
    rcases c with c | c | c | c
    · go_enter Tryz.func7, Tryz.ntmps7
      go_wp2
      all_goals go_ret2
      all_goals exact ⟨rfl, rfl⟩
    · go_enter Tryz.func7, Tryz.ntmps7
      go_wp2
      all_goals go_ret2
      all_goals exact ⟨rfl, rfl⟩
    · go_enter Tryz.func7, Tryz.ntmps7
      go_wp2
      all_goals go_ret2
      all_goals exact ⟨rfl, rfl⟩
    · go_enter Tryz.func7, Tryz.ntmps7
      go_wp2
      all_goals go_ret2
      all_goals exact ⟨rfl, rfl⟩
end Go.Proofs.YthaleaeeikmphaaGreat
