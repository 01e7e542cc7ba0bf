/- The reference's Valid and Check; Read for any numbers, of both. -/
import Derived.Test.YtcicememljlafaaC4
namespace Go.Proofs.Ytcicememljlafaa
open Go.RowKit
open Runes (dec)
theorem below_then {B : Nat} {a b c : World} (h : Below B a b) (hB : B ≤ b.heap.size) (k : Below b.heap.size b c) : Below B a c := h.trans (k.mono hB)
theorem validRef (s : ByteArray) (b : Bool) (w : World) (hm : s.size ≤ 9223372036854775807) (hv : Runes.VF s 0 b) :
    Calls Try.prog 54 #[.string s] w (fun e w' => e = .returned (.bool b) ∧ Below w.heap.size w w') := by
  have HV := Lib.hid hv
  have HB0 := Lib.hid (Below.refl w.heap.size w)
  clear hv
  go_enter Try.func54, Try.ntmps54
  go_wp2
  go_loopw [3, 4, 5, 6] (fun i _ _ _ wr => ∃ k : Nat, i = .int .i64 k ∧ k ≤ s.size ∧ Hid (Runes.VF s k b) ∧ Hid (Below w.heap.size w wr)) (fun i _ _ _ _ => s.size - (intOf i).toNat)
  case atStart => exact ⟨0, rfl, by omega, HV, HB0⟩
  case round =>
    obtain ⟨k, rfl, hk, HK, HW⟩ := hrel
    by_cases hlt : k < s.size
    · have hki : (k : Int) < (s.size : Int) := by omega
      have hts : (s.extract k s.size).size = s.size - k := by simp
      by_cases hz : dec (s.extract k s.size) = 0
      · have HB : Hid (b = false) := HK.out.fail hlt hz
        have hc : ∀ W : World, Calls Try.prog 60 #[.string (s.extract k s.size)] W fun e w' => ∃ r, e = .returned (.tuple #[.int .i64 r, .int .i64 0, .int .i64 11]) ∧ Below W.heap.size W w' := fun W =>
          (decodeRef (s.extract k s.size) W (by omega) (by omega)).mono fun e w' ⟨r, he, hw⟩ => ⟨r, by rw [he, hz]; rfl, hw⟩
        have HC := Lib.hid hc
        clear hc hz
        go_wp2_with ((with_reducible refine (HC.out _).mono ?_); rintro e w' ⟨r, rfl, hbel⟩)
        go_ret
        exact ⟨by rw [HB.out]; rfl, below_then HW.out HW.out.size hbel⟩
      · have hle := Runes.dec_le (s.extract k s.size)
        have HN : Hid (Runes.VF s (k + dec (s.extract k s.size)) b) := HK.out.next hlt rfl (by omega)
        have hc : ∀ W : World, Calls Try.prog 60 #[.string (s.extract k s.size)] W fun e w' => ∃ r, e = .returned (.tuple #[.int .i64 r, .int .i64 (dec (s.extract k s.size)), .int .i64 0]) ∧ Below W.heap.size W w' := fun W =>
          (decodeRef (s.extract k s.size) W (by omega) (by omega)).mono fun e w' ⟨r, he, hw⟩ => ⟨r, by rw [he, if_neg hz], hw⟩
        have HC := Lib.hid hc
        clear hc
        generalize hn : dec (s.extract k s.size) = n at *
        clear hn
        have hni : (k : Int) + (n : Int) ≤ (s.size : Int) := by omega
        go_wp2_with ((with_reducible refine (HC.out _).mono ?_); rintro e w' ⟨r, rfl, hbel⟩)
        go_roundw
        case rel => exact ⟨k + n, by go_num, by omega, HN, below_then HW.out HW.out.size hbel⟩
        case measure => simp [intOf]; omega
    · have HB : Hid (b = true) := HK.out.stop (by omega)
      go_wp2
      go_ret
      exact ⟨by rw [HB.out]; rfl, HW.out⟩

set_option maxHeartbeats 0 in
set_option maxRecDepth 100000 in
theorem checkRef (x0 x1 x2 x3 x4 x5 x6 : Int) (x7 : ByteArray) (w : World) (hm : x7.size ≤ 9223372036854775807) :
    Calls Try.prog 41 #[cfgVal ⟨x0, x1, x2, x3, x4, x5, x6, x7⟩] w (CheckRes (cfgErr ⟨x0, x1, x2, x3, x4, x5, x6, x7⟩) w) := by
  have HV := Lib.hid (validRef x7 (Runes.valid x7))
  have hsp := Runes.valid_spec x7
  have HS := Lib.hid hsp
  clear hsp
  have HB := Lib.hid (below_box w)
  generalize hvx : Runes.valid x7 = vx at *
  have HX := Lib.hid hvx
  clear hvx
  go_enter Try.func41, Try.ntmps41
  go_wp2_with ((with_reducible refine (HV.out _ (by omega) HS.out).mono ?_); rintro e w' ⟨rfl, hbel⟩)
  all_goals go_ret
  all_goals first
    | exact check_out (by show ¬ (((1 ≤ x0 ∧ x0 ≤ 16384) ∧ (1 ≤ x1 ∧ x1 ≤ 4294967295)) ∧ ((0 ≤ x2 ∧ x2 ≤ 8) ∧ (0 ≤ x3 ∧ x3 ≤ 8)) ∧ ((1 ≤ x4 ∧ x4 ≤ 64) ∧ (1 ≤ x5 ∧ x5 ≤ 16) ∧ (1 ≤ x6 ∧ x6 ≤ 64))); omega) (HB.out _)
    | (have hin : CfgIn ⟨x0, x1, x2, x3, x4, x5, x6, x7⟩ := by show ((1 ≤ x0 ∧ x0 ≤ 16384) ∧ (1 ≤ x1 ∧ x1 ≤ 4294967295)) ∧ ((0 ≤ x2 ∧ x2 ≤ 8) ∧ (0 ≤ x3 ∧ x3 ≤ 8)) ∧ ((1 ≤ x4 ∧ x4 ≤ 64) ∧ (1 ≤ x5 ∧ x5 ≤ 16) ∧ (1 ≤ x6 ∧ x6 ≤ 64)); omega
       first
       | exact check_long hin (by show 65536 < x7.size; omega) (HB.out _)
       | (have hle : ¬ 65536 < x7.size := by omega
          first
          | exact check_ok hin hle (HX.out.trans (by cases vx <;> simp_all)) (below_then (HB.out _) (by simp) hbel)
          | exact check_utf hin hle (HX.out.trans (by cases vx <;> simp_all)) (below_then (HB.out _) (by simp) hbel)))

end Go.Proofs.Ytcicememljlafaa
