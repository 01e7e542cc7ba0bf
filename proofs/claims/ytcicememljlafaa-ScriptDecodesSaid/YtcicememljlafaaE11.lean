/- Walks: put, by the reference. -/
import Derived.Test.YtcicememljlafaaE10
namespace Go.Proofs.Ytcicememljlafaa
open Go.RowKit
open Runes (bs bt)
def PutRes (l : List Int) (w : World) (e : Ending) (w' : World) : Prop := e = .returned (.string (bs l)) ∧ Below w.heap.size w w'
set_option maxHeartbeats 0 in
set_option maxRecDepth 100000 in
theorem put1 (x : Int) (W : World) (hx0 : 0 ≤ x) (hx1 : x ≤ 18446744073709551615) : Calls Try.prog 36 #[.int .u64 x, .int .i64 1] W (PutRes (num x 1) W) := by
  have HB0 := Lib.hid (Below.refl W.heap.size W)
  go_enter Try.func36, Try.ntmps36
  go_wp2_with fail
  go_loopw [5, 6] (fun sv i wr => ∃ (m : Nat) (t : ByteArray), m ≤ 1 ∧ i = .int .i64 (0 - (m : Int)) ∧ sv = .string t ∧ Hid (t = bs ((num x 1).take m)) ∧ Hid (Below W.heap.size W wr)) (fun _ i _ => (intOf i + 1).toNat)
  case atStart => exact ⟨0, _, by omega, rfl, rfl, rfl, HB0.out⟩
  case round =>
    obtain ⟨m, t, hm, rfl, rfl, HT, HW⟩ := hrel
    rcases (show m = 0 ∨ m = 1 by omega) with rfl | rfl
    · rw [show (0 : Int) - ((0 : Nat) : Int) = 0 by decide]
      have HB : Hid ((num x 1).take 1 = (num x 1).take 0 ++ [x % 256]) := by
        show _ = _
        rw [take_snoc 0 _ _ (by rw [num_len]; omega)]
        congr 1 <;> simp [num] <;> omega
      have hconv : (convert 59 9 (.slice (some ⟨wr.heap.size, 0, none⟩) 1 1)).run Try.prog (wr.alloc (.cells #[.int .u8 (x % 256)] 5)) = .ok (.string (bs [x % 256])) (wr.alloc (.cells #[.int .u8 (x % 256)] 5)) := conv_bytes wr [x % 256] (by intro y hy; simp at hy; omega) 1
      have HW2 := Lib.hid (HW.out.alloc HW.out.size (.cells #[.int .u8 (x % 256)] 5))
      have hts : t.size = 0 := by rw [HT.out, bs_size]; simp [num_len]
      have hbs : (bs [x % 256]).size = 1 := bs_size _
      go_wp2_with fail
      go_roundw
      case rel => exact ⟨1, _, by omega, by go_num, rfl, by show _ = _; rw [HB.out, ← bs_app, ← HT.out], HW2.out⟩
      case measure => simp [intOf]
    · rw [show ((0 : Int) - ((1 : Nat) : Int)) = -1 by decide]
      go_wp2_with fail
      go_ret
      have hT := HT.out
      rw [List.take_of_length_le (by rw [num_len]; omega)] at hT
      exact ⟨by rw [← hT]; rfl, HW.out⟩
set_option maxHeartbeats 0 in
set_option maxRecDepth 100000 in
theorem put2 (x : Int) (W : World) (hx0 : 0 ≤ x) (hx1 : x ≤ 18446744073709551615) : Calls Try.prog 36 #[.int .u64 x, .int .i64 2] W (PutRes (num x 2) W) := by
  have HB0 := Lib.hid (Below.refl W.heap.size W)
  go_enter Try.func36, Try.ntmps36
  go_wp2_with fail
  go_loopw [5, 6] (fun sv i wr => ∃ (m : Nat) (t : ByteArray), m ≤ 2 ∧ i = .int .i64 (1 - (m : Int)) ∧ sv = .string t ∧ Hid (t = bs ((num x 2).take m)) ∧ Hid (Below W.heap.size W wr)) (fun _ i _ => (intOf i + 1).toNat)
  case atStart => exact ⟨0, _, by omega, rfl, rfl, rfl, HB0.out⟩
  case round =>
    obtain ⟨m, t, hm, rfl, rfl, HT, HW⟩ := hrel
    rcases (show m = 0 ∨ m = 1 ∨ m = 2 by omega) with rfl | rfl | rfl
    · rw [show (1 : Int) - ((0 : Nat) : Int) = 1 by decide]
      have HB : Hid ((num x 2).take 1 = (num x 2).take 0 ++ [x / 256 % 256]) := by
        show _ = _
        rw [take_snoc 0 _ _ (by rw [num_len]; omega)]
        congr 1 <;> simp [num] <;> omega
      have hconv : (convert 59 9 (.slice (some ⟨wr.heap.size, 0, none⟩) 1 1)).run Try.prog (wr.alloc (.cells #[.int .u8 (x / 256 % 256)] 5)) = .ok (.string (bs [x / 256 % 256])) (wr.alloc (.cells #[.int .u8 (x / 256 % 256)] 5)) := conv_bytes wr [x / 256 % 256] (by intro y hy; simp at hy; omega) 1
      have HW2 := Lib.hid (HW.out.alloc HW.out.size (.cells #[.int .u8 (x / 256 % 256)] 5))
      have hts : t.size = 0 := by rw [HT.out, bs_size]; simp [num_len]
      have hbs : (bs [x / 256 % 256]).size = 1 := bs_size _
      go_wp2_with fail
      go_roundw
      case rel => exact ⟨1, _, by omega, by go_num, rfl, by show _ = _; rw [HB.out, ← bs_app, ← HT.out], HW2.out⟩
      case measure => simp [intOf]
    · rw [show (1 : Int) - ((1 : Nat) : Int) = 0 by decide]
      have HB : Hid ((num x 2).take 2 = (num x 2).take 1 ++ [x % 256]) := by
        show _ = _
        rw [take_snoc 0 _ _ (by rw [num_len]; omega)]
        congr 1 <;> simp [num] <;> omega
      have hconv : (convert 59 9 (.slice (some ⟨wr.heap.size, 0, none⟩) 1 1)).run Try.prog (wr.alloc (.cells #[.int .u8 (x % 256)] 5)) = .ok (.string (bs [x % 256])) (wr.alloc (.cells #[.int .u8 (x % 256)] 5)) := conv_bytes wr [x % 256] (by intro y hy; simp at hy; omega) 1
      have HW2 := Lib.hid (HW.out.alloc HW.out.size (.cells #[.int .u8 (x % 256)] 5))
      have hts : t.size = 1 := by rw [HT.out, bs_size]; simp [num_len]
      have hbs : (bs [x % 256]).size = 1 := bs_size _
      go_wp2_with fail
      go_roundw
      case rel => exact ⟨2, _, by omega, by go_num, rfl, by show _ = _; rw [HB.out, ← bs_app, ← HT.out], HW2.out⟩
      case measure => simp [intOf]
    · rw [show ((1 : Int) - ((2 : Nat) : Int)) = -1 by decide]
      go_wp2_with fail
      go_ret
      have hT := HT.out
      rw [List.take_of_length_le (by rw [num_len]; omega)] at hT
      exact ⟨by rw [← hT]; rfl, HW.out⟩
set_option maxHeartbeats 0 in
set_option maxRecDepth 100000 in
theorem put4 (x : Int) (W : World) (hx0 : 0 ≤ x) (hx1 : x ≤ 18446744073709551615) : Calls Try.prog 36 #[.int .u64 x, .int .i64 4] W (PutRes (num x 4) W) := by
  have HB0 := Lib.hid (Below.refl W.heap.size W)
  go_enter Try.func36, Try.ntmps36
  go_wp2_with fail
  go_loopw [5, 6] (fun sv i wr => ∃ (m : Nat) (t : ByteArray), m ≤ 4 ∧ i = .int .i64 (3 - (m : Int)) ∧ sv = .string t ∧ Hid (t = bs ((num x 4).take m)) ∧ Hid (Below W.heap.size W wr)) (fun _ i _ => (intOf i + 1).toNat)
  case atStart => exact ⟨0, _, by omega, rfl, rfl, rfl, HB0.out⟩
  case round =>
    obtain ⟨m, t, hm, rfl, rfl, HT, HW⟩ := hrel
    rcases (show m = 0 ∨ m = 1 ∨ m = 2 ∨ m = 3 ∨ m = 4 by omega) with rfl | rfl | rfl | rfl | rfl
    · rw [show (3 : Int) - ((0 : Nat) : Int) = 3 by decide]
      have HB : Hid ((num x 4).take 1 = (num x 4).take 0 ++ [x / 16777216 % 256]) := by
        show _ = _
        rw [take_snoc 0 _ _ (by rw [num_len]; omega)]
        congr 1 <;> simp [num] <;> omega
      have hconv : (convert 59 9 (.slice (some ⟨wr.heap.size, 0, none⟩) 1 1)).run Try.prog (wr.alloc (.cells #[.int .u8 (x / 16777216 % 256)] 5)) = .ok (.string (bs [x / 16777216 % 256])) (wr.alloc (.cells #[.int .u8 (x / 16777216 % 256)] 5)) := conv_bytes wr [x / 16777216 % 256] (by intro y hy; simp at hy; omega) 1
      have HW2 := Lib.hid (HW.out.alloc HW.out.size (.cells #[.int .u8 (x / 16777216 % 256)] 5))
      have hts : t.size = 0 := by rw [HT.out, bs_size]; simp [num_len]
      have hbs : (bs [x / 16777216 % 256]).size = 1 := bs_size _
      go_wp2_with fail
      go_roundw
      case rel => exact ⟨1, _, by omega, by go_num, rfl, by show _ = _; rw [HB.out, ← bs_app, ← HT.out], HW2.out⟩
      case measure => simp [intOf]
    · rw [show (3 : Int) - ((1 : Nat) : Int) = 2 by decide]
      have HB : Hid ((num x 4).take 2 = (num x 4).take 1 ++ [x / 65536 % 256]) := by
        show _ = _
        rw [take_snoc 0 _ _ (by rw [num_len]; omega)]
        congr 1 <;> simp [num] <;> omega
      have hconv : (convert 59 9 (.slice (some ⟨wr.heap.size, 0, none⟩) 1 1)).run Try.prog (wr.alloc (.cells #[.int .u8 (x / 65536 % 256)] 5)) = .ok (.string (bs [x / 65536 % 256])) (wr.alloc (.cells #[.int .u8 (x / 65536 % 256)] 5)) := conv_bytes wr [x / 65536 % 256] (by intro y hy; simp at hy; omega) 1
      have HW2 := Lib.hid (HW.out.alloc HW.out.size (.cells #[.int .u8 (x / 65536 % 256)] 5))
      have hts : t.size = 1 := by rw [HT.out, bs_size]; simp [num_len]
      have hbs : (bs [x / 65536 % 256]).size = 1 := bs_size _
      go_wp2_with fail
      go_roundw
      case rel => exact ⟨2, _, by omega, by go_num, rfl, by show _ = _; rw [HB.out, ← bs_app, ← HT.out], HW2.out⟩
      case measure => simp [intOf]
    · rw [show (3 : Int) - ((2 : Nat) : Int) = 1 by decide]
      have HB : Hid ((num x 4).take 3 = (num x 4).take 2 ++ [x / 256 % 256]) := by
        show _ = _
        rw [take_snoc 0 _ _ (by rw [num_len]; omega)]
        congr 1 <;> simp [num] <;> omega
      have hconv : (convert 59 9 (.slice (some ⟨wr.heap.size, 0, none⟩) 1 1)).run Try.prog (wr.alloc (.cells #[.int .u8 (x / 256 % 256)] 5)) = .ok (.string (bs [x / 256 % 256])) (wr.alloc (.cells #[.int .u8 (x / 256 % 256)] 5)) := conv_bytes wr [x / 256 % 256] (by intro y hy; simp at hy; omega) 1
      have HW2 := Lib.hid (HW.out.alloc HW.out.size (.cells #[.int .u8 (x / 256 % 256)] 5))
      have hts : t.size = 2 := by rw [HT.out, bs_size]; simp [num_len]
      have hbs : (bs [x / 256 % 256]).size = 1 := bs_size _
      go_wp2_with fail
      go_roundw
      case rel => exact ⟨3, _, by omega, by go_num, rfl, by show _ = _; rw [HB.out, ← bs_app, ← HT.out], HW2.out⟩
      case measure => simp [intOf]
    · rw [show (3 : Int) - ((3 : Nat) : Int) = 0 by decide]
      have HB : Hid ((num x 4).take 4 = (num x 4).take 3 ++ [x % 256]) := by
        show _ = _
        rw [take_snoc 0 _ _ (by rw [num_len]; omega)]
        congr 1 <;> simp [num] <;> omega
      have hconv : (convert 59 9 (.slice (some ⟨wr.heap.size, 0, none⟩) 1 1)).run Try.prog (wr.alloc (.cells #[.int .u8 (x % 256)] 5)) = .ok (.string (bs [x % 256])) (wr.alloc (.cells #[.int .u8 (x % 256)] 5)) := conv_bytes wr [x % 256] (by intro y hy; simp at hy; omega) 1
      have HW2 := Lib.hid (HW.out.alloc HW.out.size (.cells #[.int .u8 (x % 256)] 5))
      have hts : t.size = 3 := by rw [HT.out, bs_size]; simp [num_len]
      have hbs : (bs [x % 256]).size = 1 := bs_size _
      go_wp2_with fail
      go_roundw
      case rel => exact ⟨4, _, by omega, by go_num, rfl, by show _ = _; rw [HB.out, ← bs_app, ← HT.out], HW2.out⟩
      case measure => simp [intOf]
    · rw [show ((3 : Int) - ((4 : Nat) : Int)) = -1 by decide]
      go_wp2_with fail
      go_ret
      have hT := HT.out
      rw [List.take_of_length_le (by rw [num_len]; omega)] at hT
      exact ⟨by rw [← hT]; rfl, HW.out⟩
end Go.Proofs.Ytcicememljlafaa
