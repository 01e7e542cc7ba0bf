/- Walks: bytes read, by the program: take, number. -/
import Derived.Test.YtcicememljlafaaE10
import Derived.Laws.BitsLemmas
namespace Go.Proofs.Ytcicememljlafaa
open Go.RowKit
open Runes (bs bt)

set_option maxHeartbeats 0 in
theorem take_no (n rb : Nat) (l : List Int) (W : World) (h : StrBox W rb 74 (bs l)) (hn : l.length < n) (hm : n ≤ 65536) :
    Calls Try.prog 56 #[.pointer (some ⟨rb, 0, none⟩), .int .i64 n] W (fun e w' => e = .panicked [{ v := .iface 33 (.int .i64 4), recovered := false }] ∧ w' = W) := by
  have hc := h.cell
  have hs : (bs l).size = l.length := bs_size l
  have hlt : ((bs l).size : Int) < (n : Int) := by omega
  clear h
  go_enter Try.func56, Try.ntmps56
  go_wp2
  exact ⟨rfl, rfl, rfl⟩
set_option maxHeartbeats 0 in
theorem take_yes (n rb : Nat) (l : List Int) (W : World) (h : StrBox W rb 74 (bs l)) (hn : n ≤ l.length) (hm : l.length ≤ 65536) :
    Calls Try.prog 56 #[.pointer (some ⟨rb, 0, none⟩), .int .i64 n] W (NextRes rb 74 (bs (l.drop n)) (.string (bs (l.take n))) W) := by
  have hc := h.cell
  have hf := h.elem.frozen 0
  have hs : (bs l).size = l.length := bs_size l
  have HS := Lib.hid (h.set (bs (l.drop n)))
  have h1 := bs_take l n
  have h2 : (bs l).extract n l.length = bs (l.drop n) := by rw [← hs]; exact bs_drop l n
  have hlt : ¬ ((bs l).size : Int) < (n : Int) := by omega
  have hle : (n : Int) ≤ ((bs l).size : Int) := by omega
  clear h
  go_enter Try.func56, Try.ntmps56
  go_wp2
  go_ret
  exact ⟨rfl, HS.out.1, HS.out.2⟩
theorem or_byte (a b : Int) (ha : 0 ≤ a) (ha' : a ≤ 16777216) (hb : 0 ≤ b) (hb' : b < 256) : bits BinOp.or IntKind.i64 (a * 256) b = a * 256 + b :=
  bits_join .i64 62 (by decide) (fun n h0 h1 => by rw [IntKind.wrap_i64]; omega) 8 (a * 256) b (by omega) (by omega) (by omega) hb (by omega) (by omega)
theorem val_take_succ (l : List Int) (k : Nat) (hk : k < l.length) : val (l.take (k + 1)) = val (l.take k) * 256 + l.getD k 0 := by
  rw [take_snoc 0 l k hk, val_snoc]
theorem val_le (l : List Int) (h : BL l) (k : Nat) (hk : k ≤ 3) : val (l.take k) ≤ 16777215 := by
  have h1 := (val_bd (l.take k) (h.take k)).2
  have h2 : (l.take k).length ≤ 3 := by simp; omega
  have h3 : (l.take k).length = 0 ∨ (l.take k).length = 1 ∨ (l.take k).length = 2 ∨ (l.take k).length = 3 := by omega
  have e0 : (256 : Int) ^ 0 = 1 := by decide
  have e3 : (256 : Int) ^ 3 = 16777216 := by decide
  rcases h3 with h3 | h3 | h3 | h3 <;> rw [h3] at h1 <;> first | (rw [e0] at h1; omega) | (rw [pow1] at h1; omega) | (rw [pow2] at h1; omega) | (rw [e3] at h1; omega)
abbrev ErrForm : Ending := .panicked [{ v := .iface 33 (.int .i64 4), recovered := false }]
set_option maxHeartbeats 0 in
theorem num1_no (rb : Nat) (l : List Int) (W : World) (h : StrBox W rb 74 (bs l)) (hn : l.length < 1) :
    Calls Try.prog 55 #[.pointer (some ⟨rb, 0, none⟩), .int .i64 1] W (fun e w' => e = ErrForm ∧ w' = W) := by
  have HT := Lib.hid (take_no 1 rb l W h hn (by omega))
  clear h
  go_enter Try.func55, Try.ntmps55
  go_wp2_with fail
  refine HT.out.mono ?_
  rintro e w' ⟨rfl, rfl⟩
  go_wp2_with fail
  exact ⟨rfl, rfl, rfl⟩
set_option maxHeartbeats 0 in
theorem num1_yes (rb : Nat) (l : List Int) (W : World) (h : StrBox W rb 74 (bs l)) (hl : BL l) (hn : 1 ≤ l.length) (hm : l.length ≤ 65536) :
    Calls Try.prog 55 #[.pointer (some ⟨rb, 0, none⟩), .int .i64 1] W (NextRes rb 74 (bs (l.drop 1)) (.int .i64 (val (l.take 1))) W) := by
  have HT := Lib.hid (take_yes 1 rb l W h hn hm)
  have hlen : (l.take 1).length = 1 := by simp; omega
  have hbl := hl.take 1
  clear h hl
  generalize l.take 1 = t at *
  have hsz : (bs t).size = 1 := by rw [bs_size, hlen]
  have HBL := Lib.hid hbl
  have HLE := Lib.hid hlen
  clear hlen hbl
  go_enter Try.func55, Try.ntmps55
  go_wp2_with fail
  refine HT.out.mono ?_
  rintro e w' ⟨rfl, h1, h2⟩
  have H1 := Lib.hid h1
  have H2 := Lib.hid h2
  clear h1 h2 HT
  go_wp2_with fail
  go_loopw [5, 13] (fun nv i wr => ∃ (m : Nat) (v : Int), m ≤ 1 ∧ i = .int .i64 m ∧ nv = .int .i64 v ∧ Hid (v = val (t.take m)) ∧ Hid (wr = w')) (fun _ i _ => 1 - (intOf i).toNat)
  case atStart => exact ⟨0, 0, by omega, rfl, rfl, by show (0 : Int) = _; simp [val], rfl⟩
  case round =>
    obtain ⟨m, v, hm', rfl, rfl, HV, HW⟩ := hrel
    have hwr := HW.out
    subst hwr
    by_cases hlt : m < 1
    · have hmi : (m : Int) < 1 := by omega
      have hms : (m : Int) < ((bs t).size : Int) := by omega
      have hmt : m < t.length := by rw [HLE.out]; exact hlt
      have HVS := Lib.hid (val_take_succ t m hmt)
      have hv0 : 0 ≤ v := by rw [HV.out]; exact (val_bd _ (HBL.out.take m)).1
      have hv1 : v ≤ 16777215 := by rw [HV.out]; exact val_le t HBL.out m (by omega)
      have hmb : m < (bs t).size := by omega
      have hbt : (((bs t)[m]'hmb).toNat : Int) = t.getD m 0 := by
        have e1 := Runes.bt_lt hmb
        have e2 := bt_bs HBL.out m hmt
        rw [← e1, e2]; simp [List.getD_eq_getElem?_getD, hmt]
      have hbb := UInt8.toNat_lt ((bs t)[m]'hmb)
      have hor := or_byte v (((bs t)[m]'hmb).toNat : Int) hv0 (by omega) (by omega) (by omega)
      have HBT := Lib.hid hbt
      clear hmt hbt
      go_wp2_with fail
      go_roundw
      case rel => exact ⟨m + 1, _, by omega, by go_num, rfl, by show _ = _; rw [HVS.out, ← HV.out, ← HBT.out], Lib.hid trivial⟩
      case measure => simp [intOf]; omega
    · obtain rfl : m = 1 := by omega
      go_wp2_with fail
      go_ret
      have hv := HV.out
      rw [List.take_of_length_le (by rw [HLE.out]; omega)] at hv
      exact ⟨ret_int hv, by first | exact H1.out | simpa using H1.out, H2.out⟩
set_option maxHeartbeats 0 in
theorem num2_no (rb : Nat) (l : List Int) (W : World) (h : StrBox W rb 74 (bs l)) (hn : l.length < 2) :
    Calls Try.prog 55 #[.pointer (some ⟨rb, 0, none⟩), .int .i64 2] W (fun e w' => e = ErrForm ∧ w' = W) := by
  have HT := Lib.hid (take_no 2 rb l W h hn (by omega))
  clear h
  go_enter Try.func55, Try.ntmps55
  go_wp2_with fail
  refine HT.out.mono ?_
  rintro e w' ⟨rfl, rfl⟩
  go_wp2_with fail
  exact ⟨rfl, rfl, rfl⟩
set_option maxHeartbeats 0 in
theorem num2_yes (rb : Nat) (l : List Int) (W : World) (h : StrBox W rb 74 (bs l)) (hl : BL l) (hn : 2 ≤ l.length) (hm : l.length ≤ 65536) :
    Calls Try.prog 55 #[.pointer (some ⟨rb, 0, none⟩), .int .i64 2] W (NextRes rb 74 (bs (l.drop 2)) (.int .i64 (val (l.take 2))) W) := by
  have HT := Lib.hid (take_yes 2 rb l W h hn hm)
  have hlen : (l.take 2).length = 2 := by simp; omega
  have hbl := hl.take 2
  clear h hl
  generalize l.take 2 = t at *
  have hsz : (bs t).size = 2 := by rw [bs_size, hlen]
  have HBL := Lib.hid hbl
  have HLE := Lib.hid hlen
  clear hlen hbl
  go_enter Try.func55, Try.ntmps55
  go_wp2_with fail
  refine HT.out.mono ?_
  rintro e w' ⟨rfl, h1, h2⟩
  have H1 := Lib.hid h1
  have H2 := Lib.hid h2
  clear h1 h2 HT
  go_wp2_with fail
  go_loopw [5, 13] (fun nv i wr => ∃ (m : Nat) (v : Int), m ≤ 2 ∧ i = .int .i64 m ∧ nv = .int .i64 v ∧ Hid (v = val (t.take m)) ∧ Hid (wr = w')) (fun _ i _ => 2 - (intOf i).toNat)
  case atStart => exact ⟨0, 0, by omega, rfl, rfl, by show (0 : Int) = _; simp [val], rfl⟩
  case round =>
    obtain ⟨m, v, hm', rfl, rfl, HV, HW⟩ := hrel
    have hwr := HW.out
    subst hwr
    by_cases hlt : m < 2
    · have hmi : (m : Int) < 2 := by omega
      have hms : (m : Int) < ((bs t).size : Int) := by omega
      have hmt : m < t.length := by rw [HLE.out]; exact hlt
      have HVS := Lib.hid (val_take_succ t m hmt)
      have hv0 : 0 ≤ v := by rw [HV.out]; exact (val_bd _ (HBL.out.take m)).1
      have hv1 : v ≤ 16777215 := by rw [HV.out]; exact val_le t HBL.out m (by omega)
      have hmb : m < (bs t).size := by omega
      have hbt : (((bs t)[m]'hmb).toNat : Int) = t.getD m 0 := by
        have e1 := Runes.bt_lt hmb
        have e2 := bt_bs HBL.out m hmt
        rw [← e1, e2]; simp [List.getD_eq_getElem?_getD, hmt]
      have hbb := UInt8.toNat_lt ((bs t)[m]'hmb)
      have hor := or_byte v (((bs t)[m]'hmb).toNat : Int) hv0 (by omega) (by omega) (by omega)
      have HBT := Lib.hid hbt
      clear hmt hbt
      go_wp2_with fail
      go_roundw
      case rel => exact ⟨m + 1, _, by omega, by go_num, rfl, by show _ = _; rw [HVS.out, ← HV.out, ← HBT.out], Lib.hid trivial⟩
      case measure => simp [intOf]; omega
    · obtain rfl : m = 2 := by omega
      go_wp2_with fail
      go_ret
      have hv := HV.out
      rw [List.take_of_length_le (by rw [HLE.out]; omega)] at hv
      exact ⟨ret_int hv, by first | exact H1.out | simpa using H1.out, H2.out⟩
set_option maxHeartbeats 0 in
theorem num4_no (rb : Nat) (l : List Int) (W : World) (h : StrBox W rb 74 (bs l)) (hn : l.length < 4) :
    Calls Try.prog 55 #[.pointer (some ⟨rb, 0, none⟩), .int .i64 4] W (fun e w' => e = ErrForm ∧ w' = W) := by
  have HT := Lib.hid (take_no 4 rb l W h hn (by omega))
  clear h
  go_enter Try.func55, Try.ntmps55
  go_wp2_with fail
  refine HT.out.mono ?_
  rintro e w' ⟨rfl, rfl⟩
  go_wp2_with fail
  exact ⟨rfl, rfl, rfl⟩
set_option maxHeartbeats 0 in
theorem num4_yes (rb : Nat) (l : List Int) (W : World) (h : StrBox W rb 74 (bs l)) (hl : BL l) (hn : 4 ≤ l.length) (hm : l.length ≤ 65536) :
    Calls Try.prog 55 #[.pointer (some ⟨rb, 0, none⟩), .int .i64 4] W (NextRes rb 74 (bs (l.drop 4)) (.int .i64 (val (l.take 4))) W) := by
  have HT := Lib.hid (take_yes 4 rb l W h hn hm)
  have hlen : (l.take 4).length = 4 := by simp; omega
  have hbl := hl.take 4
  clear h hl
  generalize l.take 4 = t at *
  have hsz : (bs t).size = 4 := by rw [bs_size, hlen]
  have HBL := Lib.hid hbl
  have HLE := Lib.hid hlen
  clear hlen hbl
  go_enter Try.func55, Try.ntmps55
  go_wp2_with fail
  refine HT.out.mono ?_
  rintro e w' ⟨rfl, h1, h2⟩
  have H1 := Lib.hid h1
  have H2 := Lib.hid h2
  clear h1 h2 HT
  go_wp2_with fail
  go_loopw [5, 13] (fun nv i wr => ∃ (m : Nat) (v : Int), m ≤ 4 ∧ i = .int .i64 m ∧ nv = .int .i64 v ∧ Hid (v = val (t.take m)) ∧ Hid (wr = w')) (fun _ i _ => 4 - (intOf i).toNat)
  case atStart => exact ⟨0, 0, by omega, rfl, rfl, by show (0 : Int) = _; simp [val], rfl⟩
  case round =>
    obtain ⟨m, v, hm', rfl, rfl, HV, HW⟩ := hrel
    have hwr := HW.out
    subst hwr
    by_cases hlt : m < 4
    · have hmi : (m : Int) < 4 := by omega
      have hms : (m : Int) < ((bs t).size : Int) := by omega
      have hmt : m < t.length := by rw [HLE.out]; exact hlt
      have HVS := Lib.hid (val_take_succ t m hmt)
      have hv0 : 0 ≤ v := by rw [HV.out]; exact (val_bd _ (HBL.out.take m)).1
      have hv1 : v ≤ 16777215 := by rw [HV.out]; exact val_le t HBL.out m (by omega)
      have hmb : m < (bs t).size := by omega
      have hbt : (((bs t)[m]'hmb).toNat : Int) = t.getD m 0 := by
        have e1 := Runes.bt_lt hmb
        have e2 := bt_bs HBL.out m hmt
        rw [← e1, e2]; simp [List.getD_eq_getElem?_getD, hmt]
      have hbb := UInt8.toNat_lt ((bs t)[m]'hmb)
      have hor := or_byte v (((bs t)[m]'hmb).toNat : Int) hv0 (by omega) (by omega) (by omega)
      have HBT := Lib.hid hbt
      clear hmt hbt
      go_wp2_with fail
      go_roundw
      case rel => exact ⟨m + 1, _, by omega, by go_num, rfl, by show _ = _; rw [HVS.out, ← HV.out, ← HBT.out], Lib.hid trivial⟩
      case measure => simp [intOf]; omega
    · obtain rfl : m = 4 := by omega
      go_wp2_with fail
      go_ret
      have hv := HV.out
      rw [List.take_of_length_le (by rw [HLE.out]; omega)] at hv
      exact ⟨ret_int hv, by first | exact H1.out | simpa using H1.out, H2.out⟩
end Go.Proofs.Ytcicememljlafaa
