/- Walks: a string as a word, by the reference; numbers. -/
import Derived.Test.YtcbhfhmpajamoaaDoorK1
import Derived.Lib.ItoaNum
namespace Go.Proofs.YtcbhfhmpajamoaaDoor
open Go.RowKit

set_option maxHeartbeats 0 in
set_option maxRecDepth 100000 in
theorem stringFnR (s : ByteArray) (w : World) (hs : s.size ≤ 100000) : Calls Tryd.prog 25 #[.string s] w (StrRes (quoteL s) w) := by
  have HO := Lib.hid (World.ownsRow_lit (base := w.heap.size) (e := 5) (size := 1) w #[.int .u8 43] 1 (Nat.le_refl _) (by unfold maxLen; omega) rfl)
  have HB0 := Lib.hid (below_box w (.cells #[.int .u8 43] 5))
  go_enter Tryd.func25, Tryd.ntmps25
  go_wp2_with fail
  generalize hv0 : (Value.slice (some { block := w.heap.size, off := 0 }) 1 1) = v0 at *
  generalize hW0 : w.alloc (.cells #[.int .u8 43] 5) = W0 at *
  clear hv0 hW0
  go_loopw [4, 5] (fun v i wr => ∃ (k : Nat) (v' : Value), k ≤ s.size ∧ v = v' ∧ i = .int .i64 k ∧ Hid (wr.ownsRow w.heap.size 5 1 v' (1 + 2 * k) ((43 :: hexL ((ints s).take k)).map (Value.int .u8))) ∧ Hid (Below w.heap.size w wr)) (fun _ i _ => s.size - (intOf i).toNat)
  case atStart => exact ⟨0, _, Nat.zero_le _, rfl, rfl, by show World.ownsRow _ _ _ _ _ _ _; simpa [hexL] using HO.out, HB0.out⟩
  case round =>
    obtain ⟨k, v', hk, rfl, rfl, HV, HW⟩ := hrel
    clear HO HB0
    by_cases hlt : k < s.size
    · have hki : (k : Int) < (s.size : Int) := by omega
      have hb := UInt8.toNat_lt (s[k]'hlt)
      have HT := Lib.hid (take_snoc (ints_at s k hlt))
      obtain ⟨A, c, rfl⟩ := own_form HV.out
      obtain ⟨i0, hi, hz0, hz1, hz2⟩ := info_parts u8_info
      have hB : w.heap.size ≤ wr.heap.size := HW.out.size
      have e1 : ((((s[k]'hlt).toNat : Nat) : Int) / 16).toNat = (s[k]'hlt).toNat / 16 := by omega
      have e2 : (0 : Int) ≤ (((s[k]'hlt).toNat : Nat) : Int) / 16 := by omega
      have e3 : (((s[k]'hlt).toNat : Nat) : Int) / 16 < 16 := by omega
      have hv := hexv
      have e9 : ((((s[k]'hlt).toNat : Nat) : Int).tmod 16) = (((s[k]'hlt).toNat : Nat) : Int) % 16 := Int.tmod_eq_emod_of_nonneg (by omega)
      have e8 : IntKind.u8.wrap ((((s[k]'hlt).toNat : Nat) : Int) / 16) = (((s[k]'hlt).toNat : Nat) : Int) / 16 := wraps_u8 _ (by omega) (by omega)
      have e4 : bits BinOp.and IntKind.u8 (((s[k]'hlt).toNat : Nat) : Int) 15 = (((s[k]'hlt).toNat : Nat) : Int) % 16 := u8_and15 _ (by omega) (by omega)
      have e5 : ((((s[k]'hlt).toNat : Nat) : Int) % 16).toNat = (s[k]'hlt).toNat % 16 := by omega
      have e6 : (0 : Int) ≤ (((s[k]'hlt).toNat : Nat) : Int) % 16 := by omega
      have e7 : (((s[k]'hlt).toNat : Nat) : Int) % 16 < 16 := by omega
      go_wp2_with fail
      go_region_law (refine step_append_lies _ rfl (.tmp 13) (.tmp 26) 75 rfl w.heap.size 5 i0 (.int .u8 0) 1 1 Tryd.underlying75 hi hz0 hz1 hz2 rfl (by decide) (.slice A (1 + 2 * k) c) (1 + 2 * k) _ (by simp [Act.eval]) (own_drew (HV.out.alloc _)) _ 2 2 [.int .u8 (hxd ((s[k]'hlt).toNat / 16)), .int .u8 (hxd ((s[k]'hlt).toNat % 16))] (by simp [Act.eval]) rfl (news_cells _ _ _) (by intro u hu; simp at hu; rcases hu with rfl | rfl <;> rfl) (by omega) (by unfold maxLen; omega) (by omega) (by simp; omega) _ rfl ?_; intro g cap w11 hown hgrow _ _; (have HB2 := Lib.hid (below_row HW.out (Nat.le_refl _) hB HV.out (grown_undrew hgrow))); (have HV2 := Lib.hid hown); clear hown hgrow)
      all_goals
        go_wp2_with fail
        go_roundw
        case rel =>
          refine ⟨k + 1, _, by omega, rfl, by go_num, ?_, HB2.out⟩
          have hh := HV2.out
          show World.ownsRow _ _ _ _ _ _ _
          rw [HT.out, hexL_snoc, show 1 + 2 * (k + 1) = 1 + 2 * k + 2 by omega]
          simpa using hh
        case measure => simp [intOf]; omega
    · obtain rfl : k = s.size := by omega
      obtain ⟨A, c, rfl⟩ := own_form HV.out
      have HV2 : Hid (wr.ownsRow w.heap.size 5 1 (.slice A (1 + 2 * s.size) c) (quoteL s).length ((quoteL s).map (Value.int .u8))) := by
        have := HV.out
        rw [List.take_of_length_le (by rw [ints_len]; omega)] at this
        rw [quoteL_len]; exact this
      have hcv := conv_row (quoteL_BL s) HV2.out (by rw [quoteL_len]; omega)
      clear HV
      go_wp2_with fail
      go_ret
      exact ⟨rfl, HW.out⟩
/-- The decimal digits. -/
def decL (u : Nat) : List Int := if h : u < 10 then [48 + (u : Int)] else decL (u / 10) ++ [48 + (u : Int) % 10]
termination_by u
decreasing_by omega
theorem decL_one {u : Nat} (h : u < 10) : decL u = [48 + (u : Int)] := by rw [decL, dif_pos h]
theorem decL_more {u : Nat} (h : ¬ u < 10) : decL u = decL (u / 10) ++ [48 + (u : Int) % 10] := by rw [decL, dif_neg h]
theorem bs_decL (u : Nat) : bs (decL u) = ⟨(Lib.decDigits u).toArray⟩ := by
  induction u using Nat.strongRecOn with
  | ind u ih =>
    by_cases h : u < 10
    · have e0 : (48 + (u : Int)).toNat = 48 + u := by omega
      rw [decL_one h, Lib.decDigits_one h]; simp [bs, e0]
    · have e : Lib.decDigits u = Lib.decDigits (u / 10) ++ [UInt8.ofNat (48 + u % 10)] := by rw [Lib.decDigits, dif_neg h]
      have e0 : (48 + (u : Int) % 10).toNat = 48 + u % 10 := by omega
      rw [decL_more h, e, ← bs_app, ih (u / 10) (by omega)]
      apply ByteArray.ext
      simp [bs, e0]
theorem decL_BL (u : Nat) : BL (decL u) := by
  induction u using Nat.strongRecOn with
  | ind u ih =>
    by_cases h : u < 10
    · rw [decL_one h]; intro x hx; simp at hx; omega
    · rw [decL_more h]
      intro x hx
      rcases List.mem_append.1 hx with hx | hx
      · exact ih (u / 10) (by omega) x hx
      · simp at hx; omega
theorem decL_len (u k : Nat) (h : u < 10 ^ k) (hk : 1 ≤ k) : (decL u).length ≤ k := by
  induction k generalizing u with
  | zero => omega
  | succ k ih =>
    by_cases h1 : u < 10
    · rw [decL_one h1]; simp
    · rw [decL_more h1]
      have hk0 : 1 ≤ k := by
        rcases Nat.eq_zero_or_pos k with rfl | hk0
        · simp at h; omega
        · exact hk0
      have := ih (u / 10) (by rw [Nat.pow_succ] at h; omega) hk0
      simp; omega
theorem decL_pos (u : Nat) : 1 ≤ (decL u).length := by
  by_cases h : u < 10
  · rw [decL_one h]; simp
  · rw [decL_more h]; simp
theorem conv_one (W : World) (x : Int) (h0 : 0 ≤ x) (h1 : x < 256) : (convert 75 9 (.slice (some ⟨W.heap.size, 0, none⟩) 1 1)).run Tryd.prog (W.alloc (.cells #[.int .u8 x] 5)) = .ok (.string (bs [x])) (W.alloc (.cells #[.int .u8 x] 5)) :=
  conv_row (B := W.heap.size) (l := [x]) (by intro y hy; simp at hy; omega) (World.ownsRow_lit (base := W.heap.size) (e := 5) (size := 1) W #[.int .u8 x] 1 (Nat.le_refl _) (by unfold maxLen; omega) rfl) (by simp)
def NumRes (x : Int) (w : World) (e : Ending) (w' : World) : Prop :=
  (if 0 ≤ x ∧ x ≤ 9999999999 then e = .returned (.tuple #[.string (bs (decL x.toNat)), .bool true]) else e = .returned (.tuple #[.string ⟨#[]⟩, .bool false])) ∧ Below w.heap.size w w'
theorem numRes_no {x : Int} {w w' : World} (h : ¬ (0 ≤ x ∧ x ≤ 9999999999)) (hb : Below w.heap.size w w') : NumRes x w (.returned (.tuple #[.string ⟨#[]⟩, .bool false])) w' := ⟨by rw [if_neg h], hb⟩
theorem numRes_yes {n : Nat} {l : List Int} {w w' : World} (h : n ≤ 9999999999) (hl : decL n = l) (hb : Below w.heap.size w w') : NumRes n w (.returned (.tuple #[.string (bs l), .bool true])) w' := ⟨by rw [if_pos (by omega), Int.toNat_natCast, hl], hb⟩
set_option maxHeartbeats 0 in
set_option maxRecDepth 100000 in
theorem numberFn (x : Int) (w : World) : Calls Tryd.prog 24 #[.int .i64 x] w (NumRes x w) := by
  have HB0 := Lib.hid (Below.refl w.heap.size w)
  by_cases h0 : x < 0
  case pos =>
    go_enter Tryd.func24, Tryd.ntmps24
    go_wp2
    go_ret2
    exact numRes_no (by omega) HB0.out
  by_cases h1 : 9999999999 < x
  case pos =>
    go_enter Tryd.func24, Tryd.ntmps24
    go_wp2
    go_ret2
    exact numRes_no (by omega) HB0.out
  obtain ⟨n, rfl⟩ : ∃ n : Nat, x = n := ⟨x.toNat, by omega⟩
  have hn : n ≤ 9999999999 := by omega
  have HL := Lib.hid (decL_len n 10 (by omega) (by omega))
  go_enter Tryd.func24, Tryd.ntmps24
  go_wp2_with fail
  go_loopw [0, 4] (fun v sv wr => ∃ (m : Nat) (t : ByteArray) (l : List Int), m ≤ 9999999999 ∧ v = .int .i64 m ∧ sv = .string t ∧ t.size ≤ 10 ∧ Hid (t = bs l ∧ decL n = decL m ++ l) ∧ Hid (Below w.heap.size w wr)) (fun v _ _ => (intOf v).toNat)
  case atStart => exact ⟨n, _, [], hn, rfl, rfl, by decide, ⟨rfl, by simp⟩, HB0.out⟩
  case round =>
    obtain ⟨m, t, l, hm, rfl, rfl, htz, HT, HW⟩ := hrel
    clear HB0
    by_cases hm1 : 10 ≤ m
    · have hmi : (10 : Int) ≤ (m : Int) := by omega
      have e1 : (m : Int).tmod 10 = ((m % 10 : Nat) : Int) := by rw [Int.tmod_eq_emod_of_nonneg (by omega)]; omega
      have e2 : (m : Int).tdiv 10 = ((m / 10 : Nat) : Int) := by rw [Int.tdiv_eq_ediv_of_nonneg (by omega)]; omega
      have hcv := conv_one wr (48 + (m : Int) % 10) (by omega) (by omega)
      have HW2 := Lib.hid (below_then HW.out HW.out.size (below_box wr (.cells #[.int .u8 (48 + (m : Int) % 10)] 5)))
      have hz1 : (bs [48 + (m : Int) % 10]).size = 1 := by rw [bs_size]; rfl
      have HT2 : Hid (bs [48 + (m : Int) % 10] ++ t = bs ((48 + (m : Int) % 10) :: l) ∧ decL n = decL (m / 10) ++ ((48 + (m : Int) % 10) :: l)) := by
        refine ⟨by rw [HT.out.1, bs_app]; rfl, ?_⟩
        rw [HT.out.2, decL_more (by omega : ¬ m < 10)]; simp
      have hl : l.length ≤ 8 := by
        have h1 := HL.out
        rw [HT2.out.2] at h1
        have h2 := decL_pos (m / 10)
        simp at h1; omega
      have htl : t.size = l.length := by rw [HT.out.1, bs_size]
      generalize bs [48 + (m : Int) % 10] = y at *
      have hct : ¬ 9223372036854775807 < 1 + t.size := by omega
      go_wp2_with fail
      go_roundw
      case rel => exact ⟨m / 10, _, _, by omega, by go_num, rfl, by rw [ByteArray.size_append]; omega, HT2.out, HW2.out⟩
      case measure => simp [intOf]; omega
    · have hmi : ¬ (10 : Int) ≤ (m : Int) := by omega
      have hcv := conv_one wr (48 + (m : Int)) (by omega) (by omega)
      have HW2 := Lib.hid (below_then HW.out HW.out.size (below_box wr (.cells #[.int .u8 (48 + (m : Int))] 5)))
      have hz1 : (bs [48 + (m : Int)]).size = 1 := by rw [bs_size]; rfl
      have HT2 : Hid (bs [48 + (m : Int)] ++ t = bs (decL n)) := by
        show _ = _
        rw [HT.out.2, HT.out.1, bs_app, decL_one (by omega : m < 10)]
      generalize bs [48 + (m : Int)] = y at *
      have hct : ¬ 9223372036854775807 < 1 + t.size := by omega
      go_wp2_with fail
      go_ret2
      refine ⟨?_, HW2.out⟩
      rw [if_pos (by omega), Int.toNat_natCast, ← HT2.out]
      rfl
end Go.Proofs.YtcbhfhmpajamoaaDoor
