import Derived.Test.YtppbknpiipfidaaB1
namespace Go.Proofs.Ytppbknpiipfidaa
open Go.RowKit

theorem bursts_odd1 (A : Option Addr) (n c : Nat) (w : World) (h : n % 2 ≠ 0) (hn : n ≤ 200) : Calls Try.prog 16 #[.slice A n c] w (NilRes 2 w) := by
  have hne : ((n : Int) % 2 != 0) = true := by simp; omega
  clear h
  go_enter Try.func16, Try.ntmps16
  go_wp2
  go_ret2
  exact ⟨rfl, Below.refl _ _⟩

theorem min_if (v : Int) : (if 65537 < v then (65537 : Int) else v) = min v 65537 := by split <;> omega

set_option maxHeartbeats 1600000 in
theorem bursts_even1 (b o c : Nat) (xs : List Int) (w : World) (h : xs.length % 2 = 0) (hn : xs.length ≤ 200)
    (hc : ∀ j, j < xs.length → w.cell? ⟨b, o + j, none⟩ = some (.int .i64 (xs.getD j 0))) (hb : b < w.heap.size) :
    Calls Try.prog 16 #[.slice (some ⟨b, o, none⟩) xs.length c] w (outRes xs w) := by
  obtain ⟨i0, hi, hz0, hz1, hz2⟩ := info_parts int_info
  have hne : ((xs.length : Int) % 2 != 0) = false := by simp; omega
  have HE := Lib.hid h
  clear h
  generalize hl : xs.length = n at *
  have HL := Lib.hid hl
  clear hl
  have HC := Lib.hid hc
  clear hc
  go_enter Try.func16, Try.ntmps16
  go_wp2
  go_loop [4, 5, 6] (fun lg sm i => ∃ k iN : Nat, i = .int .i64 iN ∧ Hid (iN = 2 * k + 1) ∧ k ≤ n / 2 ∧ Hid (AllPos xs k) ∧ lg = .bool (longTo xs k) ∧ sm = .int .i64 (capTo xs k)) (fun _ _ i => 1000 - (intOf i).toNat)
  case atStart => exact ⟨0, 1, rfl, rfl, Nat.zero_le _, fun j hj => absurd hj (by omega), rfl, rfl⟩
  case round =>
    obtain ⟨k, iN, rfl, HI, hk, HP, rfl, rfl⟩ := hrel
    by_cases hlt : k < n / 2
    · have hx : w.cell? ⟨b, o + iN, none⟩ = some (.int .i64 (cnt xs k)) := by rw [HI.out]; exact HC.out _ (by omega)
      have hi1 : (iN : Int) < (n : Int) := by have := HI.out; omega
      have hi2 : iN ≤ 200 := by omega
      have hbd := capTo_bd HP.out
      by_cases hneg : cnt xs k < 0
      · have HNG := Lib.hid (bursts_neg (xs := xs) (by rw [HL.out]; exact HE.out) (by rw [HL.out]; exact hlt) hneg)
        clear hbd
        generalize hv : cnt xs k = v at *
        have HV := Lib.hid hv
        clear hv
        go_wp2
        go_ret2
        exact outRes_nil _ HNG.out
      · have hcp := Lib.hid (cap_over HP.out (Int.not_lt.1 hneg))
        have hcu := Lib.hid (cap_under HP.out (Int.not_lt.1 hneg))
        generalize hcv : capTo xs k = cv at *
        have HCV := Lib.hid hcv
        clear hcv
        generalize hv : cnt xs k = v at *
        have HV := Lib.hid hv
        clear hv
        by_cases hov : 65536 < cv + min v 65537
        · go_wp2
          go_round
          case rel => exact ⟨k + 1, iN + 2, by go_num, by have := HI.out; show iN + 2 = 2 * (k + 1) + 1; omega, by omega, HP.out.succ (by rw [HV.out]; omega), by rw [(hcp.out hov).2], by rw [(hcp.out hov).1]⟩
          case measure => simp [intOf]; omega
        · go_wp2
          go_round
          case rel => exact ⟨k + 1, iN + 2, by go_num, by have := HI.out; show iN + 2 = 2 * (k + 1) + 1; omega, by omega, HP.out.succ (by rw [HV.out]; omega), by rw [(hcu.out hov).2], by rw [(hcu.out hov).1, min_if]⟩
          case measure => simp [intOf]; omega
    · obtain rfl : k = n / 2 := by omega
      have hi1 : ¬ (iN : Int) < (n : Int) := by have := HI.out; have := HE.out; omega
      by_cases hs : 65536 < sumTo xs (n / 2)
      · have hlg : longTo xs (n / 2) = true := by simp [longTo, hs]
        generalize longTo xs (n / 2) = lg at *
        subst hlg
        go_wp2
        go_ret2
        exact outRes_nil _ (bursts_long (by rw [HL.out]; exact HE.out) (by rw [HL.out]; exact HP.out) (by rw [HL.out]; exact hs))
      · have hlg : longTo xs (n / 2) = false := by simp [longTo]; omega
        generalize longTo xs (n / 2) = lg at *
        subst hlg
        have hs : sumTo xs (n / 2) ≤ 65536 := by omega
        go_wp2
        clear hi1
        have hsn := outTo_len HP.out
        go_loopw [7, 8] (fun v i wr => ∃ k iN : Nat, i = .int .i64 iN ∧ Hid (iN = 2 * k) ∧ k ≤ n / 2 ∧ wr.ownsRow w.heap.size 3 1 v (outTo xs k).length ((outTo xs k).map (Value.int .i64)) ∧ Below w.heap.size w wr) (fun _ i _ => 1000 - (intOf i).toNat)
        case atStart => exact ⟨0, 0, rfl, rfl, Nat.zero_le _, World.ownsRow_made w #[] 0 (Nat.le_refl _) (Nat.zero_le _) rfl, (Below.refl _ _).alloc (Nat.le_refl _) _⟩
        case round =>
          obtain ⟨k, iN, rfl, HI, hk, hown, hbel⟩ := hrel
          by_cases hlt : k < n / 2
          · have hx : w.cell? ⟨b, o + iN, none⟩ = some (.int .i64 (pk xs k)) := by rw [HI.out]; exact HC.out _ (by omega)
            have hy : w.cell? ⟨b, o + (iN + 1), none⟩ = some (.int .i64 (cnt xs k)) := by rw [HI.out]; exact HC.out _ (by omega)
            have hi1 : (iN : Int) + 1 < (n : Int) := by have := HI.out; omega
            have hi2 : iN ≤ 200 := by omega
            have hv0 : 0 ≤ cnt xs k := HP.out k hlt
            have hlen := outTo_len (HP.out.mono (show k + 1 ≤ n / 2 by omega))
            have hlen2 := sumTo_mono HP.out (show k + 1 ≤ n / 2 by omega)
            rw [outTo_succ, List.length_append, List.length_replicate] at hlen
            have HO := Lib.hid (outTo_succ xs k)
            generalize hvx : pk xs k = x at *
            have HX := Lib.hid hvx
            clear hvx
            generalize hv : cnt xs k = v at *
            have HV := Lib.hid hv
            clear hv
            have hv1 : (outTo xs k).length + v.toNat ≤ 65536 := by omega
            clear hlen hlen2
            obtain ⟨wo, rfl⟩ : ∃ wo : World, wo = wr := ⟨_, rfl⟩
            have hy : wo.cell? ⟨b, o + (iN + 1), none⟩ = some (.int .i64 v) := (hbel.cell (p := ⟨b, o + (iN + 1), none⟩) hb).trans hy
            have hdn : decide (iN < n) = true := by simp; omega
            have HXC := Lib.hid hx
            clear hx
            go_wp2
            clear hy
            go_loopw [7, 46] (fun u q wr => ∃ j : Nat, q = .int .i64 j ∧ (j : Int) ≤ v ∧ wr.ownsRow w.heap.size 3 1 u ((outTo xs k).length + j) ((outTo xs k ++ List.replicate j x).map (Value.int .i64)) ∧ Below w.heap.size w wr) (fun _ q _ => (v - intOf q).toNat)
            case atStart => exact ⟨0, rfl, by omega, by simpa using hown, hbel⟩
            case round =>
              clear hown hbel
              obtain ⟨j, rfl, hj, hown, hbel⟩ := hrel
              have hx : wr.cell? ⟨b, o + iN, none⟩ = some (.int .i64 x) := (hbel.cell (p := ⟨b, o + iN, none⟩) hb).trans HXC.out
              by_cases hjl : (j : Int) < v
              · have hx2 : (wr.alloc (.cells #[.int .i64 x] 3)).cell? ⟨b, o + iN, none⟩ = some (.int .i64 x) := by rw [World.cell?_alloc_past _ _ _ (by have := hbel.size; show b < _; omega)]; exact hx
                go_wp2_with (at_builtin; refine wpList_append_own _ rfl _ _ 23 rfl w.heap.size 3 i0 (.int .i64 0) 1 8 Try.underlying23 hi hz0 hz1 hz2 rfl (by decide) _ _ _ rfl (hown.alloc _) ⟨wr.heap.size, 0, none⟩ 1 1 [.int .i64 x] rfl rfl (news_one _ _) (one_one _) ?c3 ?c4 ?c5 ?_)
                case c3 => unfold maxLen; omega
                case c4 => omega
                case c5 => have := hbel.size; simp; omega
                intro v1 w1 hown1 hg1 _
                have hb1 := round_append hbel hown hg1
                go_wp2
                go_roundw
                case rel => exact ⟨j + 1, by go_num, by omega, by rw [← own_snoc]; exact hown1, hb1⟩
                case measure => simp [intOf]; omega
              · go_wp2
                obtain rfl : v = (j : Int) := by omega
                go_roundw
                case rel => 
                  have h2 := HO.out
                  rw [Int.toNat_natCast] at h2
                  exact ⟨k + 1, iN + 2, by go_num, by have := HI.out; show iN + 2 = 2 * (k + 1); omega, by omega, by rw [h2, List.length_append, List.length_replicate]; exact hown, hbel⟩
                case measure => simp [intOf]; omega
          · obtain rfl : k = n / 2 := by omega
            have hi1 : ¬ (iN : Int) < (n : Int) := by have := HI.out; have := HE.out; omega
            have hi2 : iN ≤ 200 := by have := HI.out; omega
            go_wp2
            clear hi1
            go_ret2
            unfold outRes
            rw [bursts_yes (by rw [HL.out]; exact HE.out) (by rw [HL.out]; exact HP.out) (by rw [HL.out]; exact hs), HL.out]
            exact res_own hown hbel
end Go.Proofs.Ytppbknpiipfidaa
