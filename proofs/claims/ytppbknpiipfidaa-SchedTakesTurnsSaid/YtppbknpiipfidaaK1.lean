import Derived.Test.YtppbknpiipfidaaG4
namespace Go.Proofs.Ytppbknpiipfidaa
open Go.RowKit

theorem turns_get (t : Int) (n k : Nat) (hk : k < n) : (turns t n).getD k 0 = (k : Int) % t := by simp [turns, List.getD_eq_getElem?_getD, hk]
theorem turns_now (t th : Int) (n : Nat) (h1 : 1 ≤ t) (h2 : t ≤ 16) (h3 : 0 ≤ th) (h4 : th < t) (k : Nat) (hk : k ≤ n) :
    nowTo t th (turns t n) k = if (k : Int) ≤ th then (k : Int) else ((k : Int) - 1 - th) % t := by
  induction k with
  | zero => simp [nowTo, h3]
  | succ k ih =>
    have ih := ih (by omega)
    simp only [nowTo]
    rw [turns_get t n k (by omega), ih, Int.emod_emod_of_dvd _ (Int.dvd_refl t)]
    clear ih
    have ht : t = 1 ∨ t = 2 ∨ t = 3 ∨ t = 4 ∨ t = 5 ∨ t = 6 ∨ t = 7 ∨ t = 8 ∨ t = 9 ∨ t = 10 ∨ t = 11 ∨ t = 12 ∨ t = 13 ∨ t = 14 ∨ t = 15 ∨ t = 16 := by omega
    rcases ht with rfl | rfl | rfl | rfl | rfl | rfl | rfl | rfl | rfl | rfl | rfl | rfl | rfl | rfl | rfl | rfl <;> split <;> split <;> (try split) <;> omega
theorem turns_now_lt (t th : Int) (n : Nat) (h1 : 1 ≤ t) (h2 : t ≤ 16) (h3 : 0 ≤ th) (h4 : th < t) (k : Nat) (hk : k ≤ n) : nowTo t th (turns t n) k < t := by
  rw [turns_now t th n h1 h2 h3 h4 k hk]
  have := Int.emod_lt_of_pos ((k : Int) - 1 - th) (show 0 < t by omega)
  split <;> omega
theorem turns_most_lt (t th : Int) (n : Nat) (h1 : 1 ≤ t) (h2 : t ≤ 16) (h3 : 0 ≤ th) (h4 : th < t) (k : Nat) (hk : k ≤ n) : mostTo t th (turns t n) k < t := by
  induction k with
  | zero => simp [mostTo]; omega
  | succ k ih => have := ih (by omega); have := turns_now_lt t th n h1 h2 h3 h4 (k + 1) hk; simp only [mostTo]; omega
theorem now_le_most (t th : Int) (xs : List Int) (k : Nat) : nowTo t th xs k ≤ mostTo t th xs k := by
  cases k with
  | zero => simp [nowTo, mostTo]
  | succ k => simp only [mostTo]; omega
theorem turns_most_eq (t th : Int) (n : Nat) (h1 : 1 ≤ t) (h2 : t ≤ 16) (h3 : 0 ≤ th) (h4 : th < t) (hn : 2 * t ≤ n) : mostTo t th (turns t n) n = t - 1 := by
  have h := turns_most_lt t th n h1 h2 h3 h4 n (Nat.le_refl _)
  obtain ⟨m, hm⟩ := Int.eq_ofNat_of_zero_le (show 0 ≤ th + t by omega)
  have e := turns_now t th n h1 h2 h3 h4 m (by omega)
  rw [if_neg (by omega), ← hm, show th + t - 1 - th = t - 1 by omega, Int.emod_eq_of_lt (by omega) (by omega)] at e
  have h5 := now_le_most t th (turns t n) m
  have h6 := mostTo_mono t th (turns t n) (show m ≤ n by omega)
  omega
theorem okArgs_mk {t th : Int} (h1 : 1 ≤ t) (h2 : t ≤ 16) (h3 : 0 ≤ th) (h4 : th < t) : okArgs t th = true := by simp [okArgs]; omega
theorem turns_fair (t th : Int) (n : Nat) (h1 : 1 ≤ t) (h2 : t ≤ 16) (h3 : 0 ≤ th) (h4 : th < t) (hn : n ≤ 2000) : fairOut t th t (turns t n) = (true, 0) := by
  have hk := okArgs_mk h1 h2 h3 h4
  have hl := turns_len t n
  unfold fairOut
  rw [if_neg (by rw [hk]; rintro (h | h); cases h; omega), if_neg (by omega), hl]
  have := turns_most_lt t th n h1 h2 h3 h4 n (Nat.le_refl _)
  simp [this]
theorem turns_gap (t th : Int) (n : Nat) (h1 : 1 ≤ t) (h2 : t ≤ 16) (h3 : 0 ≤ th) (h4 : th < t) (hn : n ≤ 2000) (h : 2 * t ≤ n) : gapOut t th (turns t n) = (t - 1, 0) := by
  have hk := okArgs_mk h1 h2 h3 h4
  have hl := turns_len t n
  unfold gapOut
  rw [if_neg (by rw [hk]; simp), if_neg (by omega), hl, turns_most_eq t th n h1 h2 h3 h4 h]

theorem turns_fair_calls (t th : Int) (n : Nat) (A : Option Addr) (c : Nat) (w : World) (h1 : 1 ≤ t) (h2 : t ≤ 16) (h3 : 0 ≤ th) (h4 : th < t) (hn : n ≤ 2000) (hI : Ints w w.heap.size A (turns t n)) :
    Calls Try.prog 20 #[.int .i64 t, .int .i64 th, .int .i64 t, .slice A n c] w (PairRes (.bool true) 0 w) := by
  have h := fair_any t th t A c w.heap.size (turns t n) w (by rw [turns_len]; omega) hI
  unfold fairRes at h
  rw [turns_fair t th n h1 h2 h3 h4 hn, turns_len] at h
  exact h
theorem turns_gap_calls (t th : Int) (n : Nat) (A : Option Addr) (c : Nat) (w : World) (h1 : 1 ≤ t) (h2 : t ≤ 16) (h3 : 0 ≤ th) (h4 : th < t) (hn : n ≤ 2000) (h5 : 2 * t ≤ n) (hI : Ints w w.heap.size A (turns t n)) :
    Calls Try.prog 18 #[.int .i64 t, .int .i64 th, .slice A n c] w (PairRes (.int .i64 (t - 1)) 0 w) := by
  have h := gap_any t th A c w.heap.size (turns t n) w (by rw [turns_len]; omega) hI
  unfold gapRes at h
  rw [turns_gap t th n h1 h2 h3 h4 hn h5, turns_len] at h
  exact h

theorem takes_skip (t n : Int) (w : World) (h : t < 1 ∨ 16 < t ∨ n < 0 ∨ 2000 < n) : Calls Try.prog 9 #[.int .i64 t, .int .i64 n] w (BoolBelow true w) := by
  by_cases c1 : t < 1
  · clear h
    go_enter Try.func9, Try.ntmps9
    go_wp2
    go_ret
    exact ⟨rfl, Below.refl _ _⟩
  by_cases c2 : 16 < t
  · clear h
    go_enter Try.func9, Try.ntmps9
    go_wp2
    go_ret
    exact ⟨rfl, Below.refl _ _⟩
  by_cases c3 : n < 0
  · clear h
    go_enter Try.func9, Try.ntmps9
    go_wp2
    go_ret
    exact ⟨rfl, Below.refl _ _⟩
  have c4 : 2000 < n := by omega
  clear h
  go_enter Try.func9, Try.ntmps9
  go_wp2
  go_ret
  exact ⟨rfl, Below.refl _ _⟩

set_option maxHeartbeats 800000 in
theorem takes_yes (t : Int) (n : Nat) (w : World) (h1 : 1 ≤ t) (h2 : t ≤ 16) (hn : n ≤ 2000) : Calls Try.prog 9 #[.int .i64 t, .int .i64 n] w (BoolBelow true w) := by
  have d1 : decide ((n : Int) < 0) = false := by simp
  have d2 : decide ((2000 : Int) < (n : Int)) = false := by simp; omega
  have hnn : ((n : Int) != (n : Int)) = false := by simp
  have htt : (t - 1 != t - 1) = false := by simp
  go_enter Try.func9, Try.ntmps9
  go_wp2_with fail
  refine (turns_of t n w (turns t n) 0 (fun p W hp => madeTurns t n p W h1 h2 (by omega) hp)).mono ?_
  rintro e w1 ⟨A, c, rfl, hI, hb⟩
  have HF := Lib.hid (fun (th : Int) (h3 : 0 ≤ th) (h4 : th < t) => turns_fair_calls t th n A c w1 h1 h2 h3 h4 hn hI)
  have HG := Lib.hid (fun (th : Int) (h3 : 0 ≤ th) (h4 : th < t) (h5 : 2 * t ≤ n) => turns_gap_calls t th n A c w1 h1 h2 h3 h4 hn h5 hI)
  rw [turns_len]
  clear hI
  go_wp2
  go_loop [7] (fun i => ∃ th : Int, 0 ≤ th ∧ th ≤ t ∧ i = .int .i64 th) (fun i => (t - intOf i).toNat)
  case atStart => exact ⟨0, by omega, by omega, rfl⟩
  case round =>
    obtain ⟨th, h3, h4, rfl⟩ := hrel
    by_cases hlt : th < t
    · by_cases h5 : 2 * t ≤ n
      · go_wp2_with (first | ((with_reducible refine (HF.out th h3 hlt).mono ?_); rintro e w' ⟨rfl, rfl⟩) | ((with_reducible refine (HG.out th h3 hlt h5).mono ?_); rintro e w' ⟨rfl, rfl⟩))
        all_goals
          go_round
          case rel => exact ⟨th + 1, by omega, by omega, by go_num⟩
          case measure => simp [intOf]; omega
      · go_wp2_with (first | ((with_reducible refine (HF.out th h3 hlt).mono ?_); rintro e w' ⟨rfl, rfl⟩) | ((with_reducible refine (HG.out th h3 hlt h5).mono ?_); rintro e w' ⟨rfl, rfl⟩))
        all_goals
          go_round
          case rel => exact ⟨th + 1, by omega, by omega, by go_num⟩
          case measure => simp [intOf]; omega
    · go_wp2
      go_ret
      exact ⟨rfl, hb⟩
theorem takes_walk (t n : Int) (w : World) : Calls Try.prog 9 #[.int .i64 t, .int .i64 n] w (BoolBelow true w) := by
  by_cases h : t < 1 ∨ 16 < t ∨ n < 0 ∨ 2000 < n
  · exact takes_skip t n w h
  · obtain ⟨m, rfl⟩ := Int.eq_ofNat_of_zero_le (show 0 ≤ n by omega)
    exact takes_yes t m w (by omega) (by omega) (by omega)
end Go.Proofs.Ytppbknpiipfidaa
