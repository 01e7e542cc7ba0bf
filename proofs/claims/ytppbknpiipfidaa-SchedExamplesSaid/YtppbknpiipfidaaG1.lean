import Derived.Test.YtppbknpiipfidaaT5
namespace Go.Proofs.Ytppbknpiipfidaa
open Go.RowKit

theorem wrap64_small {x : Int} (h1 : -9223372036854775808 ≤ x) (h2 : x ≤ 9223372036854775807) : wrap64 x = x := by unfold wrap64; omega
theorem tmod_cases (p t : Int) (h1 : 1 ≤ t) : (p.tmod t = p % t ∧ (0 ≤ p ∨ p % t = 0)) ∨ (p.tmod t = p % t - t ∧ p < 0 ∧ 0 < p % t) := by
  have h := Int.tmod_eq_emod (a := p) (b := t)
  have hn := Int.emod_nonneg p (show t ≠ 0 by omega)
  by_cases h0 : 0 ≤ p
  · left; rw [if_pos (Or.inl h0)] at h; exact ⟨by omega, .inl h0⟩
  · by_cases hd : t ∣ p
    · left; rw [if_pos (Or.inr hd)] at h; exact ⟨by omega, .inr (Int.emod_eq_zero_of_dvd hd)⟩
    · right
      rw [if_neg (by rintro (h | h) <;> contradiction)] at h
      refine ⟨by omega, by omega, ?_⟩
      have : p % t ≠ 0 := fun e => hd (Int.dvd_of_emod_eq_zero e)
      omega
theorem chosen_eq (p t : Int) (h1 : 1 ≤ t) (h2 : t ≤ 16) : (wrap64 (p.tmod t + t)).tmod t = p % t := by
  have hn := Int.emod_nonneg p (show t ≠ 0 by omega)
  have hl := Int.emod_lt_of_pos p (show 0 < t by omega)
  rcases tmod_cases p t h1 with ⟨h, _⟩ | ⟨h, _, _⟩
  · rw [h, wrap64_small (by omega) (by omega), Int.tmod_eq_emod_of_nonneg (by omega), Int.add_emod_right, Int.emod_emod_of_dvd _ (Int.dvd_refl t)]
  · rw [h, Int.sub_add_cancel, wrap64_small (by omega) (by omega), Int.tmod_eq_emod_of_nonneg hn, Int.emod_emod_of_dvd _ (Int.dvd_refl t)]
theorem thread_neg (p t : Int) (h1 : 1 ≤ t) (h2 : t ≤ 16) (h : p.tmod t < 0) : wrap64 (p.tmod t + t) = p % t := by
  have hn := Int.emod_nonneg p (show t ≠ 0 by omega)
  have hl := Int.emod_lt_of_pos p (show 0 < t by omega)
  rcases tmod_cases p t h1 with ⟨h', _⟩ | ⟨h', _, _⟩
  · omega
  · rw [h', Int.sub_add_cancel, wrap64_small (by omega) (by omega)]
theorem thread_pos (p t : Int) (h1 : 1 ≤ t) (h : ¬ p.tmod t < 0) : p.tmod t = p % t := by
  have hl := Int.emod_lt_of_pos p (show 0 < t by omega)
  rcases tmod_cases p t h1 with ⟨h', _⟩ | ⟨h', _, _⟩
  · exact h'
  · omega
theorem ret_int {k : IntKind} {a b : Int} (h : a = b) : Ending.returned (.int k a) = .returned (.int k b) := by rw [h]

theorem chosen1 (t p : Int) (w : World) (h1 : 1 ≤ t) (h2 : t ≤ 16) :
    Calls Try.prog 33 #[.int .i64 t, .int .i64 p] w fun e w' => e = .returned (.int .i64 (p % t)) ∧ w = w' := by
  go_enter Try.func33, Try.ntmps33
  go_wp2
  go_ret
  exact ⟨ret_int (chosen_eq p t h1 h2), rfl⟩
theorem thread1 (t p : Int) (w : World) (h1 : 1 ≤ t) (h2 : t ≤ 16) :
    Calls Try.prog 34 #[.int .i64 t, .int .i64 p] w fun e w' => e = .returned (.int .i64 (p % t)) ∧ w = w' := by
  by_cases h : p.tmod t < 0
  · have H := Lib.hid (thread_neg p t h1 h2 h)
    go_enter Try.func34, Try.ntmps34
    go_wp2
    go_ret
    exact ⟨ret_int H.out, rfl⟩
  · have H := Lib.hid (thread_pos p t h1 h)
    go_enter Try.func34, Try.ntmps34
    go_wp2
    go_ret
    exact ⟨ret_int H.out, rfl⟩

/-- After k picks: how many since the thread was last chosen; the greatest such number so far. -/
def nowTo (t th : Int) (xs : List Int) : Nat → Int
  | 0 => 0
  | k + 1 => if xs.getD k 0 % t = th then 0 else nowTo t th xs k + 1
def mostTo (t th : Int) (xs : List Int) : Nat → Int
  | 0 => 0
  | k + 1 => max (mostTo t th xs k) (nowTo t th xs (k + 1))
theorem nowTo_bd (t th : Int) (xs : List Int) (k : Nat) : 0 ≤ nowTo t th xs k ∧ nowTo t th xs k ≤ k := by
  induction k with
  | zero => simp [nowTo]
  | succ k ih => simp only [nowTo]; split <;> omega
theorem mostTo_bd (t th : Int) (xs : List Int) (k : Nat) : 0 ≤ mostTo t th xs k ∧ mostTo t th xs k ≤ k := by
  induction k with
  | zero => simp [mostTo]
  | succ k ih => have := nowTo_bd t th xs (k + 1); simp only [mostTo]; omega
theorem mostTo_mono (t th : Int) (xs : List Int) {k m : Nat} (h : k ≤ m) : mostTo t th xs k ≤ mostTo t th xs m := by
  induction m with
  | zero => obtain rfl : k = 0 := by omega
            omega
  | succ m ih =>
    rcases Nat.lt_or_ge k (m + 1) with h1 | h1
    · have := ih (by omega); simp only [mostTo]; omega
    · obtain rfl : k = m + 1 := by omega
      omega
def okArgs (t th : Int) : Bool := decide (1 ≤ t ∧ t ≤ 16 ∧ 0 ≤ th ∧ th < t)
def gapOut (t th : Int) (xs : List Int) : Int × Int := if okArgs t th = false then (0, 2) else if 65536 < xs.length then (0, 5) else (mostTo t th xs xs.length, 0)
def fairOut (t th k : Int) (xs : List Int) : Bool × Int := if okArgs t th = false ∨ k < 1 then (false, 2) else if 65536 < xs.length then (false, 5) else (decide (mostTo t th xs xs.length < k), 0)
end Go.Proofs.Ytppbknpiipfidaa
