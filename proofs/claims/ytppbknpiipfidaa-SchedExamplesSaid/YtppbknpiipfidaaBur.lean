/- Plain facts on Bursts: pairs of a pick and a count. -/
import Derived.Test.YtppbknpiipfidaaBase
namespace Go.Proofs.Ytppbknpiipfidaa
open Go.RowKit

/-- The count of pair j, the pick of pair j, the sum of the first k counts, the picks of the first k pairs. -/
def cnt (xs : List Int) (j : Nat) : Int := xs.getD (2 * j + 1) 0
def pk (xs : List Int) (j : Nat) : Int := xs.getD (2 * j) 0
def sumTo (xs : List Int) : Nat → Int
  | 0 => 0
  | k + 1 => sumTo xs k + cnt xs k
def outTo (xs : List Int) : Nat → List Int
  | 0 => []
  | k + 1 => outTo xs k ++ List.replicate (cnt xs k).toNat (pk xs k)
def AllPos (xs : List Int) (k : Nat) : Prop := ∀ j, j < k → 0 ≤ cnt xs j
open Classical in
noncomputable def burstsOut (xs : List Int) : List Int × Int :=
  if xs.length % 2 ≠ 0 then ([], 2) else if ¬ AllPos xs (xs.length / 2) then ([], 2) else if 65536 < sumTo xs (xs.length / 2) then ([], 5) else (outTo xs (xs.length / 2), 0)

theorem bursts_odd {xs : List Int} (h : xs.length % 2 ≠ 0) : burstsOut xs = ([], 2) := by simp [burstsOut, h]
theorem bursts_neg {xs : List Int} {k : Nat} (h0 : xs.length % 2 = 0) (hk : k < xs.length / 2) (h : cnt xs k < 0) : burstsOut xs = ([], 2) := by
  have : ¬ AllPos xs (xs.length / 2) := fun a => by have := a k hk; omega
  simp [burstsOut, h0, this]
theorem bursts_long {xs : List Int} (h0 : xs.length % 2 = 0) (h1 : AllPos xs (xs.length / 2)) (h : 65536 < sumTo xs (xs.length / 2)) : burstsOut xs = ([], 5) := by simp [burstsOut, h0, h1, h]
theorem bursts_yes {xs : List Int} (h0 : xs.length % 2 = 0) (h1 : AllPos xs (xs.length / 2)) (h : sumTo xs (xs.length / 2) ≤ 65536) : burstsOut xs = (outTo xs (xs.length / 2), 0) := by
  simp [burstsOut, h0, h1, Int.not_lt.2 h]
theorem AllPos.succ {xs : List Int} {k : Nat} (h : AllPos xs k) (hk : 0 ≤ cnt xs k) : AllPos xs (k + 1) := fun j hj => by
  rcases Nat.lt_or_ge j k with h1 | h1
  · exact h j h1
  · obtain rfl : j = k := by omega
    exact hk
theorem AllPos.mono {xs : List Int} {k m : Nat} (h : AllPos xs m) (hk : k ≤ m) : AllPos xs k := fun j hj => h j (by omega)
theorem sumTo_mono {xs : List Int} {k m : Nat} (h : AllPos xs m) (hk : k ≤ m) : sumTo xs k ≤ sumTo xs m := by
  induction m with
  | zero => obtain rfl : k = 0 := by omega
            omega
  | succ m ih =>
    rcases Nat.lt_or_ge k (m + 1) with h1 | h1
    · have := ih (h.mono (by omega)) (by omega)
      have := h m (by omega)
      simp only [sumTo]; omega
    · obtain rfl : k = m + 1 := by omega
      omega
theorem sumTo_nonneg {xs : List Int} {m : Nat} (h : AllPos xs m) : 0 ≤ sumTo xs m := sumTo_mono h (Nat.zero_le m)
theorem outTo_len {xs : List Int} {m : Nat} (h : AllPos xs m) : ((outTo xs m).length : Int) = sumTo xs m := by
  induction m with
  | zero => rfl
  | succ m ih =>
    have := ih (h.mono (by omega))
    have := h m (by omega)
    simp only [outTo, sumTo, List.length_append, List.length_replicate]; omega
/-- The sum as sched.Bursts keeps it: cut at 65537. -/
def capTo (xs : List Int) (k : Nat) : Int := if 65536 < sumTo xs k then 65537 else sumTo xs k
def longTo (xs : List Int) (k : Nat) : Bool := decide (65536 < sumTo xs k)
theorem capTo_bd {xs : List Int} {k : Nat} (h : AllPos xs k) : 0 ≤ capTo xs k ∧ capTo xs k ≤ 65537 := by
  have := sumTo_nonneg h
  unfold capTo; split <;> omega
theorem cap_over {xs : List Int} {k : Nat} (h : AllPos xs k) (hk : 0 ≤ cnt xs k) (h1 : 65536 < capTo xs k + min (cnt xs k) 65537) : capTo xs (k + 1) = 65537 ∧ longTo xs (k + 1) = true := by
  have := sumTo_nonneg h
  have e : 65536 < sumTo xs (k + 1) := by
    simp only [sumTo]; unfold capTo at h1; split at h1 <;> omega
  simp [capTo, longTo, e]
theorem cap_under {xs : List Int} {k : Nat} (h : AllPos xs k) (hk : 0 ≤ cnt xs k) (h1 : ¬ 65536 < capTo xs k + min (cnt xs k) 65537) :
    capTo xs (k + 1) = capTo xs k + min (cnt xs k) 65537 ∧ longTo xs (k + 1) = longTo xs k := by
  have := sumTo_nonneg h
  have e : sumTo xs (k + 1) ≤ 65536 ∧ sumTo xs k ≤ 65536 ∧ cnt xs k ≤ 65536 := by
    simp only [sumTo]; unfold capTo at h1; split at h1 <;> omega
  obtain ⟨e1, e2, e3⟩ := e
  have l1 : longTo xs (k + 1) = false := by simp [longTo]; omega
  have l2 : longTo xs k = false := by simp [longTo]; omega
  refine ⟨?_, by rw [l1, l2]⟩
  unfold capTo
  rw [if_neg (by omega), if_neg (by omega)]
  simp only [sumTo]; omega
end Go.Proofs.Ytppbknpiipfidaa
