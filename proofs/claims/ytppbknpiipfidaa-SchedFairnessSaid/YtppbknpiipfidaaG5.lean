import Derived.Test.YtppbknpiipfidaaG4
namespace Go.Proofs.Ytppbknpiipfidaa
open Go.RowKit

set_option maxHeartbeats 800000 in
theorem fairness_skip (t th k : Int) (A : Option Addr) (n c : Nat) (w : World) (h : 2000 < n ∨ t < 1 ∨ 16 < t ∨ th < 0 ∨ t ≤ th ∨ k < 1) :
    Calls Try.prog 6 #[.int .i64 t, .int .i64 th, .agg #[.int .i64 k, .slice A n c]] w (BoolBelow true w) := by
  by_cases c1 : 2000 < n
  · clear h
    go_enter Try.func6, Try.ntmps6
    go_wp2
    go_ret
    exact ⟨rfl, (Below.refl _ _).alloc (Nat.le_refl _) _⟩
  by_cases c2 : t < 1
  · clear h
    go_enter Try.func6, Try.ntmps6
    go_wp2
    go_ret
    exact ⟨rfl, (Below.refl _ _).alloc (Nat.le_refl _) _⟩
  by_cases c3 : 16 < t
  · clear h
    go_enter Try.func6, Try.ntmps6
    go_wp2
    go_ret
    exact ⟨rfl, (Below.refl _ _).alloc (Nat.le_refl _) _⟩
  by_cases c4 : th < 0
  · clear h
    go_enter Try.func6, Try.ntmps6
    go_wp2
    go_ret
    exact ⟨rfl, (Below.refl _ _).alloc (Nat.le_refl _) _⟩
  by_cases c5 : t ≤ th
  · clear h
    go_enter Try.func6, Try.ntmps6
    go_wp2
    go_ret
    exact ⟨rfl, (Below.refl _ _).alloc (Nat.le_refl _) _⟩
  have c6 : k < 1 := by omega
  clear h
  go_enter Try.func6, Try.ntmps6
  go_wp2
  go_ret
  exact ⟨rfl, (Below.refl _ _).alloc (Nat.le_refl _) _⟩

set_option maxHeartbeats 800000 in
theorem fairness_of (t th k g : Int) (A : Option Addr) (n c : Nat) (w : World) (hn : n ≤ 2000) (h1 : 1 ≤ t) (h2 : t ≤ 16) (h3 : 0 ≤ th) (h4 : th < t) (h5 : 1 ≤ k) (g0 : 0 ≤ g) (g1 : g ≤ n)
    (H1 : Hid (∀ o, Calls Try.prog 18 #[.int .i64 t, .int .i64 th, .slice A n c] (w.alloc o) (PairRes (.int .i64 g) 0 (w.alloc o))))
    (H2 : Hid (∀ o, Calls Try.prog 20 #[.int .i64 t, .int .i64 th, .int .i64 k, .slice A n c] (w.alloc o) (PairRes (.bool (decide (g < k))) 0 (w.alloc o)))) :
    Calls Try.prog 6 #[.int .i64 t, .int .i64 th, .agg #[.int .i64 k, .slice A n c]] w (BoolBelow true w) := by
  by_cases hd : g < k
  · have e : decide (g < k) = true := by simpa using hd
    rw [e] at H2
    clear e
    go_enter Try.func6, Try.ntmps6
    go_wp2_with fail
    refine (H1.out _).mono ?_
    rintro e w' ⟨rfl, rfl⟩
    go_wp2_with fail
    refine (H2.out _).mono ?_
    rintro e w' ⟨rfl, rfl⟩
    go_wp2
    go_ret
    exact ⟨rfl, (Below.refl _ _).alloc (Nat.le_refl _) _⟩
  · have e : decide (g < k) = false := by simpa using hd
    rw [e] at H2
    clear e
    have e2 : decide ((n : Int) < k) = false := by simp; omega
    go_enter Try.func6, Try.ntmps6
    go_wp2_with fail
    refine (H1.out _).mono ?_
    rintro e w' ⟨rfl, rfl⟩
    go_wp2_with fail
    refine (H2.out _).mono ?_
    rintro e w' ⟨rfl, rfl⟩
    go_wp2
    go_ret
    exact ⟨congrArg (fun b => Ending.returned (.bool b)) (show (!decide (g < k)) = true by simpa using hd), (Below.refl _ _).alloc (Nat.le_refl _) _⟩

theorem fairness_walk (t th k : Int) (A : Option Addr) (c : Nat) (xs : List Int) (w : World) (hm : xs.length ≤ 9223372036854775807) (h : Ints w w.heap.size A xs) :
    Calls Try.prog 6 #[.int .i64 t, .int .i64 th, .agg #[.int .i64 k, .slice A xs.length c]] w (BoolBelow true w) := by
  by_cases hs : 2000 < xs.length ∨ t < 1 ∨ 16 < t ∨ th < 0 ∨ t ≤ th ∨ k < 1
  · exact fairness_skip t th k A _ c w hs
  · have hk : ¬ okArgs t th = false := by simp [okArgs]; omega
    have hl : ¬ 65536 < xs.length := by omega
    have hb := mostTo_bd t th xs xs.length
    refine fairness_of t th k (mostTo t th xs xs.length) A _ c w (by omega) (by omega) (by omega) (by omega) (by omega) (by omega) hb.1 hb.2 (Lib.hid fun o => ?_) (Lib.hid fun o => ?_)
    · have := gap_any t th A c w.heap.size xs (w.alloc o) hm (h.below ((Below.refl _ w).alloc (Nat.le_refl _) o) (Nat.le_refl _))
      unfold gapRes gapOut at this
      rwa [if_neg hk, if_neg hl] at this
    · have := fair_any t th k A c w.heap.size xs (w.alloc o) hm (h.below ((Below.refl _ w).alloc (Nat.le_refl _) o) (Nat.le_refl _))
      unfold fairRes fairOut at this
      rwa [if_neg (show ¬ (okArgs t th = false ∨ k < 1) by rintro (h | h); exact hk h; omega), if_neg hl] at this
end Go.Proofs.Ytppbknpiipfidaa
