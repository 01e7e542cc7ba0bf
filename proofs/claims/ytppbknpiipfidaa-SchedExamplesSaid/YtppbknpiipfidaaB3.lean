import Derived.Test.YtppbknpiipfidaaB2
namespace Go.Proofs.Ytppbknpiipfidaa
open Go.RowKit

theorem refBursts_zero (A : Option Addr) (c : Nat) (w : World) : Calls Try.prog 17 #[.slice A 0 c] w (IntsRes [] 0 w) := by
  go_enter Try.func17, Try.ntmps17
  go_wp2
  refine wp_loop_rounds 1 ?_
  rw [rounds_succ]
  go_wp2
  refine wp_loop_rounds 1 ?_
  rw [rounds_succ]
  go_wp2
  refine wp_loop_rounds 1 ?_
  rw [rounds_succ]
  go_wp2
  go_ret2
  exact ⟨none, 0, rfl, Ints.nil_ _ _ _, Below.refl _ _⟩
theorem bursts_zero1 (A : Option Addr) (c : Nat) (w : World) : Calls Try.prog 16 #[.slice A 0 c] w (IntsRes [] 0 w) := by
  go_enter Try.func16, Try.ntmps16
  go_wp2
  refine wp_loop_rounds 1 ?_
  rw [rounds_succ]
  go_wp2
  refine wp_loop_rounds 1 ?_
  rw [rounds_succ]
  go_wp2
  go_ret2
  exact ⟨_, 0, rfl, Ints.nil_ _ _ _, (Below.refl _ _).alloc (Nat.le_refl _) _⟩

theorem burstsOut_zero : burstsOut [] = ([], 0) := by
  rw [bursts_yes (by rfl) (fun j hj => absurd hj (by simp)) (by simp [sumTo])]; rfl
theorem burstsOut_len (xs : List Int) : (burstsOut xs).1.length ≤ 65536 := by
  unfold burstsOut
  split
  · simp
  · split
    · simp
    · split
      · simp
      · rename_i h1 h2 h3
        have := outTo_len (Classical.not_not.1 h2)
        simp only; omega

theorem refBursts_any (A : Option Addr) (c B : Nat) (xs : List Int) (w : World) (hn : xs.length ≤ 200) (h : Ints w B A xs) (hB : B ≤ w.heap.size) : Calls Try.prog 17 #[.slice A xs.length c] w (outRes xs w) := by
  by_cases h2 : xs.length % 2 = 0
  · by_cases h0 : 0 < xs.length
    · obtain ⟨b, o, rfl, hb, hc⟩ := h h0
      exact refBursts_even b o c xs w h2 hn hc (by omega)
    · have e1 : xs = [] := List.eq_nil_of_length_eq_zero (by omega)
      subst e1
      unfold outRes
      rw [burstsOut_zero]
      exact refBursts_zero A c w
  · unfold outRes
    rw [bursts_odd h2]
    exact (refBursts_odd A _ c w h2 hn).mono fun _ _ h => h.ints
theorem bursts_any1 (A : Option Addr) (c B : Nat) (xs : List Int) (w : World) (hn : xs.length ≤ 200) (h : Ints w B A xs) (hB : B ≤ w.heap.size) : Calls Try.prog 16 #[.slice A xs.length c] w (outRes xs w) := by
  by_cases h2 : xs.length % 2 = 0
  · by_cases h0 : 0 < xs.length
    · obtain ⟨b, o, rfl, hb, hc⟩ := h h0
      exact bursts_even1 b o c xs w h2 hn hc (by omega)
    · have e1 : xs = [] := List.eq_nil_of_length_eq_zero (by omega)
      subst e1
      unfold outRes
      rw [burstsOut_zero]
      exact bursts_zero1 A c w
  · unfold outRes
    rw [bursts_odd h2]
    exact (bursts_odd1 A _ c w h2 hn).mono fun _ _ h => h.ints

theorem schedBursts_long (A : Option Addr) (n c : Nat) (w : World) (hn : 200 < n) : Calls Try.prog 4 #[.slice A n c] w (BoolBelow true w) := by
  go_enter Try.func4, Try.ntmps4
  go_wp2
  go_ret
  exact ⟨rfl, Below.refl _ _⟩
theorem schedBursts_walk (A : Option Addr) (c B : Nat) (xs : List Int) (w : World) (h : Ints w B A xs) (hB : B ≤ w.heap.size) : Calls Try.prog 4 #[.slice A xs.length c] w (BoolBelow true w) := by
  by_cases hn : 200 < xs.length
  · exact schedBursts_long A _ c w hn
  have hn' : xs.length ≤ 200 := by omega
  have H1 := Lib.hid (fun W h hB => bursts_any1 A c B xs W hn' h hB)
  have H2 := Lib.hid (fun W h hB => refBursts_any A c B xs W hn' h hB)
  have HI := Lib.hid h
  have hol := burstsOut_len xs
  unfold outRes at H1 H2
  generalize burstsOut xs = out at *
  obtain ⟨ys, k⟩ := out
  dsimp only at H1 H2 hol
  generalize xs.length = n at *
  clear h hn
  have hkk : (k == k) = true := by simp
  go_enter Try.func4, Try.ntmps4
  go_wp2_with fail
  refine (H1.out _ HI.out hB).mono ?_
  rintro e w1 ⟨A1, c1, rfl, hI1, hb1⟩
  go_wp2_with fail
  refine (H2.out _ (HI.out.below (hb1.mono hB) (Nat.le_refl _)) (Nat.le_trans hB hb1.size)).mono ?_
  rintro e w2 ⟨A2, c2, rfl, hI2, hb2⟩
  have K1 := Lib.hid (hI1.below hb2 hb2.size)
  have K2 := Lib.hid hI2
  have HB := Lib.hid (hb1.trans (hb2.mono hb1.size))
  clear hI1 hI2 hb1 hb2
  go_wp2_with fail
  refine (eqInts_any A1 A2 _ _ _ _ ys ys _ (by omega) K1.out K2.out).mono ?_
  rintro e w5 ⟨he, m5, rfl⟩
  simp only [decide_true] at he
  subst he
  go_wp2
  go_ret
  exact ⟨rfl, below_drewN HB.out _⟩
end Go.Proofs.Ytppbknpiipfidaa
