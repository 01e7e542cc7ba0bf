import Derived.Test.YtppbknpiipfidaaG3
namespace Go.Proofs.Ytppbknpiipfidaa
open Go.RowKit

theorem gap_zero (t th : Int) (A : Option Addr) (c : Nat) (w : World) (h1 : 1 ≤ t) (h2 : t ≤ 16) (h3 : 0 ≤ th) (h4 : th < t) :
    Calls Try.prog 18 #[.int .i64 t, .int .i64 th, .slice A 0 c] w (PairRes (.int .i64 0) 0 w) := by
  go_enter Try.func18, Try.ntmps18
  go_wp2_with ((with_reducible refine (valid_yes t _ h1 h2).mono ?_); rintro e w' ⟨rfl, rfl⟩)
  refine wp_loop_rounds 1 ?_
  rw [rounds_succ]
  go_wp2
  go_ret2
  exact ⟨rfl, rfl⟩
theorem refGap_zero (t th : Int) (A : Option Addr) (c : Nat) (w : World) (h1 : 1 ≤ t) (h2 : t ≤ 16) (h3 : 0 ≤ th) (h4 : th < t) :
    Calls Try.prog 19 #[.int .i64 t, .int .i64 th, .slice A 0 c] w (PairRes (.int .i64 0) 0 w) := by
  go_enter Try.func19, Try.ntmps19
  go_wp2_with ((with_reducible refine (refValid_yes t _ h1 h2).mono ?_); rintro e w' ⟨rfl, rfl⟩)
  refine wp_loop_rounds 1 ?_
  rw [rounds_succ]
  go_wp2
  go_ret2
  exact ⟨rfl, rfl⟩

def gapRes (t th : Int) (xs : List Int) (w : World) : Ending → World → Prop := PairRes (.int .i64 (gapOut t th xs).1) (gapOut t th xs).2 w
def fairRes (t th k : Int) (xs : List Int) (w : World) : Ending → World → Prop := PairRes (.bool (fairOut t th k xs).1) (fairOut t th k xs).2 w

theorem okArgs_true {t th : Int} (h : ¬ okArgs t th = false) : 1 ≤ t ∧ t ≤ 16 ∧ 0 ≤ th ∧ th < t := by simpa [okArgs] using h

theorem gap_any (t th : Int) (A : Option Addr) (c B : Nat) (xs : List Int) (w : World) (hm : xs.length ≤ 9223372036854775807) (h : Ints w B A xs) :
    Calls Try.prog 18 #[.int .i64 t, .int .i64 th, .slice A xs.length c] w (gapRes t th xs w) := by
  unfold gapRes gapOut
  by_cases hk : okArgs t th = false
  · rw [if_pos hk]; exact gap_bad t th A _ c w hk
  · obtain ⟨h1, h2, h3, h4⟩ := okArgs_true hk
    rw [if_neg hk]
    by_cases hl : 65536 < xs.length
    · rw [if_pos hl]; exact gap_long t th A _ c w h1 h2 h3 h4 hl hm
    · rw [if_neg hl]
      by_cases h0 : 0 < xs.length
      · obtain ⟨b, o, rfl, _, hc⟩ := h h0
        exact gap_some t th b o c xs w h1 h2 h3 h4 (by omega) hc
      · have e1 : xs = [] := List.eq_nil_of_length_eq_zero (by omega)
        subst e1
        exact gap_zero t th A c w h1 h2 h3 h4
theorem refGap_any (t th : Int) (A : Option Addr) (c B : Nat) (xs : List Int) (w : World) (hm : xs.length ≤ 9223372036854775807) (h : Ints w B A xs) :
    Calls Try.prog 19 #[.int .i64 t, .int .i64 th, .slice A xs.length c] w (gapRes t th xs w) := by
  unfold gapRes gapOut
  by_cases hk : okArgs t th = false
  · rw [if_pos hk]; exact refGap_bad t th A _ c w hk
  · obtain ⟨h1, h2, h3, h4⟩ := okArgs_true hk
    rw [if_neg hk]
    by_cases hl : 65536 < xs.length
    · rw [if_pos hl]; exact refGap_long t th A _ c w h1 h2 h3 h4 hl hm
    · rw [if_neg hl]
      by_cases h0 : 0 < xs.length
      · obtain ⟨b, o, rfl, _, hc⟩ := h h0
        exact refGap_some t th b o c xs w h1 h2 h3 h4 (by omega) hc
      · have e1 : xs = [] := List.eq_nil_of_length_eq_zero (by omega)
        subst e1
        exact refGap_zero t th A c w h1 h2 h3 h4

theorem fair_of (t th k g : Int) (A : Option Addr) (n c : Nat) (w : World) (h1 : 1 ≤ t) (h2 : t ≤ 16) (h3 : 0 ≤ th) (h4 : th < t) (h5 : 1 ≤ k) (hm : n ≤ 9223372036854775807)
    (hg : Calls Try.prog 18 #[.int .i64 t, .int .i64 th, .slice A n c] w (PairRes (.int .i64 g) 0 w)) :
    Calls Try.prog 20 #[.int .i64 t, .int .i64 th, .int .i64 k, .slice A n c] w (PairRes (.bool (decide (g < k))) 0 w) := by
  have H := Lib.hid hg
  clear hg
  go_enter Try.func20, Try.ntmps20
  go_wp2_with (first | ((with_reducible refine (valid_yes t _ h1 h2).mono ?_); rintro e w' ⟨rfl, rfl⟩) | ((with_reducible refine H.out.mono ?_); rintro e w' ⟨rfl, rfl⟩))
  go_ret2
  exact ⟨rfl, rfl⟩

theorem fair_any (t th k : Int) (A : Option Addr) (c B : Nat) (xs : List Int) (w : World) (hm : xs.length ≤ 9223372036854775807) (h : Ints w B A xs) :
    Calls Try.prog 20 #[.int .i64 t, .int .i64 th, .int .i64 k, .slice A xs.length c] w (fairRes t th k xs w) := by
  unfold fairRes fairOut
  by_cases hk : okArgs t th = false
  · rw [if_pos (Or.inl hk)]; exact fair_bad t th k A _ c w hk
  · obtain ⟨h1, h2, h3, h4⟩ := okArgs_true hk
    by_cases h5 : k < 1
    · rw [if_pos (Or.inr h5)]; exact fair_k t th k A _ c w h1 h2 h3 h4 h5
    · rw [if_neg (by rintro (h | h) <;> contradiction)]
      by_cases hl : 65536 < xs.length
      · rw [if_pos hl]; exact fair_long t th k A _ c w h1 h2 h3 h4 (by omega) hl hm
      · rw [if_neg hl]
        have hg := gap_any t th A c B xs w hm h
        unfold gapRes gapOut at hg
        rw [if_neg hk, if_neg hl] at hg
        exact fair_of t th k _ A _ c w h1 h2 h3 h4 (by omega) hm hg

theorem refFair_short (t th k : Int) (A : Option Addr) (n c : Nat) (w : World) (h1 : 1 ≤ t) (h2 : t ≤ 16) (h3 : 0 ≤ th) (h4 : th < t) (h5 : 1 ≤ k) (hn : n ≤ 65536) (h6 : (n : Int) < k) :
    Calls Try.prog 21 #[.int .i64 t, .int .i64 th, .int .i64 k, .slice A n c] w (PairRes (.bool true) 0 w) := by
  go_enter Try.func21, Try.ntmps21
  go_wp2_with ((with_reducible refine (refValid_yes t _ h1 h2).mono ?_); rintro e w' ⟨rfl, rfl⟩)
  go_ret2
  exact ⟨rfl, rfl⟩

theorem refFair_any (t th k : Int) (A : Option Addr) (c B : Nat) (xs : List Int) (w : World) (hm : xs.length ≤ 9223372036854775807) (h : Ints w B A xs) :
    Calls Try.prog 21 #[.int .i64 t, .int .i64 th, .int .i64 k, .slice A xs.length c] w (fairRes t th k xs w) := by
  unfold fairRes fairOut
  by_cases hk : okArgs t th = false
  · rw [if_pos (Or.inl hk)]; exact refFair_bad t th k A _ c w hk
  · obtain ⟨h1, h2, h3, h4⟩ := okArgs_true hk
    by_cases h5 : k < 1
    · rw [if_pos (Or.inr h5)]; exact refFair_k t th k A _ c w h1 h2 h3 h4 h5
    · rw [if_neg (by rintro (h | h) <;> contradiction)]
      by_cases hl : 65536 < xs.length
      · rw [if_pos hl]; exact refFair_long t th k A _ c w h1 h2 h3 h4 (by omega) hl hm
      · rw [if_neg hl]
        by_cases h6 : k ≤ xs.length
        · obtain ⟨b, o, rfl, _, hc⟩ := h (by omega)
          exact refFair_some t th k b o c xs w h1 h2 h3 h4 (by omega) h6 (by omega) hc
        · have hb := (mostTo_bd t th xs xs.length).2
          have hd : decide (mostTo t th xs xs.length < k) = true := by simp; omega
          rw [hd]
          exact refFair_short t th k A _ c w h1 h2 h3 h4 (by omega) (by omega) (by omega)

/-- SchedGaps: the struct lies boxed: its two fields in one new block. -/
theorem schedGaps_skip (t th k : Int) (A : Option Addr) (n c : Nat) (w : World) (h1 : 2000 < n) (h2 : n ≤ 65536) : Calls Try.prog 5 #[.int .i64 t, .int .i64 th, .agg #[.int .i64 k, .slice A n c]] w (BoolBelow true w) := by
  go_enter Try.func5, Try.ntmps5
  go_wp2
  go_ret
  exact ⟨rfl, (Below.refl _ _).alloc (Nat.le_refl _) _⟩
set_option maxHeartbeats 800000 in
theorem schedGaps_walk (t th k : Int) (A : Option Addr) (c : Nat) (xs : List Int) (w : World) (hm : xs.length ≤ 9223372036854775807) (h : Ints w w.heap.size A xs) : Calls Try.prog 5 #[.int .i64 t, .int .i64 th, .agg #[.int .i64 k, .slice A xs.length c]] w (BoolBelow true w) := by
  by_cases hs : 2000 < xs.length ∧ xs.length ≤ 65536
  · exact schedGaps_skip t th k A _ c w hs.1 hs.2
  have HI := Lib.hid (fun (o : Obj) => h.below ((Below.refl _ w).alloc (Nat.le_refl _) o) (Nat.le_refl _))
  have H1 := Lib.hid (fun W hI => gap_any t th A c w.heap.size xs W hm hI)
  have H2 := Lib.hid (fun W hI => refGap_any t th A c w.heap.size xs W hm hI)
  have H3 := Lib.hid (fun W hI => fair_any t th k A c w.heap.size xs W hm hI)
  have H4 := Lib.hid (fun W hI => refFair_any t th k A c w.heap.size xs W hm hI)
  unfold gapRes at H1 H2
  unfold fairRes at H3 H4
  generalize gapOut t th xs = go at *
  generalize fairOut t th k xs = fo at *
  obtain ⟨g, ge⟩ := go
  obtain ⟨f, fe⟩ := fo
  dsimp only at H1 H2 H3 H4
  generalize xs.length = n at *
  clear h
  have hcase : n ≤ 2000 ∨ 65536 < n := by omega
  clear hs
  have e1 : (g == g) = true := by simp
  have e2 : (ge == ge) = true := by simp
  have e3 : (f == f) = true := by simp
  have e4 : (fe == fe) = true := by simp
  rcases hcase with hn | hn
  all_goals
    go_enter Try.func5, Try.ntmps5
    go_wp2_with fail
    refine (H1.out _ (HI.out _)).mono ?_
    rintro e w' ⟨rfl, rfl⟩
    go_wp2_with fail
    refine (H2.out _ (HI.out _)).mono ?_
    rintro e w' ⟨rfl, rfl⟩
    go_wp2_with fail
    refine (H3.out _ (HI.out _)).mono ?_
    rintro e w' ⟨rfl, rfl⟩
    go_wp2_with fail
    refine (H4.out _ (HI.out _)).mono ?_
    rintro e w' ⟨rfl, rfl⟩
    go_wp2
    go_ret
    exact ⟨rfl, (Below.refl _ _).alloc (Nat.le_refl _) _⟩
end Go.Proofs.Ytppbknpiipfidaa
