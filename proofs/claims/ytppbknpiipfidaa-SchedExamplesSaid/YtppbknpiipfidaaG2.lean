import Derived.Test.YtppbknpiipfidaaG1
namespace Go.Proofs.Ytppbknpiipfidaa
open Go.RowKit

def PairRes (v : Value) (k : Int) (w : World) (e : Ending) (w' : World) : Prop := e = .returned (.tuple #[v, .int .i64 k]) ∧ w = w'

theorem gap_bad (t th : Int) (A : Option Addr) (n c : Nat) (w : World) (h : okArgs t th = false) : Calls Try.prog 18 #[.int .i64 t, .int .i64 th, .slice A n c] w (PairRes (.int .i64 0) 2 w) := by
  by_cases hv : 1 ≤ t ∧ t ≤ 16
  · obtain ⟨h1, h2⟩ := hv
    by_cases h3 : th < 0
    · clear h
      go_enter Try.func18, Try.ntmps18
      go_wp2_with ((with_reducible refine (valid_yes t _ h1 h2).mono ?_); rintro e w' ⟨rfl, rfl⟩)
      go_ret2
      exact ⟨rfl, rfl⟩
    · have h4 : t ≤ th := by simp [okArgs] at h; omega
      clear h
      go_enter Try.func18, Try.ntmps18
      go_wp2_with ((with_reducible refine (valid_yes t _ h1 h2).mono ?_); rintro e w' ⟨rfl, rfl⟩)
      go_ret2
      exact ⟨rfl, rfl⟩
  · have H := Lib.hid hv
    clear h hv
    go_enter Try.func18, Try.ntmps18
    go_wp2_with ((with_reducible refine (valid_no t _ H.out).mono ?_); rintro e w' ⟨rfl, rfl⟩)
    go_ret2
    exact ⟨rfl, rfl⟩

theorem refGap_bad (t th : Int) (A : Option Addr) (n c : Nat) (w : World) (h : okArgs t th = false) : Calls Try.prog 19 #[.int .i64 t, .int .i64 th, .slice A n c] w (PairRes (.int .i64 0) 2 w) := by
  by_cases hv : 1 ≤ t ∧ t ≤ 16
  · obtain ⟨h1, h2⟩ := hv
    by_cases h3 : th < 0
    · clear h
      go_enter Try.func19, Try.ntmps19
      go_wp2_with ((with_reducible refine (refValid_yes t _ h1 h2).mono ?_); rintro e w' ⟨rfl, rfl⟩)
      go_ret2
      exact ⟨rfl, rfl⟩
    · have h4 : t ≤ th := by simp [okArgs] at h; omega
      clear h
      go_enter Try.func19, Try.ntmps19
      go_wp2_with ((with_reducible refine (refValid_yes t _ h1 h2).mono ?_); rintro e w' ⟨rfl, rfl⟩)
      go_ret2
      exact ⟨rfl, rfl⟩
  · have H := Lib.hid hv
    clear h hv
    go_enter Try.func19, Try.ntmps19
    go_wp2_with ((with_reducible refine (refValid_no t _ H.out).mono ?_); rintro e w' ⟨rfl, rfl⟩)
    go_ret2
    exact ⟨rfl, rfl⟩

theorem fair_bad (t th k : Int) (A : Option Addr) (n c : Nat) (w : World) (h : okArgs t th = false) : Calls Try.prog 20 #[.int .i64 t, .int .i64 th, .int .i64 k, .slice A n c] w (PairRes (.bool false) 2 w) := by
  by_cases hv : 1 ≤ t ∧ t ≤ 16
  · obtain ⟨h1, h2⟩ := hv
    by_cases h3 : th < 0
    · clear h
      go_enter Try.func20, Try.ntmps20
      go_wp2_with ((with_reducible refine (valid_yes t _ h1 h2).mono ?_); rintro e w' ⟨rfl, rfl⟩)
      go_ret2
      exact ⟨rfl, rfl⟩
    · have h4 : t ≤ th := by simp [okArgs] at h; omega
      clear h
      go_enter Try.func20, Try.ntmps20
      go_wp2_with ((with_reducible refine (valid_yes t _ h1 h2).mono ?_); rintro e w' ⟨rfl, rfl⟩)
      go_ret2
      exact ⟨rfl, rfl⟩
  · have H := Lib.hid hv
    clear h hv
    go_enter Try.func20, Try.ntmps20
    go_wp2_with ((with_reducible refine (valid_no t _ H.out).mono ?_); rintro e w' ⟨rfl, rfl⟩)
    go_ret2
    exact ⟨rfl, rfl⟩

theorem refFair_bad (t th k : Int) (A : Option Addr) (n c : Nat) (w : World) (h : okArgs t th = false) : Calls Try.prog 21 #[.int .i64 t, .int .i64 th, .int .i64 k, .slice A n c] w (PairRes (.bool false) 2 w) := by
  by_cases hv : 1 ≤ t ∧ t ≤ 16
  · obtain ⟨h1, h2⟩ := hv
    by_cases h3 : th < 0
    · clear h
      go_enter Try.func21, Try.ntmps21
      go_wp2_with ((with_reducible refine (refValid_yes t _ h1 h2).mono ?_); rintro e w' ⟨rfl, rfl⟩)
      go_ret2
      exact ⟨rfl, rfl⟩
    · have h4 : t ≤ th := by simp [okArgs] at h; omega
      clear h
      go_enter Try.func21, Try.ntmps21
      go_wp2_with ((with_reducible refine (refValid_yes t _ h1 h2).mono ?_); rintro e w' ⟨rfl, rfl⟩)
      go_ret2
      exact ⟨rfl, rfl⟩
  · have H := Lib.hid hv
    clear h hv
    go_enter Try.func21, Try.ntmps21
    go_wp2_with ((with_reducible refine (refValid_no t _ H.out).mono ?_); rintro e w' ⟨rfl, rfl⟩)
    go_ret2
    exact ⟨rfl, rfl⟩

theorem gap_long (t th : Int) (A : Option Addr) (n c : Nat) (w : World) (h1 : 1 ≤ t) (h2 : t ≤ 16) (h3 : 0 ≤ th) (h4 : th < t) (hn : 65536 < n) (hm : n ≤ 9223372036854775807) : Calls Try.prog 18 #[.int .i64 t, .int .i64 th, .slice A n c] w (PairRes (.int .i64 0) 5 w) := by
  go_enter Try.func18, Try.ntmps18
  go_wp2_with (((with_reducible refine (valid_yes t _ h1 h2).mono ?_); rintro e w' ⟨rfl, rfl⟩))
  go_ret2
  exact ⟨rfl, rfl⟩

theorem refGap_long (t th : Int) (A : Option Addr) (n c : Nat) (w : World) (h1 : 1 ≤ t) (h2 : t ≤ 16) (h3 : 0 ≤ th) (h4 : th < t) (hn : 65536 < n) (hm : n ≤ 9223372036854775807) : Calls Try.prog 19 #[.int .i64 t, .int .i64 th, .slice A n c] w (PairRes (.int .i64 0) 5 w) := by
  go_enter Try.func19, Try.ntmps19
  go_wp2_with (((with_reducible refine (refValid_yes t _ h1 h2).mono ?_); rintro e w' ⟨rfl, rfl⟩))
  go_ret2
  exact ⟨rfl, rfl⟩

theorem fair_long (t th k : Int) (A : Option Addr) (n c : Nat) (w : World) (h1 : 1 ≤ t) (h2 : t ≤ 16) (h3 : 0 ≤ th) (h4 : th < t) (h5 : 1 ≤ k) (hn : 65536 < n) (hm : n ≤ 9223372036854775807) : Calls Try.prog 20 #[.int .i64 t, .int .i64 th, .int .i64 k, .slice A n c] w (PairRes (.bool false) 5 w) := by
  go_enter Try.func20, Try.ntmps20
  go_wp2_with (first | ((with_reducible refine (valid_yes t _ h1 h2).mono ?_); rintro e w' ⟨rfl, rfl⟩) | ((with_reducible refine (gap_long t th A n c _ h1 h2 h3 h4 hn hm).mono ?_); rintro e w' ⟨rfl, rfl⟩))
  go_ret2
  exact ⟨rfl, rfl⟩

theorem refFair_long (t th k : Int) (A : Option Addr) (n c : Nat) (w : World) (h1 : 1 ≤ t) (h2 : t ≤ 16) (h3 : 0 ≤ th) (h4 : th < t) (h5 : 1 ≤ k) (hn : 65536 < n) (hm : n ≤ 9223372036854775807) : Calls Try.prog 21 #[.int .i64 t, .int .i64 th, .int .i64 k, .slice A n c] w (PairRes (.bool false) 5 w) := by
  go_enter Try.func21, Try.ntmps21
  go_wp2_with (((with_reducible refine (refValid_yes t _ h1 h2).mono ?_); rintro e w' ⟨rfl, rfl⟩))
  go_ret2
  exact ⟨rfl, rfl⟩

theorem fair_k (t th k : Int) (A : Option Addr) (n c : Nat) (w : World) (h1 : 1 ≤ t) (h2 : t ≤ 16) (h3 : 0 ≤ th) (h4 : th < t) (h5 : k < 1) : Calls Try.prog 20 #[.int .i64 t, .int .i64 th, .int .i64 k, .slice A n c] w (PairRes (.bool false) 2 w) := by
  go_enter Try.func20, Try.ntmps20
  go_wp2_with ((with_reducible refine (valid_yes t _ h1 h2).mono ?_); rintro e w' ⟨rfl, rfl⟩)
  go_ret2
  exact ⟨rfl, rfl⟩

theorem refFair_k (t th k : Int) (A : Option Addr) (n c : Nat) (w : World) (h1 : 1 ≤ t) (h2 : t ≤ 16) (h3 : 0 ≤ th) (h4 : th < t) (h5 : k < 1) : Calls Try.prog 21 #[.int .i64 t, .int .i64 th, .int .i64 k, .slice A n c] w (PairRes (.bool false) 2 w) := by
  go_enter Try.func21, Try.ntmps21
  go_wp2_with ((with_reducible refine (refValid_yes t _ h1 h2).mono ?_); rintro e w' ⟨rfl, rfl⟩)
  go_ret2
  exact ⟨rfl, rfl⟩
end Go.Proofs.Ytppbknpiipfidaa
