import Derived.Test.YtppbknpiipfidaaT4
import Derived.Test.YtppbknpiipfidaaT1
namespace Go.Proofs.Ytppbknpiipfidaa
open Go.RowKit

/-- The slice nil and an error number. -/
def NilRes (k : Int) (w : World) (e : Ending) (w' : World) : Prop := e = .returned (.tuple #[.slice none 0 0, .int .i64 k]) ∧ Below w.heap.size w w'

theorem NilRes.ints {k : Int} {w : World} {e : Ending} {w' : World} (h : NilRes k w e w') : IntsRes [] k w e w' := ⟨none, 0, h.1, Ints.nil_ _ _ _, h.2⟩

theorem refTurns_arg (t n : Int) (w : World) (h : ¬ (1 ≤ t ∧ t ≤ 16) ∨ n < 0) : Calls Try.prog 12 #[.int .i64 t, .int .i64 n] w (NilRes 2 w) := by
  by_cases hv : 1 ≤ t ∧ t ≤ 16
  · have hn : n < 0 := by rcases h with h | h; exact absurd hv h; exact h
    obtain ⟨h1, h2⟩ := hv
    clear h
    go_enter Try.func12, Try.ntmps12
    go_wp2_with ((with_reducible refine (refValid_yes t _ h1 h2).mono ?_); rintro e w' ⟨rfl, rfl⟩)
    go_ret2
    exact ⟨rfl, Below.refl _ _⟩
  · have H := Lib.hid hv
    clear h hv
    go_enter Try.func12, Try.ntmps12
    go_wp2_with ((with_reducible refine (refValid_no t _ H.out).mono ?_); rintro e w' ⟨rfl, rfl⟩)
    go_ret2
    exact ⟨rfl, Below.refl _ _⟩
theorem refTurns_long (t n : Int) (w : World) (h1 : 1 ≤ t) (h2 : t ≤ 16) (h : 65536 < n) : Calls Try.prog 12 #[.int .i64 t, .int .i64 n] w (NilRes 5 w) := by
  go_enter Try.func12, Try.ntmps12
  go_wp2_with ((with_reducible refine (refValid_yes t _ h1 h2).mono ?_); rintro e w' ⟨rfl, rfl⟩)
  go_ret2
  exact ⟨rfl, Below.refl _ _⟩
theorem refRandom_arg (x t n : Int) (w : World) (h : ¬ (1 ≤ t ∧ t ≤ 16) ∨ n < 0) : Calls Try.prog 14 #[.int .u64 x, .int .i64 t, .int .i64 n] w (NilRes 2 w) := by
  by_cases hv : 1 ≤ t ∧ t ≤ 16
  · have hn : n < 0 := by rcases h with h | h; exact absurd hv h; exact h
    obtain ⟨h1, h2⟩ := hv
    clear h
    go_enter Try.func14, Try.ntmps14
    go_wp2_with ((with_reducible refine (refValid_yes t _ h1 h2).mono ?_); rintro e w' ⟨rfl, rfl⟩)
    go_ret2
    exact ⟨rfl, Below.refl _ _⟩
  · have H := Lib.hid hv
    clear h hv
    go_enter Try.func14, Try.ntmps14
    go_wp2_with ((with_reducible refine (refValid_no t _ H.out).mono ?_); rintro e w' ⟨rfl, rfl⟩)
    go_ret2
    exact ⟨rfl, Below.refl _ _⟩
theorem refRandom_long (x t n : Int) (w : World) (h1 : 1 ≤ t) (h2 : t ≤ 16) (h : 65536 < n) : Calls Try.prog 14 #[.int .u64 x, .int .i64 t, .int .i64 n] w (NilRes 5 w) := by
  go_enter Try.func14, Try.ntmps14
  go_wp2_with ((with_reducible refine (refValid_yes t _ h1 h2).mono ?_); rintro e w' ⟨rfl, rfl⟩)
  go_ret2
  exact ⟨rfl, Below.refl _ _⟩
theorem made_arg (t n : Int) (f : Value) (w : World) (h : ¬ (1 ≤ t ∧ t ≤ 16) ∨ n < 0) : Calls Try.prog 29 #[.int .i64 t, .int .i64 n, f] w (NilRes 2 w) := by
  by_cases hv : 1 ≤ t ∧ t ≤ 16
  · have hn : n < 0 := by rcases h with h | h; exact absurd hv h; exact h
    obtain ⟨h1, h2⟩ := hv
    clear h
    go_enter Try.func29, Try.ntmps29
    go_wp2_with ((with_reducible refine (valid_yes t _ h1 h2).mono ?_); rintro e w' ⟨rfl, rfl⟩)
    go_ret2
    exact ⟨rfl, Below.refl _ _⟩
  · have H := Lib.hid hv
    clear h hv
    go_enter Try.func29, Try.ntmps29
    go_wp2_with ((with_reducible refine (valid_no t _ H.out).mono ?_); rintro e w' ⟨rfl, rfl⟩)
    go_ret2
    exact ⟨rfl, Below.refl _ _⟩
theorem made_long (t n : Int) (f : Value) (w : World) (h1 : 1 ≤ t) (h2 : t ≤ 16) (h : 65536 < n) : Calls Try.prog 29 #[.int .i64 t, .int .i64 n, f] w (NilRes 5 w) := by
  go_enter Try.func29, Try.ntmps29
  go_wp2_with ((with_reducible refine (valid_yes t _ h1 h2).mono ?_); rintro e w' ⟨rfl, rfl⟩)
  go_ret2
  exact ⟨rfl, Below.refl _ _⟩

theorem turns_of (t n : Int) (w : World) (xs : List Int) (k : Int)
    (hm : ∀ p W, W.cell? p = some (.int .i64 t) → Calls Try.prog 29 #[.int .i64 t, .int .i64 n, .func (.func 30) #[] #[.pointer (some p)]] W (IntsRes xs k W)) :
    Calls Try.prog 11 #[.int .i64 t, .int .i64 n] w (IntsRes xs k w) := by
  have hmf : ∀ (fn : Fn) (first cap : Array Value) (w : World), (Instr.makeFunc fn first cap).run Try.prog w = .ok (.func fn first cap) w := fun _ _ _ _ => rfl
  have H := Lib.hid hm
  clear hm
  go_enter Try.func11, Try.ntmps11
  go_wp2_with fail
  refine (H.out ⟨w.heap.size, 0, none⟩ (w.alloc (.cells #[.int .i64 t] 3)) (by rw [World.cell?_alloc_at _ _ _ _ rfl]; rfl)).mono ?_
  rintro e w1 ⟨A, c, rfl, hI, hb⟩
  go_wp2
  go_ret2
  exact ⟨A, c, rfl, hI, ((Below.refl _ _).alloc (Nat.le_refl _) _).trans (hb.mono (by simp))⟩

theorem random_of (x t n : Int) (w : World) (xs : List Int) (k : Int)
    (hm : ∀ p q W, W.cell? p = some (.int .u64 x) → W.frozen? p = false → W.cell? q = some (.int .i64 t) → p ≠ q → w.heap.size ≤ p.block → w.heap.size ≤ W.heap.size →
      Calls Try.prog 29 #[.int .i64 t, .int .i64 n, .func (.func 31) #[] #[.pointer (some p), .pointer (some q)]] W (IntsResB w.heap.size xs k W)) :
    Calls Try.prog 13 #[.int .u64 x, .int .i64 t, .int .i64 n] w (IntsRes xs k w) := by
  have hmf : ∀ (fn : Fn) (first cap : Array Value) (w : World), (Instr.makeFunc fn first cap).run Try.prog w = .ok (.func fn first cap) w := fun _ _ _ _ => rfl
  have H := Lib.hid hm
  clear hm
  go_enter Try.func13, Try.ntmps13
  go_wp2_with fail
  refine (H.out ⟨w.heap.size + 1, 0, none⟩ ⟨w.heap.size, 0, none⟩ _ ?_ ?_ ?_ ?_ ?_ ?_).mono ?_
  · go_simp
  · go_simp
  · go_simp
  · simp
  · simp
  · simp; omega
  rintro e w1 ⟨A, c, rfl, hI, hb⟩
  go_wp2
  go_ret2
  exact ⟨A, c, rfl, hI, (((Below.refl _ _).alloc (Nat.le_refl _) _).alloc (by simp) _).trans hb⟩

theorem Ints.take1 {w w1 w2 : World} {A : Option Addr} {xs : List Int} (h : Ints w1 w1.heap.size A xs) (hb : Below w1.heap.size w1 w2) (_h : Below w.heap.size w w1) : Ints w2 w2.heap.size A xs := h.below hb hb.size

/-- SchedTurns, out of what the four functions return. -/
theorem schedTurns_of (s t n : Int) (w : World) (hn : ¬ (5000 < n ∧ n ≤ 65536)) (k : Int) (xs ys : List Int) (hx : xs.length ≤ 65536) (hy : ys.length ≤ 65536)
    (c1 : ∀ W, Calls Try.prog 11 #[.int .i64 t, .int .i64 n] W (IntsRes xs k W))
    (c2 : ∀ W, Calls Try.prog 12 #[.int .i64 t, .int .i64 n] W (IntsRes xs k W))
    (c3 : ∀ W, Calls Try.prog 13 #[.int .u64 s, .int .i64 t, .int .i64 n] W (IntsRes ys k W))
    (c4 : ∀ W, Calls Try.prog 14 #[.int .u64 s, .int .i64 t, .int .i64 n] W (IntsRes ys k W)) :
    Calls Try.prog 3 #[.int .u64 s, .int .i64 t, .int .i64 n] w (BoolBelow true w) := by
  have H1 := Lib.hid c1
  have H2 := Lib.hid c2
  have H3 := Lib.hid c3
  have H4 := Lib.hid c4
  clear c1 c2 c3 c4
  have hkk : (k == k) = true := by simp
  have hcase : n ≤ 5000 ∨ 65536 < n := by omega
  rcases hcase with h5 | h5
  all_goals
    clear hn
    go_enter Try.func3, Try.ntmps3
    go_wp2_with fail
    refine (H1.out _).mono ?_
    rintro e w1 ⟨A1, c1, rfl, hI1, hb1⟩
    go_wp2_with fail
    refine (H2.out _).mono ?_
    rintro e w2 ⟨A2, c2, rfl, hI2, hb2⟩
    go_wp2_with fail
    refine (H3.out _).mono ?_
    rintro e w3 ⟨A3, c3, rfl, hI3, hb3⟩
    go_wp2_with fail
    refine (H4.out _).mono ?_
    rintro e w4 ⟨A4, c4, rfl, hI4, hb4⟩
    have K1 := Lib.hid (((hI1.below hb2 hb2.size).below hb3 hb3.size).below hb4 hb4.size)
    have K2 := Lib.hid ((hI2.below hb3 hb3.size).below hb4 hb4.size)
    have K3 := Lib.hid (hI3.below hb4 hb4.size)
    have K4 := Lib.hid hI4
    have HB := Lib.hid (((hb1.trans (hb2.mono hb1.size)).trans (hb3.mono (Nat.le_trans hb1.size hb2.size))).trans (hb4.mono (Nat.le_trans (Nat.le_trans hb1.size hb2.size) hb3.size)))
    clear hI1 hI2 hI3 hI4 hb1 hb2 hb3 hb4
    go_wp2_with fail
    refine (eqInts_any A1 A2 _ _ _ _ xs xs _ (by omega) K1.out K2.out).mono ?_
    rintro e w5 ⟨he, m5, rfl⟩
    simp only [decide_true] at he
    subst he
    go_wp2_with fail
    refine (eqInts_any A3 A4 _ _ _ _ ys ys _ (by omega) (K3.out.drewN _) (K4.out.drewN _)).mono ?_
    rintro e w5 ⟨he, m6, rfl⟩
    simp only [decide_true] at he
    subst he
    go_wp2
    go_ret
    exact ⟨rfl, below_drewN HB.out _⟩
theorem schedTurns_walk (s t n : Int) (w : World) : Calls Try.prog 3 #[.int .u64 s, .int .i64 t, .int .i64 n] w (BoolBelow true w) := by
  by_cases h0 : 5000 < n ∧ n ≤ 65536
  · obtain ⟨h1, h2⟩ := h0
    go_enter Try.func3, Try.ntmps3
    go_wp2
    go_ret
    exact ⟨rfl, Below.refl _ _⟩
  · by_cases hv : 1 ≤ t ∧ t ≤ 16
    · obtain ⟨h1, h2⟩ := hv
      by_cases hn : n < 0
      · exact schedTurns_of s t n w h0 2 [] [] (by simp) (by simp)
          (fun W => turns_of t n W [] 2 fun p W _ => (made_arg t n _ W (.inr hn)).mono fun _ _ h => h.ints)
          (fun W => (refTurns_arg t n W (.inr hn)).mono fun _ _ h => h.ints)
          (fun W => random_of s t n W [] 2 fun p q W' _ _ _ _ _ hs => (made_arg t n _ W' (.inr hn)).mono fun _ _ h => ⟨none, 0, h.1, Ints.nil_ _ _ _, h.2.mono hs⟩)
          (fun W => (refRandom_arg s t n W (.inr hn)).mono fun _ _ h => h.ints)
      · by_cases hl : 65536 < n
        · exact schedTurns_of s t n w h0 5 [] [] (by simp) (by simp)
            (fun W => turns_of t n W [] 5 fun p W _ => (made_long t n _ W h1 h2 hl).mono fun _ _ h => h.ints)
            (fun W => (refTurns_long t n W h1 h2 hl).mono fun _ _ h => h.ints)
            (fun W => random_of s t n W [] 5 fun p q W' _ _ _ _ _ hs => (made_long t n _ W' h1 h2 hl).mono fun _ _ h => ⟨none, 0, h.1, Ints.nil_ _ _ _, h.2.mono hs⟩)
            (fun W => (refRandom_long s t n W h1 h2 hl).mono fun _ _ h => h.ints)
        · obtain ⟨m, rfl⟩ := Int.eq_ofNat_of_zero_le (show 0 ≤ n by omega)
          have hm : m ≤ 65536 := by omega
          exact schedTurns_of s t m w h0 0 (turns t m) (rnd s t m) (by simp [turns]; omega) (by simp [rnd]; omega)
            (fun W => turns_of t m W _ 0 fun p W' hp => madeTurns t m p W' h1 h2 hm hp)
            (fun W => refTurns_yes t m W h1 h2 hm)
            (fun W => random_of s t m W _ 0 fun p q W' hp hf hq hpq hB hs => madeRandom s t m p q W' h1 h2 hm hp hf hq hpq _ hB hs)
            (fun W => refRandom_yes s t m W h1 h2 hm)
    · exact schedTurns_of s t n w h0 2 [] [] (by simp) (by simp)
        (fun W => turns_of t n W [] 2 fun p W _ => (made_arg t n _ W (.inl hv)).mono fun _ _ h => h.ints)
        (fun W => (refTurns_arg t n W (.inl hv)).mono fun _ _ h => h.ints)
        (fun W => random_of s t n W [] 2 fun p q W' _ _ _ _ _ hs => (made_arg t n _ W' (.inl hv)).mono fun _ _ h => ⟨none, 0, h.1, Ints.nil_ _ _ _, h.2.mono hs⟩)
        (fun W => (refRandom_arg s t n W (.inl hv)).mono fun _ _ h => h.ints)
end Go.Proofs.Ytppbknpiipfidaa
