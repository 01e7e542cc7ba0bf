import Derived.Test.YtppbknpiipfidaaT2
namespace Go.Proofs.Ytppbknpiipfidaa
open Go.RowKit

theorem valid_yes (t : Int) (w : World) (h1 : 1 ≤ t) (h2 : t ≤ 16) : Calls Try.prog 32 #[.int .i64 t] w fun e w' => e = .returned (.bool true) ∧ w = w' := by
  go_enter Try.func32, Try.ntmps32
  go_wp2
  go_ret
  exact ⟨rfl, rfl⟩
theorem valid_no (t : Int) (w : World) (h : ¬ (1 ≤ t ∧ t ≤ 16)) : Calls Try.prog 32 #[.int .i64 t] w fun e w' => e = .returned (.bool false) ∧ w = w' := by
  by_cases h1 : 1 ≤ t
  · have h2 : ¬ t ≤ 16 := fun h2 => h ⟨h1, h2⟩
    clear h
    go_enter Try.func32, Try.ntmps32
    go_wp2
    go_ret
    exact ⟨rfl, rfl⟩
  · clear h
    go_enter Try.func32, Try.ntmps32
    go_wp2
    go_ret
    exact ⟨rfl, rfl⟩
theorem turnsFn (i t : Int) (p : Addr) (w : World) (hc : w.cell? p = some (.int .i64 t)) (hi : 0 ≤ i) (hi2 : i ≤ 65536) (h1 : 1 ≤ t) (h2 : t ≤ 16) :
    Calls Try.prog 30 #[.int .i64 i, .pointer (some p)] w fun e w' => e = .returned (.int .i64 (i % t)) ∧ w = w' := by
  go_enter Try.func30, Try.ntmps30
  go_wp2
  go_ret
  exact ⟨rfl, rfl⟩

/-- What 'made' has filled: the first k numbers, then zeros. -/
def filled (f : Nat → Int) (n k : Nat) : List Int := (List.range n).map fun i => if i < k then f i else 0

theorem made_filled (f : Nat → Int) (n : Nat) : (madeCells #[Value.int .i64 0] n).toList = (filled f n 0).map (Value.int .i64) := by
  rw [toList_madeCells_one]
  apply List.ext_getElem?
  intro j
  by_cases hj : j < n <;> simp [filled, hj]
theorem filled_get (f : Nat → Int) (n k j : Nat) (hj : j < n) : (filled f n k)[j]? = some (if j < k then f j else 0) := by
  simp [filled, hj]
theorem filled_set (f : Nat → Int) (n k : Nat) (hk : k < n) : (filled f n k).set k (f k) = filled f n (k + 1) := by
  have _ := hk
  apply List.ext_getElem?
  intro j
  simp only [List.getElem?_set, filled, List.length_map, List.length_range, List.getElem?_map]
  by_cases hj : j < n
  · simp [hj]
    by_cases e : k = j
    · subst e; simp [hk]
    · by_cases h : j < k
      · simp [e, h, show j < k + 1 by omega]
      · simp [e, h, show ¬ j < k + 1 by omega]
  · simp [hj]; omega
theorem filled_all (f : Nat → Int) (n : Nat) : filled f n n = (List.range n).map f := by
  apply List.map_congr_left
  intro i hi
  simp at hi
  simp [hi]

set_option maxHeartbeats 400000 in
theorem madeTurns (t : Int) (n : Nat) (p : Addr) (w : World) (h1 : 1 ≤ t) (h2 : t ≤ 16) (hn : n ≤ 65536) (hp : w.cell? p = some (.int .i64 t)) :
    Calls Try.prog 29 #[.int .i64 t, .int .i64 n, .func (.func 30) #[] #[.pointer (some p)]] w (IntsRes (turns t n) 0 w) := by
  obtain ⟨i0, hi, hz0, hz1, hz2⟩ := info_parts int_info
  have d1 : decide ((n : Int) < 0) = false := by simp
  have d2 : decide ((65536 : Int) < (n : Int)) = false := by simp; omega
  go_enter Try.func29, Try.ntmps29
  go_wp2_with (first | ((with_reducible refine (valid_yes t _ h1 h2).mono ?_); rintro e w' ⟨rfl, rfl⟩) | (at_make; refine wpList_make_full _ rfl _ _ 23 rfl w.heap.size 3 i0 (.int .i64 0) 1 Try.underlying23 hi hz0 hz1 _ _ _ _ n rfl rfl rfl rfl ?c1 ?c2 ?c3 ?_))
  case c1 => rw [hz2]; omega
  case c2 => unfold maxLen; omega
  case c3 => exact Nat.le_refl _
  intro w1 hown1 hg1
  have hm : (madeCells #[Value.int .i64 0] n).toList = (filled (fun i => (i : Int) % t) n 0).map (Value.int .i64) := made_filled _ n
  rw [hm] at hown1
  clear hm
  have hb1 : Below w.heap.size w w1 := (Below.refl _ _).grown hg1 (Nat.le_refl _) (fun k hk => by simp at hk)
  have hpb : p.block < w.heap.size := World.block_lt_of_cell? w p hp
  clear hg1
  generalize hB : w.heap.size = B at *
  have HB := Lib.hid hB
  clear hB
  go_wp2
  go_loopw [9, 23] (fun _ i wr => ∃ k : Nat, k ≤ n ∧ i = .int .i64 k ∧ wr.ownsRow B 3 1 (.slice (some ⟨B, 0, none⟩) n n) n ((filled (fun i => (i : Int) % t) n k).map (Value.int .i64)) ∧ Below B w wr) (fun _ i _ => n - (intOf i).toNat)
  case atStart => exact ⟨0, Nat.zero_le _, rfl, hown1, hb1⟩
  case round =>
    obtain ⟨k, hk, rfl, hown, hbel⟩ := hrel
    have hpr : wr.cell? p = some (.int .i64 t) := (hbel.cell hpb).trans hp
    by_cases hlt : k < n
    · have hcell := hown.cellAt k (by omega)
      rw [List.getElem?_map, filled_get _ n k k hlt] at hcell
      have hfr := hown.frozenAt k
      have hki : (k : Int) < (n : Int) := by omega
      go_wp2_with ((with_reducible refine (turnsFn k t p _ hpr (by omega) (by omega) h1 h2).mono ?_); rintro e w' ⟨rfl, rfl⟩)
      have hst := hown.stored k (.int .i64 ((k : Int) % t))
      rw [← List.map_set, filled_set _ n k hlt] at hst
      go_roundw
      case rel => exact ⟨k + 1, by omega, by go_num, hst.1, hbel.setCell (Nat.le_refl _) _⟩
      case measure => simp [intOf]; omega
    · go_wp2
      obtain rfl : k = n := by omega
      go_ret2
      rw [filled_all] at hown
      have hB := HB.out
      subst hB
      exact res_own hown hbel
end Go.Proofs.Ytppbknpiipfidaa
