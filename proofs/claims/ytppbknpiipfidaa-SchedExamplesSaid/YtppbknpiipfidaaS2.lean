import Derived.Test.YtppbknpiipfidaaS1
namespace Go.Proofs.Ytppbknpiipfidaa
open Go.RowKit

/-- A function that hands back a slice of ints alone, in new memory. -/
def ListRes (xs : List Int) (w : World) (e : Ending) (w' : World) : Prop :=
  ∃ A c, e = .returned (.slice A xs.length c) ∧ Ints w' w'.heap.size A xs ∧ (∀ a, A = some a → 0 < xs.length → w.heap.size ≤ a.block) ∧ Below w.heap.size w w'
theorem list_own {w wr : World} {v : Value} {n : Nat} {xs : List Int} (hown : wr.ownsRow w.heap.size 3 1 v n (xs.map (Value.int .i64))) (hb : Below w.heap.size w wr) : ListRes xs w (.returned v) wr := by
  obtain ⟨A, c, rfl⟩ := own_slice hown
  have hI := Ints.of_own hown
  have e1 := hI.1
  exact ⟨A, c, by rw [← e1], hI.2, fun a ha _ => (hown.lt a.block (by simp [Value.ownBlock, ha])).1, hb⟩

def chosenTo (t : Int) (xs : List Int) (k : Nat) : List Int := (List.range k).map fun i => xs.getD i 0 % t
theorem chosenTo_succ (t : Int) (xs : List Int) (k : Nat) : chosenTo t xs (k + 1) = chosenTo t xs k ++ [xs.getD k 0 % t] := by simp [chosenTo, List.range_succ]
theorem chosenTo_len (t : Int) (xs : List Int) (k : Nat) : (chosenTo t xs k).length = k := by simp [chosenTo]

set_option maxHeartbeats 800000 in
theorem refChosen_some (t : Int) (b o c : Nat) (xs : List Int) (w : World) (h1 : 1 ≤ t) (h2 : t ≤ 16) (hn : xs.length ≤ 300) (hb : b < w.heap.size)
    (hc : ∀ j, j < xs.length → w.cell? ⟨b, o + j, none⟩ = some (.int .i64 (xs.getD j 0))) :
    Calls Try.prog 27 #[.int .i64 t, .slice (some ⟨b, o, none⟩) xs.length c] w (ListRes (chosenTo t xs xs.length) w) := by
  obtain ⟨i0, hi, hz0, hz1, hz2⟩ := info_parts int_info
  generalize hl : xs.length = n at *
  have HL := Lib.hid hl
  clear hl
  have HC := Lib.hid hc
  clear hc
  go_enter Try.func27, Try.ntmps27
  go_wp2
  go_loopw [5, 6] (fun v i wr => ∃ k : Nat, k ≤ n ∧ i = .int .i64 k ∧ wr.ownsRow w.heap.size 3 1 v k ((chosenTo t xs k).map (Value.int .i64)) ∧ Below w.heap.size w wr) (fun _ i _ => n - (intOf i).toNat)
  case atStart => exact ⟨0, Nat.zero_le _, rfl, World.ownsRow_nil _ _ _ _, Below.refl _ _⟩
  case round =>
    obtain ⟨k, hk, rfl, hown, hbel⟩ := hrel
    by_cases hlt : k < n
    · have hx : wr.cell? ⟨b, o + k, none⟩ = some (.int .i64 (xs.getD k 0)) := (hbel.cell (p := ⟨b, o + k, none⟩) hb).trans (HC.out k hlt)
      have hki : (k : Int) < (n : Int) := by omega
      have HS := Lib.hid (chosenTo_succ t xs k)
      generalize xs.getD k 0 = xv at *
      go_wp2_with (first | ((with_reducible refine (thread1 t xv _ h1 h2).mono ?_); rintro e w' ⟨rfl, rfl⟩) | (at_builtin; refine wpList_append_own _ rfl _ _ 23 rfl w.heap.size 3 i0 (.int .i64 0) 1 8 Try.underlying23 hi hz0 hz1 hz2 rfl (by decide) _ _ _ rfl (hown.alloc _) ⟨wr.heap.size, 0, none⟩ 1 1 [.int .i64 (xv % t)] rfl rfl (news_one _ _) (one_one _) ?c3 ?c4 ?c5 ?_))
      case c3 => unfold maxLen; omega
      case c4 => omega
      case c5 => have := hbel.size; simp; omega
      intro v1 w1 hown1 hg1 _
      have hb1 := round_append hbel hown hg1
      go_wp2
      go_roundw
      case rel => exact ⟨k + 1, by omega, by go_num, by rw [HS.out, List.map_append]; exact hown1, hb1⟩
      case measure => simp [intOf]; omega
    · go_wp2
      obtain rfl : k = n := by omega
      go_ret
      exact list_own hown hbel
theorem refChosen_zero (t : Int) (A : Option Addr) (c : Nat) (w : World) : Calls Try.prog 27 #[.int .i64 t, .slice A 0 c] w (ListRes [] w) := by
  go_enter Try.func27, Try.ntmps27
  go_wp2
  refine wp_loop_rounds 1 ?_
  rw [rounds_succ]
  go_wp2
  go_ret
  exact ⟨_, _, rfl, Ints.nil_ _ _ _, fun _ _ h => absurd h (by simp), Below.refl _ _⟩
theorem refChosen_any (t : Int) (A : Option Addr) (c B : Nat) (xs : List Int) (w : World) (h1 : 1 ≤ t) (h2 : t ≤ 16) (hn : xs.length ≤ 300) (h : Ints w B A xs) (hB : B ≤ w.heap.size) :
    Calls Try.prog 27 #[.int .i64 t, .slice A xs.length c] w (ListRes (chosenTo t xs xs.length) w) := by
  by_cases h0 : 0 < xs.length
  · obtain ⟨b, o, rfl, hb, hc⟩ := h h0
    exact refChosen_some t b o c xs w h1 h2 hn (by omega) hc
  · have e1 : xs = [] := List.eq_nil_of_length_eq_zero (by omega)
    subst e1
    exact refChosen_zero t A c w

theorem chosenM_nil (b : Nat) (c : Nat) (w : World) (hch : w.cell? ⟨b, 17, none⟩ = some (.slice none 0 c)) : Calls Try.prog 28 #[.pointer (some ⟨b, 0, none⟩)] w (ListRes [] w) := by
  go_enter Try.func28, Try.ntmps28
  go_wp2
  go_ret
  exact ⟨_, _, rfl, Ints.nil_ _ _ _, fun _ _ h => absurd h (by simp), Below.refl _ _⟩
theorem chosenM_some (b g n c base : Nat) (xs : List Int) (w : World) (hch : w.cell? ⟨b, 17, none⟩ = some (.slice (some ⟨g, 0, none⟩) n c)) (hown : w.ownsRow base 3 1 (.slice (some ⟨g, 0, none⟩) n c) n (xs.map (Value.int .i64))) (hn : n ≤ 300) :
    Calls Try.prog 28 #[.pointer (some ⟨b, 0, none⟩)] w (ListRes xs w) := by
  obtain ⟨i0, hi, hz0, hz1, hz2⟩ := info_parts int_info
  have hl := hown.1
  have HO := Lib.hid hown
  clear hown
  go_enter Try.func28, Try.ntmps28
  go_wp2_with (at_builtin; refine wpList_append_own _ rfl _ _ 23 rfl w.heap.size 3 i0 (.int .i64 0) 1 8 Try.underlying23 hi hz0 hz1 hz2 rfl (by decide) (.slice none 0 0) 0 [] rfl (World.ownsRow_nil _ _ _ _) ⟨g, 0, none⟩ n c (xs.map (Value.int .i64)) rfl hl (HO.out.cells rfl) ?c2 ?c3 ?c4 (Nat.le_refl _) ?_)
  case c2 => intro u hu; simp at hu; obtain ⟨x, _, rfl⟩ := hu; rfl
  case c3 => unfold maxLen; omega
  case c4 => omega
  intro v1 w1 hown1 hg1 _
  go_wp2
  go_ret
  exact list_own hown1 ((Below.refl _ _).grown hg1 (Nat.le_refl _) (fun k hk => by simp [Value.ownBlock] at hk))
theorem chosenM_walk (b base : Nat) (t : Int) (v : Value) (xs : List Int) (w : World) (h : Sch w b base t v xs) (hx : xs.length ≤ 300) : Calls Try.prog 28 #[.pointer (some ⟨b, 0, none⟩)] w (ListRes xs w) := by
  have ho := h.own
  rcases ho.2 with ⟨rfl, h0⟩ | ⟨g, cap, cur, rfl, _⟩
  · have : xs = [] := by simpa using h0
    subst this
    exact chosenM_nil b 0 w h.ch
  · exact chosenM_some b g _ _ base xs w h.ch ho hx
end Go.Proofs.Ytppbknpiipfidaa
