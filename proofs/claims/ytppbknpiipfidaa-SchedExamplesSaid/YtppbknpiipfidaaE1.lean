import Derived.Test.YtppbknpiipfidaaS3
import Derived.Test.YtppbknpiipfidaaG4
import Derived.Test.YtppbknpiipfidaaB3
import Derived.Test.YtppbknpiipfidaaT5
namespace Go.Proofs.Ytppbknpiipfidaa
open Go.RowKit

def SchL (w : World) (b : Nat) (t : Int) (xs : List Int) : Prop := b < w.heap.size ∧ ∃ v, Sch w b (b + 1) t v xs
theorem SchL.below {w w' : World} {b : Nat} {t : Int} {xs : List Int} (h : SchL w b t xs) (hb : Below w.heap.size w w') : SchL w' b t xs := by
  obtain ⟨hl, v, hs⟩ := h
  refine ⟨Nat.lt_of_lt_of_le hl hb.size, v, (hb.cell (p := ⟨b, 0, none⟩) hl).trans hs.hd, fun j hj => (hb.cell (p := ⟨b, 1 + j, none⟩) hl).trans (hs.st j hj), (hb.cell (p := ⟨b, 17, none⟩) hl).trans hs.ch, fun o => (hb.frozen (p := ⟨b, o, none⟩) hl).trans (hs.fr o), ?_, hs.ne⟩
  have ho := hs.own
  refine ⟨ho.1, ?_⟩
  rcases ho.2 with hl | ⟨g, cap, cur, e1, e2, e3, e4⟩
  · exact .inl hl
  · have hg : v.ownBlock = some g := by rw [e1]; rfl
    exact .inr ⟨g, cap, cur, e1, e2, by rw [hb.block g (ho.lt g hg).2]; exact e3, e4⟩
theorem pick_l (b c : Nat) (t p : Int) (xs : List Int) (w : World) (h1 : 1 ≤ t) (h2 : t ≤ 16) (h : SchL w b t xs) (hx : xs.length ≤ 300) (hc : p % t = (c : Int)) (hc2 : c < 16) :
    Calls Try.prog 23 #[.pointer (some ⟨b, 0, none⟩), .int .i64 p] w fun e w' => e = .returned (.tuple #[.int .i64 c, .int .i64 0]) ∧ SchL w' b t (xs ++ [(c : Int)]) ∧ Below b w w' := by
  obtain ⟨hl, v, hs⟩ := h
  refine (pick_walk b (b + 1) c t p v xs w h1 h2 hs hx hl hc hc2).mono fun e w' hr => ?_
  obtain ⟨he, u, hu, r1, r2, r3, r4, r5, r6⟩ := hr
  exact ⟨he, ⟨Nat.lt_of_lt_of_le hl r4, u, hu⟩, r1, r2, r3, r4, fun q hq => r5 q (by omega) (by omega) (fun e => by have := (hs.own.lt _ e.symm).1; omega)⟩
theorem steps_l (b j : Nat) (t : Int) (xs : List Int) (w : World) (h : SchL w b t xs) (hj : (j : Int) < t) (ht : t ≤ 16) : Calls Try.prog 24 #[.pointer (some ⟨b, 0, none⟩), .int .i64 j] w fun e w' => e = .returned (.int .i64 (num xs j)) ∧ w = w' := by
  obtain ⟨hl, v, hs⟩ := h
  exact steps_in b _ j t v xs w hs hj ht
theorem steps_lo (b : Nat) (j t : Int) (xs : List Int) (w : World) (h : SchL w b t xs) (hj : j < 0 ∨ t ≤ j) (ht : 1 ≤ t) : Calls Try.prog 24 #[.pointer (some ⟨b, 0, none⟩), .int .i64 j] w fun e w' => e = .returned (.int .i64 0) ∧ w = w' := by
  obtain ⟨hl, v, hs⟩ := h
  exact steps_out b _ j t v xs w hs hj ht
theorem chosen_l (b : Nat) (t : Int) (xs : List Int) (w : World) (h : SchL w b t xs) (hx : xs.length ≤ 300) : Calls Try.prog 28 #[.pointer (some ⟨b, 0, none⟩)] w (ListRes xs w) := by
  obtain ⟨hl, v, hs⟩ := h
  exact chosenM_walk b _ t v xs w hs hx

theorem pick_nil (p : Int) (w : World) : Calls Try.prog 23 #[.pointer none, .int .i64 p] w (PairRes (.int .i64 0) 1 w) := by
  have hnn : ∀ W : World, (binOp .eql 42 (.pointer none) (.pointer none)).run Try.prog W = .ok (.bool true) W := fun W => by kernel_rfl
  go_enter Try.func23, Try.ntmps23
  go_wp2
  go_ret2
  exact ⟨rfl, rfl⟩
theorem total_nil (w : World) : Calls Try.prog 25 #[.pointer none] w fun e w' => e = .returned (.int .i64 0) ∧ w = w' := by
  have hnn : ∀ W : World, (binOp .eql 42 (.pointer none) (.pointer none)).run Try.prog W = .ok (.bool true) W := fun W => by kernel_rfl
  go_enter Try.func25, Try.ntmps25
  go_wp2
  go_ret
  exact ⟨rfl, rfl⟩
theorem steps_nil (p : Int) (w : World) : Calls Try.prog 24 #[.pointer none, .int .i64 p] w fun e w' => e = .returned (.int .i64 0) ∧ w = w' := by
  have hnn : ∀ W : World, (binOp .eql 42 (.pointer none) (.pointer none)).run Try.prog W = .ok (.bool true) W := fun W => by kernel_rfl
  go_enter Try.func24, Try.ntmps24
  go_wp2
  go_ret
  exact ⟨rfl, rfl⟩
theorem chosen_nil (w : World) : Calls Try.prog 28 #[.pointer none] w fun e w' => e = .returned (.slice none 0 0) ∧ w = w' := by
  have hnn : ∀ W : World, (binOp .eql 42 (.pointer none) (.pointer none)).run Try.prog W = .ok (.bool true) W := fun W => by kernel_rfl
  go_enter Try.func28, Try.ntmps28
  go_wp2
  go_ret
  exact ⟨rfl, rfl⟩

/-- A slice that is written out. -/
theorem Ints.lit (w : World) (xs : List Int) : Ints (w.alloc (.cells (xs.map (Value.int .i64)).toArray 3)) (w.heap.size + 1) (some ⟨w.heap.size, 0, none⟩) xs := fun _ => by
  refine ⟨_, _, rfl, by omega, fun j hj => ?_⟩
  rw [Nat.zero_add, World.cell?_alloc_at _ _ _ _ rfl]
  simp [hj]

def out2 (xs ys : List Int) (k : Int) : Prop := burstsOut xs = (ys, k)
theorem b1 : burstsOut [4, 2, 0, 1] = ([4, 4, 0], 0) := by
  rw [bursts_yes (by rfl) (fun j hj => ?_) (by decide)]
  · decide
  · have : j = 0 ∨ j = 1 := by simp at hj; omega
    rcases this with rfl | rfl <;> decide
theorem b2 : burstsOut [4] = ([], 2) := bursts_odd (by decide)
theorem b3 : burstsOut [1, 65536, 2, 1] = ([], 5) := bursts_long (by rfl) (fun j hj => by
  have : j = 0 ∨ j = 1 := by simp at hj; omega
  rcases this with rfl | rfl <;> decide) (by decide)
theorem b4 : burstsOut [1, 4611686018427387904, 2, 4611686018427387904, 3, -1] = ([], 2) := bursts_neg (k := 2) (by rfl) (by decide) (by decide)
theorem b5 : burstsOut [1, 4611686018427387904, 2, 4611686018427387904, 3, 4611686018427387904] = ([], 5) := bursts_long (by rfl) (fun j hj => by
  have : j = 0 ∨ j = 1 ∨ j = 2 := by simp at hj; omega
  rcases this with rfl | rfl | rfl <;> decide) (by decide)
theorem g1 : gapOut 2 0 [1, 1, 0, 1] = (2, 0) := by decide
theorem f1 : fairOut 2 0 2 [1, 1, 0, 1] = (false, 0) := by decide
theorem f2 : fairOut 2 0 3 [1, 1, 0, 1] = (true, 0) := by decide
theorem tu : turns 3 5 = [0, 1, 2, 0, 1] := by decide
end Go.Proofs.Ytppbknpiipfidaa
