import Derived.Test.YtppbknpiipfidaaS3
namespace Go.Proofs.Ytppbknpiipfidaa
open Go.RowKit

def sumN (xs : List Int) : Nat → Int
  | 0 => 0
  | m + 1 => sumN xs m + numI xs m
theorem filter_lt_succ (xs : List Int) (m : Nat) : (xs.filter fun x => decide (0 ≤ x ∧ x < (m : Int) + 1)).length = (xs.filter fun x => decide (0 ≤ x ∧ x < (m : Int))).length + (xs.filter (· == (m : Int))).length := by
  induction xs with
  | nil => rfl
  | cons x xs ih =>
    rw [List.filter_cons, List.filter_cons, List.filter_cons]
    by_cases h1 : 0 ≤ x ∧ x < (m : Int)
    · have h2 : 0 ≤ x ∧ x < (m : Int) + 1 := by omega
      have h3 : ¬ (x == (m : Int)) = true := by rw [beq_iff_eq]; omega
      rw [if_pos (by simpa using h2), if_pos (by simpa using h1), if_neg h3, List.length_cons, List.length_cons, ih]; omega
    · by_cases h4 : x = m
      · have h2 : 0 ≤ x ∧ x < (m : Int) + 1 := by omega
        rw [if_pos (by simpa using h2), if_neg (by simpa using h1), if_pos (by simpa using h4), List.length_cons, List.length_cons, ih]; omega
      · have h2 : ¬ (0 ≤ x ∧ x < (m : Int) + 1) := by omega
        rw [if_neg (by simpa using h2), if_neg (by simpa using h1), if_neg (by simpa using h4), ih]
theorem sumN_eq (xs : List Int) (m : Nat) : sumN xs m = (xs.filter fun x => decide (0 ≤ x ∧ x < (m : Int))).length := by
  induction m with
  | zero =>
    simp only [sumN]
    rw [List.filter_eq_nil_iff.2]
    · rfl
    · intro x _; simp
  | succ m ih =>
    simp only [sumN]
    have := filter_lt_succ xs m
    rw [ih, numI]
    push_cast
    omega
theorem sumN_le (xs : List Int) (m : Nat) : 0 ≤ sumN xs m ∧ sumN xs m ≤ xs.length := by
  rw [sumN_eq]; have := List.length_filter_le (fun x => decide (0 ≤ x ∧ x < (m : Int))) xs; omega
theorem sumN_all (t : Int) (m : Nat) (xs : List Int) (k : Nat) (h1 : 1 ≤ t) (hm : t = (m : Int)) : sumN (chosenTo t xs k) m = k := by
  rw [sumN_eq, List.filter_eq_self.2, chosenTo_len]
  intro x hx
  simp only [chosenTo, List.mem_map] at hx
  obtain ⟨i, _, rfl⟩ := hx
  have h3 := Int.emod_nonneg (xs.getD i 0) (show t ≠ 0 by omega)
  have h4 := Int.emod_lt_of_pos (xs.getD i 0) (show 0 < t by omega)
  rw [decide_eq_true_eq]; omega

/-- Two schedules, apart. -/
def Two (w : World) (b b' base : Nat) (t : Int) (xs ys : List Int) : Prop :=
  ∃ v v', Sch w b base t v xs ∧ Sch w b' base t v' ys ∧ (∀ q, v.ownBlock = some q → v'.ownBlock ≠ some q) ∧ b < base ∧ b' < base ∧ b ≠ b' ∧ base ≤ w.heap.size
theorem Two.swap {w : World} {b b' base : Nat} {t : Int} {xs ys : List Int} (h : Two w b b' base t xs ys) : Two w b' b base t ys xs := by
  obtain ⟨v, v', h1, h2, h3, h4, h5, h6, h7⟩ := h
  exact ⟨v', v, h2, h1, fun q hq e => h3 q e hq, h5, h4, fun e => h6 e.symm, h7⟩

theorem pick_two (b b' base k : Nat) (t x : Int) (xs ys : List Int) (w : World) (h1 : 1 ≤ t) (h2 : t ≤ 16) (h : Two w b b' base t (chosenTo t xs k) ys) (hk : k < 300) (hx : xs.getD k 0 % t = x % t) (B : Nat) (hB : B ≤ b) :
    Calls Try.prog 23 #[.pointer (some ⟨b, 0, none⟩), .int .i64 x] w fun e w' => e = .returned (.tuple #[.int .i64 (x % t), .int .i64 0]) ∧ Two w' b b' base t (chosenTo t xs (k + 1)) ys ∧ Below B w w' := by
  obtain ⟨v, v', hs, hs', hq, hb, hb', hne, hsz⟩ := h
  obtain ⟨c, hc, hc2⟩ := mod_nat x t h1 h2
  refine (pick_walk b base c t x v _ w h1 h2 hs (by rw [chosenTo_len]; omega) hsz hc hc2).mono fun e w' hr => ?_
  obtain ⟨he, u, hu, r1, r2, r3, r4, r5, r6⟩ := hr
  have hblk : ∀ q, q < w.heap.size → q ≠ b → v.ownBlock ≠ some q → w'.heap[q]? = w.heap[q]? := fun q h1 h2 h3 => r5 q h1 h2 (fun e => h3 e.symm)
  have hvb : ∀ q, v.ownBlock = some q → base ≤ q ∧ q < w.heap.size := hs.own.lt
  have hb2 : w'.heap[b']? = w.heap[b']? := hblk b' (by omega) (fun e => hne e.symm) (fun e => by have := (hvb _ e).1; omega)
  refine ⟨by rw [hc]; exact he, ⟨u, v', ?_, ⟨(World.cell?_of_block (a := ⟨b', 0, none⟩) hb2).trans hs'.hd, fun j hj => (World.cell?_of_block (a := ⟨b', 1 + j, none⟩) hb2).trans (hs'.st j hj),
    (World.cell?_of_block (a := ⟨b', 17, none⟩) hb2).trans hs'.ch, fun o => (World.frozen?_of_block (a := ⟨b', o, none⟩) hb2).trans (hs'.fr o), ?_, hs'.ne⟩, ?_, hb, hb', hne, Nat.le_trans hsz r4⟩, r1, r2, r3, r4, fun q hq1 => ?_⟩
  · rw [chosenTo_succ, hx, hc]; exact hu
  · have ho := hs'.own
    refine ⟨ho.1, ?_⟩
    rcases ho.2 with hl | ⟨g, cap, cur, e1, e2, e3, e4⟩
    · exact .inl hl
    · have hg : v'.ownBlock = some g := by rw [e1]; rfl
      refine .inr ⟨g, cap, cur, e1, e2, ?_, e4⟩
      rw [hblk g (ho.lt g hg).2 (by omega) (fun e => hq g e hg)]; exact e3
  · intro q h1 h2
    have h3 := (hs'.own.lt q h2).2
    rcases r6 with e | ⟨m, e, hm⟩
    · rw [e] at h1; exact hq q h1 h2
    · rw [h1] at e; injection e with e; omega
  · exact hblk q (by omega) (by omega) (fun e => by have := (hvb _ e).1; omega)
end Go.Proofs.Ytppbknpiipfidaa
