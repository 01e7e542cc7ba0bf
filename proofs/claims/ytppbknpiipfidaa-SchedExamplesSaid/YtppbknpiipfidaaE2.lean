import Derived.Test.YtppbknpiipfidaaE1
namespace Go.Proofs.Ytppbknpiipfidaa
open Go.RowKit

theorem bursts_at {xs ys : List Int} {k : Int} (hn : xs.length ≤ 200) (hb : burstsOut xs = (ys, k)) (w : World) (n : Nat) (hl : n = xs.length) : Calls Try.prog 16 #[.slice (some ⟨w.heap.size, 0, none⟩) n n] (w.alloc (.cells (xs.map (Value.int .i64)).toArray 3)) (IntsResB w.heap.size ys k w) := by
  subst hl
  have h := bursts_any1 (some ⟨w.heap.size, 0, none⟩) xs.length (w.heap.size + 1) xs _ hn (Ints.lit w xs) (by simp)
  unfold outRes at h
  rw [hb] at h
  refine h.mono fun e w' ⟨A, c, h1, h2, h3⟩ => ⟨A, c, h1, h2, (((Below.refl _ _).alloc (Nat.le_refl _) _)).trans (h3.mono (by simp))⟩
theorem gap_at {t th g e : Int} {xs : List Int} (hn : xs.length ≤ 200) (hb : gapOut t th xs = (g, e)) (w : World) (n : Nat) (hl : n = xs.length) : Calls Try.prog 18 #[.int .i64 t, .int .i64 th, .slice (some ⟨w.heap.size, 0, none⟩) n n] (w.alloc (.cells (xs.map (Value.int .i64)).toArray 3)) fun r w' => r = .returned (.tuple #[.int .i64 g, .int .i64 e]) ∧ Below w.heap.size w w' := by
  subst hl
  have h := gap_any t th (some ⟨w.heap.size, 0, none⟩) xs.length (w.heap.size + 1) xs _ (by omega) (Ints.lit w xs)
  unfold gapRes at h
  rw [hb] at h
  refine h.mono fun r w' ⟨h1, h2⟩ => ⟨h1, ?_⟩
  subst h2
  exact (Below.refl _ _).alloc (Nat.le_refl _) _
theorem fair_at {t th k e : Int} {b : Bool} {xs : List Int} (hn : xs.length ≤ 200) (hb : fairOut t th k xs = (b, e)) (w : World) (n : Nat) (hl : n = xs.length) : Calls Try.prog 20 #[.int .i64 t, .int .i64 th, .int .i64 k, .slice (some ⟨w.heap.size, 0, none⟩) n n] (w.alloc (.cells (xs.map (Value.int .i64)).toArray 3)) fun r w' => r = .returned (.tuple #[.bool b, .int .i64 e]) ∧ Below w.heap.size w w' := by
  subst hl
  have h := fair_any t th k (some ⟨w.heap.size, 0, none⟩) xs.length (w.heap.size + 1) xs _ (by omega) (Ints.lit w xs)
  unfold fairRes at h
  rw [hb] at h
  refine h.mono fun r w' ⟨h1, h2⟩ => ⟨h1, ?_⟩
  subst h2
  exact (Below.refl _ _).alloc (Nat.le_refl _) _
theorem eq_at {xs : List Int} (hn : xs.length ≤ 200) (A : Option Addr) (c m n : Nat) (w : World) (h : Ints w w.heap.size A xs) (hl : n = xs.length) (hm : m = xs.length) : Calls Try.prog 15 #[.slice A m c, .slice (some ⟨w.heap.size, 0, none⟩) n n] (w.alloc (.cells (xs.map (Value.int .i64)).toArray 3)) (BoolBelow true w) := by
  subst hl hm
  have h := eqInts_any A (some ⟨w.heap.size, 0, none⟩) c xs.length w.heap.size (w.heap.size + 1) xs xs _ (by omega) (h.below ((Below.refl _ _).alloc (Nat.le_refl _) _) (Nat.le_refl _)) (Ints.lit w xs)
  refine h.mono fun r w' ⟨h1, m, h2⟩ => ⟨by simpa using h1, ?_⟩
  subst h2
  exact below_drewN ((Below.refl _ _).alloc (Nat.le_refl _) _) _
theorem turns35 (w : World) : Calls Try.prog 11 #[.int .i64 3, .int .i64 5] w (IntsRes [0, 1, 2, 0, 1] 0 w) := by
  have h := turns_of 3 (5 : Nat) w (turns 3 5) 0 (fun p W hp => madeTurns 3 5 p W (by omega) (by omega) (by omega) hp)
  rw [tu] at h
  exact h
theorem turns17 (w : World) : Calls Try.prog 11 #[.int .i64 17, .int .i64 0] w (IntsRes [] 2 w) :=
  turns_of 17 0 w [] 2 fun p W _ => (made_arg 17 0 _ W (.inl (by omega))).mono fun _ _ h => h.ints
theorem random65537 (w : World) : Calls Try.prog 13 #[.int .u64 0, .int .i64 1, .int .i64 65537] w (IntsRes [] 5 w) :=
  random_of 0 1 65537 w [] 5 fun p q W' _ _ _ _ _ hs => (made_long 1 65537 _ W' (by omega) (by omega) (by omega)).mono fun _ _ h => ⟨none, 0, h.1, Ints.nil_ _ _ _, h.2.mono hs⟩

set_option maxHeartbeats 4000000 in
set_option maxRecDepth 100000 in
theorem examples_walk (w : World) : Calls Try.prog 10 #[] w (BoolBelow true w) := by
  have hpn : ∀ (a : Addr) (W : World), (binOp .eql 42 (.pointer (some a)) (.pointer none)).run Try.prog W = .ok (.bool false) W := fun a W => by kernel_rfl
  go_enter Try.func10, Try.ntmps10
  go_wp2_with fail
  refine (new_yes 3 _ (by omega) (by omega)).mono ?_
  rintro e w1 ⟨rfl, hs, hb⟩
  have HS : Hid (SchL w1 w.heap.size 3 []) := ⟨World.block_lt_of_cell? w1 ⟨w.heap.size, 0, none⟩ hs.hd, _, hs⟩
  have HB := Lib.hid hb
  clear hs hb
  generalize hB : w.heap.size = b at *
  have HE := Lib.hid hB
  clear hB
  go_wp2_with fail
  refine (pick_l b 2 3 (-1) [] _ (by omega) (by omega) HS.out (by simp) (by omega) (by omega)).mono ?_
  rintro e w2 ⟨rfl, hs, hb⟩
  have HS := Lib.hid hs
  have HB := Lib.hid (HB.out.trans hb)
  clear hs hb
  go_wp2_with fail
  refine (pick_l b 1 3 7 _ _ (by omega) (by omega) HS.out (by simp) (by omega) (by omega)).mono ?_
  rintro e w3 ⟨rfl, hs, hb⟩
  have HS : Hid (SchL w3 b 3 [2, 1]) := hs
  have HB := Lib.hid (HB.out.trans hb)
  clear hs hb
  go_wp2_with fail
  refine (steps_l b 2 3 [2, 1] _ HS.out (by omega) (by omega)).mono ?_
  rintro e w' ⟨rfl, rfl⟩
  rw [show num [2, 1] 2 = 1 from rfl]
  go_wp2_with fail
  refine (steps_lo b 3 3 [2, 1] _ HS.out (.inr (by omega)) (by omega)).mono ?_
  rintro e w' ⟨rfl, rfl⟩
  go_wp2_with fail
  refine (chosen_l b 3 [2, 1] _ HS.out (by simp)).mono ?_
  rintro e w4 ⟨A4, c4, rfl, hI, _, hb⟩
  have HLT : Hid (b ≤ w3.heap.size) := Nat.le_of_lt HS.out.1
  have HS : Hid (SchL w4 b 3 [2, 1]) := HS.out.below hb
  have HB := Lib.hid (HB.out.trans (hb.mono HLT.out))
  have HLT : Hid (b ≤ w4.heap.size) := Nat.le_of_lt HS.out.1
  have HI := Lib.hid hI
  clear hI hb
  go_wp2_with fail
  refine (eq_at (xs := [2, 1]) (by decide) A4 c4 _ _ _ HI.out rfl rfl).mono ?_
  rintro e w5 ⟨rfl, hb⟩
  have HS : Hid (SchL w5 b 3 [2, 1]) := HS.out.below hb
  have HB := Lib.hid (HB.out.trans (hb.mono HLT.out))
  have HLT : Hid (b ≤ w5.heap.size) := Nat.le_trans HLT.out hb.size
  clear hb
  go_wp2_with fail
  refine (pick_l b 1 3 (-9223372036854775808) _ _ (by omega) (by omega) HS.out (by simp) (by omega) (by omega)).mono ?_
  rintro e w6 ⟨rfl, _, hb⟩
  have HB := Lib.hid (HB.out.trans hb)
  have HLT : Hid (b ≤ w6.heap.size) := Nat.le_trans HLT.out hb.size
  clear hb HS
  go_wp2_with fail
  refine (gap_at (by decide) g1 _ _ rfl).mono ?_
  rintro e w7 ⟨rfl, hb⟩
  have HB := Lib.hid (HB.out.trans (hb.mono HLT.out))
  have HLT : Hid (b ≤ w7.heap.size) := Nat.le_trans HLT.out hb.size
  clear hb
  go_wp2_with fail
  refine (fair_at (by decide) f1 _ _ rfl).mono ?_
  rintro e w8 ⟨rfl, hb⟩
  have HB := Lib.hid (HB.out.trans (hb.mono HLT.out))
  have HLT : Hid (b ≤ w8.heap.size) := Nat.le_trans HLT.out hb.size
  clear hb
  go_wp2_with fail
  refine (fair_at (by decide) f2 _ _ rfl).mono ?_
  rintro e w9 ⟨rfl, hb⟩
  have HB := Lib.hid (HB.out.trans (hb.mono HLT.out))
  have HLT : Hid (b ≤ w9.heap.size) := Nat.le_trans HLT.out hb.size
  clear hb
  go_wp2_with fail
  refine (turns35 _).mono ?_
  rintro e w10 ⟨A5, c5, rfl, hI, hb⟩
  have HB := Lib.hid (HB.out.trans (hb.mono HLT.out))
  have HLT : Hid (b ≤ w10.heap.size) := Nat.le_trans HLT.out hb.size
  have HI := Lib.hid hI
  clear hI
  clear hb
  go_wp2_with fail
  refine (eq_at (xs := [0, 1, 2, 0, 1]) (by decide) A5 c5 _ _ _ HI.out rfl rfl).mono ?_
  rintro e w11 ⟨rfl, hb⟩
  have HB := Lib.hid (HB.out.trans (hb.mono HLT.out))
  have HLT : Hid (b ≤ w11.heap.size) := Nat.le_trans HLT.out hb.size
  clear hb
  go_wp2_with fail
  refine (bursts_at (by decide) b1 _ _ rfl).mono ?_
  rintro e w12 ⟨A6, c6, rfl, hI, hb⟩
  have HB := Lib.hid (HB.out.trans (hb.mono HLT.out))
  have HLT : Hid (b ≤ w12.heap.size) := Nat.le_trans HLT.out hb.size
  have HI := Lib.hid hI
  clear hI
  clear hb
  go_wp2_with fail
  refine (bursts_at (by decide) b2 _ _ rfl).mono ?_
  rintro e w13 ⟨A7, c7, rfl, hI, hb⟩
  have HB := Lib.hid (HB.out.trans (hb.mono HLT.out))
  have HLT : Hid (b ≤ w13.heap.size) := Nat.le_trans HLT.out hb.size
  have HI := Lib.hid (HI.out.below hb hb.size)
  clear hI
  clear hb
  go_wp2_with fail
  refine (eq_at (xs := [4, 4, 0]) (by decide) A6 c6 _ _ _ HI.out rfl rfl).mono ?_
  rintro e w14 ⟨rfl, hb⟩
  have HB := Lib.hid (HB.out.trans (hb.mono HLT.out))
  have HLT : Hid (b ≤ w14.heap.size) := Nat.le_trans HLT.out hb.size
  clear hb
  go_wp2_with fail
  refine (bursts_at (by decide) b3 _ _ rfl).mono ?_
  rintro e w15 ⟨A8, c8, rfl, hI, hb⟩
  have HB := Lib.hid (HB.out.trans (hb.mono HLT.out))
  have HLT : Hid (b ≤ w15.heap.size) := Nat.le_trans HLT.out hb.size
  clear hI
  clear hb
  go_wp2_with fail
  refine (bursts_at (by decide) b4 _ _ rfl).mono ?_
  rintro e w16 ⟨A9, c9, rfl, hI, hb⟩
  have HB := Lib.hid (HB.out.trans (hb.mono HLT.out))
  have HLT : Hid (b ≤ w16.heap.size) := Nat.le_trans HLT.out hb.size
  clear hI
  clear hb
  go_wp2_with fail
  refine (bursts_at (by decide) b5 _ _ rfl).mono ?_
  rintro e w17 ⟨A10, c10, rfl, hI, hb⟩
  have HB := Lib.hid (HB.out.trans (hb.mono HLT.out))
  have HLT : Hid (b ≤ w17.heap.size) := Nat.le_trans HLT.out hb.size
  clear hI
  clear hb
  go_wp2_with fail
  refine (turns17 _).mono ?_
  rintro e w18 ⟨A11, c11, rfl, hI, hb⟩
  have HB := Lib.hid (HB.out.trans (hb.mono HLT.out))
  have HLT : Hid (b ≤ w18.heap.size) := Nat.le_trans HLT.out hb.size
  clear hI
  clear hb
  go_wp2_with fail
  refine (random65537 _).mono ?_
  rintro e w19 ⟨A12, c12, rfl, hI, hb⟩
  have HB := Lib.hid (HB.out.trans (hb.mono HLT.out))
  have HLT : Hid (b ≤ w19.heap.size) := Nat.le_trans HLT.out hb.size
  clear hI
  clear hb
  go_wp2_with (first | ((with_reducible refine (pick_nil 5 _).mono ?_); rintro e w' ⟨rfl, rfl⟩) | ((with_reducible refine (total_nil _).mono ?_); rintro e w' ⟨rfl, rfl⟩) | ((with_reducible refine (steps_nil 0 _).mono ?_); rintro e w' ⟨rfl, rfl⟩) | ((with_reducible refine (chosen_nil _).mono ?_); rintro e w' ⟨rfl, rfl⟩))
  go_ret
  exact ⟨rfl, by rw [HE.out]; exact HB.out⟩
end Go.Proofs.Ytppbknpiipfidaa
