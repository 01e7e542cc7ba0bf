import Derived.Test.YtppbknpiipfidaaD1
namespace Go.Proofs.Ytppbknpiipfidaa
open Go.RowKit

theorem divides_skip (t y : Int) (A : Option Addr) (n c : Nat) (w : World) (h : 300 < n ∨ t < 1 ∨ 16 < t ∨ y < -1125899906842624 ∨ 1125899906842624 < y) : Calls Try.prog 7 #[.int .i64 t, .int .i64 y, .slice A n c] w (BoolBelow true w) := by
  by_cases c1 : 300 < n
  · clear h
    go_enter Try.func7, Try.ntmps7
    go_wp2
    go_ret
    exact ⟨rfl, Below.refl _ _⟩
  by_cases c2 : t < 1
  · clear h
    go_enter Try.func7, Try.ntmps7
    go_wp2
    go_ret
    exact ⟨rfl, Below.refl _ _⟩
  by_cases c3 : 16 < t
  · clear h
    go_enter Try.func7, Try.ntmps7
    go_wp2
    go_ret
    exact ⟨rfl, Below.refl _ _⟩
  by_cases c4 : y < -1125899906842624
  · clear h
    go_enter Try.func7, Try.ntmps7
    go_wp2
    go_ret
    exact ⟨rfl, Below.refl _ _⟩
  have c5 : 1125899906842624 < y := by omega
  clear h
  go_enter Try.func7, Try.ntmps7
  go_wp2
  go_ret
  exact ⟨rfl, Below.refl _ _⟩

theorem mul_bd (t y : Int) (h1 : 1 ≤ t) (h2 : t ≤ 16) (h3 : -1125899906842624 ≤ y) (h4 : y ≤ 1125899906842624) : -18014398509481984 ≤ y * t ∧ y * t ≤ 18014398509481984 := by
  have ht : t = 1 ∨ t = 2 ∨ t = 3 ∨ t = 4 ∨ t = 5 ∨ t = 6 ∨ t = 7 ∨ t = 8 ∨ t = 9 ∨ t = 10 ∨ t = 11 ∨ t = 12 ∨ t = 13 ∨ t = 14 ∨ t = 15 ∨ t = 16 := by omega
  rcases ht with rfl | rfl | rfl | rfl | rfl | rfl | rfl | rfl | rfl | rfl | rfl | rfl | rfl | rfl | rfl | rfl <;> omega

set_option maxHeartbeats 1600000 in
set_option maxRecDepth 100000 in
theorem divides_yes (t y : Int) (A0 : Option Addr) (c0 : Nat) (xs : List Int) (w : World) (hn : xs.length ≤ 300) (h1 : 1 ≤ t) (h2 : t ≤ 16) (h3 : -1125899906842624 ≤ y) (h4 : y ≤ 1125899906842624) (h : Ints w w.heap.size A0 xs) :
    Calls Try.prog 7 #[.int .i64 t, .int .i64 y, .slice A0 xs.length c0] w (BoolBelow true w) := by
  have hpn : ∀ (a : Addr) (W : World), (binOp .eql 42 (.pointer (some a)) (.pointer none)).run Try.prog W = .ok (.bool false) W := fun a W => by kernel_rfl
  have HI0 := Lib.hid h
  clear h
  obtain ⟨m1, m2⟩ := mul_bd t y h1 h2 h3 h4
  have d1 : decide ((300 : Int) < (xs.length : Int)) = false := by simp; omega
  have d2 : decide (t < 1) = false := by simp; omega
  have d3 : decide (16 < t) = false := by simp; omega
  have d4 : decide (y < -1125899906842624) = false := by simp; omega
  have d5 : decide (1125899906842624 < y) = false := by simp; omega
  go_enter Try.func7, Try.ntmps7
  go_wp2_with fail
  refine (new_yes t _ h1 h2).mono ?_
  rintro e w1 ⟨rfl, hs1, hb1⟩
  have HS1 := Lib.hid hs1
  clear hs1
  have hlt1 : w.heap.size < w1.heap.size := World.block_lt_of_cell? w1 ⟨w.heap.size, 0, none⟩ HS1.out.hd
  go_wp2_with fail
  refine (new_yes t _ h1 h2).mono ?_
  rintro e w2 ⟨rfl, hs2, hb2⟩
  have hlt2 : w1.heap.size < w2.heap.size := World.block_lt_of_cell? w2 ⟨w1.heap.size, 0, none⟩ hs2.hd
  have HT : Hid (Two w2 w.heap.size w1.heap.size w2.heap.size t [] []) := by
    obtain ⟨v, hv⟩ := HS1.out.start hb2 hlt1 w2.heap.size
    exact ⟨v, .slice none 0 0, hv, ⟨hs2.hd, hs2.st, hs2.ch, hs2.fr, World.ownsRow_nil _ _ _ _, by simp [Value.ownBlock]⟩, fun q _ e => by simp [Value.ownBlock] at e, by omega, hlt2, by omega, Nat.le_refl _⟩
  have HB2 := Lib.hid (hb1.trans (hb2.mono (Nat.le_of_lt hlt1)))
  clear hs2 hb1 hb2 HS1
  generalize hl : xs.length = n at *
  have HL := Lib.hid hl
  clear hl
  generalize hB : w.heap.size = b at *
  have HB := Lib.hid hB
  clear hB
  go_wp2
  go_loopw [11, 12, 13, 14, 15] (fun i _ _ _ _ wr => ∃ k : Nat, k ≤ n ∧ i = .int .i64 k ∧ Two wr b w1.heap.size w2.heap.size t (chosenTo t xs k) (chosenTo t xs k) ∧ Below b w wr ∧ w2.heap.size ≤ wr.heap.size) (fun i _ _ _ _ _ => n - (intOf i).toNat)
  case atStart => exact ⟨0, Nat.zero_le _, rfl, HT.out, HB2.out, Nat.le_refl _⟩
  case round =>
    obtain ⟨k, hk, rfl, htw, hbl, hsz⟩ := hrel
    by_cases hlt : k < n
    · obtain ⟨b0, o0, rfl, hb0, hcx⟩ := HI0.out (by rw [HL.out]; omega)
      have hx0 := hcx k (by rw [HL.out]; exact hlt)
      have hx : wr.cell? ⟨b0, o0 + k, none⟩ = some (.int .i64 (xs.getD k 0)) := (hbl.cell (p := ⟨b0, o0 + k, none⟩) hb0).trans hx0
      have HX0 := Lib.hid hx0
      clear hcx hx0
      have hki : (k : Int) < (n : Int) := by omega
      generalize hxv : xs.getD k 0 = xv at *
      have HXV := Lib.hid hxv
      clear hxv
      have HTW := Lib.hid htw
      clear htw
      by_cases hrg : xv < -1152921504606846976 ∨ 1152921504606846976 < xv
      · rcases hrg with hrg | hrg
        all_goals
          go_wp2
          go_ret
          exact ⟨rfl, by rw [HB.out]; exact hbl⟩
      · have r1 : -1152921504606846976 ≤ xv := by omega
        have r2 : xv ≤ 1152921504606846976 := by omega
        clear hrg
        have HBL := Lib.hid hbl
        clear hbl
        go_wp2_with fail
        refine (pick_two b w1.heap.size w2.heap.size k t xv xs _ _ h1 h2 HTW.out (by omega) (by rw [HXV.out]) b (Nat.le_refl _)).mono ?_
        rintro e w3 ⟨rfl, htw3, hb3⟩
        have hx3 : w3.cell? ⟨b0, o0 + k, none⟩ = some (.int .i64 xv) := (hb3.cell (p := ⟨b0, o0 + k, none⟩) hb0).trans hx
        have HTW3 := Lib.hid htw3
        have HB3 := Lib.hid (HBL.out.trans hb3)
        clear htw3 hb3 hx
        have hn1 := Int.emod_nonneg xv (show t ≠ 0 by omega)
        have hn2 := Int.emod_lt_of_pos xv (show 0 < t by omega)
        have hxx : (xv % t != xv % t) = false := by simp
        go_wp2_with fail
        refine (pick_two w1.heap.size b w2.heap.size k t (xv + y * t) xs _ _ h1 h2 HTW3.out.swap (by omega) (by rw [HXV.out, Int.add_mul_emod_self_right]) b (by omega)).mono ?_
        rintro e w4 ⟨rfl, htw4, hb4⟩
        have HTW4 := Lib.hid htw4.swap
        have HB4 := Lib.hid (HB3.out.trans hb4)
        clear htw4 hb4 hx3
        rw [Int.add_mul_emod_self_right]
        go_wp2
        go_roundw
        case rel =>
          have htt := HTW4.out
          have hss : w2.heap.size ≤ w4.heap.size := by obtain ⟨_, _, _, _, _, _, _, _, hz⟩ := htt; exact hz
          exact ⟨k + 1, by omega, by go_num, htt, HB4.out, hss⟩
        case measure => simp [intOf]; omega
    · obtain rfl : k = n := by omega
      obtain ⟨v, _, hs, _, _, _, _, _, _⟩ := htw
      have HS := Lib.hid hs
      have HBL := Lib.hid hbl
      have HLEN := Lib.hid (chosenTo_len t xs k)
      have HST := Lib.hid (fun (τ : Int) => steps_any b _ k t τ v xs wr HS.out h1 h2)
      have HTO := Lib.hid (total_chosen b _ k t xs wr ⟨v, HS.out⟩)
      have HALL := Lib.hid (fun (m : Nat) (hm : t = (m : Int)) => sumN_all t m xs k h1 hm)
      clear hs hbl
      generalize hws : chosenTo t xs k = ws at *
      clear hws
      go_wp2
      go_loop [16, 17] (fun q i => ∃ j : Nat, (j : Int) ≤ t ∧ i = .int .i64 j ∧ q = .int .i64 (sumN ws j)) (fun _ i => (t - intOf i).toNat)
      case atStart => exact ⟨0, by omega, rfl, rfl⟩
      case round =>
        obtain ⟨j, hj, rfl, rfl⟩ := hrel
        by_cases hjl : (j : Int) < t
        · have HSS := Lib.hid (rfl : sumN ws (j + 1) = sumN ws j + numI ws j)
          obtain ⟨q1, q2⟩ := sumN_le ws j
          obtain ⟨q3, q4⟩ := numI_bd ws j
          have q5 : sumN ws j ≤ 300 := by have := HLEN.out; omega
          have q6 : numI ws j ≤ 300 := by have := HLEN.out; omega
          clear q2 q4
          go_wp2_with ((with_reducible refine (HST.out (j : Int)).mono ?_); rintro e w' ⟨rfl, rfl⟩)
          go_round
          case rel => exact ⟨j + 1, by omega, by go_num, rfl⟩
          case measure => simp [intOf]; omega
        · have hfin := HALL.out j (by omega)
          rw [hfin]
          clear hfin
          have hkk : ((k : Int) == (k : Int)) = true := by simp
          go_wp2_with ((with_reducible refine HTO.out.mono ?_); rintro e w' ⟨rfl, rfl⟩)
          go_ret
          exact ⟨rfl, by rw [HB.out]; exact HBL.out⟩

theorem divides_walk (t y : Int) (A : Option Addr) (c : Nat) (xs : List Int) (w : World) (h : Ints w w.heap.size A xs) : Calls Try.prog 7 #[.int .i64 t, .int .i64 y, .slice A xs.length c] w (BoolBelow true w) := by
  by_cases hs : 300 < xs.length ∨ t < 1 ∨ 16 < t ∨ y < -1125899906842624 ∨ 1125899906842624 < y
  · exact divides_skip t y A _ c w hs
  · exact divides_yes t y A c xs w (by omega) (by omega) (by omega) (by omega) (by omega) h
end Go.Proofs.Ytppbknpiipfidaa
