import Derived.Test.YtppbknpiipfidaaS2
import Derived.Test.YtppbknpiipfidaaT5
namespace Go.Proofs.Ytppbknpiipfidaa
open Go.RowKit

/-- How often an int occurs. -/
def numI (xs : List Int) (t : Int) : Int := (xs.filter (· == t)).length
theorem num_numI (xs : List Int) (j : Nat) : num xs j = numI xs j := rfl
theorem numI_take_succ (xs : List Int) (t : Int) (k : Nat) (hk : k < xs.length) : numI (xs.take (k + 1)) t = numI (xs.take k) t + if xs.getD k 0 = t then 1 else 0 := by
  unfold numI
  rw [List.take_succ_eq_append_getElem hk, List.filter_append]
  have e : xs.getD k 0 = xs[k] := by simp [List.getD_eq_getElem?_getD, hk]
  rw [e]
  by_cases h : xs[k] = t <;> simp [h, List.filter_cons]
theorem numI_bd (xs : List Int) (t : Int) : 0 ≤ numI xs t ∧ numI xs t ≤ xs.length := by
  unfold numI; have := List.length_filter_le (· == t) xs; omega
theorem numI_out (t τ : Int) (xs : List Int) (k : Nat) (h1 : 1 ≤ t) (h : τ < 0 ∨ t ≤ τ) : numI (chosenTo t xs k) τ = 0 := by
  unfold numI
  rw [List.filter_eq_nil_iff.2]
  · rfl
  · intro x hx
    simp only [chosenTo, List.mem_map] at hx
    obtain ⟨i, _, rfl⟩ := hx
    have := Int.emod_nonneg (xs.getD i 0) (show t ≠ 0 by omega)
    have := Int.emod_lt_of_pos (xs.getD i 0) (show 0 < t by omega)
    rw [beq_iff_eq]; omega

theorem steps_any (b base k : Nat) (t τ : Int) (v : Value) (xs : List Int) (w : World) (h : Sch w b base t v (chosenTo t xs k)) (h1 : 1 ≤ t) (h2 : t ≤ 16) :
    Calls Try.prog 24 #[.pointer (some ⟨b, 0, none⟩), .int .i64 τ] w fun e w' => e = .returned (.int .i64 (numI (chosenTo t xs k) τ)) ∧ w = w' := by
  by_cases ho : τ < 0 ∨ t ≤ τ
  · rw [numI_out t τ xs k h1 ho]
    exact steps_out b base τ t v _ w h ho h1
  · obtain ⟨j, rfl⟩ := Int.eq_ofNat_of_zero_le (show 0 ≤ τ by omega)
    exact steps_in b base j t v _ w h (by omega) h2

theorem pick_only {b base : Nat} {t c : Int} {v : Value} {xs : List Int} {w0 w w' : World} {e : Ending} (h0 : w0.grownBy w (some b)) (hB : w0.heap.size ≤ base) (hs : Sch w b base t v xs) (h : PickRes b base t v xs c w e w') : w0.grownBy w' (some b) := by
  obtain ⟨_, v', _, h1, h2, h3, h4, h5, _⟩ := h
  refine ⟨h1.trans h0.os, h2.trans h0.tape, h3.trans h0.output, Nat.le_trans h0.size h4, fun k hk hkb => ?_⟩
  rw [h5 k (Nat.lt_of_lt_of_le hk h0.size) (fun e => hkb (by rw [e])) (fun e => by have := (hs.own.lt k e.symm).1; omega)]
  exact h0.block k hk hkb

/-- The list 'want', where only block b has turned. -/
theorem Ints.only {w w' : World} {b : Nat} {A : Option Addr} {xs : List Int} (h : Ints w w.heap.size A xs) (hg : w.grownBy w' (some b)) (hne : ∀ a, A = some a → 0 < xs.length → a.block ≠ b) : Ints w' w'.heap.size A xs := fun hx => by
  obtain ⟨g, o, rfl, hlt, hc⟩ := h hx
  refine ⟨g, o, rfl, Nat.lt_of_lt_of_le hlt hg.size, fun j hj => ?_⟩
  rw [World.cell?_of_block (a := ⟨g, o + j, none⟩) (hg.block g hlt (by intro e; injection e with e; exact hne _ rfl hx e))]
  exact hc j hj

theorem schedPicks_skip (t : Int) (A : Option Addr) (n c : Nat) (w : World) (h : 300 < n) : Calls Try.prog 8 #[.int .i64 t, .slice A n c] w (BoolBelow true w) := by
  go_enter Try.func8, Try.ntmps8
  go_wp2
  go_ret
  exact ⟨rfl, Below.refl _ _⟩
theorem schedPicks_bad (t : Int) (A : Option Addr) (n c : Nat) (w : World) (hn : n ≤ 300) (h : ¬ (1 ≤ t ∧ t ≤ 16)) : Calls Try.prog 8 #[.int .i64 t, .slice A n c] w (BoolBelow true w) := by
  have H := Lib.hid h
  clear h
  have hnn : ∀ W : World, (binOp .eql 42 (.pointer none) (.pointer none)).run Try.prog W = .ok (.bool true) W := fun W => by kernel_rfl
  go_enter Try.func8, Try.ntmps8
  go_wp2_with (first | ((with_reducible refine (new_no t _ H.out).mono ?_); rintro e w' ⟨rfl, rfl⟩) | ((with_reducible refine (refValid_no t _ H.out).mono ?_); rintro e w' ⟨rfl, rfl⟩))
  go_ret
  exact ⟨rfl, Below.refl _ _⟩

theorem mod_nat (p t : Int) (h1 : 1 ≤ t) (h2 : t ≤ 16) : ∃ c : Nat, p % t = (c : Int) ∧ c < 16 := by
  have h3 := Int.emod_nonneg p (show t ≠ 0 by omega)
  have h4 := Int.emod_lt_of_pos p (show 0 < t by omega)
  obtain ⟨c, hc⟩ := Int.eq_ofNat_of_zero_le h3
  exact ⟨c, hc, by omega⟩

/-- A schedule at block b, whatever its slice's value. -/
def SchE (w : World) (b base : Nat) (t : Int) (xs : List Int) : Prop := ∃ v, Sch w b base t v xs
theorem Sch.start {w w' : World} {b base B : Nat} {t : Int} (h : Sch w b base t (.slice none 0 0) []) (hb : Below B w w') (hB : b < B) (base' : Nat) : SchE w' b base' t [] :=
  ⟨_, (hb.cell (p := ⟨b, 0, none⟩) hB).trans h.hd, fun j hj => (hb.cell (p := ⟨b, 1 + j, none⟩) hB).trans (h.st j hj), (hb.cell (p := ⟨b, 17, none⟩) hB).trans h.ch, fun o => (hb.frozen (p := ⟨b, o, none⟩) hB).trans (h.fr o),
    World.ownsRow_nil _ _ _ _, by simp [Value.ownBlock]⟩
theorem Sch.drewN {w : World} {b base : Nat} {t : Int} {v : Value} {xs : List Int} (h : Sch w b base t v xs) (n : Nat) : Sch (w.drewN n) b base t v xs := ⟨h.hd, h.st, h.ch, h.fr, h.own, h.ne⟩

theorem pick_chosen (b base k : Nat) (t x : Int) (xs : List Int) (w w0 : World) (h1 : 1 ≤ t) (h2 : t ≤ 16) (h : SchE w b base t (chosenTo t xs k)) (hk : k < 300) (hbase : base ≤ w.heap.size) (hx : xs.getD k 0 % t = x % t) (h0 : w0.grownBy w (some b)) (hB : w0.heap.size ≤ base) :
    Calls Try.prog 23 #[.pointer (some ⟨b, 0, none⟩), .int .i64 x] w fun e w' => e = .returned (.tuple #[.int .i64 (x % t), .int .i64 0]) ∧ SchE w' b base t (chosenTo t xs (k + 1)) ∧ w0.grownBy w' (some b) ∧ base ≤ w'.heap.size := by
  obtain ⟨v, hs⟩ := h
  obtain ⟨c, hc, hc2⟩ := mod_nat x t h1 h2
  refine (pick_walk b base c t x v _ w h1 h2 hs (by rw [chosenTo_len]; omega) hbase hc hc2).mono fun e w' hr => ?_
  have ho := pick_only h0 hB hs hr
  obtain ⟨he, v', hs', _, _, _, hz, _⟩ := hr
  refine ⟨by rw [hc]; exact he, ⟨v', ?_⟩, ho, Nat.le_trans hbase hz⟩
  rw [chosenTo_succ, hx, hc]; exact hs'

theorem total_chosen (b base k : Nat) (t : Int) (xs : List Int) (w : World) (h : SchE w b base t (chosenTo t xs k)) : Calls Try.prog 25 #[.pointer (some ⟨b, 0, none⟩)] w fun e w' => e = .returned (.int .i64 k) ∧ w = w' := by
  obtain ⟨v, hs⟩ := h
  have := total_walk b base t v _ w hs
  rw [chosenTo_len] at this
  exact this

set_option maxHeartbeats 1600000 in
theorem schedPicks_yes (t : Int) (A0 : Option Addr) (c0 : Nat) (xs : List Int) (w : World) (hn : xs.length ≤ 300) (h1 : 1 ≤ t) (h2 : t ≤ 16) (h : Ints w w.heap.size A0 xs) :
    Calls Try.prog 8 #[.int .i64 t, .slice A0 xs.length c0] w (BoolBelow true w) := by
  have hpn : ∀ (a : Addr) (W : World), (binOp .eql 42 (.pointer (some a)) (.pointer none)).run Try.prog W = .ok (.bool false) W := fun a W => by kernel_rfl
  have HI0 := Lib.hid h
  clear h
  go_enter Try.func8, Try.ntmps8
  go_wp2_with fail
  refine (new_yes t _ h1 h2).mono ?_
  rintro e w1 ⟨rfl, hs1, hb1⟩
  have HS1 := Lib.hid hs1
  clear hs1
  have hlt1 : w.heap.size < w1.heap.size := World.block_lt_of_cell? w1 ⟨w.heap.size, 0, none⟩ HS1.out.hd
  go_wp2_with ((with_reducible refine (refValid_yes t _ h1 h2).mono ?_); rintro e w' ⟨rfl, rfl⟩)
  refine (refChosen_any t A0 c0 w.heap.size xs w1 h1 h2 hn (HI0.out.below hb1 (Nat.le_refl _)) (by omega)).mono ?_
  rintro e w2 ⟨A, c, rfl, hI, hnew, hb2⟩
  have HNEW := Lib.hid hnew
  clear hnew
  have HS2 := Lib.hid (HS1.out.start hb2 hlt1 w2.heap.size)
  have HI2 := Lib.hid ((HI0.out.below hb1 (Nat.le_refl _)).below (hb2.mono (by omega)) (Nat.le_refl _))
  have HB2 := Lib.hid (hb1.trans (hb2.mono (by omega)))
  have HIW := Lib.hid hI
  have hsz := hb2.size
  clear hI hb1 hb2
  rw [chosenTo_len]
  generalize hl : xs.length = n at *
  have HL := Lib.hid hl
  clear hl
  generalize hB : w.heap.size = b at *
  have HB := Lib.hid hB
  clear hB HS1
  have HNE : Hid (∀ a, A = some a → 0 < (chosenTo t xs n).length → a.block ≠ b) := by
    intro a ha hp e
    have := HNEW.out a ha hp
    omega
  go_wp2
  go_loopw [8, 9, 10] (fun i _ _ wr => ∃ k : Nat, k ≤ n ∧ i = .int .i64 k ∧ SchE wr b w2.heap.size t (chosenTo t xs k) ∧ w2.grownBy wr (some b)) (fun i _ _ _ => n - (intOf i).toNat)
  case atStart => exact ⟨0, Nat.zero_le _, rfl, HS2.out, World.grownBy.refl _ _⟩
  case round =>
    obtain ⟨k, hk, rfl, hse, hon⟩ := hrel
    by_cases hlt : k < n
    · obtain ⟨b0, o0, rfl, hb0, hcx⟩ := HI2.out (by rw [HL.out]; omega)
      obtain ⟨g, o, rfl, hg, hcw⟩ := HIW.out (by rw [chosenTo_len]; omega)
      have hx : wr.cell? ⟨b0, o0 + k, none⟩ = some (.int .i64 (xs.getD k 0)) := (World.cell?_of_block (a := ⟨b0, o0 + k, none⟩) (hon.block b0 (by omega) (by intro e; injection e; omega))).trans (hcx k (by rw [HL.out]; exact hlt))
      have HCW := Lib.hid hcw
      clear hcx hcw
      have hki : (k : Int) < (n : Int) := by omega
      have hgb : g ≠ b := HNE.out _ rfl (by rw [chosenTo_len]; omega)
      have HX := Lib.hid (rfl : xs.getD k 0 % t = xs.getD k 0 % t)
      have HGW : Hid ((chosenTo t xs n).getD k 0 = xs.getD k 0 % t) := by
        show _ = _
        simp [chosenTo, List.getD_eq_getElem?_getD, hlt]
      generalize hxv : xs.getD k 0 = xv at *
      have HXV := Lib.hid hxv
      clear hxv
      go_wp2_with fail
      refine (pick_chosen b w2.heap.size k t xv xs _ w2 h1 h2 hse (by omega) hon.size (by rw [HXV.out]) hon (Nat.le_refl _)).mono ?_
      rintro e w3 ⟨rfl, hse3, hon3, hsz3⟩
      have hy : w3.cell? ⟨g, o + k, none⟩ = some (.int .i64 (xv % t)) := by
        rw [World.cell?_of_block (a := ⟨g, o + k, none⟩) (hon3.block g hg (by intro e; injection e; omega)), HCW.out k (by rw [chosenTo_len]; exact hlt), HGW.out]
      have hxx : (xv % t != xv % t) = false := by simp
      have hkk : ((k : Int) + 1 != (k : Int) + 1) = false := by simp
      clear hx hse hon
      have HSE := Lib.hid hse3
      have HON := Lib.hid hon3
      clear hse3 hon3
      go_wp2_with ((with_reducible refine (total_chosen b _ (k + 1) t xs _ HSE.out).mono ?_); rintro e w' ⟨rfl, rfl⟩)
      go_roundw
      case rel => exact ⟨k + 1, by omega, by go_num, HSE.out, HON.out⟩
      case measure => simp [intOf]; omega
    · obtain rfl : k = n := by omega
      have HSE := Lib.hid hse
      have HIX := Lib.hid (HIW.out.only hon HNE.out)
      have HBX : Hid (Below b w wr) := by
        have hbb := HB2.out
        have hbe := HB.out
        exact ⟨hon.os.trans hbb.os, hon.tape.trans hbb.tape, hon.output.trans hbb.output, Nat.le_trans hbb.size hon.size, fun k hk => (hon.block k (by omega) (by intro e; injection e; omega)).trans (hbb.block k hk)⟩
      have HBW : Hid (b < wr.heap.size) := by have := hon.size; show b < wr.heap.size; omega
      have HLEN := Lib.hid (chosenTo_len t xs k)
      have HST := Lib.hid (fun (τ : Int) => by obtain ⟨v, hs⟩ := HSE.out; exact steps_any b _ k t τ v xs wr hs h1 h2)
      have HFIN := Lib.hid (by obtain ⟨v, hs⟩ := HSE.out; exact chosenM_walk b _ t v _ wr hs (by rw [HLEN.out]; omega))
      clear hse hon HS2 HI2 HIW
      generalize hws : chosenTo t xs k = ws at *
      clear hws
      go_wp2
      go_loop [11] (fun τ' => ∃ τ : Int, -1 ≤ τ ∧ τ ≤ t + 1 ∧ τ' = .int .i64 τ) (fun τ' => (t + 1 - intOf τ').toNat)
      case atStart => exact ⟨-1, by omega, by omega, rfl⟩
      case round =>
        obtain ⟨τ, ht1, ht2, rfl⟩ := hrel
        by_cases htl : τ ≤ t
        · go_wp2
          go_loop [12, 13] (fun q i => ∃ j : Nat, j ≤ k ∧ i = .int .i64 j ∧ q = .int .i64 (numI (ws.take j) τ)) (fun _ i => k - (intOf i).toNat)
          case atStart => exact ⟨0, Nat.zero_le _, rfl, by simp [numI]⟩
          case round =>
            obtain ⟨j, hj, rfl, rfl⟩ := hrel
            by_cases hjl : j < k
            · obtain ⟨g, o, rfl, hg, hcw⟩ := HIX.out (by rw [HLEN.out]; omega)
              have hy : wr.cell? ⟨g, o + j, none⟩ = some (.int .i64 (ws.getD j 0)) := hcw j (by rw [HLEN.out]; exact hjl)
              have hki : (j : Int) < (k : Int) := by omega
              have HNT := Lib.hid (numI_take_succ ws τ j (by rw [HLEN.out]; exact hjl))
              have hbd := numI_bd (ws.take j) τ
              rw [List.length_take] at hbd
              obtain ⟨hbd1, hbd2⟩ := hbd
              have hbd2 : numI (ws.take j) τ ≤ 300 := by omega
              clear hcw
              generalize hyv : ws.getD j 0 = yv at *
              clear hyv
              generalize hqv : numI (ws.take j) τ = qv at *
              clear hqv
              by_cases hh : yv = τ
              · have hbe : (yv == τ) = true := by simpa using hh
                have HH := Lib.hid hh
                clear hh
                go_wp2
                go_round
                case rel => exact ⟨j + 1, by omega, by go_num, by rw [HNT.out, if_pos HH.out]⟩
                case measure => simp [intOf]; omega
              · have hbe : (yv == τ) = false := by simpa using hh
                have HH := Lib.hid hh
                clear hh
                go_wp2
                go_round
                case rel => exact ⟨j + 1, by omega, by go_num, by rw [HNT.out, if_neg HH.out, Int.add_zero]⟩
                case measure => simp [intOf]; omega
            · obtain rfl : j = k := by omega
              have e1 : ws.take j = ws := List.take_of_length_le (by rw [HLEN.out]; omega)
              rw [e1]
              clear e1
              have hqq : (numI ws τ != numI ws τ) = false := by simp
              go_wp2_with ((with_reducible refine (HST.out τ).mono ?_); rintro e w' ⟨rfl, rfl⟩)
              go_round
              case rel => exact ⟨τ + 1, by omega, by omega, by go_num⟩
              case measure => simp [intOf]; omega
        · go_wp2_with fail
          refine HFIN.out.mono ?_
          rintro e w4 ⟨A4, c4, rfl, hI4, _, hb4⟩
          go_wp2_with fail
          have hle := HLEN.out
          rw [← hle]
          refine (eqInts_any A4 A _ _ _ _ ws ws _ (by omega) hI4 (HIX.out.below hb4 (Nat.le_refl _))).mono ?_
          rintro e w5 ⟨he, m5, rfl⟩
          simp only [decide_true] at he
          subst he
          go_wp2
          go_ret
          have hbx := HBX.out
          exact ⟨rfl, below_drewN (by rw [HB.out]; exact hbx.trans (hb4.mono (Nat.le_of_lt HBW.out))) _⟩

theorem schedPicks_walk (t : Int) (A : Option Addr) (c : Nat) (xs : List Int) (w : World) (h : Ints w w.heap.size A xs) : Calls Try.prog 8 #[.int .i64 t, .slice A xs.length c] w (BoolBelow true w) := by
  by_cases hn : 300 < xs.length
  · exact schedPicks_skip t A _ c w hn
  · by_cases hv : 1 ≤ t ∧ t ≤ 16
    · exact schedPicks_yes t A c xs w (by omega) hv.1 hv.2 h
    · exact schedPicks_bad t A _ c w (by omega) hv
end Go.Proofs.Ytppbknpiipfidaa
