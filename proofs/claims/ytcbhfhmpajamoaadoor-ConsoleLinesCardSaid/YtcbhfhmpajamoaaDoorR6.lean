/- Walk: the line of a result, by the reference. -/
import Derived.Test.YtcbhfhmpajamoaaDoorR5
import Derived.Deep.DeepCutAuto
import Derived.Deep.CutRange
namespace Go.Proofs.YtcbhfhmpajamoaaDoor
open Go.RowKit

def valsL (r : ResV) : List Int := numsA r ++ numsB r
/-- The words laid after i rounds. -/
def partsAt (r : ResV) (i : Nat) : List (List Int) := [[111, 107]] ++ (if i ≤ 4 then decs ((valsL r).take i) else decs ((valsL r).take 4) ++ [quoteL r.text] ++ decs (((valsL r).take i).drop 4))
theorem parts_step (r : ResV) (i : Nat) (h : i < 10) : partsAt r (i + 1) = (if i = 4 then partsAt r i ++ [quoteL r.text] else partsAt r i) ++ [decL ((valsL r).getD i 0).toNat] := by
  obtain ⟨x0, x1, x2, x3, x4, x5, x6, x7, x8, x9, x10, x11⟩ := r
  have h : i = 0 ∨ i = 1 ∨ i = 2 ∨ i = 3 ∨ i = 4 ∨ i = 5 ∨ i = 6 ∨ i = 7 ∨ i = 8 ∨ i = 9 := by omega
  rcases h with rfl | rfl | rfl | rfl | rfl | rfl | rfl | rfl | rfl | rfl <;> rfl
theorem parts_end (r : ResV) (ps : List PieceV) : resParts r ps = partsAt r 10 ++ (if deltaL ps = [] then [] else [deltaL ps]) := by
  obtain ⟨x0, x1, x2, x3, x4, x5, x6, x7, x8, x9, x10, x11⟩ := r
  rfl
theorem parts_ne (r : ResV) (i : Nat) : partsAt r i ≠ [] := by unfold partsAt; simp
theorem vals_mem (r : ResV) (P : Int → Prop) : (∀ j, j < 10 → P ((valsL r).getD j 0)) ↔ (∀ x ∈ numsA r, P x) ∧ (∀ x ∈ numsB r, P x) := by
  obtain ⟨x0, x1, x2, x3, x4, x5, x6, x7, x8, x9, x10, x11⟩ := r
  constructor
  · intro h
    refine ⟨fun x hx => ?_, fun x hx => ?_⟩
    · simp only [numsA, List.mem_cons, List.not_mem_nil, or_false] at hx
      rcases hx with rfl | rfl | rfl | rfl
      · exact h 0 (by omega)
      · exact h 1 (by omega)
      · exact h 2 (by omega)
      · exact h 3 (by omega)
    · simp only [numsB, List.mem_cons, List.not_mem_nil, or_false] at hx
      rcases hx with rfl | rfl | rfl | rfl | rfl | rfl
      · exact h 4 (by omega)
      · exact h 5 (by omega)
      · exact h 6 (by omega)
      · exact h 7 (by omega)
      · exact h 8 (by omega)
      · exact h 9 (by omega)
  · rintro ⟨h1, h2⟩ j hj
    have hm : (valsL ⟨x0, x1, x2, x3, x4, x5, x6, x7, x8, x9, x10, x11⟩).getD j 0 ∈ valsL ⟨x0, x1, x2, x3, x4, x5, x6, x7, x8, x9, x10, x11⟩ := getD_mem 0 _ j hj
    rcases List.mem_append.1 hm with h | h
    · exact h1 _ h
    · exact h2 _ h
theorem vals_cell (r : ResV) (V : World) (b : Nat) (h : V.heap[b]? = some (.cells #[.int .i64 r.rev, .int .i64 r.slot, .int .i64 r.pos, .int .i64 r.grav, .int .i64 r.mb, .int .i64 r.mr, .int .i64 r.ml, .int .i64 r.ik, .int .i64 r.ifr, .int .i64 r.ito] 64)) (i : Nat) (hi : i < 10) : V.cell? ⟨b, i, none⟩ = some (.int .i64 ((valsL r).getD i 0)) := by
  rw [cell_of_row _ _ _ _ _ _ h]
  obtain ⟨x0, x1, x2, x3, x4, x5, x6, x7, x8, x9, x10, x11⟩ := r
  have h : i = 0 ∨ i = 1 ∨ i = 2 ∨ i = 3 ∨ i = 4 ∨ i = 5 ∨ i = 6 ∨ i = 7 ∨ i = 8 ∨ i = 9 := by omega
  rcases h with rfl | rfl | rfl | rfl | rfl | rfl | rfl | rfl | rfl | rfl <;> rfl
set_option maxHeartbeats 0 in
set_option maxRecDepth 100000 in
theorem refResult (r : ResV) (A : Option Addr) (c : Nat) (ps : List PieceV) (w : World) (ht : ResTy r) (htx : r.text.size ≤ 1000) (hP : PiecesAt w w.heap.size A ps) (hl : ps.length ≤ 20) (hpt : ∀ p ∈ ps, p.text.size ≤ 1000) :
    Calls Tryd.prog 10 #[.agg (resCells r A ps.length c)] w (ResRes r ps w) := by
  have HOK0 : Hid (r.err = 0 → (resOk r ps ↔ (∀ j, j < 10 → okN ((valsL r).getD j 0)) ∧ chkD ps 0 0 = 0)) := fun he => by unfold resOk; rw [if_pos he, vals_mem, and_assoc]
  have HOKE : Hid (r.err ≠ 0 → (resOk r ps ↔ okN r.err ∧ emptyR r ps.length)) := fun he => by unfold resOk; rw [if_neg he]
  have HR1 : Hid (∀ W, ¬ resOk r ps → Below w.heap.size w W → ResRes r ps w (.returned (.tuple #[.string ⟨#[]⟩, .int .i64 2])) W) := fun W h hb => resRes_no h hb
  have HR2 : Hid (r.err = 0 → ∀ W, resOk r ps → Below w.heap.size w W → ResRes r ps w (.returned (.tuple #[.string (bs (joinL (resParts r ps))), .int .i64 0])) W) := fun he W h hb => resRes_yes h (by unfold resL; rw [if_pos he]) hb
  have HR3 : Hid (r.err ≠ 0 → ∀ W, resOk r ps → Below w.heap.size w W → ResRes r ps w (.returned (.tuple #[.string (bs ([101, 114, 114, 111, 114, 32] ++ decL r.err.toNat)), .int .i64 0])) W) := fun he W h hb => resRes_yes h (by unfold resL; rw [if_neg he]) hb
  have HB := Lib.hid (below_box w (resBox r A ps.length c))
  have HD := Lib.hid (fun (W : World) (h : Below w.heap.size w W) => deltaTextR A c ps W (hP.below h h.size) hl hpt)
  have HDL := Lib.hid (deltaL_le ps hl hpt)
  have HPE := Lib.hid (parts_end r ps)
  have HPS := Lib.hid (parts_step r)
  have HPN := Lib.hid (parts_ne r)
  have HTY := Lib.hid ht
  have HEM : Hid (∀ b : Bool, (b = true ↔ emptyR r ps.length) → b = decide (emptyR r ps.length)) := fun b h => by
    by_cases he : emptyR r ps.length
    · simp [he, h.2 he]
    · have : ¬ b = true := fun hh => he (h.1 hh)
      simp [he, this]
  generalize hE : decide (emptyR r ps.length) = E at *
  have HEE := Lib.hid hE
  unfold emptyR at HEM
  unfold DeltaRes at HD
  have hx := ht.err
  clear ht hP hpt hE
  obtain ⟨x0, x1, x2, x3, x4, x5, x6, x7, x8, x9, x10, x11⟩ := r
  dsimp only at *
  generalize ps.length = n at *
  by_cases h1 : x0 < 0
  · have hno : ¬ resOk ⟨x0, x1, x2, x3, x4, x5, x6, x7, x8, x9, x10, x11⟩ ps := fun h => by have := ((HOKE.out (by omega)).1 h).1.1; omega
    go_enter Tryd.func10, Tryd.ntmps10
    go_wp2_with fail
    go_ret2
    exact HR1.out _ hno HB.out
  go_enter Tryd.func10, Tryd.ntmps10
  go_upto_region 3 with fail
  have HBX : Hid ((w.alloc (resBox ⟨x0, x1, x2, x3, x4, x5, x6, x7, x8, x9, x10, x11⟩ A n c)).heap[w.heap.size]? = some (resBox ⟨x0, x1, x2, x3, x4, x5, x6, x7, x8, x9, x10, x11⟩ A n c)) := heap_alloc_new _ _
  generalize Value.agg (resCells ⟨x0, x1, x2, x3, x4, x5, x6, x7, x8, x9, x10, x11⟩ A n c) = v0
  generalize w.alloc (.cells (resCells ⟨x0, x1, x2, x3, x4, x5, x6, x7, x8, x9, x10, x11⟩ A n c) 32) = W at *
  generalize w.heap.size = rb at HBX ⊢
  obtain ⟨m1, m2, m3, m4, m5, m6, m7, m8⟩ := resCells_at HBX.out
  have m0 : W.cell? ⟨rb, 0, none⟩ = some (.int .i64 x0) := by rw [cell_of_row _ _ _ _ _ _ HBX.out]; rfl
  have m9 : W.cell? ⟨rb, 9, none⟩ = some (.int .u8 x9) := by rw [cell_of_row _ _ _ _ _ _ HBX.out]; rfl
  have m10 : W.cell? ⟨rb, 10, none⟩ = some (.int .i64 x10) := by rw [cell_of_row _ _ _ _ _ _ HBX.out]; rfl
  have m11 : W.cell? ⟨rb, 11, none⟩ = some (.int .i64 x11) := by rw [cell_of_row _ _ _ _ _ _ HBX.out]; rfl
  have m12 : W.cell? ⟨rb, 12, none⟩ = some (.slice A n c) := by rw [cell_of_row _ _ _ _ _ _ HBX.out]; rfl
  go_cut [4] from 17 to 70 (fun v wx => v = .bool E ∧ wx = W)
  case first =>
    go_wp2
    all_goals
      go_meet
      refine ⟨congrArg Value.bool (HEM.out _ ?_), rfl⟩
      first
        | (simp_all [toList_empty]; done)
        | (simp only [toList_nil] at *; simp_all; done)
  case rest =>
    obtain ⟨rfl, rfl⟩ := hcut
    clear m1 m2 m3 m4 m6 m7 m8 m9 m10 m11 m12 HEM
    by_cases he : x0 = 0
    case neg =>
      have he2 : (x0 != 0) = true := by simpa using he
      cases E with
      | false =>
        have hno : ¬ resOk ⟨x0, x1, x2, x3, x4, x5, x6, x7, x8, x9, x10, x11⟩ ps := fun h => of_decide_eq_false HEE.out ((HOKE.out he).1 h).2
        go_wp2_with fail
        go_ret2
        exact HR1.out _ hno HB.out
      | true =>
        have hem := of_decide_eq_true HEE.out
        have HN := Lib.hid (numberFn x0 wc)
        unfold NumRes at HN
        go_wp2_with fail
        refine HN.out.mono ?_
        rintro e w1 ⟨hnum, hb1⟩
        have HB1 := Lib.hid (below_then HB.out HB.out.size hb1)
        clear hb1 HN m5
        by_cases hk : 0 ≤ x0 ∧ x0 ≤ 9999999999
        · rw [if_pos hk] at hnum
          subst hnum
          have hyes := (HOKE.out he).2 ⟨hk, hem⟩
          have hdz : (bs (decL x0.toNat)).size ≤ 10 := by rw [bs_size]; exact dec_le x0 hk.1 hk.2
          have HS : Hid ((⟨#[101, 114, 114, 111, 114, 32]⟩ : ByteArray) ++ bs (decL x0.toNat) = bs ([101, 114, 114, 111, 114, 32] ++ decL x0.toNat)) := by
            show _ = _
            rw [← bs_app]; rfl
          go_wp2_with fail
          go_ret2
          rw [HS.out]
          exact HR3.out he _ hyes HB1.out
        · rw [if_neg hk] at hnum
          subst hnum
          have hno := fun h => hk ((HOKE.out he).1 h).1
          go_wp2_with fail
          go_ret2
          exact HR1.out _ hno HB1.out
    case pos =>
      subst he
      have HOK := Lib.hid (HOK0.out rfl)
      have HR2' := Lib.hid (HR2.out rfl)
      clear HOK0 HOKE HR2 HR3 HEE
      obtain ⟨m1, m2, m3, m4, -, m6, m7, m8⟩ := resCells_at HBX.out
      have m9 : wc.cell? ⟨rb, 9, none⟩ = some (.int .u8 x9) := by rw [cell_of_row _ _ _ _ _ _ HBX.out]; rfl
      have m10 : wc.cell? ⟨rb, 10, none⟩ = some (.int .i64 x10) := by rw [cell_of_row _ _ _ _ _ _ HBX.out]; rfl
      have m11 : wc.cell? ⟨rb, 11, none⟩ = some (.int .i64 x11) := by rw [cell_of_row _ _ _ _ _ _ HBX.out]; rfl
      have hg0 := HTY.out.grav.1
      have hg1 := HTY.out.grav.2
      have hk0 := HTY.out.ik.1
      have hk1 := HTY.out.ik.2
      dsimp only at hg0 hg1 hk0 hk1
      have HVB : Hid ((wc.alloc (.cells #[.int .i64 x1, .int .i64 x2, .int .i64 x3, .int .i64 x4, .int .i64 x6, .int .i64 x7, .int .i64 x8, .int .i64 x9, .int .i64 x10, .int .i64 x11] 64)).heap[wc.heap.size]? = some (.cells #[.int .i64 x1, .int .i64 x2, .int .i64 x3, .int .i64 x4, .int .i64 x6, .int .i64 x7, .int .i64 x8, .int .i64 x9, .int .i64 x10, .int .i64 x11] 64)) := heap_alloc_new _ _
      have HVC := Lib.hid (fun (V : World) (h : V.heap[wc.heap.size]? = some (.cells #[.int .i64 x1, .int .i64 x2, .int .i64 x3, .int .i64 x4, .int .i64 x6, .int .i64 x7, .int .i64 x8, .int .i64 x9, .int .i64 x10, .int .i64 x11] 64)) => vals_cell ⟨0, x1, x2, x3, x4, x5, x6, x7, x8, x9, x10, x11⟩ V _ h)
      have HBV : Hid (Below w.heap.size w (wc.alloc (.cells #[.int .i64 x1, .int .i64 x2, .int .i64 x3, .int .i64 x4, .int .i64 x6, .int .i64 x7, .int .i64 x8, .int .i64 x9, .int .i64 x10, .int .i64 x11] 64))) := HB.out.alloc HB.out.size _
      have HBX2 := Lib.hid ((below_box wc (.cells #[.int .i64 x1, .int .i64 x2, .int .i64 x3, .int .i64 x4, .int .i64 x6, .int .i64 x7, .int .i64 x8, .int .i64 x9, .int .i64 x10, .int .i64 x11] 64)).block rb (heap_lt HBX.out) |>.trans HBX.out)
      have HP0 : Hid ((⟨#[111, 107]⟩ : ByteArray) = bs (joinL (partsAt ⟨0, x1, x2, x3, x4, x5, x6, x7, x8, x9, x10, x11⟩ 0))) := rfl
      have HQ := Lib.hid (fun V : World => stringFnR x5 V (by omega))
      unfold StrRes at HQ
      have HNF := Lib.hid (fun (x : Int) (V : World) => numberFn x V)
      unfold NumRes at HNF
      have hqs : (bs (quoteL x5)).size ≤ 2001 := by rw [bs_size, quoteL_len]; omega
      generalize valsL ⟨0, x1, x2, x3, x4, x5, x6, x7, x8, x9, x10, x11⟩ = VS at *
      generalize partsAt ⟨0, x1, x2, x3, x4, x5, x6, x7, x8, x9, x10, x11⟩ = PT at *
      go_wp2_with fail
      clear m1 m2 m3 m4 m5 m6 m7 m8 m9 m10 m11
      generalize wc.alloc (.cells #[.int .i64 x1, .int .i64 x2, .int .i64 x3, .int .i64 x4, .int .i64 x6, .int .i64 x7, .int .i64 x8, .int .i64 x9, .int .i64 x10, .int .i64 x11] 64) = Wv at *
      generalize wc.heap.size = vb at *
      go_loopw [7, 9] (fun sv iv wr => ∃ (i : Nat) (t : ByteArray), i ≤ 10 ∧ iv = .int .i64 i ∧ sv = .string t ∧ Hid (t.size ≤ 2 + i * 11 + (if 4 < i then 2002 else 0)) ∧ Hid (t = bs (joinL (PT i))) ∧ Hid (∀ j, j < i → okN (VS.getD j 0)) ∧ Hid (Below Wv.heap.size Wv wr)) (fun _ iv _ => 10 - (intOf iv).toNat)
      case atStart => exact ⟨0, _, by omega, rfl, rfl, by show _ ≤ _; decide, HP0.out, by intro j hj; omega, Below.refl _ _⟩
      case round =>
        obtain ⟨i, t, hi, rfl, rfl, HTS, HT1, HOKS, HW⟩ := hrel
        have hts := HTS.out
        have htm : t.size ≤ 2200 := by by_cases h5 : 4 < i
                                       · rw [if_pos h5] at hts; omega
                                       · rw [if_neg h5] at hts; omega
        clear HTS
        clear HP0
        by_cases hi10 : i < 10
        · have hii : (i : Int) < 10 := by omega
          have hcx := HVC.out wr ((HW.out.block vb (heap_lt HVB.out)).trans HVB.out) i hi10
          have HPS1 := Lib.hid (HPS.out i hi10)
          have hbx := (HW.out.block rb (heap_lt HBX2.out)).trans HBX2.out
          obtain ⟨-, -, -, -, m5, -, -, -⟩ := resCells_at hbx
          have HI0 := Lib.hid (hi10)
          by_cases hi4 : i = 4
          case' pos =>
            have he4 : ((i : Int) == 4) = true := by simp; omega
            have HT2 : Hid (t ++ ((⟨#[32]⟩ : ByteArray) ++ bs (quoteL x5)) = bs (joinL (PT i ++ [quoteL x5]))) := by
              show _ = _
              rw [HT1.out, add_word, joinL_snoc _ _ (HPN.out i)]
            rw [if_pos hi4] at HPS1
            have hs1 := sz_word (bs (quoteL x5))
            have HZ2 : Hid ((t ++ ((⟨#[32]⟩ : ByteArray) ++ bs (quoteL x5))).size ≤ 2 + i * 11 + (if 4 < i + 1 then 2002 else 0)) := by show _ ≤ _; rw [ByteArray.size_append, sz_word, if_pos (by omega)]; rw [if_neg (by omega)] at hts; omega
            clear hts
            have HN2 : Hid (PT i ++ [quoteL x5] ≠ []) := by show _ ≠ _; simp
            clear hi4
            go_wp2_with fail
            refine (HQ.out _).mono ?_
            rintro e w1 ⟨rfl, hb1⟩
            have HW1 := Lib.hid (below_then HW.out HW.out.size hb1)
            have hcx := HVC.out w1 ((HW1.out.block vb (heap_lt HVB.out)).trans HVB.out) i hi10
            clear hb1 m5 HW HT1
            go_upto_region 18 with fail
            generalize t ++ ((⟨#[32]⟩ : ByteArray) ++ bs (quoteL x5)) = t2 at *
            generalize PT i ++ [quoteL x5] = L2 at *
          case' neg =>
            have he4 : ((i : Int) == 4) = false := by simp; omega
            have HT2 : Hid (t = bs (joinL (PT i))) := HT1
            rw [if_neg hi4] at HPS1
            have HZ2 : Hid (t.size ≤ 2 + i * 11 + (if 4 < i + 1 then 2002 else 0)) := by
              show _ ≤ _
              by_cases h5 : 4 < i
              · rw [if_pos h5] at hts; rw [if_pos (by omega)]; exact hts
              · rw [if_neg h5] at hts; rw [if_neg (by omega)]; exact hts
            clear hts
            have HN2 : Hid (PT i ≠ []) := HPN.out i
            have HW1 := HW
            clear hi4 HT1 HW m5
            go_upto_region 18 with fail
            generalize t = t2 at *
            generalize PT i = L2 at *
            generalize wr = w1 at *
          all_goals
            have hz2 := HZ2.out
            have htm2 : t2.size ≤ 2200 := by by_cases h5 : 4 < i + 1
                                             · rw [if_pos h5] at hz2; omega
                                             · rw [if_neg h5] at hz2; omega
            clear hz2
            generalize hx : VS.getD i 0 = x at *
            have HX := Lib.hid hx
            clear hx
            go_wp2_with fail
            refine (HNF.out x _).mono ?_
            rintro e w2 ⟨hnum, hb2⟩
            have HW2 := Lib.hid (below_then HW1.out HW1.out.size hb2)
            clear hb2 hcx HW1
            by_cases hok : 0 ≤ x ∧ x ≤ 9999999999
            · rw [if_pos hok] at hnum
              subst hnum
              have hdz : (bs (decL x.toNat)).size ≤ 10 := by rw [bs_size]; exact dec_le x hok.1 hok.2
              have HT3 : Hid (t2 ++ ((⟨#[32]⟩ : ByteArray) ++ bs (decL x.toNat)) = bs (joinL (PT (i + 1)))) := by
                show _ = _
                rw [HT2.out, add_word, ← joinL_snoc _ _ HN2.out, HPS1.out]
              have hs1 := sz_word (bs (decL x.toNat))
              have HZ3 : Hid ((t2 ++ ((⟨#[32]⟩ : ByteArray) ++ bs (decL x.toNat))).size ≤ 2 + (i + 1) * 11 + (if 4 < i + 1 then 2002 else 0)) := by show _ ≤ _; rw [ByteArray.size_append, sz_word]; have := HZ2.out; omega
              have HOK2 : Hid (∀ j, j < i + 1 → okN (VS.getD j 0)) := fun j hj => by
                by_cases hji : j = i
                · subst hji; rw [HX.out]; exact hok
                · exact HOKS.out j (by omega)
              go_wp2_with fail
              go_roundw
              case rel => exact ⟨i + 1, _, by omega, by go_num, rfl, HZ3.out, HT3.out, HOK2.out, HW2.out⟩
              case measure => simp [intOf]; omega
            · rw [if_neg hok] at hnum
              subst hnum
              have hno := fun h => hok (by rw [← HX.out]; exact (HOK.out.1 h).1 i hi10)
              have HB2 := Lib.hid (below_then HBV.out HBV.out.size HW2.out)
              go_wp2_with fail
              go_ret2
              exact HR1.out _ hno HB2.out
        · obtain rfl : i = 10 := by omega
          have hbx := (HW.out.block rb (heap_lt HBX2.out)).trans HBX2.out
          have m12 : wr.cell? ⟨rb, 12, none⟩ = some (.slice A n c) := by rw [cell_of_row _ _ _ _ _ _ hbx]; rfl
          have HBW := Lib.hid (below_then HBV.out HBV.out.size HW.out)
          have HD8 := Lib.hid (HD.out wr HBW.out)
          clear hbx hts
          go_wp2_with fail
          refine HD8.out.mono ?_
          rintro e w9 ⟨hdl, hb9⟩
          have HB9 := Lib.hid (below_then HBW.out HBW.out.size hb9)
          clear hb9 HD8 HD m12
          by_cases hck : chkD ps 0 0 = 0
          case neg =>
            rw [if_neg hck] at hdl
            subst hdl
            have hno := fun h => hck (HOK.out.1 h).2
            generalize chkD ps 0 0 = ck at *
            have hne : (ck != 0) = true := by simpa using hck
            clear hck
            go_wp2_with fail
            go_ret2
            exact HR1.out _ hno HB9.out
          rw [if_pos hck] at hdl
          subst hdl
          have hyes := HOK.out.2 ⟨HOKS.out, hck⟩
          have hdz := HDL.out hck
          have hds : (bs (deltaL ps)).size ≤ 60000 := by rw [bs_size]; exact hdz
          have h00 : ((0 : Int) != 0) = false := by decide
          have HRR := Lib.hid (HR2'.out _ hyes HB9.out)
          rw [HPE.out] at HRR
          clear hck HDL HPE HR2'
          by_cases hD : deltaL ps = []
          · rw [if_pos hD, List.append_nil, ← HT1.out] at HRR
            have hemp : bs [] = (⟨#[]⟩ : ByteArray) := rfl
            rw [hD, hemp]
            clear hyes
            go_wp2_with fail
            go_ret2
            exact HRR.out
          · rw [if_neg hD, joinL_snoc _ _ (HPN.out 10), ← add_word, ← HT1.out] at HRR
            have hs0 : ¬ (bs (deltaL ps)).size = 0 := by rw [bs_size]; exact fun h => hD (List.eq_nil_of_length_eq_zero h)
            have hs1 := sz_word (bs (deltaL ps))
            have hs2 : ¬ (bs (deltaL ps)).toList = [] := fun h => hs0 ((toList_nil _).1 h)
            have hs3 : (bs (deltaL ps)).toList.isEmpty = false := by rw [toList_empty]; simpa using hs0
            have hs4 : ((bs (deltaL ps)).toList != []) = true := by simpa using hs2
            clear hyes
            go_wp2_with fail
            go_ret2
            exact HRR.out
end Go.Proofs.YtcbhfhmpajamoaaDoor
