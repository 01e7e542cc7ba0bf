/- Walk: the line of a call, by the reference. -/
import Derived.Test.YtcbhfhmpajamoaaDoorR7
namespace Go.Proofs.YtcbhfhmpajamoaaDoor
open Go.RowKit

theorem idx7_0 (k0 k1 k2 k3 k4 k5 k6 : Int) (W : World) : (Instr.index 44 (.agg #[.int .i64 k0, .int .i64 k1, .int .i64 k2, .int .i64 k3, .int .i64 k4, .int .i64 k5, .int .i64 k6]) (.int .i64 0)).run Tryd.prog W = .ok (.int .i64 k0) W := by kernel_rfl
theorem idx7_1 (k0 k1 k2 k3 k4 k5 k6 : Int) (W : World) : (Instr.index 44 (.agg #[.int .i64 k0, .int .i64 k1, .int .i64 k2, .int .i64 k3, .int .i64 k4, .int .i64 k5, .int .i64 k6]) (.int .i64 1)).run Tryd.prog W = .ok (.int .i64 k1) W := by kernel_rfl
theorem idx7_2 (k0 k1 k2 k3 k4 k5 k6 : Int) (W : World) : (Instr.index 44 (.agg #[.int .i64 k0, .int .i64 k1, .int .i64 k2, .int .i64 k3, .int .i64 k4, .int .i64 k5, .int .i64 k6]) (.int .i64 2)).run Tryd.prog W = .ok (.int .i64 k2) W := by kernel_rfl
theorem idx7_3 (k0 k1 k2 k3 k4 k5 k6 : Int) (W : World) : (Instr.index 44 (.agg #[.int .i64 k0, .int .i64 k1, .int .i64 k2, .int .i64 k3, .int .i64 k4, .int .i64 k5, .int .i64 k6]) (.int .i64 3)).run Tryd.prog W = .ok (.int .i64 k3) W := by kernel_rfl
theorem idx7_4 (k0 k1 k2 k3 k4 k5 k6 : Int) (W : World) : (Instr.index 44 (.agg #[.int .i64 k0, .int .i64 k1, .int .i64 k2, .int .i64 k3, .int .i64 k4, .int .i64 k5, .int .i64 k6]) (.int .i64 4)).run Tryd.prog W = .ok (.int .i64 k4) W := by kernel_rfl
theorem idx7_5 (k0 k1 k2 k3 k4 k5 k6 : Int) (W : World) : (Instr.index 44 (.agg #[.int .i64 k0, .int .i64 k1, .int .i64 k2, .int .i64 k3, .int .i64 k4, .int .i64 k5, .int .i64 k6]) (.int .i64 5)).run Tryd.prog W = .ok (.int .i64 k5) W := by kernel_rfl
theorem idx7_6 (k0 k1 k2 k3 k4 k5 k6 : Int) (W : World) : (Instr.index 44 (.agg #[.int .i64 k0, .int .i64 k1, .int .i64 k2, .int .i64 k3, .int .i64 k4, .int .i64 k5, .int .i64 k6]) (.int .i64 6)).run Tryd.prog W = .ok (.int .i64 k6) W := by kernel_rfl
def wordsL (ns : List Int) : List Int := ns.flatMap fun x => numL x ++ [32]
theorem wordsL_snoc (ns : List Int) (x : Int) : wordsL (ns ++ [x]) = wordsL ns ++ (numL x ++ [32]) := by simp [wordsL]
theorem wordsL_eq : ∀ (ns : List Int), ns ≠ [] → wordsL ns = joinL (ns.map numL) ++ [32]
  | [], h => absurd rfl h
  | [x], _ => by simp [wordsL, joinL]
  | x :: y :: r, _ => by
    have ih := wordsL_eq (y :: r) (by simp)
    have e1 : wordsL (x :: y :: r) = numL x ++ [32] ++ wordsL (y :: r) := by simp [wordsL]
    have e2 : joinL ((x :: y :: r).map numL) = numL x ++ 32 :: joinL ((y :: r).map numL) := rfl
    rw [e1, ih, e2]; simp
theorem lineL_eq (k : CallV) (o : OpV) (r : ResV) (ps : List PieceV) : bs (lineL k o r ps) = bs (wordsL (numsC k)) ++ bs (opL o) ++ (⟨#[32, 58, 32]⟩ : ByteArray) ++ bs (resL r ps) := by
  rw [show (⟨#[32, 58, 32]⟩ : ByteArray) = bs [32, 58, 32] from rfl, bs_app, bs_app, bs_app, wordsL_eq (numsC k) (by unfold numsC; simp)]; rfl
set_option maxHeartbeats 0 in
set_option maxRecDepth 100000 in
theorem lineFnR (k : CallV) (o : OpV) (r : ResV) (A : Option Addr) (c : Nat) (ps : List PieceV) (w : World) (hto : OpTy o) (ht : ResTy r) (htx : r.text.size ≤ 1000) (hP : PiecesAt w w.heap.size A ps) (hl : ps.length ≤ 20) (hpt : ∀ p ∈ ps, p.text.size ≤ 1000) :
    Calls Tryd.prog 5 #[.agg (callCells k o r A ps.length c)] w (LineRes k o r ps w) := by
  have HB := Lib.hid (below_box w (callBox k o r A ps.length c))
  have HBX : Hid ((w.alloc (callBox k o r A ps.length c)).heap[w.heap.size]? = some (callBox k o r A ps.length c)) := heap_alloc_new _ _
  have HO := Lib.hid (refOp o (w.alloc (callBox k o r A ps.length c)) hto)
  have HRS := Lib.hid (fun (V : World) (h : Below w.heap.size w V) => refResult r A c ps V ht htx (hP.below h h.size) hl hpt)
  have HR1 : Hid (∀ W, ¬ lineOk k o r ps → Below w.heap.size w W → LineRes k o r ps w (.returned (.tuple #[.string ⟨#[]⟩, .int .i64 2])) W) := fun W h hb => lineRes_no h hb
  have HR2 : Hid (∀ W, lineOk k o r ps → Below w.heap.size w W → LineRes k o r ps w (.returned (.tuple #[.string (bs (lineL k o r ps)), .int .i64 0])) W) := fun W h hb => lineRes_yes h rfl hb
  have HLL := Lib.hid (lineL_eq k o r ps)
  have HOL : Hid (plainB o = true → (bs (opL o)).size ≤ 4004) := fun h => by rw [bs_size]; exact opL_le o (Classical.byContradiction fun hn => by rw [plainB_no hn] at h; cases h) hto
  have HRL : Hid (resOk r ps → (bs (resL r ps)).size ≤ 13 * 60001) := fun h => by rw [bs_size]; exact resL_le r ps h htx hl hpt
  have HOK : Hid (lineOk k o r ps ↔ plainB o = true ∧ resOk r ps ∧ ∀ x ∈ numsC k, okC x) := Iff.rfl
  unfold OpRes at HO
  unfold ResRes at HRS
  generalize opL o = OL at *
  generalize resL r ps = RL at *
  generalize lineOk k o r ps = LO at *
  generalize ps.length = n at *
  by_cases hp : plainB o = true
  case neg =>
    have hno : ¬ LO := fun h => hp (HOK.out.1 h).1
    simp only [if_neg hp] at HO
    clear hto ht htx hP hl hpt
    obtain ⟨o0, o1, o2, o3, o4, o5, o6⟩ := o
    go_enter Tryd.func5, Tryd.ntmps5
    go_wp2_with fail
    refine HO.out.mono ?_
    rintro e w1 ⟨rfl, hb1⟩
    have HB1 := Lib.hid (below_then HB.out HB.out.size hb1)
    clear hb1
    go_wp2_with fail
    go_ret2
    exact HR1.out _ hno HB1.out
  simp only [if_pos hp] at HO
  have hos := HOL.out hp
  have HP := Lib.hid hp
  clear hto ht htx hP hl hpt hp HOL
  obtain ⟨o0, o1, o2, o3, o4, o5, o6⟩ := o
  obtain ⟨x0, x1, x2, x3, x4, x5, x6, x7, x8, x9, x10, x11⟩ := r
  obtain ⟨k0, k1, k2, k3, k4, k5, k6⟩ := k
  go_enter Tryd.func5, Tryd.ntmps5
  go_upto_region 1 with fail
  generalize Value.agg (callCells _ _ _ _ _ _) = v0
  generalize hrb : w.heap.size = rb at HBX ⊢
  generalize w.alloc (callBox _ _ _ _ _ _) = W0 at *
  obtain ⟨d0, d1, d2, d3, d4, d5, d6⟩ := callCells_op HBX.out
  dsimp only at d0 d1 d2 d3 d4 d5 d6
  go_wp2_with fail
  refine HO.out.mono ?_
  rintro e w1 ⟨rfl, hb1⟩
  have HB1 := Lib.hid (below_then HB.out HB.out.size hb1)
  have HX1 := Lib.hid ((hb1.block rb (heap_lt HBX.out)).trans HBX.out)
  clear hb1 HB HBX HO d0 d1 d2 d3 d4 d5 d6
  obtain ⟨c0, c1, c2, c3, c4, c5, c6, c7, c8, c9, c10, c11, c12⟩ := callCells_res HX1.out
  dsimp only at c0 c1 c2 c3 c4 c5 c6 c7 c8 c9 c10 c11 c12
  have HRS1 := Lib.hid (HRS.out _ HB1.out)
  have h00 : ((0 : Int) != 0) = false := by decide
  go_wp2_with fail
  refine HRS1.out.mono ?_
  rintro e w2 ⟨hres, hb2⟩
  have HB2 := Lib.hid (below_then HB1.out HB1.out.size hb2)
  have HX2 := Lib.hid ((hb2.block rb (heap_lt HX1.out)).trans HX1.out)
  clear hb2 HB1 HX1 HRS HRS1 c0 c1 c2 c3 c4 c5 c6 c7 c8 c9 c10 c11 c12
  by_cases hr : resOk ⟨x0, x1, x2, x3, x4, x5, x6, x7, x8, x9, x10, x11⟩ ps
  case neg =>
    rw [if_neg hr] at hres
    subst hres
    have hno := fun h => hr (HOK.out.1 h).2.1
    go_wp2_with fail
    go_ret2
    exact HR1.out _ hno HB2.out
  rw [if_pos hr] at hres
  subst hres
  have hrs := HRL.out hr
  have HRK := Lib.hid hr
  clear hr HRL
  obtain ⟨e0, e1, e2, e3, e4, e5, e6⟩ := callCells_num HX2.out
  dsimp only at e0 e1 e2 e3 e4 e5 e6
  have HLO := Lib.hid (HOK.out.2 : _ → LO)
  have HLN := Lib.hid (fun (h : LO) => (HOK.out.1 h).2.2)
  have HNS : Hid (numsC ⟨k0, k1, k2, k3, k4, k5, k6⟩ = [k0, k1, k2, k3, k4, k5, k6]) := rfl
  generalize numsC ⟨k0, k1, k2, k3, k4, k5, k6⟩ = NS at *
  have HN7 : Hid (NS.length = 7) := by show _ = _; rw [HNS.out]; rfl
  have HW0 : Hid ((⟨#[]⟩ : ByteArray) = bs (wordsL (NS.take 0))) := rfl
  go_wp2_with fail
  clear e0 e1 e2 e3 e4 e5 e6 HX2
  go_loopw [7, 45] (fun sv jv wr => ∃ (j : Nat) (t : ByteArray), j ≤ 7 ∧ jv = .int .i64 j ∧ sv = .string t ∧ t.size ≤ j * 11 ∧ Hid (t = bs (wordsL (NS.take j))) ∧ Hid (∀ y ∈ NS.take j, okC y) ∧ Hid (Below w.heap.size w wr)) (fun _ jv _ => 7 - (intOf jv).toNat)
  case atStart => exact ⟨0, _, by omega, rfl, rfl, by decide, HW0.out, by intro y hy; simp at hy, HB2.out⟩
  case round =>
    obtain ⟨j, t, hj, rfl, rfl, hts, HT, HOS, HW⟩ := hrel
    clear HW0 HB2
    by_cases hj7 : j < 7
    · have hTS : ∀ j, j < 7 → NS.take (j + 1) = NS.take j ++ [NS.getD j 0] := fun j hj => take_snoc (getD_at 0 NS j (by rw [HN7.out]; exact hj))
      have hMM : ∀ j, j < 7 → NS.getD j 0 ∈ NS := fun j hj => getD_mem 0 NS j (by rw [HN7.out]; exact hj)
      have HTS := Lib.hid hTS
      have HMM := Lib.hid hMM
      clear hTS hMM
      have h7 : j = 0 ∨ j = 1 ∨ j = 2 ∨ j = 3 ∨ j = 4 ∨ j = 5 ∨ j = 6 := by omega
      rcases h7 with rfl | rfl | rfl | rfl | rfl | rfl | rfl
      · have hix := idx7_0 k0 k1 k2 k3 k4 k5 k6
        have HTK := Lib.hid (HTS.out 0 (by omega))
        have HMJ := Lib.hid (HMM.out 0 (by omega))
        rw [show NS.getD 0 0 = k0 from by rw [HNS.out]; rfl] at HTK HMJ
        have HSG := Lib.hid (signedFn k0 wr)
        unfold SgnRes at HSG
        go_wp2_with fail
        refine HSG.out.mono ?_
        rintro e w4 ⟨hnum, hb4⟩
        have HB4 := Lib.hid (below_then HW.out HW.out.size hb4)
        clear hb4 HSG HW
        by_cases hx : -1 ≤ k0 ∧ k0 ≤ 9999999999
        · rw [if_pos hx] at hnum
          subst hnum
          have hz : (bs (numL k0)).size ≤ 10 := by rw [bs_size]; exact numL_le k0 hx.2
          have hz2 : (bs (numL k0) ++ (⟨#[32]⟩ : ByteArray)).size ≤ 11 := by rw [ByteArray.size_append, show (⟨#[32]⟩ : ByteArray).size = 1 from rfl]; omega
          have HT2 : Hid (t ++ (bs (numL k0) ++ (⟨#[32]⟩ : ByteArray)) = bs (wordsL (NS.take 1))) := by
            show _ = _
            rw [HTK.out, wordsL_snoc, HT.out, ← bs_app, ← bs_app]; rfl
          have HZ3 : Hid ((t ++ (bs (numL k0) ++ (⟨#[32]⟩ : ByteArray))).size ≤ 1 * 11) := by show _ ≤ _; rw [ByteArray.size_append]; omega
          have HOS2 : Hid (∀ y ∈ NS.take 1, okC y) := by
            intro y hy
            rw [HTK.out] at hy
            rcases List.mem_append.1 hy with hy | hy
            · exact HOS.out y hy
            · simp at hy; subst hy; exact hx
          go_wp2_with fail
          go_roundw
          case rel => exact ⟨1, _, by omega, by go_num, rfl, HZ3.out, HT2.out, HOS2.out, HB4.out⟩
          case measure => simp [intOf]
        · rw [if_neg hx] at hnum
          subst hnum
          have hno : ¬ LO := fun h => hx (HLN.out h k0 HMJ.out)
          go_wp2_with fail
          go_ret2
          exact HR1.out _ hno HB4.out
      · have hix := idx7_1 k0 k1 k2 k3 k4 k5 k6
        have HTK := Lib.hid (HTS.out 1 (by omega))
        have HMJ := Lib.hid (HMM.out 1 (by omega))
        rw [show NS.getD 1 0 = k1 from by rw [HNS.out]; rfl] at HTK HMJ
        have HSG := Lib.hid (signedFn k1 wr)
        unfold SgnRes at HSG
        go_wp2_with fail
        refine HSG.out.mono ?_
        rintro e w4 ⟨hnum, hb4⟩
        have HB4 := Lib.hid (below_then HW.out HW.out.size hb4)
        clear hb4 HSG HW
        by_cases hx : -1 ≤ k1 ∧ k1 ≤ 9999999999
        · rw [if_pos hx] at hnum
          subst hnum
          have hz : (bs (numL k1)).size ≤ 10 := by rw [bs_size]; exact numL_le k1 hx.2
          have hz2 : (bs (numL k1) ++ (⟨#[32]⟩ : ByteArray)).size ≤ 11 := by rw [ByteArray.size_append, show (⟨#[32]⟩ : ByteArray).size = 1 from rfl]; omega
          have HT2 : Hid (t ++ (bs (numL k1) ++ (⟨#[32]⟩ : ByteArray)) = bs (wordsL (NS.take 2))) := by
            show _ = _
            rw [HTK.out, wordsL_snoc, HT.out, ← bs_app, ← bs_app]; rfl
          have HZ3 : Hid ((t ++ (bs (numL k1) ++ (⟨#[32]⟩ : ByteArray))).size ≤ 2 * 11) := by show _ ≤ _; rw [ByteArray.size_append]; omega
          have HOS2 : Hid (∀ y ∈ NS.take 2, okC y) := by
            intro y hy
            rw [HTK.out] at hy
            rcases List.mem_append.1 hy with hy | hy
            · exact HOS.out y hy
            · simp at hy; subst hy; exact hx
          go_wp2_with fail
          go_roundw
          case rel => exact ⟨2, _, by omega, by go_num, rfl, HZ3.out, HT2.out, HOS2.out, HB4.out⟩
          case measure => simp [intOf]
        · rw [if_neg hx] at hnum
          subst hnum
          have hno : ¬ LO := fun h => hx (HLN.out h k1 HMJ.out)
          go_wp2_with fail
          go_ret2
          exact HR1.out _ hno HB4.out
      · have hix := idx7_2 k0 k1 k2 k3 k4 k5 k6
        have HTK := Lib.hid (HTS.out 2 (by omega))
        have HMJ := Lib.hid (HMM.out 2 (by omega))
        rw [show NS.getD 2 0 = k2 from by rw [HNS.out]; rfl] at HTK HMJ
        have HSG := Lib.hid (signedFn k2 wr)
        unfold SgnRes at HSG
        go_wp2_with fail
        refine HSG.out.mono ?_
        rintro e w4 ⟨hnum, hb4⟩
        have HB4 := Lib.hid (below_then HW.out HW.out.size hb4)
        clear hb4 HSG HW
        by_cases hx : -1 ≤ k2 ∧ k2 ≤ 9999999999
        · rw [if_pos hx] at hnum
          subst hnum
          have hz : (bs (numL k2)).size ≤ 10 := by rw [bs_size]; exact numL_le k2 hx.2
          have hz2 : (bs (numL k2) ++ (⟨#[32]⟩ : ByteArray)).size ≤ 11 := by rw [ByteArray.size_append, show (⟨#[32]⟩ : ByteArray).size = 1 from rfl]; omega
          have HT2 : Hid (t ++ (bs (numL k2) ++ (⟨#[32]⟩ : ByteArray)) = bs (wordsL (NS.take 3))) := by
            show _ = _
            rw [HTK.out, wordsL_snoc, HT.out, ← bs_app, ← bs_app]; rfl
          have HZ3 : Hid ((t ++ (bs (numL k2) ++ (⟨#[32]⟩ : ByteArray))).size ≤ 3 * 11) := by show _ ≤ _; rw [ByteArray.size_append]; omega
          have HOS2 : Hid (∀ y ∈ NS.take 3, okC y) := by
            intro y hy
            rw [HTK.out] at hy
            rcases List.mem_append.1 hy with hy | hy
            · exact HOS.out y hy
            · simp at hy; subst hy; exact hx
          go_wp2_with fail
          go_roundw
          case rel => exact ⟨3, _, by omega, by go_num, rfl, HZ3.out, HT2.out, HOS2.out, HB4.out⟩
          case measure => simp [intOf]
        · rw [if_neg hx] at hnum
          subst hnum
          have hno : ¬ LO := fun h => hx (HLN.out h k2 HMJ.out)
          go_wp2_with fail
          go_ret2
          exact HR1.out _ hno HB4.out
      · have hix := idx7_3 k0 k1 k2 k3 k4 k5 k6
        have HTK := Lib.hid (HTS.out 3 (by omega))
        have HMJ := Lib.hid (HMM.out 3 (by omega))
        rw [show NS.getD 3 0 = k3 from by rw [HNS.out]; rfl] at HTK HMJ
        have HSG := Lib.hid (signedFn k3 wr)
        unfold SgnRes at HSG
        go_wp2_with fail
        refine HSG.out.mono ?_
        rintro e w4 ⟨hnum, hb4⟩
        have HB4 := Lib.hid (below_then HW.out HW.out.size hb4)
        clear hb4 HSG HW
        by_cases hx : -1 ≤ k3 ∧ k3 ≤ 9999999999
        · rw [if_pos hx] at hnum
          subst hnum
          have hz : (bs (numL k3)).size ≤ 10 := by rw [bs_size]; exact numL_le k3 hx.2
          have hz2 : (bs (numL k3) ++ (⟨#[32]⟩ : ByteArray)).size ≤ 11 := by rw [ByteArray.size_append, show (⟨#[32]⟩ : ByteArray).size = 1 from rfl]; omega
          have HT2 : Hid (t ++ (bs (numL k3) ++ (⟨#[32]⟩ : ByteArray)) = bs (wordsL (NS.take 4))) := by
            show _ = _
            rw [HTK.out, wordsL_snoc, HT.out, ← bs_app, ← bs_app]; rfl
          have HZ3 : Hid ((t ++ (bs (numL k3) ++ (⟨#[32]⟩ : ByteArray))).size ≤ 4 * 11) := by show _ ≤ _; rw [ByteArray.size_append]; omega
          have HOS2 : Hid (∀ y ∈ NS.take 4, okC y) := by
            intro y hy
            rw [HTK.out] at hy
            rcases List.mem_append.1 hy with hy | hy
            · exact HOS.out y hy
            · simp at hy; subst hy; exact hx
          go_wp2_with fail
          go_roundw
          case rel => exact ⟨4, _, by omega, by go_num, rfl, HZ3.out, HT2.out, HOS2.out, HB4.out⟩
          case measure => simp [intOf]
        · rw [if_neg hx] at hnum
          subst hnum
          have hno : ¬ LO := fun h => hx (HLN.out h k3 HMJ.out)
          go_wp2_with fail
          go_ret2
          exact HR1.out _ hno HB4.out
      · have hix := idx7_4 k0 k1 k2 k3 k4 k5 k6
        have HTK := Lib.hid (HTS.out 4 (by omega))
        have HMJ := Lib.hid (HMM.out 4 (by omega))
        rw [show NS.getD 4 0 = k4 from by rw [HNS.out]; rfl] at HTK HMJ
        have HSG := Lib.hid (signedFn k4 wr)
        unfold SgnRes at HSG
        go_wp2_with fail
        refine HSG.out.mono ?_
        rintro e w4 ⟨hnum, hb4⟩
        have HB4 := Lib.hid (below_then HW.out HW.out.size hb4)
        clear hb4 HSG HW
        by_cases hx : -1 ≤ k4 ∧ k4 ≤ 9999999999
        · rw [if_pos hx] at hnum
          subst hnum
          have hz : (bs (numL k4)).size ≤ 10 := by rw [bs_size]; exact numL_le k4 hx.2
          have hz2 : (bs (numL k4) ++ (⟨#[32]⟩ : ByteArray)).size ≤ 11 := by rw [ByteArray.size_append, show (⟨#[32]⟩ : ByteArray).size = 1 from rfl]; omega
          have HT2 : Hid (t ++ (bs (numL k4) ++ (⟨#[32]⟩ : ByteArray)) = bs (wordsL (NS.take 5))) := by
            show _ = _
            rw [HTK.out, wordsL_snoc, HT.out, ← bs_app, ← bs_app]; rfl
          have HZ3 : Hid ((t ++ (bs (numL k4) ++ (⟨#[32]⟩ : ByteArray))).size ≤ 5 * 11) := by show _ ≤ _; rw [ByteArray.size_append]; omega
          have HOS2 : Hid (∀ y ∈ NS.take 5, okC y) := by
            intro y hy
            rw [HTK.out] at hy
            rcases List.mem_append.1 hy with hy | hy
            · exact HOS.out y hy
            · simp at hy; subst hy; exact hx
          go_wp2_with fail
          go_roundw
          case rel => exact ⟨5, _, by omega, by go_num, rfl, HZ3.out, HT2.out, HOS2.out, HB4.out⟩
          case measure => simp [intOf]
        · rw [if_neg hx] at hnum
          subst hnum
          have hno : ¬ LO := fun h => hx (HLN.out h k4 HMJ.out)
          go_wp2_with fail
          go_ret2
          exact HR1.out _ hno HB4.out
      · have hix := idx7_5 k0 k1 k2 k3 k4 k5 k6
        have HTK := Lib.hid (HTS.out 5 (by omega))
        have HMJ := Lib.hid (HMM.out 5 (by omega))
        rw [show NS.getD 5 0 = k5 from by rw [HNS.out]; rfl] at HTK HMJ
        have HSG := Lib.hid (signedFn k5 wr)
        unfold SgnRes at HSG
        go_wp2_with fail
        refine HSG.out.mono ?_
        rintro e w4 ⟨hnum, hb4⟩
        have HB4 := Lib.hid (below_then HW.out HW.out.size hb4)
        clear hb4 HSG HW
        by_cases hx : -1 ≤ k5 ∧ k5 ≤ 9999999999
        · rw [if_pos hx] at hnum
          subst hnum
          have hz : (bs (numL k5)).size ≤ 10 := by rw [bs_size]; exact numL_le k5 hx.2
          have hz2 : (bs (numL k5) ++ (⟨#[32]⟩ : ByteArray)).size ≤ 11 := by rw [ByteArray.size_append, show (⟨#[32]⟩ : ByteArray).size = 1 from rfl]; omega
          have HT2 : Hid (t ++ (bs (numL k5) ++ (⟨#[32]⟩ : ByteArray)) = bs (wordsL (NS.take 6))) := by
            show _ = _
            rw [HTK.out, wordsL_snoc, HT.out, ← bs_app, ← bs_app]; rfl
          have HZ3 : Hid ((t ++ (bs (numL k5) ++ (⟨#[32]⟩ : ByteArray))).size ≤ 6 * 11) := by show _ ≤ _; rw [ByteArray.size_append]; omega
          have HOS2 : Hid (∀ y ∈ NS.take 6, okC y) := by
            intro y hy
            rw [HTK.out] at hy
            rcases List.mem_append.1 hy with hy | hy
            · exact HOS.out y hy
            · simp at hy; subst hy; exact hx
          go_wp2_with fail
          go_roundw
          case rel => exact ⟨6, _, by omega, by go_num, rfl, HZ3.out, HT2.out, HOS2.out, HB4.out⟩
          case measure => simp [intOf]
        · rw [if_neg hx] at hnum
          subst hnum
          have hno : ¬ LO := fun h => hx (HLN.out h k5 HMJ.out)
          go_wp2_with fail
          go_ret2
          exact HR1.out _ hno HB4.out
      · have hix := idx7_6 k0 k1 k2 k3 k4 k5 k6
        have HTK := Lib.hid (HTS.out 6 (by omega))
        have HMJ := Lib.hid (HMM.out 6 (by omega))
        rw [show NS.getD 6 0 = k6 from by rw [HNS.out]; rfl] at HTK HMJ
        have HSG := Lib.hid (signedFn k6 wr)
        unfold SgnRes at HSG
        go_wp2_with fail
        refine HSG.out.mono ?_
        rintro e w4 ⟨hnum, hb4⟩
        have HB4 := Lib.hid (below_then HW.out HW.out.size hb4)
        clear hb4 HSG HW
        by_cases hx : -1 ≤ k6 ∧ k6 ≤ 9999999999
        · rw [if_pos hx] at hnum
          subst hnum
          have hz : (bs (numL k6)).size ≤ 10 := by rw [bs_size]; exact numL_le k6 hx.2
          have hz2 : (bs (numL k6) ++ (⟨#[32]⟩ : ByteArray)).size ≤ 11 := by rw [ByteArray.size_append, show (⟨#[32]⟩ : ByteArray).size = 1 from rfl]; omega
          have HT2 : Hid (t ++ (bs (numL k6) ++ (⟨#[32]⟩ : ByteArray)) = bs (wordsL (NS.take 7))) := by
            show _ = _
            rw [HTK.out, wordsL_snoc, HT.out, ← bs_app, ← bs_app]; rfl
          have HZ3 : Hid ((t ++ (bs (numL k6) ++ (⟨#[32]⟩ : ByteArray))).size ≤ 7 * 11) := by show _ ≤ _; rw [ByteArray.size_append]; omega
          have HOS2 : Hid (∀ y ∈ NS.take 7, okC y) := by
            intro y hy
            rw [HTK.out] at hy
            rcases List.mem_append.1 hy with hy | hy
            · exact HOS.out y hy
            · simp at hy; subst hy; exact hx
          go_wp2_with fail
          go_roundw
          case rel => exact ⟨7, _, by omega, by go_num, rfl, HZ3.out, HT2.out, HOS2.out, HB4.out⟩
          case measure => simp [intOf]
        · rw [if_neg hx] at hnum
          subst hnum
          have hno : ¬ LO := fun h => hx (HLN.out h k6 HMJ.out)
          go_wp2_with fail
          go_ret2
          exact HR1.out _ hno HB4.out
    · obtain rfl : j = 7 := by omega
      rw [List.take_of_length_le (by rw [HN7.out]; omega)] at HOS HT
      have HYES := Lib.hid (HLO.out ⟨HP.out, HRK.out, HOS.out⟩)
      rw [← HT.out] at HLL
      clear HOS HLO HLN HT
      have hz3 : (t ++ bs OL).size ≤ 5000 := by rw [ByteArray.size_append]; omega
      have hz4 : (t ++ bs OL ++ (⟨#[32, 58, 32]⟩ : ByteArray)).size ≤ 5010 := by rw [ByteArray.size_append, show (⟨#[32, 58, 32]⟩ : ByteArray).size = 3 from rfl]; omega
      go_wp2_with fail
      go_ret2
      rw [← HLL.out]
      exact HR2.out _ HYES.out HW.out
end Go.Proofs.YtcbhfhmpajamoaaDoor
