/- Walk: the law ConsoleLines. -/
import Derived.Test.YtcbhfhmpajamoaaDoorR8
namespace Go.Proofs.YtcbhfhmpajamoaaDoor
open Go.RowKit

theorem callCells_cell {W : World} {b : Nat} {k : CallV} {o : OpV} {r : ResV} {A : Option Addr} {n c : Nat} (h : W.heap[b]? = some (callBox k o r A n c)) :
    W.cell? ⟨b, 8, none⟩ = some (.string o.text) ∧ W.cell? ⟨b, 19, none⟩ = some (.string r.text) ∧ W.cell? ⟨b, 26, none⟩ = some (.slice A n c) := by
  refine ⟨?_, ?_, ?_⟩ <;> (rw [cell_of_row _ _ _ _ _ _ h]; rfl)
theorem run_cellsFrom_row {P : Program} {W : World} {b : Nat} {cs : Array Value} {t : TypeId} (h : W.heap[b]? = some (.cells cs t)) (n : Nat) (hn : cs.size = n) :
    (loadCells ⟨b, 0, none⟩ n).run P W = .ok cs W := by
  subst hn
  have := run_loadCells_list (P := P) W ⟨b, 0, none⟩ cs.toList (fun j v hv => by
    have hadd : (⟨b, 0, none⟩ : Addr).add j = ⟨b, j, none⟩ := by unfold Addr.add; split <;> simp_all
    rw [hadd, cell_of_row _ _ j cs t (0, 0) h]
    simpa using hv)
  exact this
noncomputable def lineS (k : CallV) (o : OpV) (r : ResV) (ps : List PieceV) : ByteArray := if lineOk k o r ps then bs (lineL k o r ps) else ⟨#[]⟩
noncomputable def lineE (k : CallV) (o : OpV) (r : ResV) (ps : List PieceV) : Int := if lineOk k o r ps then 0 else 2
theorem lineRes_eq {k : CallV} {o : OpV} {r : ResV} {ps : List PieceV} {w w' : World} {e : Ending} (h : LineRes k o r ps w e w') : e = .returned (.tuple #[.string (lineS k o r ps), .int .i64 (lineE k o r ps)]) ∧ Below w.heap.size w w' := by
  obtain ⟨h1, h2⟩ := h
  refine ⟨?_, h2⟩
  unfold lineS lineE
  by_cases hl : lineOk k o r ps
  · rw [if_pos hl] at h1; rw [if_pos hl, if_pos hl]; exact h1
  · rw [if_neg hl] at h1; rw [if_neg hl, if_neg hl]; exact h1
attribute [-go_sem] loadCells
set_option maxHeartbeats 0 in
set_option maxRecDepth 100000 in
theorem consoleLines_any (k : CallV) (o : OpV) (r : ResV) (A : Option Addr) (c : Nat) (ps : List PieceV) (w : World) (hT : Tab w) (hto : OpTy o) (ht : ResTy r) (hP : PiecesAt w w.heap.size A ps) :
    Calls Tryd.prog 3 #[.agg (callCells k o r A ps.length c)] w (BoolBelow true w) := by
  have HB := Lib.hid (below_box w (callBox k o r A ps.length c))
  have HBX : Hid ((w.alloc (callBox k o r A ps.length c)).heap[w.heap.size]? = some (callBox k o r A ps.length c)) := heap_alloc_new _ _
  by_cases h1 : 300 < (o.text.size : Int)
  · obtain ⟨o0, o1, o2, o3, o4, o5, o6⟩ := o
    dsimp only at h1
    clear HBX
    generalize ps.length = n at *
    go_enter Tryd.func3, Tryd.ntmps3
    go_wp2_with fail
    go_ret
    exact ⟨rfl, HB.out⟩
  by_cases h2 : 300 < (r.text.size : Int)
  · obtain ⟨o0, o1, o2, o3, o4, o5, o6⟩ := o
    obtain ⟨x0, x1, x2, x3, x4, x5, x6, x7, x8, x9, x10, x11⟩ := r
    dsimp only at h1 h2
    clear HBX
    generalize ps.length = n at *
    go_enter Tryd.func3, Tryd.ntmps3
    go_wp2_with fail
    go_ret
    exact ⟨rfl, HB.out⟩
  by_cases h3 : 20 < (ps.length : Int)
  · obtain ⟨o0, o1, o2, o3, o4, o5, o6⟩ := o
    obtain ⟨x0, x1, x2, x3, x4, x5, x6, x7, x8, x9, x10, x11⟩ := r
    dsimp only at h1 h2
    clear HBX hP
    generalize ps.length = n at *
    go_enter Tryd.func3, Tryd.ntmps3
    go_wp2_with fail
    go_ret
    exact ⟨rfl, HB.out⟩
  have HP := Lib.hid (fun (W : World) (h : Below w.heap.size w W) => hP.below h h.size)
  have HL := Lib.hid (fun (h : ∀ p ∈ ps, p.text.size ≤ 1000) => (lineFn k o r A c ps (w.alloc (callBox k o r A ps.length c)) (hT.below HB.out) hto ht (by omega) (hP.below HB.out (by simp)) (by omega) h).mono fun e w' h => lineRes_eq h)
  have HLR := Lib.hid (fun (W : World) (hW : Below w.heap.size w W) (h : ∀ p ∈ ps, p.text.size ≤ 1000) => (lineFnR k o r A c ps W hto ht (by omega) (hP.below hW hW.size) (by omega) h).mono fun e w' h => lineRes_eq h)
  generalize lineS k o r ps = S at *
  generalize lineE k o r ps = E at *
  generalize hn : ps.length = n at *
  have HN := Lib.hid hn
  clear hn hT hto ht hP
  have hz : (n : Int) ≤ 20 := by omega
  obtain ⟨o0, o1, o2, o3, o4, o5, o6⟩ := o
  obtain ⟨x0, x1, x2, x3, x4, x5, x6, x7, x8, x9, x10, x11⟩ := r
  obtain ⟨k0, k1, k2, k3, k4, k5, k6⟩ := k
  dsimp only at h1 h2
  obtain ⟨m8, m19, m26⟩ := callCells_cell HBX.out
  dsimp only at m8 m19 m26
  go_enter Tryd.func3, Tryd.ntmps3
  go_upto_region 1 with fail
  generalize Value.agg (callCells _ _ _ _ _ _) = v0
  generalize hrb : w.heap.size = rb at HBX m8 m19 m26 ⊢
  generalize w.alloc (callBox _ _ _ _ _ _) = W0 at *
  go_wp2_with fail
  go_loopw [3] (fun jv wr => ∃ (j : Nat), j ≤ n ∧ jv = .int .i64 j ∧ Hid (∀ i, i < j → (ps.getD i noPiece).text.size ≤ 100) ∧ wr = W0) (fun jv _ => n - (intOf jv).toNat)
  case atStart => exact ⟨0, by omega, rfl, by intro i hi; omega, rfl⟩
  case round =>
    obtain ⟨j, hj, rfl, HOS, rfl⟩ := hrel
    by_cases hjn : j < n
    · have hji : (j : Int) < (n : Int) := by omega
      have hjl : j < ps.length := by rw [HN.out]; exact hjn
      obtain ⟨b, off, rfl, hb, hc⟩ := (HP.out _ HB.out) (by omega)
      have hpc := (hc j hjl).c2
      clear hc hjl
      have HOSj := Lib.hid (fun (h : (ps.getD j noPiece).text.size ≤ 100) i (hi : i < j + 1) => (by
        by_cases hij : i = j
        · subst hij; exact h
        · exact HOS.out i (by omega) : (ps.getD i noPiece).text.size ≤ 100))
      generalize ps.getD j noPiece = p at *
      by_cases hp : 100 < (p.text.size : Int)
      · go_wp2_with fail
        go_ret
        exact ⟨rfl, HB.out⟩
      · have HOS2 := Lib.hid (HOSj.out (by omega))
        clear HOSj
        go_wp2_with fail
        go_roundw
        case rel => exact ⟨j + 1, by omega, by go_num, HOS2.out, by first | rfl | trivial⟩
        case measure => simp [intOf]; omega
    · obtain rfl : j = n := by omega
      have hall : ∀ p ∈ ps, p.text.size ≤ 1000 := by
        intro p hp
        obtain ⟨i, hi, rfl⟩ := List.getElem_of_mem hp
        have := HOS.out i (by rw [← HN.out]; exact hi)
        rw [List.getD_eq_getElem?_getD, List.getElem?_eq_getElem hi] at this
        simp at this
        omega
      have HL1 := Lib.hid (HL.out hall)
      have HL2 := Lib.hid (fun V hV => HLR.out V hV hall)
      clear HL HLR hall
      have hld := run_cellsFrom_row (P := Tryd.prog) HBX.out 27 rfl
      go_wp2_with fail
      refine HL1.out.mono ?_
      rintro e w1 ⟨rfl, hb1⟩
      have HB1 := Lib.hid (below_then HB.out HB.out.size hb1)
      have HX1 := Lib.hid ((hb1.block rb (heap_lt HBX.out)).trans HBX.out)
      clear hb1 HL1 hld m8 m19 m26
      have hld := run_cellsFrom_row (P := Tryd.prog) HX1.out 27 rfl
      have HL3 := Lib.hid (HL2.out _ HB1.out)
      clear HL2
      go_wp2_with fail
      refine HL3.out.mono ?_
      rintro e w2 ⟨rfl, hb2⟩
      have HB2 := Lib.hid (below_then HB1.out HB1.out.size hb2)
      clear hb2 HL3 hld
      have e1 : (E == E) = true := by simp
      have e2 : (S.toList == S.toList) = true := by simp
      go_wp2_with fail
      go_ret
      exact ⟨rfl, HB2.out⟩
end Go.Proofs.YtcbhfhmpajamoaaDoor
