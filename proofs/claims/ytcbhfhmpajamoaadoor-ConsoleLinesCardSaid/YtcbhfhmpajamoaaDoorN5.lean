/- Ported: the fields by the reference; Plain. -/
import Derived.Test.YtcbhfhmpajamoaaDoorN4
namespace Go.Proofs.YtcbhfhmpajamoaaDoor
open Go.RowKit

/-! ### The fields that a kind of operation uses, by the reference -/
def useB (k : Int) (i : Int) : Bool := (fieldsOf k).contains i
def usesVal (k : Int) : Value := .agg #[.bool (useB k 0), .bool (useB k 1), .bool (useB k 2), .bool (useB k 3), .bool (useB k 4), .bool (useB k 5)]
def UsesRes (k : Int) (w : World) (e : Ending) (w' : World) : Prop := e = .returned (usesVal k) ∧ w.grownBy w' none
set_option maxHeartbeats 4000000 in
theorem usesFn (k : Int) (w : World) (h0 : 0 ≤ k) (h1 : k ≤ 255) : Calls Tryd.prog 23 #[.int .u8 k] w (UsesRes k w) := by
  by_cases hk : k = 1 ∨ k = 2 ∨ k = 3 ∨ k = 4 ∨ k = 6 ∨ k = 7 ∨ k = 8 ∨ k = 9 ∨ k = 10 ∨ k = 11 ∨ k = 12 ∨ k = 13
  · rcases hk with rfl | rfl | rfl | rfl | rfl | rfl | rfl | rfl | rfl | rfl | rfl | rfl
    all_goals
      go_enter Tryd.func23, Tryd.ntmps23
      go_wp2
      exact bodyPost_ret (v := usesVal _) (by simp [results, Tryd.results23, go_sem]; rfl) rfl ⟨rfl, grown_alloc (World.grownBy.refl _ _) _⟩
  · have e : usesVal k = .agg #[.bool false, .bool false, .bool false, .bool false, .bool false, .bool false] := by
      have : fieldsOf k = [] := by
        unfold fieldsOf
        simp [show ¬ k = 1 by omega, show ¬ k = 2 by omega, show ¬ k = 3 by omega, show ¬ k = 4 by omega, show ¬ k = 6 by omega, show ¬ k = 7 by omega, show ¬ k = 8 by omega, show ¬ k = 9 by omega, show ¬ k = 10 by omega, show ¬ k = 11 by omega, show ¬ k = 12 by omega, show ¬ k = 13 by omega]
      unfold usesVal useB
      rw [this]; rfl
    have n1 : ¬ k = 1 := by omega
    have n2 : ¬ k = 2 := by omega
    have n3 : ¬ k = 3 := by omega
    have n4 : ¬ k = 4 := by omega
    have n6 : ¬ k = 6 := by omega
    have n7 : ¬ k = 7 := by omega
    have n8 : ¬ k = 8 := by omega
    have n9 : ¬ k = 9 := by omega
    have n10 : ¬ k = 10 := by omega
    have n11 : ¬ k = 11 := by omega
    have n12 : ¬ k = 12 := by omega
    have n13 : ¬ k = 13 := by omega
    clear hk
    have E := Lib.hid e
    clear e
    go_enter Tryd.func23, Tryd.ntmps23
    go_wp2
    exact bodyPost_ret (v := .agg #[.bool false, .bool false, .bool false, .bool false, .bool false, .bool false]) (by simp [results, Tryd.results23, go_sem]) rfl ⟨by rw [E.out], grown_alloc (World.grownBy.refl _ _) _⟩

/-- The world in Plain behind its first statement: the operation's box, the fields that its kind uses. -/
structure UsSt (w W : World) (ub : Nat) (us : Array Value) (o : OpV) : Prop where
  us : W.heap[ub]? = some (.cells us 59)
  op : OpAt W w.heap.size 0 o
  bel : Below w.heap.size w W
theorem usst_start {w w1 : World} (x0 x1 x2 x3 x4 x5 : Int) (x6 : ByteArray) (us : Array Value)
    (hg : (w.alloc (.cells #[.int .u8 x0, .int .i64 x1, .int .i64 x2, .int .i64 x3, .int .u32 x4, .int .u8 x5, .string x6] 24)).grownBy w1 none) :
    UsSt w (w1.alloc (.cells us 59)) w1.heap.size us ⟨x0, x1, x2, x3, x4, x5, x6⟩ := by
  have hs := hg.size
  simp only [World.size_alloc] at hs
  refine ⟨heap_alloc_new _ _, ?_, ?_⟩
  · refine (opAt_new w x0 x1 x2 x3 x4 x5 x6).keep ?_
    rw [Below.heap_alloc _ _ _ (by omega)]
    exact hg.block _ (by simp) (by simp)
  · exact ⟨hg.os, hg.tape, hg.output, by simp; omega, fun k hk => by
      rw [Below.heap_alloc _ _ _ (by omega), hg.block k (by simp; omega) (by simp), Below.heap_alloc _ _ _ hk]⟩
theorem UsSt.cells {w W : World} {ub : Nat} {us : Array Value} {x0 x1 x2 x3 x4 x5 : Int} {x6 : ByteArray} (h : UsSt w W ub us ⟨x0, x1, x2, x3, x4, x5, x6⟩) :
    W.cell? ⟨w.heap.size, 0, none⟩ = some (.int .u8 x0) ∧ W.cell? ⟨w.heap.size, 1, none⟩ = some (.int .i64 x1) ∧ W.cell? ⟨w.heap.size, 2, none⟩ = some (.int .i64 x2) ∧ W.cell? ⟨w.heap.size, 3, none⟩ = some (.int .i64 x3) ∧
      W.cell? ⟨w.heap.size, 4, none⟩ = some (.int .u32 x4) ∧ W.cell? ⟨w.heap.size, 5, none⟩ = some (.int .u8 x5) ∧ W.cell? ⟨w.heap.size, 6, none⟩ = some (.string x6) := by
  obtain ⟨m0, m1, m2, m3, m4, m5, m6⟩ := h.op
  simp only [Nat.zero_add] at m1 m2 m3 m4 m5 m6
  exact ⟨m0, m1, m2, m3, m4, m5, m6⟩
theorem UsSt.u {w W : World} {ub : Nat} {us : Array Value} {o : OpV} (h : UsSt w W ub us o) (i : Nat) : W.cell? ⟨ub, i, none⟩ = us[i]? := by
  unfold World.cell?; rw [h.us]; rfl
theorem plainR {o : OpV} {P : Prop} {R b : Bool} (hR : plainB o = R) (h : PlainOp o ↔ P) (hb : b = true ↔ P) : Ending.returned (.bool b) = .returned (.bool R) := by
  have : b = R := by
    subst hR
    unfold plainB
    by_cases hp : PlainOp o
    · simp [hp, hb.2 (h.1 hp)]
    · have : ¬ b = true := fun hn => hp (h.2 (hb.1 hn))
      simp [hp, this]
  rw [this]
set_option maxHeartbeats 0 in
set_option maxRecDepth 100000 in
theorem pat1 (x0 x1 x2 x3 x4 x5 : Int) (x6 : ByteArray) (w : World) (hk1 : 1 ≤ x0) (hk2 : x0 ≤ 16) (hu : usesVal x0 = .agg #[.bool false, .bool true, .bool false, .bool false, .bool false, .bool true]) (hp : PlainOp ⟨x0, x1, x2, x3, x4, x5, x6⟩ ↔ x1 = 0 ∧ (0 ≤ x2 ∧ x2 ≤ 65535) ∧ x3 = 0 ∧ x4 = 0 ∧ x5 = 0 ∧ x6.size ≤ 256) :
    Calls Tryd.prog 21 #[opVal ⟨x0, x1, x2, x3, x4, x5, x6⟩] w (BoolBelow (plainB ⟨x0, x1, x2, x3, x4, x5, x6⟩) w) := by
  have HU := Lib.hid (fun W : World => usesFn x0 W (by omega) (by omega))
  unfold UsesRes at HU
  rw [hu] at HU
  have HP := Lib.hid hp
  clear hp hu
  generalize hR : plainB ⟨x0, x1, x2, x3, x4, x5, x6⟩ = R at *
  have HR := Lib.hid hR
  clear hR
  go_enter Tryd.func21, Tryd.ntmps21
  go_wp2_with fail
  refine (HU.out _).mono ?_
  rintro e w1 ⟨rfl, hg⟩
  have HS := Lib.hid (usst_start x0 x1 x2 x3 x4 x5 x6 #[.bool false, .bool true, .bool false, .bool false, .bool false, .bool true] hg)
  go_upto_region 4 with fail
  clear hg HU
  generalize w1.alloc (Obj.cells #[.bool false, .bool true, .bool false, .bool false, .bool false, .bool true] 59) = W at *
  generalize w1.heap.size = ub at *
  obtain ⟨m0, m1, m2, m3, m4, m5, m6⟩ := HS.out.cells
  have u0 := HS.out.u 0
  have u1 := HS.out.u 1
  have u2 := HS.out.u 2
  have u3 := HS.out.u 3
  have u4 := HS.out.u 4
  have u5 := HS.out.u 5
  simp only [List.getElem?_toArray, List.getElem?_cons_zero, List.getElem?_cons_succ] at u0 u1 u2 u3 u4 u5
  go_wp2
  all_goals
    go_ret
    refine ⟨plainR HR.out HP.out ?_, HS.out.bel⟩
    first
      | (simp only [decide_eq_true_eq, Bool.false_eq_true, false_iff]; omega)
      | (simp only [toList_empty, decide_eq_true_eq, Bool.false_eq_true, false_iff, decide_eq_false_iff_not, Bool.not_eq_true, Bool.not_eq_eq_eq_not, Bool.not_true, Bool.not_false] at *; omega)
set_option maxHeartbeats 0 in
set_option maxRecDepth 100000 in
theorem pat2 (x0 x1 x2 x3 x4 x5 : Int) (x6 : ByteArray) (w : World) (hk1 : 1 ≤ x0) (hk2 : x0 ≤ 16) (hu : usesVal x0 = .agg #[.bool false, .bool true, .bool true, .bool false, .bool false, .bool false]) (hp : PlainOp ⟨x0, x1, x2, x3, x4, x5, x6⟩ ↔ x1 = 0 ∧ (0 ≤ x2 ∧ x2 ≤ 65535) ∧ (0 ≤ x3 ∧ x3 ≤ 65535) ∧ x4 = 0 ∧ x5 = 0 ∧ x6.size = 0) :
    Calls Tryd.prog 21 #[opVal ⟨x0, x1, x2, x3, x4, x5, x6⟩] w (BoolBelow (plainB ⟨x0, x1, x2, x3, x4, x5, x6⟩) w) := by
  have HU := Lib.hid (fun W : World => usesFn x0 W (by omega) (by omega))
  unfold UsesRes at HU
  rw [hu] at HU
  have HP := Lib.hid hp
  clear hp hu
  generalize hR : plainB ⟨x0, x1, x2, x3, x4, x5, x6⟩ = R at *
  have HR := Lib.hid hR
  clear hR
  go_enter Tryd.func21, Tryd.ntmps21
  go_wp2_with fail
  refine (HU.out _).mono ?_
  rintro e w1 ⟨rfl, hg⟩
  have HS := Lib.hid (usst_start x0 x1 x2 x3 x4 x5 x6 #[.bool false, .bool true, .bool true, .bool false, .bool false, .bool false] hg)
  go_upto_region 4 with fail
  clear hg HU
  generalize w1.alloc (Obj.cells #[.bool false, .bool true, .bool true, .bool false, .bool false, .bool false] 59) = W at *
  generalize w1.heap.size = ub at *
  obtain ⟨m0, m1, m2, m3, m4, m5, m6⟩ := HS.out.cells
  have u0 := HS.out.u 0
  have u1 := HS.out.u 1
  have u2 := HS.out.u 2
  have u3 := HS.out.u 3
  have u4 := HS.out.u 4
  have u5 := HS.out.u 5
  simp only [List.getElem?_toArray, List.getElem?_cons_zero, List.getElem?_cons_succ] at u0 u1 u2 u3 u4 u5
  go_wp2
  all_goals
    go_ret
    refine ⟨plainR HR.out HP.out ?_, HS.out.bel⟩
    first
      | (simp only [decide_eq_true_eq, Bool.false_eq_true, false_iff]; omega)
      | (simp only [toList_empty, decide_eq_true_eq, Bool.false_eq_true, false_iff, decide_eq_false_iff_not, Bool.not_eq_true, Bool.not_eq_eq_eq_not, Bool.not_true, Bool.not_false] at *; omega)
set_option maxHeartbeats 0 in
set_option maxRecDepth 100000 in
theorem pat3 (x0 x1 x2 x3 x4 x5 : Int) (x6 : ByteArray) (w : World) (hk1 : 1 ≤ x0) (hk2 : x0 ≤ 16) (hu : usesVal x0 = .agg #[.bool false, .bool true, .bool false, .bool true, .bool true, .bool false]) (hp : PlainOp ⟨x0, x1, x2, x3, x4, x5, x6⟩ ↔ x1 = 0 ∧ (0 ≤ x2 ∧ x2 ≤ 65535) ∧ x3 = 0 ∧ x6.size = 0) :
    Calls Tryd.prog 21 #[opVal ⟨x0, x1, x2, x3, x4, x5, x6⟩] w (BoolBelow (plainB ⟨x0, x1, x2, x3, x4, x5, x6⟩) w) := by
  have HU := Lib.hid (fun W : World => usesFn x0 W (by omega) (by omega))
  unfold UsesRes at HU
  rw [hu] at HU
  have HP := Lib.hid hp
  clear hp hu
  generalize hR : plainB ⟨x0, x1, x2, x3, x4, x5, x6⟩ = R at *
  have HR := Lib.hid hR
  clear hR
  go_enter Tryd.func21, Tryd.ntmps21
  go_wp2_with fail
  refine (HU.out _).mono ?_
  rintro e w1 ⟨rfl, hg⟩
  have HS := Lib.hid (usst_start x0 x1 x2 x3 x4 x5 x6 #[.bool false, .bool true, .bool false, .bool true, .bool true, .bool false] hg)
  go_upto_region 4 with fail
  clear hg HU
  generalize w1.alloc (Obj.cells #[.bool false, .bool true, .bool false, .bool true, .bool true, .bool false] 59) = W at *
  generalize w1.heap.size = ub at *
  obtain ⟨m0, m1, m2, m3, m4, m5, m6⟩ := HS.out.cells
  have u0 := HS.out.u 0
  have u1 := HS.out.u 1
  have u2 := HS.out.u 2
  have u3 := HS.out.u 3
  have u4 := HS.out.u 4
  have u5 := HS.out.u 5
  simp only [List.getElem?_toArray, List.getElem?_cons_zero, List.getElem?_cons_succ] at u0 u1 u2 u3 u4 u5
  go_wp2
  all_goals
    go_ret
    refine ⟨plainR HR.out HP.out ?_, HS.out.bel⟩
    first
      | (simp only [decide_eq_true_eq, Bool.false_eq_true, false_iff]; omega)
      | (simp only [toList_empty, decide_eq_true_eq, Bool.false_eq_true, false_iff, decide_eq_false_iff_not, Bool.not_eq_true, Bool.not_eq_eq_eq_not, Bool.not_true, Bool.not_false] at *; omega)
set_option maxHeartbeats 0 in
set_option maxRecDepth 100000 in
theorem pat4 (x0 x1 x2 x3 x4 x5 : Int) (x6 : ByteArray) (w : World) (hk1 : 1 ≤ x0) (hk2 : x0 ≤ 16) (hu : usesVal x0 = .agg #[.bool false, .bool false, .bool false, .bool true, .bool false, .bool false]) (hp : PlainOp ⟨x0, x1, x2, x3, x4, x5, x6⟩ ↔ x1 = 0 ∧ x2 = 0 ∧ x3 = 0 ∧ x5 = 0 ∧ x6.size = 0) :
    Calls Tryd.prog 21 #[opVal ⟨x0, x1, x2, x3, x4, x5, x6⟩] w (BoolBelow (plainB ⟨x0, x1, x2, x3, x4, x5, x6⟩) w) := by
  have HU := Lib.hid (fun W : World => usesFn x0 W (by omega) (by omega))
  unfold UsesRes at HU
  rw [hu] at HU
  have HP := Lib.hid hp
  clear hp hu
  generalize hR : plainB ⟨x0, x1, x2, x3, x4, x5, x6⟩ = R at *
  have HR := Lib.hid hR
  clear hR
  go_enter Tryd.func21, Tryd.ntmps21
  go_wp2_with fail
  refine (HU.out _).mono ?_
  rintro e w1 ⟨rfl, hg⟩
  have HS := Lib.hid (usst_start x0 x1 x2 x3 x4 x5 x6 #[.bool false, .bool false, .bool false, .bool true, .bool false, .bool false] hg)
  go_upto_region 4 with fail
  clear hg HU
  generalize w1.alloc (Obj.cells #[.bool false, .bool false, .bool false, .bool true, .bool false, .bool false] 59) = W at *
  generalize w1.heap.size = ub at *
  obtain ⟨m0, m1, m2, m3, m4, m5, m6⟩ := HS.out.cells
  have u0 := HS.out.u 0
  have u1 := HS.out.u 1
  have u2 := HS.out.u 2
  have u3 := HS.out.u 3
  have u4 := HS.out.u 4
  have u5 := HS.out.u 5
  simp only [List.getElem?_toArray, List.getElem?_cons_zero, List.getElem?_cons_succ] at u0 u1 u2 u3 u4 u5
  go_wp2
  all_goals
    go_ret
    refine ⟨plainR HR.out HP.out ?_, HS.out.bel⟩
    first
      | (simp only [decide_eq_true_eq, Bool.false_eq_true, false_iff]; omega)
      | (simp only [toList_empty, decide_eq_true_eq, Bool.false_eq_true, false_iff, decide_eq_false_iff_not, Bool.not_eq_true, Bool.not_eq_eq_eq_not, Bool.not_true, Bool.not_false] at *; omega)
set_option maxHeartbeats 0 in
set_option maxRecDepth 100000 in
theorem pat5 (x0 x1 x2 x3 x4 x5 : Int) (x6 : ByteArray) (w : World) (hk1 : 1 ≤ x0) (hk2 : x0 ≤ 16) (hu : usesVal x0 = .agg #[.bool false, .bool false, .bool false, .bool false, .bool false, .bool false]) (hp : PlainOp ⟨x0, x1, x2, x3, x4, x5, x6⟩ ↔ x1 = 0 ∧ x2 = 0 ∧ x3 = 0 ∧ x4 = 0 ∧ x5 = 0 ∧ x6.size = 0) :
    Calls Tryd.prog 21 #[opVal ⟨x0, x1, x2, x3, x4, x5, x6⟩] w (BoolBelow (plainB ⟨x0, x1, x2, x3, x4, x5, x6⟩) w) := by
  have HU := Lib.hid (fun W : World => usesFn x0 W (by omega) (by omega))
  unfold UsesRes at HU
  rw [hu] at HU
  have HP := Lib.hid hp
  clear hp hu
  generalize hR : plainB ⟨x0, x1, x2, x3, x4, x5, x6⟩ = R at *
  have HR := Lib.hid hR
  clear hR
  go_enter Tryd.func21, Tryd.ntmps21
  go_wp2_with fail
  refine (HU.out _).mono ?_
  rintro e w1 ⟨rfl, hg⟩
  have HS := Lib.hid (usst_start x0 x1 x2 x3 x4 x5 x6 #[.bool false, .bool false, .bool false, .bool false, .bool false, .bool false] hg)
  go_upto_region 4 with fail
  clear hg HU
  generalize w1.alloc (Obj.cells #[.bool false, .bool false, .bool false, .bool false, .bool false, .bool false] 59) = W at *
  generalize w1.heap.size = ub at *
  obtain ⟨m0, m1, m2, m3, m4, m5, m6⟩ := HS.out.cells
  have u0 := HS.out.u 0
  have u1 := HS.out.u 1
  have u2 := HS.out.u 2
  have u3 := HS.out.u 3
  have u4 := HS.out.u 4
  have u5 := HS.out.u 5
  simp only [List.getElem?_toArray, List.getElem?_cons_zero, List.getElem?_cons_succ] at u0 u1 u2 u3 u4 u5
  go_wp2
  all_goals
    go_ret
    refine ⟨plainR HR.out HP.out ?_, HS.out.bel⟩
    first
      | (simp only [decide_eq_true_eq, Bool.false_eq_true, false_iff]; omega)
      | (simp only [toList_empty, decide_eq_true_eq, Bool.false_eq_true, false_iff, decide_eq_false_iff_not, Bool.not_eq_true, Bool.not_eq_eq_eq_not, Bool.not_true, Bool.not_false] at *; omega)
set_option maxHeartbeats 0 in
set_option maxRecDepth 100000 in
theorem pat6 (x0 x1 x2 x3 x4 x5 : Int) (x6 : ByteArray) (w : World) (hk1 : 1 ≤ x0) (hk2 : x0 ≤ 16) (hu : usesVal x0 = .agg #[.bool true, .bool false, .bool false, .bool false, .bool false, .bool false]) (hp : PlainOp ⟨x0, x1, x2, x3, x4, x5, x6⟩ ↔ (0 ≤ x1 ∧ x1 ≤ 255) ∧ x2 = 0 ∧ x3 = 0 ∧ x4 = 0 ∧ x5 = 0 ∧ x6.size = 0) :
    Calls Tryd.prog 21 #[opVal ⟨x0, x1, x2, x3, x4, x5, x6⟩] w (BoolBelow (plainB ⟨x0, x1, x2, x3, x4, x5, x6⟩) w) := by
  have HU := Lib.hid (fun W : World => usesFn x0 W (by omega) (by omega))
  unfold UsesRes at HU
  rw [hu] at HU
  have HP := Lib.hid hp
  clear hp hu
  generalize hR : plainB ⟨x0, x1, x2, x3, x4, x5, x6⟩ = R at *
  have HR := Lib.hid hR
  clear hR
  go_enter Tryd.func21, Tryd.ntmps21
  go_wp2_with fail
  refine (HU.out _).mono ?_
  rintro e w1 ⟨rfl, hg⟩
  have HS := Lib.hid (usst_start x0 x1 x2 x3 x4 x5 x6 #[.bool true, .bool false, .bool false, .bool false, .bool false, .bool false] hg)
  go_upto_region 4 with fail
  clear hg HU
  generalize w1.alloc (Obj.cells #[.bool true, .bool false, .bool false, .bool false, .bool false, .bool false] 59) = W at *
  generalize w1.heap.size = ub at *
  obtain ⟨m0, m1, m2, m3, m4, m5, m6⟩ := HS.out.cells
  have u0 := HS.out.u 0
  have u1 := HS.out.u 1
  have u2 := HS.out.u 2
  have u3 := HS.out.u 3
  have u4 := HS.out.u 4
  have u5 := HS.out.u 5
  simp only [List.getElem?_toArray, List.getElem?_cons_zero, List.getElem?_cons_succ] at u0 u1 u2 u3 u4 u5
  go_wp2
  all_goals
    go_ret
    refine ⟨plainR HR.out HP.out ?_, HS.out.bel⟩
    first
      | (simp only [decide_eq_true_eq, Bool.false_eq_true, false_iff]; omega)
      | (simp only [toList_empty, decide_eq_true_eq, Bool.false_eq_true, false_iff, decide_eq_false_iff_not, Bool.not_eq_true, Bool.not_eq_eq_eq_not, Bool.not_true, Bool.not_false] at *; omega)
set_option maxHeartbeats 0 in
set_option maxRecDepth 100000 in
theorem pat7 (x0 x1 x2 x3 x4 x5 : Int) (x6 : ByteArray) (w : World) (hk1 : 1 ≤ x0) (hk2 : x0 ≤ 16) (hu : usesVal x0 = .agg #[.bool true, .bool true, .bool true, .bool false, .bool false, .bool false]) (hp : PlainOp ⟨x0, x1, x2, x3, x4, x5, x6⟩ ↔ (0 ≤ x1 ∧ x1 ≤ 255) ∧ (0 ≤ x2 ∧ x2 ≤ 65535) ∧ (0 ≤ x3 ∧ x3 ≤ 65535) ∧ x4 = 0 ∧ x5 = 0 ∧ x6.size = 0) :
    Calls Tryd.prog 21 #[opVal ⟨x0, x1, x2, x3, x4, x5, x6⟩] w (BoolBelow (plainB ⟨x0, x1, x2, x3, x4, x5, x6⟩) w) := by
  have HU := Lib.hid (fun W : World => usesFn x0 W (by omega) (by omega))
  unfold UsesRes at HU
  rw [hu] at HU
  have HP := Lib.hid hp
  clear hp hu
  generalize hR : plainB ⟨x0, x1, x2, x3, x4, x5, x6⟩ = R at *
  have HR := Lib.hid hR
  clear hR
  go_enter Tryd.func21, Tryd.ntmps21
  go_wp2_with fail
  refine (HU.out _).mono ?_
  rintro e w1 ⟨rfl, hg⟩
  have HS := Lib.hid (usst_start x0 x1 x2 x3 x4 x5 x6 #[.bool true, .bool true, .bool true, .bool false, .bool false, .bool false] hg)
  go_upto_region 4 with fail
  clear hg HU
  generalize w1.alloc (Obj.cells #[.bool true, .bool true, .bool true, .bool false, .bool false, .bool false] 59) = W at *
  generalize w1.heap.size = ub at *
  obtain ⟨m0, m1, m2, m3, m4, m5, m6⟩ := HS.out.cells
  have u0 := HS.out.u 0
  have u1 := HS.out.u 1
  have u2 := HS.out.u 2
  have u3 := HS.out.u 3
  have u4 := HS.out.u 4
  have u5 := HS.out.u 5
  simp only [List.getElem?_toArray, List.getElem?_cons_zero, List.getElem?_cons_succ] at u0 u1 u2 u3 u4 u5
  go_wp2
  all_goals
    go_ret
    refine ⟨plainR HR.out HP.out ?_, HS.out.bel⟩
    first
      | (simp only [decide_eq_true_eq, Bool.false_eq_true, false_iff]; omega)
      | (simp only [toList_empty, decide_eq_true_eq, Bool.false_eq_true, false_iff, decide_eq_false_iff_not, Bool.not_eq_true, Bool.not_eq_eq_eq_not, Bool.not_true, Bool.not_false] at *; omega)
set_option maxHeartbeats 0 in
set_option maxRecDepth 100000 in
theorem pat8 (x0 x1 x2 x3 x4 x5 : Int) (x6 : ByteArray) (w : World) (hk1 : 1 ≤ x0) (hk2 : x0 ≤ 16) (hu : usesVal x0 = .agg #[.bool true, .bool false, .bool true, .bool false, .bool false, .bool false]) (hp : PlainOp ⟨x0, x1, x2, x3, x4, x5, x6⟩ ↔ (0 ≤ x1 ∧ x1 ≤ 255) ∧ x2 = 0 ∧ (0 ≤ x3 ∧ x3 ≤ 65535) ∧ x4 = 0 ∧ x5 = 0 ∧ x6.size = 0) :
    Calls Tryd.prog 21 #[opVal ⟨x0, x1, x2, x3, x4, x5, x6⟩] w (BoolBelow (plainB ⟨x0, x1, x2, x3, x4, x5, x6⟩) w) := by
  have HU := Lib.hid (fun W : World => usesFn x0 W (by omega) (by omega))
  unfold UsesRes at HU
  rw [hu] at HU
  have HP := Lib.hid hp
  clear hp hu
  generalize hR : plainB ⟨x0, x1, x2, x3, x4, x5, x6⟩ = R at *
  have HR := Lib.hid hR
  clear hR
  go_enter Tryd.func21, Tryd.ntmps21
  go_wp2_with fail
  refine (HU.out _).mono ?_
  rintro e w1 ⟨rfl, hg⟩
  have HS := Lib.hid (usst_start x0 x1 x2 x3 x4 x5 x6 #[.bool true, .bool false, .bool true, .bool false, .bool false, .bool false] hg)
  go_upto_region 4 with fail
  clear hg HU
  generalize w1.alloc (Obj.cells #[.bool true, .bool false, .bool true, .bool false, .bool false, .bool false] 59) = W at *
  generalize w1.heap.size = ub at *
  obtain ⟨m0, m1, m2, m3, m4, m5, m6⟩ := HS.out.cells
  have u0 := HS.out.u 0
  have u1 := HS.out.u 1
  have u2 := HS.out.u 2
  have u3 := HS.out.u 3
  have u4 := HS.out.u 4
  have u5 := HS.out.u 5
  simp only [List.getElem?_toArray, List.getElem?_cons_zero, List.getElem?_cons_succ] at u0 u1 u2 u3 u4 u5
  go_wp2
  all_goals
    go_ret
    refine ⟨plainR HR.out HP.out ?_, HS.out.bel⟩
    first
      | (simp only [decide_eq_true_eq, Bool.false_eq_true, false_iff]; omega)
      | (simp only [toList_empty, decide_eq_true_eq, Bool.false_eq_true, false_iff, decide_eq_false_iff_not, Bool.not_eq_true, Bool.not_eq_eq_eq_not, Bool.not_true, Bool.not_false] at *; omega)
set_option maxHeartbeats 0 in
set_option maxRecDepth 100000 in
theorem pat10 (x0 x1 x2 x3 x4 x5 : Int) (x6 : ByteArray) (w : World) (hk1 : 1 ≤ x0) (hk2 : x0 ≤ 16) (hu : usesVal x0 = .agg #[.bool true, .bool false, .bool false, .bool true, .bool false, .bool false]) (hp : PlainOp ⟨x0, x1, x2, x3, x4, x5, x6⟩ ↔ (0 ≤ x1 ∧ x1 ≤ 255) ∧ x2 = 0 ∧ x3 = 0 ∧ x5 = 0 ∧ x6.size = 0) :
    Calls Tryd.prog 21 #[opVal ⟨x0, x1, x2, x3, x4, x5, x6⟩] w (BoolBelow (plainB ⟨x0, x1, x2, x3, x4, x5, x6⟩) w) := by
  have HU := Lib.hid (fun W : World => usesFn x0 W (by omega) (by omega))
  unfold UsesRes at HU
  rw [hu] at HU
  have HP := Lib.hid hp
  clear hp hu
  generalize hR : plainB ⟨x0, x1, x2, x3, x4, x5, x6⟩ = R at *
  have HR := Lib.hid hR
  clear hR
  go_enter Tryd.func21, Tryd.ntmps21
  go_wp2_with fail
  refine (HU.out _).mono ?_
  rintro e w1 ⟨rfl, hg⟩
  have HS := Lib.hid (usst_start x0 x1 x2 x3 x4 x5 x6 #[.bool true, .bool false, .bool false, .bool true, .bool false, .bool false] hg)
  go_upto_region 4 with fail
  clear hg HU
  generalize w1.alloc (Obj.cells #[.bool true, .bool false, .bool false, .bool true, .bool false, .bool false] 59) = W at *
  generalize w1.heap.size = ub at *
  obtain ⟨m0, m1, m2, m3, m4, m5, m6⟩ := HS.out.cells
  have u0 := HS.out.u 0
  have u1 := HS.out.u 1
  have u2 := HS.out.u 2
  have u3 := HS.out.u 3
  have u4 := HS.out.u 4
  have u5 := HS.out.u 5
  simp only [List.getElem?_toArray, List.getElem?_cons_zero, List.getElem?_cons_succ] at u0 u1 u2 u3 u4 u5
  go_wp2
  all_goals
    go_ret
    refine ⟨plainR HR.out HP.out ?_, HS.out.bel⟩
    first
      | (simp only [decide_eq_true_eq, Bool.false_eq_true, false_iff]; omega)
      | (simp only [toList_empty, decide_eq_true_eq, Bool.false_eq_true, false_iff, decide_eq_false_iff_not, Bool.not_eq_true, Bool.not_eq_eq_eq_not, Bool.not_true, Bool.not_false] at *; omega)
set_option maxHeartbeats 0 in
set_option maxRecDepth 100000 in
theorem pat11 (x0 x1 x2 x3 x4 x5 : Int) (x6 : ByteArray) (w : World) (hk1 : 1 ≤ x0) (hk2 : x0 ≤ 16) (hu : usesVal x0 = .agg #[.bool true, .bool true, .bool false, .bool false, .bool false, .bool false]) (hp : PlainOp ⟨x0, x1, x2, x3, x4, x5, x6⟩ ↔ (0 ≤ x1 ∧ x1 ≤ 255) ∧ (0 ≤ x2 ∧ x2 ≤ 65535) ∧ x3 = 0 ∧ x4 = 0 ∧ x5 = 0 ∧ x6.size = 0) :
    Calls Tryd.prog 21 #[opVal ⟨x0, x1, x2, x3, x4, x5, x6⟩] w (BoolBelow (plainB ⟨x0, x1, x2, x3, x4, x5, x6⟩) w) := by
  have HU := Lib.hid (fun W : World => usesFn x0 W (by omega) (by omega))
  unfold UsesRes at HU
  rw [hu] at HU
  have HP := Lib.hid hp
  clear hp hu
  generalize hR : plainB ⟨x0, x1, x2, x3, x4, x5, x6⟩ = R at *
  have HR := Lib.hid hR
  clear hR
  go_enter Tryd.func21, Tryd.ntmps21
  go_wp2_with fail
  refine (HU.out _).mono ?_
  rintro e w1 ⟨rfl, hg⟩
  have HS := Lib.hid (usst_start x0 x1 x2 x3 x4 x5 x6 #[.bool true, .bool true, .bool false, .bool false, .bool false, .bool false] hg)
  go_upto_region 4 with fail
  clear hg HU
  generalize w1.alloc (Obj.cells #[.bool true, .bool true, .bool false, .bool false, .bool false, .bool false] 59) = W at *
  generalize w1.heap.size = ub at *
  obtain ⟨m0, m1, m2, m3, m4, m5, m6⟩ := HS.out.cells
  have u0 := HS.out.u 0
  have u1 := HS.out.u 1
  have u2 := HS.out.u 2
  have u3 := HS.out.u 3
  have u4 := HS.out.u 4
  have u5 := HS.out.u 5
  simp only [List.getElem?_toArray, List.getElem?_cons_zero, List.getElem?_cons_succ] at u0 u1 u2 u3 u4 u5
  go_wp2
  all_goals
    go_ret
    refine ⟨plainR HR.out HP.out ?_, HS.out.bel⟩
    first
      | (simp only [decide_eq_true_eq, Bool.false_eq_true, false_iff]; omega)
      | (simp only [toList_empty, decide_eq_true_eq, Bool.false_eq_true, false_iff, decide_eq_false_iff_not, Bool.not_eq_true, Bool.not_eq_eq_eq_not, Bool.not_true, Bool.not_false] at *; omega)
theorem plainRef (o : OpV) (w : World) (h0 : 0 ≤ o.kind) : Calls Tryd.prog 21 #[opVal o] w (BoolBelow (plainB o) w) := by
  obtain ⟨x0, x1, x2, x3, x4, x5, x6⟩ := o
  dsimp only at h0
  by_cases hk : 1 ≤ x0 ∧ x0 ≤ 16
  · have hk' : x0 = 1 ∨ x0 = 2 ∨ x0 = 3 ∨ x0 = 4 ∨ x0 = 5 ∨ x0 = 6 ∨ x0 = 7 ∨ x0 = 8 ∨ x0 = 9 ∨ x0 = 10 ∨ x0 = 11 ∨ x0 = 12 ∨ x0 = 13 ∨ x0 = 14 ∨ x0 = 15 ∨ x0 = 16 := by omega
    rcases hk' with rfl | rfl | rfl | rfl | rfl | rfl | rfl | rfl | rfl | rfl | rfl | rfl | rfl | rfl | rfl | rfl
    · exact pat1 1 x1 x2 x3 x4 x5 x6 w hk.1 hk.2 rfl (by constructor; (rintro ⟨_, f0, f1, f2, f3, f4, f5⟩; simp [okF, uses, fieldsOf, zeroF, fitF, -ByteArray.size_eq_zero_iff] at f0 f1 f2 f3 f4 f5; omega); (intro h; refine ⟨hk, ?_, ?_, ?_, ?_, ?_, ?_⟩ <;> simp [okF, uses, fieldsOf, zeroF, fitF, -ByteArray.size_eq_zero_iff] <;> omega))
    · exact pat2 2 x1 x2 x3 x4 x5 x6 w hk.1 hk.2 rfl (by constructor; (rintro ⟨_, f0, f1, f2, f3, f4, f5⟩; simp [okF, uses, fieldsOf, zeroF, fitF, -ByteArray.size_eq_zero_iff] at f0 f1 f2 f3 f4 f5; omega); (intro h; refine ⟨hk, ?_, ?_, ?_, ?_, ?_, ?_⟩ <;> simp [okF, uses, fieldsOf, zeroF, fitF, -ByteArray.size_eq_zero_iff] <;> omega))
    · exact pat3 3 x1 x2 x3 x4 x5 x6 w hk.1 hk.2 rfl (by constructor; (rintro ⟨_, f0, f1, f2, f3, f4, f5⟩; simp [okF, uses, fieldsOf, zeroF, fitF, -ByteArray.size_eq_zero_iff] at f0 f1 f2 f3 f4 f5; omega); (intro h; refine ⟨hk, ?_, ?_, ?_, ?_, ?_, ?_⟩ <;> simp [okF, uses, fieldsOf, zeroF, fitF, -ByteArray.size_eq_zero_iff] <;> omega))
    · exact pat4 4 x1 x2 x3 x4 x5 x6 w hk.1 hk.2 rfl (by constructor; (rintro ⟨_, f0, f1, f2, f3, f4, f5⟩; simp [okF, uses, fieldsOf, zeroF, fitF, -ByteArray.size_eq_zero_iff] at f0 f1 f2 f3 f4 f5; omega); (intro h; refine ⟨hk, ?_, ?_, ?_, ?_, ?_, ?_⟩ <;> simp [okF, uses, fieldsOf, zeroF, fitF, -ByteArray.size_eq_zero_iff] <;> omega))
    · exact pat5 5 x1 x2 x3 x4 x5 x6 w hk.1 hk.2 rfl (by constructor; (rintro ⟨_, f0, f1, f2, f3, f4, f5⟩; simp [okF, uses, fieldsOf, zeroF, fitF, -ByteArray.size_eq_zero_iff] at f0 f1 f2 f3 f4 f5; omega); (intro h; refine ⟨hk, ?_, ?_, ?_, ?_, ?_, ?_⟩ <;> simp [okF, uses, fieldsOf, zeroF, fitF, -ByteArray.size_eq_zero_iff] <;> omega))
    · exact pat6 6 x1 x2 x3 x4 x5 x6 w hk.1 hk.2 rfl (by constructor; (rintro ⟨_, f0, f1, f2, f3, f4, f5⟩; simp [okF, uses, fieldsOf, zeroF, fitF, -ByteArray.size_eq_zero_iff] at f0 f1 f2 f3 f4 f5; omega); (intro h; refine ⟨hk, ?_, ?_, ?_, ?_, ?_, ?_⟩ <;> simp [okF, uses, fieldsOf, zeroF, fitF, -ByteArray.size_eq_zero_iff] <;> omega))
    · exact pat7 7 x1 x2 x3 x4 x5 x6 w hk.1 hk.2 rfl (by constructor; (rintro ⟨_, f0, f1, f2, f3, f4, f5⟩; simp [okF, uses, fieldsOf, zeroF, fitF, -ByteArray.size_eq_zero_iff] at f0 f1 f2 f3 f4 f5; omega); (intro h; refine ⟨hk, ?_, ?_, ?_, ?_, ?_, ?_⟩ <;> simp [okF, uses, fieldsOf, zeroF, fitF, -ByteArray.size_eq_zero_iff] <;> omega))
    · exact pat8 8 x1 x2 x3 x4 x5 x6 w hk.1 hk.2 rfl (by constructor; (rintro ⟨_, f0, f1, f2, f3, f4, f5⟩; simp [okF, uses, fieldsOf, zeroF, fitF, -ByteArray.size_eq_zero_iff] at f0 f1 f2 f3 f4 f5; omega); (intro h; refine ⟨hk, ?_, ?_, ?_, ?_, ?_, ?_⟩ <;> simp [okF, uses, fieldsOf, zeroF, fitF, -ByteArray.size_eq_zero_iff] <;> omega))
    · exact pat8 9 x1 x2 x3 x4 x5 x6 w hk.1 hk.2 rfl (by constructor; (rintro ⟨_, f0, f1, f2, f3, f4, f5⟩; simp [okF, uses, fieldsOf, zeroF, fitF, -ByteArray.size_eq_zero_iff] at f0 f1 f2 f3 f4 f5; omega); (intro h; refine ⟨hk, ?_, ?_, ?_, ?_, ?_, ?_⟩ <;> simp [okF, uses, fieldsOf, zeroF, fitF, -ByteArray.size_eq_zero_iff] <;> omega))
    · exact pat10 10 x1 x2 x3 x4 x5 x6 w hk.1 hk.2 rfl (by constructor; (rintro ⟨_, f0, f1, f2, f3, f4, f5⟩; simp [okF, uses, fieldsOf, zeroF, fitF, -ByteArray.size_eq_zero_iff] at f0 f1 f2 f3 f4 f5; omega); (intro h; refine ⟨hk, ?_, ?_, ?_, ?_, ?_, ?_⟩ <;> simp [okF, uses, fieldsOf, zeroF, fitF, -ByteArray.size_eq_zero_iff] <;> omega))
    · exact pat11 11 x1 x2 x3 x4 x5 x6 w hk.1 hk.2 rfl (by constructor; (rintro ⟨_, f0, f1, f2, f3, f4, f5⟩; simp [okF, uses, fieldsOf, zeroF, fitF, -ByteArray.size_eq_zero_iff] at f0 f1 f2 f3 f4 f5; omega); (intro h; refine ⟨hk, ?_, ?_, ?_, ?_, ?_, ?_⟩ <;> simp [okF, uses, fieldsOf, zeroF, fitF, -ByteArray.size_eq_zero_iff] <;> omega))
    · exact pat8 12 x1 x2 x3 x4 x5 x6 w hk.1 hk.2 rfl (by constructor; (rintro ⟨_, f0, f1, f2, f3, f4, f5⟩; simp [okF, uses, fieldsOf, zeroF, fitF, -ByteArray.size_eq_zero_iff] at f0 f1 f2 f3 f4 f5; omega); (intro h; refine ⟨hk, ?_, ?_, ?_, ?_, ?_, ?_⟩ <;> simp [okF, uses, fieldsOf, zeroF, fitF, -ByteArray.size_eq_zero_iff] <;> omega))
    · exact pat6 13 x1 x2 x3 x4 x5 x6 w hk.1 hk.2 rfl (by constructor; (rintro ⟨_, f0, f1, f2, f3, f4, f5⟩; simp [okF, uses, fieldsOf, zeroF, fitF, -ByteArray.size_eq_zero_iff] at f0 f1 f2 f3 f4 f5; omega); (intro h; refine ⟨hk, ?_, ?_, ?_, ?_, ?_, ?_⟩ <;> simp [okF, uses, fieldsOf, zeroF, fitF, -ByteArray.size_eq_zero_iff] <;> omega))
    · exact pat5 14 x1 x2 x3 x4 x5 x6 w hk.1 hk.2 rfl (by constructor; (rintro ⟨_, f0, f1, f2, f3, f4, f5⟩; simp [okF, uses, fieldsOf, zeroF, fitF, -ByteArray.size_eq_zero_iff] at f0 f1 f2 f3 f4 f5; omega); (intro h; refine ⟨hk, ?_, ?_, ?_, ?_, ?_, ?_⟩ <;> simp [okF, uses, fieldsOf, zeroF, fitF, -ByteArray.size_eq_zero_iff] <;> omega))
    · exact pat5 15 x1 x2 x3 x4 x5 x6 w hk.1 hk.2 rfl (by constructor; (rintro ⟨_, f0, f1, f2, f3, f4, f5⟩; simp [okF, uses, fieldsOf, zeroF, fitF, -ByteArray.size_eq_zero_iff] at f0 f1 f2 f3 f4 f5; omega); (intro h; refine ⟨hk, ?_, ?_, ?_, ?_, ?_, ?_⟩ <;> simp [okF, uses, fieldsOf, zeroF, fitF, -ByteArray.size_eq_zero_iff] <;> omega))
    · exact pat5 16 x1 x2 x3 x4 x5 x6 w hk.1 hk.2 rfl (by constructor; (rintro ⟨_, f0, f1, f2, f3, f4, f5⟩; simp [okF, uses, fieldsOf, zeroF, fitF, -ByteArray.size_eq_zero_iff] at f0 f1 f2 f3 f4 f5; omega); (intro h; refine ⟨hk, ?_, ?_, ?_, ?_, ?_, ?_⟩ <;> simp [okF, uses, fieldsOf, zeroF, fitF, -ByteArray.size_eq_zero_iff] <;> omega))
  · rw [plainB_no (fun h => hk h.kind)]
    have HB := Lib.hid (below_box w)
    by_cases h1 : x0 < 1
    · clear hk
      go_enter Tryd.func21, Tryd.ntmps21
      go_wp2
      go_ret
      exact ⟨rfl, HB.out _⟩
    · have h2 : 16 < x0 := by omega
      clear hk
      go_enter Tryd.func21, Tryd.ntmps21
      go_wp2
      go_ret
      exact ⟨rfl, HB.out _⟩
end Go.Proofs.YtcbhfhmpajamoaaDoor
