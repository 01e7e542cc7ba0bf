import Derived.Test.YtcicememljlafaaA1
namespace Go.Proofs.Ytcicememljlafaa
open Go.RowKit

theorem bytes_ext {s t : ByteArray} : s.toList = t.toList ↔ s = t := by
  constructor
  · intro h
    rw [ByteArray.toList_eq, ByteArray.toList_eq] at h
    obtain ⟨⟨x⟩⟩ := s
    obtain ⟨⟨y⟩⟩ := t
    simp at h
    rw [h]
  · rintro rfl; rfl

theorem opNe_run (x0 x1 x2 x3 x4 x5 y0 y1 y2 y3 y4 y5 : Int) (x6 y6 : ByteArray) (w : World) :
    (binOp .neq 44 (opVal ⟨x0, x1, x2, x3, x4, x5, x6⟩) (opVal ⟨y0, y1, y2, y3, y4, y5, y6⟩)).run Try.prog w = .ok (.bool (!(x0 == y0 && x1 == y1 && x2 == y2 && x3 == y3 && x4 == y4 && x5 == y5 && x6.toList == y6.toList))) w := by
  go_simp
  by_cases h0 : x0 = y0
  case neg => simp [h0]
  by_cases h1 : x1 = y1
  case neg => simp [h0, h1]
  by_cases h2 : x2 = y2
  case neg => simp [h0, h1, h2]
  by_cases h3 : x3 = y3
  case neg => simp [h0, h1, h2, h3]
  by_cases h4 : x4 = y4
  case neg => simp [h0, h1, h2, h3, h4]
  by_cases h5 : x5 = y5
  case neg => simp [h0, h1, h2, h3, h4, h5]
  by_cases h6 : x6.toList = y6.toList
  case neg => simp [h0, h1, h2, h3, h4, h5, h6]
  simp [h0, h1, h2, h3, h4, h5, h6]
theorem opNe_same (x : OpV) (w : World) : (binOp .neq 44 (opVal x) (opVal x)).run Try.prog w = .ok (.bool false) w := by
  obtain ⟨x0, x1, x2, x3, x4, x5, x6⟩ := x
  rw [opNe_run]; simp
theorem opNe_other (x y : OpV) (h : x ≠ y) (w : World) : (binOp .neq 44 (opVal x) (opVal y)).run Try.prog w = .ok (.bool true) w := by
  obtain ⟨x0, x1, x2, x3, x4, x5, x6⟩ := x
  obtain ⟨y0, y1, y2, y3, y4, y5, y6⟩ := y
  rw [opNe_run]
  have hb : (x0 == y0 && x1 == y1 && x2 == y2 && x3 == y3 && x4 == y4 && x5 == y5 && x6.toList == y6.toList) = false := by
    rw [Bool.eq_false_iff]
    intro e
    apply h
    simp only [Bool.and_eq_true, beq_iff_eq] at e
    simp only [OpV.mk.injEq]
    simp [e, bytes_ext.1 e.2]
  rw [hb]; rfl
theorem cfgEq_run (x0 x1 x2 x3 x4 x5 x6 y0 y1 y2 y3 y4 y5 y6 : Int) (x7 y7 : ByteArray) (w : World) :
    (binOp .eql 24 (cfgVal ⟨x0, x1, x2, x3, x4, x5, x6, x7⟩) (cfgVal ⟨y0, y1, y2, y3, y4, y5, y6, y7⟩)).run Try.prog w = .ok (.bool ((x0 == y0 && x1 == y1 && x2 == y2 && x3 == y3 && x4 == y4 && x5 == y5 && x6 == y6 && x7.toList == y7.toList))) w := by
  go_simp
  by_cases h0 : x0 = y0
  case neg => simp [h0]
  by_cases h1 : x1 = y1
  case neg => simp [h0, h1]
  by_cases h2 : x2 = y2
  case neg => simp [h0, h1, h2]
  by_cases h3 : x3 = y3
  case neg => simp [h0, h1, h2, h3]
  by_cases h4 : x4 = y4
  case neg => simp [h0, h1, h2, h3, h4]
  by_cases h5 : x5 = y5
  case neg => simp [h0, h1, h2, h3, h4, h5]
  by_cases h6 : x6 = y6
  case neg => simp [h0, h1, h2, h3, h4, h5, h6]
  by_cases h7 : x7.toList = y7.toList
  case neg => simp [h0, h1, h2, h3, h4, h5, h6, h7]
  simp [h0, h1, h2, h3, h4, h5, h6, h7]
theorem cfgEq_same (x : CfgV) (w : World) : (binOp .eql 24 (cfgVal x) (cfgVal x)).run Try.prog w = .ok (.bool true) w := by
  obtain ⟨x0, x1, x2, x3, x4, x5, x6, x7⟩ := x
  rw [cfgEq_run]; simp
theorem cfgEq_other (x y : CfgV) (h : x ≠ y) (w : World) : (binOp .eql 24 (cfgVal x) (cfgVal y)).run Try.prog w = .ok (.bool false) w := by
  obtain ⟨x0, x1, x2, x3, x4, x5, x6, x7⟩ := x
  obtain ⟨y0, y1, y2, y3, y4, y5, y6, y7⟩ := y
  rw [cfgEq_run]
  have hb : (x0 == y0 && x1 == y1 && x2 == y2 && x3 == y3 && x4 == y4 && x5 == y5 && x6 == y6 && x7.toList == y7.toList) = false := by
    rw [Bool.eq_false_iff]
    intro e
    apply h
    simp only [Bool.and_eq_true, beq_iff_eq] at e
    simp only [CfgV.mk.injEq]
    simp [e, bytes_ext.1 e.2]
  rw [hb]
theorem cfgNe_run (x0 x1 x2 x3 x4 x5 x6 y0 y1 y2 y3 y4 y5 y6 : Int) (x7 y7 : ByteArray) (w : World) :
    (binOp .neq 24 (cfgVal ⟨x0, x1, x2, x3, x4, x5, x6, x7⟩) (cfgVal ⟨y0, y1, y2, y3, y4, y5, y6, y7⟩)).run Try.prog w = .ok (.bool (!(x0 == y0 && x1 == y1 && x2 == y2 && x3 == y3 && x4 == y4 && x5 == y5 && x6 == y6 && x7.toList == y7.toList))) w := by
  go_simp
  by_cases h0 : x0 = y0
  case neg => simp [h0]
  by_cases h1 : x1 = y1
  case neg => simp [h0, h1]
  by_cases h2 : x2 = y2
  case neg => simp [h0, h1, h2]
  by_cases h3 : x3 = y3
  case neg => simp [h0, h1, h2, h3]
  by_cases h4 : x4 = y4
  case neg => simp [h0, h1, h2, h3, h4]
  by_cases h5 : x5 = y5
  case neg => simp [h0, h1, h2, h3, h4, h5]
  by_cases h6 : x6 = y6
  case neg => simp [h0, h1, h2, h3, h4, h5, h6]
  by_cases h7 : x7.toList = y7.toList
  case neg => simp [h0, h1, h2, h3, h4, h5, h6, h7]
  simp [h0, h1, h2, h3, h4, h5, h6, h7]
theorem cfgNe_same (x : CfgV) (w : World) : (binOp .neq 24 (cfgVal x) (cfgVal x)).run Try.prog w = .ok (.bool false) w := by
  obtain ⟨x0, x1, x2, x3, x4, x5, x6, x7⟩ := x
  rw [cfgNe_run]; simp
theorem cfgNe_other (x y : CfgV) (h : x ≠ y) (w : World) : (binOp .neq 24 (cfgVal x) (cfgVal y)).run Try.prog w = .ok (.bool true) w := by
  obtain ⟨x0, x1, x2, x3, x4, x5, x6, x7⟩ := x
  obtain ⟨y0, y1, y2, y3, y4, y5, y6, y7⟩ := y
  rw [cfgNe_run]
  have hb : (x0 == y0 && x1 == y1 && x2 == y2 && x3 == y3 && x4 == y4 && x5 == y5 && x6 == y6 && x7.toList == y7.toList) = false := by
    rw [Bool.eq_false_iff]
    intro e
    apply h
    simp only [Bool.and_eq_true, beq_iff_eq] at e
    simp only [CfgV.mk.injEq]
    simp [e, bytes_ext.1 e.2]
  rw [hb]; rfl

theorem take_succ_gen {α : Type} (d : α) (xs ys : List α) (k : Nat) (hx : k < xs.length) (hy : k < ys.length) (h : xs.take k = ys.take k) (he : xs.getD k d = ys.getD k d) :
    xs.take (k+1) = ys.take (k+1) := by
  rw [List.take_succ_eq_append_getElem hx, List.take_succ_eq_append_getElem hy, h]
  simp [List.getD_eq_getElem?_getD, hx, hy] at he
  rw [he]

open Classical in
/-- What comparing two things of Lean's own says. -/
noncomputable def same {α : Type} (x y : α) : Bool := decide (x = y)
theorem same_self {α : Type} (x : α) : same x x = true := by simp [same]
theorem same_ne {α : Type} {x y : α} (h : x ≠ y) : same x y = false := by simp [same, h]
theorem same_comm {α : Type} (x y : α) : same x y = same y x := by simp [same, eq_comm]
theorem same_ints (x y : List Int) : decide (x = y) = same x y := by unfold same; exact decide_eq_decide.2 Iff.rfl

set_option maxHeartbeats 800000 in
theorem eqOps_some (b o b' o' c c' : Nat) (xs ys : List OpV) (w : World)
    (hl : xs.length = ys.length) (hm : xs.length ≤ 9223372036854775807)
    (h : ∀ j, j < xs.length → OpAt w b (o + j * 7) (xs.getD j noOp))
    (h' : ∀ j, j < ys.length → OpAt w b' (o' + j * 7) (ys.getD j noOp)) :
    Calls Try.prog 25 #[.slice (some ⟨b, o, none⟩) xs.length c, .slice (some ⟨b', o', none⟩) ys.length c'] w (BoolDrew (same xs ys) w) := by
  have HL := Lib.hid hl
  rw [← hl]
  generalize hn : xs.length = n at *
  have hn' : n = ys.length := hl
  have HN := Lib.hid hn
  clear hn hl hn'
  have HH := Lib.hid h
  have HH' := Lib.hid h'
  clear h h'
  have hne : ((n : Int) != (n : Int)) = false := by simp
  go_enter Try.func25, Try.ntmps25
  go_wp2
  go_loopw [5] (fun i wr => ∃ k : Nat, k ≤ n ∧ i = .int .i64 k ∧ Hid (xs.take k = ys.take k) ∧ Hid (∃ m, wr = w.drewN m)) (fun i _ => n - (intOf i).toNat)
  case atStart => exact ⟨0, Nat.zero_le _, rfl, rfl, 0, rfl⟩
  case round =>
    obtain ⟨k, hk, rfl, HT, HW⟩ := hrel
    have hwr : ∀ q : Nat, wr.heap[q]? = w.heap[q]? := by obtain ⟨m, rfl⟩ := HW.out; intro q; rfl
    by_cases hlt : k < n
    · obtain ⟨x0, x1, x2, x3, x4, x5, x6⟩ := (HH.out k hlt).keep (hwr b)
      obtain ⟨y0, y1, y2, y3, y4, y5, y6⟩ := (HH'.out k (by rw [← HL.out]; exact hlt)).keep (hwr b')
      clear hwr
      have hki : (k : Int) < (n : Int) := by omega
      generalize hxv : xs.getD k noOp = xv at *
      generalize hyv : ys.getD k noOp = yv at *
      have HX := Lib.hid hxv
      have HY := Lib.hid hyv
      clear hxv hyv
      by_cases hxy : xv = yv
      · subst hxy
        have hbe := opNe_same xv
        go_wp2
        go_quiet (fail)
        go_wp2
        go_roundw
        case rel =>
          refine ⟨k + 1, by omega, by go_num, ?_, ?_⟩
          · exact take_succ_gen noOp xs ys k (by rw [HN.out]; exact hlt) (by rw [← HL.out]; exact hlt) HT.out (HX.out.trans HY.out.symm)
          · obtain ⟨m, rfl⟩ := HW.out
            exact ⟨_, World.drewN_drewN _ _ _⟩
        case measure => simp [intOf]; omega
      · have hbe := opNe_other xv yv hxy
        go_wp2
        go_quiet (fail)
        go_wp2
        go_ret
        refine ⟨?_, ?_⟩
        · have : xs ≠ ys := fun e => hxy (by rw [← HX.out, ← HY.out, e])
          simp [same_ne this]
        · obtain ⟨m, rfl⟩ := HW.out
          exact ⟨_, World.drewN_drewN _ _ _⟩
    · clear hwr
      go_wp2
      go_ret
      obtain rfl : k = n := by omega
      have e : xs = ys := by
        have := HT.out
        rwa [List.take_of_length_le (by rw [HN.out]; omega), List.take_of_length_le (by rw [← HL.out]; omega)] at this
      exact ⟨by simp [e, same], HW.out⟩

theorem eqOps_lens (A A' : Option Addr) (n n' c c' : Nat) (w : World) (h : n ≠ n') : Calls Try.prog 25 #[.slice A n c, .slice A' n' c'] w (BoolDrew false w) := by
  have hne : ((n : Int) != (n' : Int)) = true := by simp; omega
  clear h
  go_enter Try.func25, Try.ntmps25
  go_wp2
  go_ret
  exact ⟨rfl, 0, rfl⟩
theorem eqOps_zero (A A' : Option Addr) (c c' : Nat) (w : World) : Calls Try.prog 25 #[.slice A 0 c, .slice A' 0 c'] w (BoolDrew true w) := by
  go_enter Try.func25, Try.ntmps25
  go_wp2
  refine wp_loop_rounds 1 ?_
  rw [rounds_succ]
  go_wp2
  go_ret
  exact ⟨rfl, 0, rfl⟩
theorem eqOps_any (A A' : Option Addr) (c c' B B' : Nat) (xs ys : List OpV) (w : World) (hm : xs.length ≤ 9223372036854775807) (h : OpsAt w B A xs) (h' : OpsAt w B' A' ys) :
    Calls Try.prog 25 #[.slice A xs.length c, .slice A' ys.length c'] w (BoolDrew (same xs ys) w) := by
  by_cases hl : xs.length = ys.length
  · by_cases h0 : 0 < xs.length
    · obtain ⟨b, o, rfl, _, hc⟩ := h h0
      obtain ⟨b', o', rfl, _, hc'⟩ := h' (by omega)
      exact eqOps_some b o b' o' c c' xs ys w hl hm hc hc'
    · have e1 : xs = [] := List.eq_nil_of_length_eq_zero (by omega)
      have e2 : ys = [] := List.eq_nil_of_length_eq_zero (by omega)
      subst e1 e2
      rw [same_self]
      exact eqOps_zero A A' c c' w
  · rw [same_ne (fun e => hl (by rw [e]))]
    exact eqOps_lens A A' _ _ c c' w hl

set_option maxHeartbeats 800000 in
theorem sEqOps_some (b o b' o' c c' : Nat) (xs ys : List OpV) (w : World)
    (hl : xs.length = ys.length) (hm : xs.length ≤ 9223372036854775807)
    (h : ∀ j, j < xs.length → OpAt w b (o + j * 7) (xs.getD j noOp))
    (h' : ∀ j, j < ys.length → OpAt w b' (o' + j * 7) (ys.getD j noOp)) :
    Calls Try.prog 21 #[.slice (some ⟨b, o, none⟩) xs.length c, .slice (some ⟨b', o', none⟩) ys.length c'] w (BoolDrew (same xs ys) w) := by
  have HL := Lib.hid hl
  rw [← hl]
  generalize hn : xs.length = n at *
  have hn' : n = ys.length := hl
  have HN := Lib.hid hn
  clear hn hl hn'
  have HH := Lib.hid h
  have HH' := Lib.hid h'
  clear h h'
  have hne : ((n : Int) != (n : Int)) = false := by simp
  go_enter Try.func21, Try.ntmps21
  go_wp2
  go_loopw [13] (fun i wr => ∃ k : Nat, k ≤ n ∧ i = .int .i64 k ∧ Hid (xs.take k = ys.take k) ∧ Hid (∃ m, wr = w.drewN m)) (fun i _ => n - (intOf i).toNat)
  case atStart => exact ⟨0, Nat.zero_le _, rfl, rfl, 0, rfl⟩
  case round =>
    obtain ⟨k, hk, rfl, HT, HW⟩ := hrel
    have hwr : ∀ q : Nat, wr.heap[q]? = w.heap[q]? := by obtain ⟨m, rfl⟩ := HW.out; intro q; rfl
    by_cases hlt : k < n
    · obtain ⟨x0, x1, x2, x3, x4, x5, x6⟩ := (HH.out k hlt).keep (hwr b)
      obtain ⟨y0, y1, y2, y3, y4, y5, y6⟩ := (HH'.out k (by rw [← HL.out]; exact hlt)).keep (hwr b')
      clear hwr
      have hki : (k : Int) < (n : Int) := by omega
      generalize hxv : xs.getD k noOp = xv at *
      generalize hyv : ys.getD k noOp = yv at *
      have HX := Lib.hid hxv
      have HY := Lib.hid hyv
      clear hxv hyv
      by_cases hxy : xv = yv
      · subst hxy
        have hbe := opNe_same xv
        go_wp2
        go_quiet (fail)
        go_wp2
        go_roundw
        case rel =>
          refine ⟨k + 1, by omega, by go_num, ?_, ?_⟩
          · exact take_succ_gen noOp xs ys k (by rw [HN.out]; exact hlt) (by rw [← HL.out]; exact hlt) HT.out (HX.out.trans HY.out.symm)
          · obtain ⟨m, rfl⟩ := HW.out
            exact ⟨_, World.drewN_drewN _ _ _⟩
        case measure => simp [intOf]; omega
      · have hbe := opNe_other xv yv hxy
        go_wp2
        go_quiet (fail)
        go_wp2
        go_ret
        refine ⟨?_, ?_⟩
        · have : xs ≠ ys := fun e => hxy (by rw [← HX.out, ← HY.out, e])
          simp [same_ne this]
        · obtain ⟨m, rfl⟩ := HW.out
          exact ⟨_, World.drewN_drewN _ _ _⟩
    · clear hwr
      go_wp2
      go_ret
      obtain rfl : k = n := by omega
      have e : xs = ys := by
        have := HT.out
        rwa [List.take_of_length_le (by rw [HN.out]; omega), List.take_of_length_le (by rw [← HL.out]; omega)] at this
      exact ⟨by simp [e, same], HW.out⟩

theorem sEqOps_lens (A A' : Option Addr) (n n' c c' : Nat) (w : World) (h : n ≠ n') : Calls Try.prog 21 #[.slice A n c, .slice A' n' c'] w (BoolDrew false w) := by
  have hne : ((n : Int) != (n' : Int)) = true := by simp; omega
  clear h
  go_enter Try.func21, Try.ntmps21
  go_wp2
  go_ret
  exact ⟨rfl, 0, rfl⟩
theorem sEqOps_zero (A A' : Option Addr) (c c' : Nat) (w : World) : Calls Try.prog 21 #[.slice A 0 c, .slice A' 0 c'] w (BoolDrew true w) := by
  go_enter Try.func21, Try.ntmps21
  go_wp2
  refine wp_loop_rounds 1 ?_
  rw [rounds_succ]
  go_wp2
  go_ret
  exact ⟨rfl, 0, rfl⟩
theorem sEqOps_any (A A' : Option Addr) (c c' B B' : Nat) (xs ys : List OpV) (w : World) (hm : xs.length ≤ 9223372036854775807) (h : OpsAt w B A xs) (h' : OpsAt w B' A' ys) :
    Calls Try.prog 21 #[.slice A xs.length c, .slice A' ys.length c'] w (BoolDrew (same xs ys) w) := by
  by_cases hl : xs.length = ys.length
  · by_cases h0 : 0 < xs.length
    · obtain ⟨b, o, rfl, _, hc⟩ := h h0
      obtain ⟨b', o', rfl, _, hc'⟩ := h' (by omega)
      exact sEqOps_some b o b' o' c c' xs ys w hl hm hc hc'
    · have e1 : xs = [] := List.eq_nil_of_length_eq_zero (by omega)
      have e2 : ys = [] := List.eq_nil_of_length_eq_zero (by omega)
      subst e1 e2
      rw [same_self]
      exact sEqOps_zero A A' c c' w
  · rw [same_ne (fun e => hl (by rw [e]))]
    exact sEqOps_lens A A' _ _ c c' w hl

set_option maxHeartbeats 400000 in
theorem sEqInts_some (b o b' o' c c' : Nat) (xs ys : List Int) (w : World)
    (hl : xs.length = ys.length) (hm : xs.length ≤ 9223372036854775807)
    (h : ∀ j, j < xs.length → w.cell? ⟨b, o + j, none⟩ = some (.int .i64 (xs.getD j 0)))
    (h' : ∀ j, j < ys.length → w.cell? ⟨b', o' + j, none⟩ = some (.int .i64 (ys.getD j 0))) :
    Calls Try.prog 23 #[.slice (some ⟨b, o, none⟩) xs.length c, .slice (some ⟨b', o', none⟩) ys.length c'] w (BoolDrew (same xs ys) w) := by
  have HL := Lib.hid hl
  rw [← hl]
  generalize hn : xs.length = n at *
  have hn' : n = ys.length := hl
  have HN := Lib.hid hn
  clear hn hl hn'
  have HH := Lib.hid h
  have HH' := Lib.hid h'
  clear h h'
  have hne : ((n : Int) != (n : Int)) = false := by simp
  go_enter Try.func23, Try.ntmps23
  go_wp2
  go_loopw [13] (fun i wr => ∃ k : Nat, k ≤ n ∧ i = .int .i64 k ∧ Hid (xs.take k = ys.take k) ∧ Hid (∃ m, wr = w.drewN m)) (fun i _ => n - (intOf i).toNat)
  case atStart => exact ⟨0, Nat.zero_le _, rfl, rfl, 0, rfl⟩
  case round =>
    obtain ⟨k, hk, rfl, HT, HW⟩ := hrel
    have hwr : ∀ p, wr.cell? p = w.cell? p := by obtain ⟨m, rfl⟩ := HW.out; intro p; rfl
    by_cases hlt : k < n
    · have hx : wr.cell? ⟨b, o + k, none⟩ = some (.int .i64 (xs.getD k 0)) := by rw [hwr]; exact HH.out k hlt
      have hy : wr.cell? ⟨b', o' + k, none⟩ = some (.int .i64 (ys.getD k 0)) := by rw [hwr]; exact HH'.out k (by rw [← HL.out]; exact hlt)
      clear hwr
      have hki : (k : Int) < (n : Int) := by omega
      generalize hxv : xs.getD k 0 = xv at *
      generalize hyv : ys.getD k 0 = yv at *
      have HX := Lib.hid hxv
      have HY := Lib.hid hyv
      clear hxv hyv
      by_cases hxy : xv = yv
      · subst hxy
        have hbe : (xv != xv) = false := by simp
        go_wp2
        go_quiet (fail)
        go_wp2
        go_roundw
        case rel => 
          refine ⟨k + 1, by omega, by go_num, ?_, ?_⟩
          · exact take_succ_eq xs ys k (by rw [HN.out]; exact hlt) (by rw [← HL.out]; exact hlt) HT.out (HX.out.trans HY.out.symm)
          · obtain ⟨m, rfl⟩ := HW.out
            exact ⟨_, World.drewN_drewN _ _ _⟩
        case measure => simp [intOf]; omega
      · have hbe : (xv != yv) = true := by simpa using hxy
        go_wp2
        go_quiet (fail)
        go_wp2
        go_ret
        refine ⟨?_, ?_⟩
        · have : xs ≠ ys := fun e => hxy (by rw [← HX.out, ← HY.out, e])
          simp [same_ne this]
        · obtain ⟨m, rfl⟩ := HW.out
          exact ⟨_, World.drewN_drewN _ _ _⟩
    · clear hwr
      go_wp2
      go_ret
      obtain rfl : k = n := by omega
      have e : xs = ys := by
        have := HT.out
        rwa [List.take_of_length_le (by rw [HN.out]; omega), List.take_of_length_le (by rw [← HL.out]; omega)] at this
      exact ⟨by simp [e, same], HW.out⟩


theorem sEqInts_lens (A A' : Option Addr) (n n' c c' : Nat) (w : World) (h : n ≠ n') : Calls Try.prog 23 #[.slice A n c, .slice A' n' c'] w (BoolDrew false w) := by
  have hne : ((n : Int) != (n' : Int)) = true := by simp; omega
  clear h
  go_enter Try.func23, Try.ntmps23
  go_wp2
  go_ret
  exact ⟨rfl, 0, rfl⟩
theorem sEqInts_zero (A A' : Option Addr) (c c' : Nat) (w : World) : Calls Try.prog 23 #[.slice A 0 c, .slice A' 0 c'] w (BoolDrew true w) := by
  go_enter Try.func23, Try.ntmps23
  go_wp2
  refine wp_loop_rounds 1 ?_
  rw [rounds_succ]
  go_wp2
  go_ret
  exact ⟨rfl, 0, rfl⟩
theorem sEqInts_any (A A' : Option Addr) (c c' B B' : Nat) (xs ys : List Int) (w : World) (hm : xs.length ≤ 9223372036854775807) (h : Ints w B A xs) (h' : Ints w B' A' ys) :
    Calls Try.prog 23 #[.slice A xs.length c, .slice A' ys.length c'] w (BoolDrew (same xs ys) w) := by
  by_cases hl : xs.length = ys.length
  · by_cases h0 : 0 < xs.length
    · obtain ⟨b, o, rfl, _, hc⟩ := h h0
      obtain ⟨b', o', rfl, _, hc'⟩ := h' (by omega)
      exact sEqInts_some b o b' o' c c' xs ys w hl hm hc hc'
    · have e1 : xs = [] := List.eq_nil_of_length_eq_zero (by omega)
      have e2 : ys = [] := List.eq_nil_of_length_eq_zero (by omega)
      subst e1 e2
      rw [same_self]
      exact sEqInts_zero A A' c c' w
  · rw [same_ne (fun e => hl (by rw [e]))]
    exact sEqInts_lens A A' _ _ c c' w hl
end Go.Proofs.Ytcicememljlafaa
