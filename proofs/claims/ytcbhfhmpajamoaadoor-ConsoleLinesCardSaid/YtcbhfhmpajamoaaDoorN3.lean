/- Ported: plain operations, by the program. -/
import Derived.Test.YtcbhfhmpajamoaaDoorN2
namespace Go.Proofs.YtcbhfhmpajamoaaDoor
open Go.RowKit


theorem u8s_keep {W W' : World} {A : Option Addr} {fs : List Int} (h : U8s W A fs) (hk : ∀ q, ElemT W q 103 → W'.heap[q]? = W.heap[q]?) : U8s W' A fs := fun hp => by
  obtain ⟨b, o, e, ht, hc⟩ := h hp
  exact ⟨b, o, e, ht.keep (hk b ht), fun j hj => (World.cell?_of_block (a := ⟨b, o + j, none⟩) (hk b ht)).trans (hc j hj)⟩
/-- The world in plain behind its first three statements: the operation's box, the fields, the variable that the closure captures. -/
structure PlSt (w W : World) (ub : Nat) (A : Option Addr) (c : Nat) (o : OpV) : Prop where
  u8 : U8s W A (fieldsOf o.kind)
  used : W.cell? ⟨ub, 0, none⟩ = some (.slice A (fieldsOf o.kind).length c)
  op : OpAt W w.heap.size 0 o
  bel : Below w.heap.size w W
theorem opAt_new (w : World) (x0 x1 x2 x3 x4 x5 : Int) (x6 : ByteArray) : OpAt (w.alloc (.cells #[.int .u8 x0, .int .i64 x1, .int .i64 x2, .int .i64 x3, .int .u32 x4, .int .u8 x5, .string x6] 24)) w.heap.size 0 ⟨x0, x1, x2, x3, x4, x5, x6⟩ := by
  have g : ∀ i u, (#[.int .u8 x0, .int .i64 x1, .int .i64 x2, .int .i64 x3, .int .u32 x4, .int .u8 x5, .string x6] : Array Value)[i]? = some u → (w.alloc (.cells #[.int .u8 x0, .int .i64 x1, .int .i64 x2, .int .i64 x3, .int .u32 x4, .int .u8 x5, .string x6] 24)).cell? ⟨w.heap.size, i, none⟩ = some u := fun i u hu => by
    rw [World.cell?_alloc_at _ _ _ _ rfl]; exact hu
  exact ⟨g 0 _ rfl, by rw [Nat.zero_add]; exact g 1 _ rfl, by rw [Nat.zero_add]; exact g 2 _ rfl, by rw [Nat.zero_add]; exact g 3 _ rfl, by rw [Nat.zero_add]; exact g 4 _ rfl, by rw [Nat.zero_add]; exact g 5 _ rfl, by rw [Nat.zero_add]; exact g 6 _ rfl⟩
theorem plst_start {w w1 : World} {A : Option Addr} {c : Nat} (x0 x1 x2 x3 x4 x5 : Int) (x6 : ByteArray) (hu : U8s w1 A (fieldsOf x0))
    (hg : (w.alloc (.cells #[.int .u8 x0, .int .i64 x1, .int .i64 x2, .int .i64 x3, .int .u32 x4, .int .u8 x5, .string x6] 24)).grownBy w1 none) :
    PlSt w (w1.alloc (.cells #[.slice A (fieldsOf x0).length c] 101)) w1.heap.size A c ⟨x0, x1, x2, x3, x4, x5, x6⟩ := by
  have hs := hg.size
  simp only [World.size_alloc] at hs
  refine ⟨u8s_keep hu fun q hq => Below.heap_alloc _ _ _ hq.lt, ?_, ?_, ?_⟩
  · rw [World.cell?_alloc_at _ _ _ _ rfl]; rfl
  · refine (opAt_new w x0 x1 x2 x3 x4 x5 x6).keep ?_
    rw [Below.heap_alloc _ _ _ (by omega)]
    exact hg.block _ (by simp) (by simp)
  · exact ⟨hg.os, hg.tape, hg.output, by simp; omega, fun k hk => by
      rw [Below.heap_alloc _ _ _ (by omega), hg.block k (by simp; omega) (by simp), Below.heap_alloc _ _ _ hk]⟩
theorem PlSt.drewN {w W : World} {ub : Nat} {A : Option Addr} {c : Nat} {o : OpV} (h : PlSt w W ub A c o) (k : Nat) : PlSt w (W.drewN k) ub A c o :=
  ⟨h.u8, h.used, h.op.keep rfl, below_drewN h.bel k⟩

theorem hasSt {w W : World} {ub : Nat} {A : Option Addr} {c : Nat} {o : OpV} (h : PlSt w W ub A c o) (f : Int) (z t : Bool) :
    Calls Tryd.prog 50 #[.int .u8 f, .bool z, .bool t, .pointer (some ⟨ub, 0, none⟩)] W (fun e w' => ∃ r, e = .returned (.bool r) ∧ r = (if uses o.kind f then t else z) ∧ PlSt w w' ub A c o) := by
  refine (hasFn ub c A f z t (fieldsOf o.kind) W h.used h.u8 (by have := (fieldsOf_bd o.kind).1; omega)).mono ?_
  rintro e w' ⟨rfl, m, rfl⟩
  exact ⟨_, rfl, rfl, h.drewN m⟩
theorem PlSt.bel_of {w W : World} {ub : Nat} {A : Option Addr} {c : Nat} {o : OpV} (h : Hid (PlSt w W ub A c o)) : Below w.heap.size w W := h.out.bel
theorem PlSt.cells {w W : World} {ub : Nat} {A : Option Addr} {c : Nat} {x0 x1 x2 x3 x4 x5 : Int} {x6 : ByteArray} (h : PlSt w W ub A c ⟨x0, x1, x2, x3, x4, x5, x6⟩) :
    W.cell? ⟨w.heap.size, 0, none⟩ = some (.int .u8 x0) ∧ W.cell? ⟨w.heap.size, 1, none⟩ = some (.int .i64 x1) ∧ W.cell? ⟨w.heap.size, 2, none⟩ = some (.int .i64 x2) ∧ W.cell? ⟨w.heap.size, 3, none⟩ = some (.int .i64 x3) ∧
      W.cell? ⟨w.heap.size, 4, none⟩ = some (.int .u32 x4) ∧ W.cell? ⟨w.heap.size, 5, none⟩ = some (.int .u8 x5) ∧ W.cell? ⟨w.heap.size, 6, none⟩ = some (.string x6) := by
  obtain ⟨m0, m1, m2, m3, m4, m5, m6⟩ := h.op
  simp only [Nat.zero_add] at m1 m2 m3 m4 m5 m6
  exact ⟨m0, m1, m2, m3, m4, m5, m6⟩
theorem yes_A {u r : Bool} {x : Int} (h : u = false → x = 0) (hr : r = if u = true then true else x == 0) : r = true := by
  subst hr; cases u
  · simp [h rfl]
  · rfl
theorem no_A {u r : Bool} {x M : Int} (h1 : u = true → ¬ (0 ≤ x ∧ x ≤ M)) (h2 : u = false → ¬ x = 0) (h0 : 0 ≤ x) (hr : r = if u = true then decide (x ≤ M) else x == 0) : r = false := by
  subst hr; cases u
  · simpa using h2 rfl
  · have := h1 rfl
    simp; omega
theorem no_B {u r : Bool} {x : Int} (h2 : u = false → ¬ x = 0) (hr : r = if u = true then false else x == 0) : r = false := by
  subst hr; cases u
  · simpa using h2 rfl
  · rfl
theorem no_C {u r : Bool} {x : Int} (h1 : u = false) (h2 : ¬ x = 0) (hr : r = if u = true then true else x == 0) : r = false := by
  subst hr h1
  simpa using h2
theorem yes_T {u r : Bool} {x : ByteArray} (h : u = false → x.size = 0) (hr : r = if u = true then true else x.toList.isEmpty) : r = true := by
  subst hr; rw [toList_empty]; cases u
  · simp [h rfl]
  · rfl
theorem no_T {u r : Bool} {x : ByteArray} (h1 : u = true → ¬ x.size ≤ 256) (h2 : u = false → ¬ x.size = 0) (hr : r = if u = true then decide ((x.size : Int) ≤ 256) else x.toList.isEmpty) : r = false := by
  subst hr; rw [toList_empty]; cases u
  · simpa using h2 rfl
  · have := h1 rfl
    simp; omega
set_option maxHeartbeats 0 in
theorem plain_yes (x0 x1 x2 x3 x4 x5 : Int) (x6 : ByteArray) (w : World) (hk1 : 1 ≤ x0) (hk2 : x0 ≤ 16) (g0 : 0 ≤ x1 ∧ x1 ≤ 255) (z0 : uses x0 0 = false → x1 = 0) (g1 : 0 ≤ x2 ∧ x2 ≤ 65535) (z1 : uses x0 1 = false → x2 = 0) (g2 : 0 ≤ x3 ∧ x3 ≤ 65535) (z2 : uses x0 2 = false → x3 = 0) (z3 : uses x0 3 = false → x4 = 0) (z4 : uses x0 4 = false → x5 = 0) (g5 : x6.size ≤ 256) (z5 : uses x0 5 = false → x6.size = 0) :
    Calls Tryd.prog 39 #[opVal ⟨x0, x1, x2, x3, x4, x5, x6⟩] w (BoolBelow true w) := by
  have HF := Lib.hid (fun W : World => fieldsFn x0 W hk1 hk2)
  have a0 := g0.1
  have b0 := g0.2
  have a1 := g1.1
  have b1 := g1.2
  have a2 := g2.1
  have b2 := g2.2
  have a5 : (x6.size : Int) ≤ 256 := by omega
  have Z0 := Lib.hid z0
  have Z1 := Lib.hid z1
  have Z2 := Lib.hid z2
  have Z3 := Lib.hid z3
  have Z4 := Lib.hid z4
  have Z5 := Lib.hid z5
  clear z0 z1 z2 z3 z4 z5 g0 g1 g2 g5
  go_enter Tryd.func39, Tryd.ntmps39
  go_wp2_with fail
  refine (HF.out _).mono ?_
  rintro e w1 ⟨A, c, rfl, hu, hg⟩
  have HS := Lib.hid (plst_start (c := c) x0 x1 x2 x3 x4 x5 x6 hu hg)
  go_upto_region 4 with fail
  clear hu hg HF
  generalize w1.alloc (Obj.cells #[Value.slice A (fieldsOf x0).length c] 101) = W at *
  generalize w1.heap.size = ub at *
  generalize (fieldsOf x0).length = n at *
  obtain ⟨m0, m1, m2, m3, m4, m5, m6⟩ := HS.out.cells
  go_upto_region 5 with fail
  all_goals simp only [List.append_eq, List.cons_append, List.nil_append]
  all_goals go_wp2_with (go_at_call 50; refine (hasSt (Hid.out (by assumption)) _ _ _).mono ?_; rintro e w' ⟨r, rfl, hr, hs⟩; dsimp only at hr; (first | (obtain rfl := yes_A Z0.out hr) | (obtain rfl := yes_A Z1.out hr) | (obtain rfl := yes_A Z2.out hr) | (obtain rfl := yes_A Z3.out hr) | (obtain rfl := yes_A Z4.out hr) | (obtain rfl := yes_T Z5.out hr)); clear hr; (have HS2 := Lib.hid hs); clear hs; obtain ⟨m0, m1, m2, m3, m4, m5, m6⟩ := HS2.out.cells)
  all_goals
    go_ret
    exact ⟨rfl, PlSt.bel_of (ub := ub) (A := A) (c := c) (o := ⟨x0, x1, x2, x3, x4, x5, x6⟩) (by assumption)⟩
set_option maxHeartbeats 0 in
theorem plain_no0 (x0 x1 x2 x3 x4 x5 : Int) (x6 : ByteArray) (w : World) (hk1 : 1 ≤ x0) (hk2 : x0 ≤ 16) (k1 : uses x0 0 = true → ¬ (0 ≤ x1 ∧ x1 ≤ 255)) (k2 : uses x0 0 = false → ¬ x1 = 0) :
    Calls Tryd.prog 39 #[opVal ⟨x0, x1, x2, x3, x4, x5, x6⟩] w (BoolBelow false w) := by
  have HF := Lib.hid (fun W : World => fieldsFn x0 W hk1 hk2)
  have K1 := Lib.hid k1
  have K2 := Lib.hid k2
  clear k1 k2
  go_enter Tryd.func39, Tryd.ntmps39
  go_wp2_with fail
  refine (HF.out _).mono ?_
  rintro e w1 ⟨A, c, rfl, hu, hg⟩
  have HS := Lib.hid (plst_start (c := c) x0 x1 x2 x3 x4 x5 x6 hu hg)
  go_upto_region 4 with fail
  clear hu hg HF
  generalize w1.alloc (Obj.cells #[Value.slice A (fieldsOf x0).length c] 101) = W at *
  generalize w1.heap.size = ub at *
  generalize (fieldsOf x0).length = n at *
  obtain ⟨m0, m1, m2, m3, m4, m5, m6⟩ := HS.out.cells
  go_upto_region 5 with fail
  all_goals simp only [List.append_eq, List.cons_append, List.nil_append]
  all_goals go_wp2_with (go_at_call 50; refine (hasSt (Hid.out (by assumption)) _ _ _).mono ?_; rintro e w' ⟨r, rfl, hr, hs⟩; dsimp only at hr; (first | (obtain rfl := no_A K1.out K2.out (by assumption) hr) | (obtain rfl := no_B K2.out hr)); clear hr; (have HS2 := Lib.hid hs); clear hs; obtain ⟨m0, m1, m2, m3, m4, m5, m6⟩ := HS2.out.cells)
  all_goals
    go_ret
    exact ⟨rfl, PlSt.bel_of (ub := ub) (A := A) (c := c) (o := ⟨x0, x1, x2, x3, x4, x5, x6⟩) (by assumption)⟩
set_option maxHeartbeats 0 in
theorem plain_no1 (x0 x1 x2 x3 x4 x5 : Int) (x6 : ByteArray) (w : World) (hk1 : 1 ≤ x0) (hk2 : x0 ≤ 16) (g0 : 0 ≤ x1 ∧ x1 ≤ 255) (z0 : uses x0 0 = false → x1 = 0) (k1 : uses x0 1 = true → ¬ (0 ≤ x2 ∧ x2 ≤ 65535)) (k2 : uses x0 1 = false → ¬ x2 = 0) :
    Calls Tryd.prog 39 #[opVal ⟨x0, x1, x2, x3, x4, x5, x6⟩] w (BoolBelow false w) := by
  have HF := Lib.hid (fun W : World => fieldsFn x0 W hk1 hk2)
  have a0 := g0.1
  have b0 := g0.2
  have Z0 := Lib.hid z0
  have K1 := Lib.hid k1
  have K2 := Lib.hid k2
  clear z0 g0 k1 k2
  go_enter Tryd.func39, Tryd.ntmps39
  go_wp2_with fail
  refine (HF.out _).mono ?_
  rintro e w1 ⟨A, c, rfl, hu, hg⟩
  have HS := Lib.hid (plst_start (c := c) x0 x1 x2 x3 x4 x5 x6 hu hg)
  go_upto_region 4 with fail
  clear hu hg HF
  generalize w1.alloc (Obj.cells #[Value.slice A (fieldsOf x0).length c] 101) = W at *
  generalize w1.heap.size = ub at *
  generalize (fieldsOf x0).length = n at *
  obtain ⟨m0, m1, m2, m3, m4, m5, m6⟩ := HS.out.cells
  go_upto_region 5 with fail
  all_goals simp only [List.append_eq, List.cons_append, List.nil_append]
  all_goals go_wp2_with (go_at_call 50; refine (hasSt (Hid.out (by assumption)) _ _ _).mono ?_; rintro e w' ⟨r, rfl, hr, hs⟩; dsimp only at hr; (first | (obtain rfl := yes_A Z0.out hr) | (obtain rfl := no_A K1.out K2.out (by assumption) hr) | (obtain rfl := no_B K2.out hr)); clear hr; (have HS2 := Lib.hid hs); clear hs; obtain ⟨m0, m1, m2, m3, m4, m5, m6⟩ := HS2.out.cells)
  all_goals
    go_ret
    exact ⟨rfl, PlSt.bel_of (ub := ub) (A := A) (c := c) (o := ⟨x0, x1, x2, x3, x4, x5, x6⟩) (by assumption)⟩
set_option maxHeartbeats 0 in
theorem plain_no2 (x0 x1 x2 x3 x4 x5 : Int) (x6 : ByteArray) (w : World) (hk1 : 1 ≤ x0) (hk2 : x0 ≤ 16) (g0 : 0 ≤ x1 ∧ x1 ≤ 255) (z0 : uses x0 0 = false → x1 = 0) (g1 : 0 ≤ x2 ∧ x2 ≤ 65535) (z1 : uses x0 1 = false → x2 = 0) (k1 : uses x0 2 = true → ¬ (0 ≤ x3 ∧ x3 ≤ 65535)) (k2 : uses x0 2 = false → ¬ x3 = 0) :
    Calls Tryd.prog 39 #[opVal ⟨x0, x1, x2, x3, x4, x5, x6⟩] w (BoolBelow false w) := by
  have HF := Lib.hid (fun W : World => fieldsFn x0 W hk1 hk2)
  have a0 := g0.1
  have b0 := g0.2
  have a1 := g1.1
  have b1 := g1.2
  have Z0 := Lib.hid z0
  have Z1 := Lib.hid z1
  have K1 := Lib.hid k1
  have K2 := Lib.hid k2
  clear z0 z1 g0 g1 k1 k2
  go_enter Tryd.func39, Tryd.ntmps39
  go_wp2_with fail
  refine (HF.out _).mono ?_
  rintro e w1 ⟨A, c, rfl, hu, hg⟩
  have HS := Lib.hid (plst_start (c := c) x0 x1 x2 x3 x4 x5 x6 hu hg)
  go_upto_region 4 with fail
  clear hu hg HF
  generalize w1.alloc (Obj.cells #[Value.slice A (fieldsOf x0).length c] 101) = W at *
  generalize w1.heap.size = ub at *
  generalize (fieldsOf x0).length = n at *
  obtain ⟨m0, m1, m2, m3, m4, m5, m6⟩ := HS.out.cells
  go_upto_region 5 with fail
  all_goals simp only [List.append_eq, List.cons_append, List.nil_append]
  all_goals go_wp2_with (go_at_call 50; refine (hasSt (Hid.out (by assumption)) _ _ _).mono ?_; rintro e w' ⟨r, rfl, hr, hs⟩; dsimp only at hr; (first | (obtain rfl := yes_A Z0.out hr) | (obtain rfl := yes_A Z1.out hr) | (obtain rfl := no_A K1.out K2.out (by assumption) hr) | (obtain rfl := no_B K2.out hr)); clear hr; (have HS2 := Lib.hid hs); clear hs; obtain ⟨m0, m1, m2, m3, m4, m5, m6⟩ := HS2.out.cells)
  all_goals
    go_ret
    exact ⟨rfl, PlSt.bel_of (ub := ub) (A := A) (c := c) (o := ⟨x0, x1, x2, x3, x4, x5, x6⟩) (by assumption)⟩
set_option maxHeartbeats 0 in
theorem plain_no3 (x0 x1 x2 x3 x4 x5 : Int) (x6 : ByteArray) (w : World) (hk1 : 1 ≤ x0) (hk2 : x0 ≤ 16) (g0 : 0 ≤ x1 ∧ x1 ≤ 255) (z0 : uses x0 0 = false → x1 = 0) (g1 : 0 ≤ x2 ∧ x2 ≤ 65535) (z1 : uses x0 1 = false → x2 = 0) (g2 : 0 ≤ x3 ∧ x3 ≤ 65535) (z2 : uses x0 2 = false → x3 = 0) (k1 : uses x0 3 = false) (k2 : ¬ x4 = 0) :
    Calls Tryd.prog 39 #[opVal ⟨x0, x1, x2, x3, x4, x5, x6⟩] w (BoolBelow false w) := by
  have HF := Lib.hid (fun W : World => fieldsFn x0 W hk1 hk2)
  have a0 := g0.1
  have b0 := g0.2
  have a1 := g1.1
  have b1 := g1.2
  have a2 := g2.1
  have b2 := g2.2
  have Z0 := Lib.hid z0
  have Z1 := Lib.hid z1
  have Z2 := Lib.hid z2
  have K1 := Lib.hid k1
  have K2 := Lib.hid k2
  clear z0 z1 z2 g0 g1 g2 k1 k2
  go_enter Tryd.func39, Tryd.ntmps39
  go_wp2_with fail
  refine (HF.out _).mono ?_
  rintro e w1 ⟨A, c, rfl, hu, hg⟩
  have HS := Lib.hid (plst_start (c := c) x0 x1 x2 x3 x4 x5 x6 hu hg)
  go_upto_region 4 with fail
  clear hu hg HF
  generalize w1.alloc (Obj.cells #[Value.slice A (fieldsOf x0).length c] 101) = W at *
  generalize w1.heap.size = ub at *
  generalize (fieldsOf x0).length = n at *
  obtain ⟨m0, m1, m2, m3, m4, m5, m6⟩ := HS.out.cells
  go_upto_region 5 with fail
  all_goals simp only [List.append_eq, List.cons_append, List.nil_append]
  all_goals go_wp2_with (go_at_call 50; refine (hasSt (Hid.out (by assumption)) _ _ _).mono ?_; rintro e w' ⟨r, rfl, hr, hs⟩; dsimp only at hr; (first | (obtain rfl := yes_A Z0.out hr) | (obtain rfl := yes_A Z1.out hr) | (obtain rfl := yes_A Z2.out hr) | (obtain rfl := no_C K1.out K2.out hr)); clear hr; (have HS2 := Lib.hid hs); clear hs; obtain ⟨m0, m1, m2, m3, m4, m5, m6⟩ := HS2.out.cells)
  all_goals
    go_ret
    exact ⟨rfl, PlSt.bel_of (ub := ub) (A := A) (c := c) (o := ⟨x0, x1, x2, x3, x4, x5, x6⟩) (by assumption)⟩
set_option maxHeartbeats 0 in
theorem plain_no4 (x0 x1 x2 x3 x4 x5 : Int) (x6 : ByteArray) (w : World) (hk1 : 1 ≤ x0) (hk2 : x0 ≤ 16) (g0 : 0 ≤ x1 ∧ x1 ≤ 255) (z0 : uses x0 0 = false → x1 = 0) (g1 : 0 ≤ x2 ∧ x2 ≤ 65535) (z1 : uses x0 1 = false → x2 = 0) (g2 : 0 ≤ x3 ∧ x3 ≤ 65535) (z2 : uses x0 2 = false → x3 = 0) (z3 : uses x0 3 = false → x4 = 0) (k1 : uses x0 4 = false) (k2 : ¬ x5 = 0) :
    Calls Tryd.prog 39 #[opVal ⟨x0, x1, x2, x3, x4, x5, x6⟩] w (BoolBelow false w) := by
  have HF := Lib.hid (fun W : World => fieldsFn x0 W hk1 hk2)
  have a0 := g0.1
  have b0 := g0.2
  have a1 := g1.1
  have b1 := g1.2
  have a2 := g2.1
  have b2 := g2.2
  have Z0 := Lib.hid z0
  have Z1 := Lib.hid z1
  have Z2 := Lib.hid z2
  have Z3 := Lib.hid z3
  have K1 := Lib.hid k1
  have K2 := Lib.hid k2
  clear z0 z1 z2 z3 g0 g1 g2 k1 k2
  go_enter Tryd.func39, Tryd.ntmps39
  go_wp2_with fail
  refine (HF.out _).mono ?_
  rintro e w1 ⟨A, c, rfl, hu, hg⟩
  have HS := Lib.hid (plst_start (c := c) x0 x1 x2 x3 x4 x5 x6 hu hg)
  go_upto_region 4 with fail
  clear hu hg HF
  generalize w1.alloc (Obj.cells #[Value.slice A (fieldsOf x0).length c] 101) = W at *
  generalize w1.heap.size = ub at *
  generalize (fieldsOf x0).length = n at *
  obtain ⟨m0, m1, m2, m3, m4, m5, m6⟩ := HS.out.cells
  go_upto_region 5 with fail
  all_goals simp only [List.append_eq, List.cons_append, List.nil_append]
  all_goals go_wp2_with (go_at_call 50; refine (hasSt (Hid.out (by assumption)) _ _ _).mono ?_; rintro e w' ⟨r, rfl, hr, hs⟩; dsimp only at hr; (first | (obtain rfl := yes_A Z0.out hr) | (obtain rfl := yes_A Z1.out hr) | (obtain rfl := yes_A Z2.out hr) | (obtain rfl := yes_A Z3.out hr) | (obtain rfl := no_C K1.out K2.out hr)); clear hr; (have HS2 := Lib.hid hs); clear hs; obtain ⟨m0, m1, m2, m3, m4, m5, m6⟩ := HS2.out.cells)
  all_goals
    go_ret
    exact ⟨rfl, PlSt.bel_of (ub := ub) (A := A) (c := c) (o := ⟨x0, x1, x2, x3, x4, x5, x6⟩) (by assumption)⟩
set_option maxHeartbeats 0 in
theorem plain_no5 (x0 x1 x2 x3 x4 x5 : Int) (x6 : ByteArray) (w : World) (hk1 : 1 ≤ x0) (hk2 : x0 ≤ 16) (g0 : 0 ≤ x1 ∧ x1 ≤ 255) (z0 : uses x0 0 = false → x1 = 0) (g1 : 0 ≤ x2 ∧ x2 ≤ 65535) (z1 : uses x0 1 = false → x2 = 0) (g2 : 0 ≤ x3 ∧ x3 ≤ 65535) (z2 : uses x0 2 = false → x3 = 0) (z3 : uses x0 3 = false → x4 = 0) (z4 : uses x0 4 = false → x5 = 0) (k1 : uses x0 5 = true → ¬ (x6.size ≤ 256)) (k2 : uses x0 5 = false → ¬ x6.size = 0) :
    Calls Tryd.prog 39 #[opVal ⟨x0, x1, x2, x3, x4, x5, x6⟩] w (BoolBelow false w) := by
  have HF := Lib.hid (fun W : World => fieldsFn x0 W hk1 hk2)
  have a0 := g0.1
  have b0 := g0.2
  have a1 := g1.1
  have b1 := g1.2
  have a2 := g2.1
  have b2 := g2.2
  have Z0 := Lib.hid z0
  have Z1 := Lib.hid z1
  have Z2 := Lib.hid z2
  have Z3 := Lib.hid z3
  have Z4 := Lib.hid z4
  have K1 := Lib.hid k1
  have K2 := Lib.hid k2
  clear z0 z1 z2 z3 z4 g0 g1 g2 k1 k2
  go_enter Tryd.func39, Tryd.ntmps39
  go_wp2_with fail
  refine (HF.out _).mono ?_
  rintro e w1 ⟨A, c, rfl, hu, hg⟩
  have HS := Lib.hid (plst_start (c := c) x0 x1 x2 x3 x4 x5 x6 hu hg)
  go_upto_region 4 with fail
  clear hu hg HF
  generalize w1.alloc (Obj.cells #[Value.slice A (fieldsOf x0).length c] 101) = W at *
  generalize w1.heap.size = ub at *
  generalize (fieldsOf x0).length = n at *
  obtain ⟨m0, m1, m2, m3, m4, m5, m6⟩ := HS.out.cells
  go_upto_region 5 with fail
  all_goals simp only [List.append_eq, List.cons_append, List.nil_append]
  all_goals go_wp2_with (go_at_call 50; refine (hasSt (Hid.out (by assumption)) _ _ _).mono ?_; rintro e w' ⟨r, rfl, hr, hs⟩; dsimp only at hr; (first | (obtain rfl := yes_A Z0.out hr) | (obtain rfl := yes_A Z1.out hr) | (obtain rfl := yes_A Z2.out hr) | (obtain rfl := yes_A Z3.out hr) | (obtain rfl := yes_A Z4.out hr) | (obtain rfl := no_T K1.out K2.out hr)); clear hr; (have HS2 := Lib.hid hs); clear hs; obtain ⟨m0, m1, m2, m3, m4, m5, m6⟩ := HS2.out.cells)
  all_goals
    go_ret
    exact ⟨rfl, PlSt.bel_of (ub := ub) (A := A) (c := c) (o := ⟨x0, x1, x2, x3, x4, x5, x6⟩) (by assumption)⟩
end Go.Proofs.YtcbhfhmpajamoaaDoor
