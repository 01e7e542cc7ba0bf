/- Merged texts: E8, E9, E10. -/
import Derived.Test.YtbjadgggpkbjmaaGreatGg
import Derived.Test.YtbjadgggpkbjmaaGreatGd
import Derived.Lib.AppendStr
namespace Go.Proofs.YtbjadgggpkbjmaaGreat
open Go.RowKit
open Runes (bs)

/-- An encoding that is being written: its variable in block ob, its bytes in a row of its own. -/
structure OutAt (W : World) (B ob : Nat) (v : Value) (xs : List Int) : Prop where
  cell : W.cell? ⟨ob, 0, none⟩ = some v
  el : ElemT W ob 66
  hB : B ≤ ob
  own : W.ownsRow B 5 1 v xs.length (xs.map (Value.int .u8))
/-- What may have been written: blocks of the two kinds of an encoding. -/
structure MildO (B : Nat) (W W' : World) : Prop where
  os : W'.os = W.os
  tape : W'.tape = W.tape
  out : W'.output = W.output
  size : W.heap.size ≤ W'.heap.size
  el : ∀ q t, ElemT W q t → t ≠ 66 → t ≠ 5 → W'.heap[q]? = W.heap[q]?
  low : ∀ q, q < B → q < W.heap.size → W'.heap[q]? = W.heap[q]?
theorem MildO.refl (B : Nat) (W : World) : MildO B W W := ⟨rfl, rfl, rfl, Nat.le_refl _, fun _ _ _ _ _ => rfl, fun _ _ _ => rfl⟩
theorem MildO.trans {B : Nat} {a b c : World} (h : MildO B a b) (k : MildO B b c) : MildO B a c :=
  ⟨k.os.trans h.os, k.tape.trans h.tape, k.out.trans h.out, Nat.le_trans h.size k.size, fun q t ht h6 h5 => (k.el q t (ht.keep (h.el q t ht h6 h5)) h6 h5).trans (h.el q t ht h6 h5), fun q hq hs => (k.low q hq (Nat.lt_of_lt_of_le hs h.size)).trans (h.low q hq hs)⟩
theorem MildO.drewN (B : Nat) (W : World) (k : Nat) : MildO B W (W.drewN k) := ⟨rfl, rfl, rfl, Nat.le_refl _, fun _ _ _ _ _ => rfl, fun _ _ _ => rfl⟩
theorem MildO.alloc (B : Nat) (W : World) (o : Obj) : MildO B W (W.alloc o) := ⟨rfl, rfl, rfl, by simp, fun q _ ht _ _ => Below.heap_alloc _ _ _ ht.lt, fun q _ hq => Below.heap_alloc _ _ _ hq⟩
theorem MildO.grown {B : Nat} {W W' : World} (hg : W.grownBy W' none) : MildO B W W' := ⟨hg.os, hg.tape, hg.output, hg.size, fun q _ ht _ _ => hg.block q ht.lt (by simp), fun q _ hq => hg.block q hq (by simp)⟩
theorem MildO.below {B : Nat} {w W W' : World} (h : Below B w W) (hm : MildO B W W') (hB : B ≤ W.heap.size) : Below B w W' :=
  h.trans ⟨hm.os, hm.tape, hm.out, hm.size, fun k hk => hm.low k hk (by omega)⟩
theorem out_pushed {W w1 : World} {B ob : Nat} {v v1 : Value} {xs ys : List Int} {O : Obj} (h : OutAt W B ob v xs)
    (hown : w1.ownsRow B 5 1 v1 (xs.length + ys.length) (xs.map (Value.int .u8) ++ ys.map (Value.int .u8))) (hg : (W.alloc O).grownBy w1 v.ownBlock) :
    w1.cell? ⟨ob, 0, none⟩ = some v ∧ w1.frozen? ⟨ob, 0, none⟩ = false ∧ OutAt (w1.setCell ⟨ob, 0, none⟩ v1) B ob v1 (xs ++ ys) ∧ MildO B W (w1.setCell ⟨ob, 0, none⟩ v1) := by
  have hola : ElemT (W.alloc O) ob 66 := h.el.keep (Below.heap_alloc _ _ _ h.el.lt)
  have hrow : ∀ {q : Nat}, v.ownBlock = some q → ElemT W q 5 := fun {q} e => own_elem h.own e
  have hk : w1.heap[ob]? = W.heap[ob]? := (hg.block ob hola.lt (fun e => absurd rfl ((hrow e.symm).ne h.el (by decide)))).trans (Below.heap_alloc _ _ _ h.el.lt)
  have ht1 : ElemT w1 ob 66 := h.el.keep hk
  have hg2 := set_grown w1 ob 0 v1
  refine ⟨(World.cell?_of_block (a := ⟨ob, 0, none⟩) hk).trans h.cell, ht1.frozen 0, ⟨set_cell_at _ ((World.cell?_of_block (a := ⟨ob, 0, none⟩) hk).trans h.cell), ht1.set _ _ rfl, h.hB, ?_⟩, ?_⟩
  · rw [List.length_append, List.map_append]
    refine hown.kept hg2 ?_
    by_cases e : v1.ownBlock = some ob
    · exact absurd rfl ((own_elem hown e).ne ht1 (by decide))
    · exact .inr e
  · have hsz : W.heap.size ≤ w1.heap.size := by have := hg.size; simp at this; omega
    refine ⟨hg.os, hg.tape, hg.output, by simpa using hsz, fun q t ht h6 h5 => ?_, fun q hq hs => ?_⟩
    · rw [Below.heap_setCell _ _ _ _ (ht.ne h.el h6), hg.block q (by have := ht.lt; simp; omega) (fun e => h5 (Classical.byContradiction fun hne => ht.ne (hrow e.symm) hne rfl)), Below.heap_alloc _ _ _ ht.lt]
    · have hr : ¬ some q = v.ownBlock := fun e => by have := (World.ownsRow.lt h.own q e.symm).1; omega
      rw [Below.heap_setCell _ _ _ _ (by have := h.hB; show q ≠ ob; omega), hg.block q (by simp; omega) hr, Below.heap_alloc _ _ _ hs]
theorem OutAt.drew {W : World} {B ob : Nat} {v : Value} {xs : List Int} (h : OutAt W B ob v xs) (k : Nat) : OutAt (W.drewN k) B ob v xs := ⟨h.cell, h.el.keep rfl, h.hB, h.own⟩
theorem u8_info : (Tryz.prog.info? 5).map (fun i => (i.zero, i.size, i.bytes)) = some (some (.int .u8 0), 1, 1) := by kernel_rfl
theorem one_u8 (x : Int) : ∀ u ∈ ([Value.int .u8 x] : List Value), u.oneCell' = true := by intro u hu; simp at hu; subst hu; rfl
def NumRes (B ob : Nat) (ys : List Int) (W : World) (e : Ending) (W' : World) : Prop := e = .returned (.tuple #[]) ∧ (∃ v', OutAt W' B ob v' ys) ∧ MildO B W W'

theorem wrap_u8 (y : Int) : IntKind.u8.wrap y = y % 256 := by
  show _ = _
  simp [IntKind.wrap, IntKind.bits, IntKind.signed]
theorem own_drew {W : World} {B : Nat} {e : TypeId} {sz n : Nat} {v : Value} {l : List Value} (h : W.ownsRow B e sz v n l) : W.drew.ownsRow B e sz v n l := h
theorem grown_undrew {W w1 : World} {r : Option Nat} (hg : W.drew.grownBy w1 r) : W.grownBy w1 r := ⟨hg.os, hg.tape, hg.output, hg.size, hg.block⟩
theorem news_u8 (W : World) (y : Int) : ∀ j u, ([Value.int .u8 y] : List Value)[j]? = some u → (W.alloc (.cells #[.int .u8 y] 5)).drew.cell? ((⟨W.heap.size, 0, none⟩ : Addr).add j) = some u := news_val W _ 5
set_option maxHeartbeats 0 in
set_option maxRecDepth 100000 in
theorem number1 (x : Int) (B ob : Nat) (v : Value) (xs : List Int) (W : World) (h : OutAt W B ob v xs) (hx0 : 0 ≤ x) (hx1 : x ≤ 18446744073709551615) (hl : xs.length ≤ 70000) :
    Calls Tryz.prog 19 #[.pointer (some ⟨ob, 0, none⟩), .int .u64 x, .int .i64 1] W (NumRes B ob (xs ++ num x 1) W) := by
  have hw0 : IntKind.i64.wrap 0 = 0 := by decide
  have hw1 : IntKind.i64.wrap 8 = 8 := by decide
  have hw2 : IntKind.i64.wrap 16 = 16 := by decide
  have hw3 : IntKind.i64.wrap 24 = 24 := by decide
  go_enter Tryz.func19, Tryz.ntmps19
  go_wp2_with fail
  go_loopw [6] (fun i wr => ∃ (m : Nat) (v' : Value), m ≤ 1 ∧ i = .int .i64 (0 - (m : Int)) ∧ Hid (OutAt wr B ob v' (xs ++ (num x 1).take m)) ∧ Hid (MildO B W wr)) (fun i _ => (intOf i + 1).toNat)
  case atStart => exact ⟨0, v, by omega, rfl, by show OutAt _ _ _ _ _; simpa using h, MildO.refl _ _⟩
  case round =>
    obtain ⟨m, v', hm, rfl, HO, HM⟩ := hrel
    have HL : Hid ((xs ++ (num x 1).take m).length = xs.length + m) := by show _ = _; simp [num_len]; omega
    obtain ⟨A, c, rfl⟩ := own_slice HO.out.own
    have n0 := HO.out.cell
    obtain ⟨i0, hi, hz0, hz1, hz2⟩ := info_parts u8_info
    have hB : B ≤ wr.heap.size := by have := HO.out.hB; have := HO.out.el.lt; omega
    rcases (show m = 0 ∨ m = 1 by omega) with rfl | rfl
    · rw [show (0 : Int) - ((0 : Nat) : Int) = 0 by decide]
      have HB : Hid ((num x 1).take 1 = (num x 1).take 0 ++ [IntKind.u8.wrap (x)]) := by
        show _ = _
        rw [wrap_u8, take_snoc 0 _ _ (by rw [num_len]; omega)]
        congr 1 <;> simp [num] <;> omega
      generalize hls : xs ++ (num x 1).take 0 = ys at *
      have HLS := Lib.hid hls
      clear hls
      generalize hyl : ys.length = n at *
      have HYL := Lib.hid hyl
      have hln : n ≤ 70004 := by have := HL.out; omega
      clear hyl
      have n0a : (wr.alloc (.cells #[.int .u8 (IntKind.u8.wrap (x))] 5)).cell? ⟨ob, 0, none⟩ = some (.slice A n c) := (World.cell?_alloc_past _ _ _ HO.out.el.lt).trans n0
      go_wp2_with fail
      go_region_law (refine step_append_lies _ rfl (.tmp 16) (.tmp 22) 66 rfl B 5 i0 (.int .u8 0) 1 1 Tryz.underlying66 hi hz0 hz1 hz2 rfl (by decide) (.slice A n c) n (ys.map (Value.int .u8)) (by simp [Act.eval, Act.put]) (own_drew (by have := HO.out.own; rw [HYL.out] at this; exact this.alloc _)) _ 1 1 [.int .u8 (IntKind.u8.wrap (x))] (by simp [Act.eval, Act.put]) rfl (news_u8 _ _) (one_u8 _) (by omega) (by unfold maxLen; omega) (by omega) (by simp; omega) _ rfl ?_; intro g cap w11 hown hgrow _ _; (obtain ⟨q1, q2, q3, q4⟩ := out_pushed (ys := [IntKind.u8.wrap (x)]) HO.out (by rw [HYL.out]; exact hown) (grown_undrew hgrow)); (have HA := Lib.hid q3); (have HB4 := Lib.hid (HM.out.trans q4)); clear q3 q4)
      all_goals
        go_wp2_with fail
        go_roundw
        case rel => exact ⟨1, _, by omega, by go_num, by rw [HB.out, ← List.append_assoc, HLS.out]; exact HA.out, HB4.out⟩
        case measure => simp [intOf]
    · have hneg : ((0 : Int) - ((1 : Nat) : Int)) = -1 := by decide
      rw [hneg]
      go_wp2_with fail
      go_end0
      exact ⟨rfl, ⟨_, by have := HO.out; rwa [List.take_of_length_le (by rw [num_len]; omega)] at this⟩, HM.out⟩
set_option maxHeartbeats 0 in
set_option maxRecDepth 100000 in
theorem number2 (x : Int) (B ob : Nat) (v : Value) (xs : List Int) (W : World) (h : OutAt W B ob v xs) (hx0 : 0 ≤ x) (hx1 : x ≤ 18446744073709551615) (hl : xs.length ≤ 70000) :
    Calls Tryz.prog 19 #[.pointer (some ⟨ob, 0, none⟩), .int .u64 x, .int .i64 2] W (NumRes B ob (xs ++ num x 2) W) := by
  have hw0 : IntKind.i64.wrap 0 = 0 := by decide
  have hw1 : IntKind.i64.wrap 8 = 8 := by decide
  have hw2 : IntKind.i64.wrap 16 = 16 := by decide
  have hw3 : IntKind.i64.wrap 24 = 24 := by decide
  go_enter Tryz.func19, Tryz.ntmps19
  go_wp2_with fail
  go_loopw [6] (fun i wr => ∃ (m : Nat) (v' : Value), m ≤ 2 ∧ i = .int .i64 (1 - (m : Int)) ∧ Hid (OutAt wr B ob v' (xs ++ (num x 2).take m)) ∧ Hid (MildO B W wr)) (fun i _ => (intOf i + 1).toNat)
  case atStart => exact ⟨0, v, by omega, rfl, by show OutAt _ _ _ _ _; simpa using h, MildO.refl _ _⟩
  case round =>
    obtain ⟨m, v', hm, rfl, HO, HM⟩ := hrel
    have HL : Hid ((xs ++ (num x 2).take m).length = xs.length + m) := by show _ = _; simp [num_len]; omega
    obtain ⟨A, c, rfl⟩ := own_slice HO.out.own
    have n0 := HO.out.cell
    obtain ⟨i0, hi, hz0, hz1, hz2⟩ := info_parts u8_info
    have hB : B ≤ wr.heap.size := by have := HO.out.hB; have := HO.out.el.lt; omega
    rcases (show m = 0 ∨ m = 1 ∨ m = 2 by omega) with rfl | rfl | rfl
    · rw [show (1 : Int) - ((0 : Nat) : Int) = 1 by decide]
      have HB : Hid ((num x 2).take 1 = (num x 2).take 0 ++ [IntKind.u8.wrap (x / 256)]) := by
        show _ = _
        rw [wrap_u8, take_snoc 0 _ _ (by rw [num_len]; omega)]
        congr 1 <;> simp [num] <;> omega
      generalize hls : xs ++ (num x 2).take 0 = ys at *
      have HLS := Lib.hid hls
      clear hls
      generalize hyl : ys.length = n at *
      have HYL := Lib.hid hyl
      have hln : n ≤ 70004 := by have := HL.out; omega
      clear hyl
      have n0a : (wr.alloc (.cells #[.int .u8 (IntKind.u8.wrap (x / 256))] 5)).cell? ⟨ob, 0, none⟩ = some (.slice A n c) := (World.cell?_alloc_past _ _ _ HO.out.el.lt).trans n0
      go_wp2_with fail
      go_region_law (refine step_append_lies _ rfl (.tmp 16) (.tmp 22) 66 rfl B 5 i0 (.int .u8 0) 1 1 Tryz.underlying66 hi hz0 hz1 hz2 rfl (by decide) (.slice A n c) n (ys.map (Value.int .u8)) (by simp [Act.eval, Act.put]) (own_drew (by have := HO.out.own; rw [HYL.out] at this; exact this.alloc _)) _ 1 1 [.int .u8 (IntKind.u8.wrap (x / 256))] (by simp [Act.eval, Act.put]) rfl (news_u8 _ _) (one_u8 _) (by omega) (by unfold maxLen; omega) (by omega) (by simp; omega) _ rfl ?_; intro g cap w11 hown hgrow _ _; (obtain ⟨q1, q2, q3, q4⟩ := out_pushed (ys := [IntKind.u8.wrap (x / 256)]) HO.out (by rw [HYL.out]; exact hown) (grown_undrew hgrow)); (have HA := Lib.hid q3); (have HB4 := Lib.hid (HM.out.trans q4)); clear q3 q4)
      all_goals
        go_wp2_with fail
        go_roundw
        case rel => exact ⟨1, _, by omega, by go_num, by rw [HB.out, ← List.append_assoc, HLS.out]; exact HA.out, HB4.out⟩
        case measure => simp [intOf]
    · rw [show (1 : Int) - ((1 : Nat) : Int) = 0 by decide]
      have HB : Hid ((num x 2).take 2 = (num x 2).take 1 ++ [IntKind.u8.wrap (x)]) := by
        show _ = _
        rw [wrap_u8, take_snoc 0 _ _ (by rw [num_len]; omega)]
        congr 1 <;> simp [num] <;> omega
      generalize hls : xs ++ (num x 2).take 1 = ys at *
      have HLS := Lib.hid hls
      clear hls
      generalize hyl : ys.length = n at *
      have HYL := Lib.hid hyl
      have hln : n ≤ 70004 := by have := HL.out; omega
      clear hyl
      have n0a : (wr.alloc (.cells #[.int .u8 (IntKind.u8.wrap (x))] 5)).cell? ⟨ob, 0, none⟩ = some (.slice A n c) := (World.cell?_alloc_past _ _ _ HO.out.el.lt).trans n0
      go_wp2_with fail
      go_region_law (refine step_append_lies _ rfl (.tmp 16) (.tmp 22) 66 rfl B 5 i0 (.int .u8 0) 1 1 Tryz.underlying66 hi hz0 hz1 hz2 rfl (by decide) (.slice A n c) n (ys.map (Value.int .u8)) (by simp [Act.eval, Act.put]) (own_drew (by have := HO.out.own; rw [HYL.out] at this; exact this.alloc _)) _ 1 1 [.int .u8 (IntKind.u8.wrap (x))] (by simp [Act.eval, Act.put]) rfl (news_u8 _ _) (one_u8 _) (by omega) (by unfold maxLen; omega) (by omega) (by simp; omega) _ rfl ?_; intro g cap w11 hown hgrow _ _; (obtain ⟨q1, q2, q3, q4⟩ := out_pushed (ys := [IntKind.u8.wrap (x)]) HO.out (by rw [HYL.out]; exact hown) (grown_undrew hgrow)); (have HA := Lib.hid q3); (have HB4 := Lib.hid (HM.out.trans q4)); clear q3 q4)
      all_goals
        go_wp2_with fail
        go_roundw
        case rel => exact ⟨2, _, by omega, by go_num, by rw [HB.out, ← List.append_assoc, HLS.out]; exact HA.out, HB4.out⟩
        case measure => simp [intOf]
    · have hneg : ((1 : Int) - ((2 : Nat) : Int)) = -1 := by decide
      rw [hneg]
      go_wp2_with fail
      go_end0
      exact ⟨rfl, ⟨_, by have := HO.out; rwa [List.take_of_length_le (by rw [num_len]; omega)] at this⟩, HM.out⟩
set_option maxHeartbeats 0 in
set_option maxRecDepth 100000 in
theorem number4 (x : Int) (B ob : Nat) (v : Value) (xs : List Int) (W : World) (h : OutAt W B ob v xs) (hx0 : 0 ≤ x) (hx1 : x ≤ 18446744073709551615) (hl : xs.length ≤ 70000) :
    Calls Tryz.prog 19 #[.pointer (some ⟨ob, 0, none⟩), .int .u64 x, .int .i64 4] W (NumRes B ob (xs ++ num x 4) W) := by
  have hw0 : IntKind.i64.wrap 0 = 0 := by decide
  have hw1 : IntKind.i64.wrap 8 = 8 := by decide
  have hw2 : IntKind.i64.wrap 16 = 16 := by decide
  have hw3 : IntKind.i64.wrap 24 = 24 := by decide
  go_enter Tryz.func19, Tryz.ntmps19
  go_wp2_with fail
  go_loopw [6] (fun i wr => ∃ (m : Nat) (v' : Value), m ≤ 4 ∧ i = .int .i64 (3 - (m : Int)) ∧ Hid (OutAt wr B ob v' (xs ++ (num x 4).take m)) ∧ Hid (MildO B W wr)) (fun i _ => (intOf i + 1).toNat)
  case atStart => exact ⟨0, v, by omega, rfl, by show OutAt _ _ _ _ _; simpa using h, MildO.refl _ _⟩
  case round =>
    obtain ⟨m, v', hm, rfl, HO, HM⟩ := hrel
    have HL : Hid ((xs ++ (num x 4).take m).length = xs.length + m) := by show _ = _; simp [num_len]; omega
    obtain ⟨A, c, rfl⟩ := own_slice HO.out.own
    have n0 := HO.out.cell
    obtain ⟨i0, hi, hz0, hz1, hz2⟩ := info_parts u8_info
    have hB : B ≤ wr.heap.size := by have := HO.out.hB; have := HO.out.el.lt; omega
    rcases (show m = 0 ∨ m = 1 ∨ m = 2 ∨ m = 3 ∨ m = 4 by omega) with rfl | rfl | rfl | rfl | rfl
    · rw [show (3 : Int) - ((0 : Nat) : Int) = 3 by decide]
      have HB : Hid ((num x 4).take 1 = (num x 4).take 0 ++ [IntKind.u8.wrap (x / 16777216)]) := by
        show _ = _
        rw [wrap_u8, take_snoc 0 _ _ (by rw [num_len]; omega)]
        congr 1 <;> simp [num] <;> omega
      generalize hls : xs ++ (num x 4).take 0 = ys at *
      have HLS := Lib.hid hls
      clear hls
      generalize hyl : ys.length = n at *
      have HYL := Lib.hid hyl
      have hln : n ≤ 70004 := by have := HL.out; omega
      clear hyl
      have n0a : (wr.alloc (.cells #[.int .u8 (IntKind.u8.wrap (x / 16777216))] 5)).cell? ⟨ob, 0, none⟩ = some (.slice A n c) := (World.cell?_alloc_past _ _ _ HO.out.el.lt).trans n0
      go_wp2_with fail
      go_region_law (refine step_append_lies _ rfl (.tmp 16) (.tmp 22) 66 rfl B 5 i0 (.int .u8 0) 1 1 Tryz.underlying66 hi hz0 hz1 hz2 rfl (by decide) (.slice A n c) n (ys.map (Value.int .u8)) (by simp [Act.eval, Act.put]) (own_drew (by have := HO.out.own; rw [HYL.out] at this; exact this.alloc _)) _ 1 1 [.int .u8 (IntKind.u8.wrap (x / 16777216))] (by simp [Act.eval, Act.put]) rfl (news_u8 _ _) (one_u8 _) (by omega) (by unfold maxLen; omega) (by omega) (by simp; omega) _ rfl ?_; intro g cap w11 hown hgrow _ _; (obtain ⟨q1, q2, q3, q4⟩ := out_pushed (ys := [IntKind.u8.wrap (x / 16777216)]) HO.out (by rw [HYL.out]; exact hown) (grown_undrew hgrow)); (have HA := Lib.hid q3); (have HB4 := Lib.hid (HM.out.trans q4)); clear q3 q4)
      all_goals
        go_wp2_with fail
        go_roundw
        case rel => exact ⟨1, _, by omega, by go_num, by rw [HB.out, ← List.append_assoc, HLS.out]; exact HA.out, HB4.out⟩
        case measure => simp [intOf]
    · rw [show (3 : Int) - ((1 : Nat) : Int) = 2 by decide]
      have HB : Hid ((num x 4).take 2 = (num x 4).take 1 ++ [IntKind.u8.wrap (x / 65536)]) := by
        show _ = _
        rw [wrap_u8, take_snoc 0 _ _ (by rw [num_len]; omega)]
        congr 1 <;> simp [num] <;> omega
      generalize hls : xs ++ (num x 4).take 1 = ys at *
      have HLS := Lib.hid hls
      clear hls
      generalize hyl : ys.length = n at *
      have HYL := Lib.hid hyl
      have hln : n ≤ 70004 := by have := HL.out; omega
      clear hyl
      have n0a : (wr.alloc (.cells #[.int .u8 (IntKind.u8.wrap (x / 65536))] 5)).cell? ⟨ob, 0, none⟩ = some (.slice A n c) := (World.cell?_alloc_past _ _ _ HO.out.el.lt).trans n0
      go_wp2_with fail
      go_region_law (refine step_append_lies _ rfl (.tmp 16) (.tmp 22) 66 rfl B 5 i0 (.int .u8 0) 1 1 Tryz.underlying66 hi hz0 hz1 hz2 rfl (by decide) (.slice A n c) n (ys.map (Value.int .u8)) (by simp [Act.eval, Act.put]) (own_drew (by have := HO.out.own; rw [HYL.out] at this; exact this.alloc _)) _ 1 1 [.int .u8 (IntKind.u8.wrap (x / 65536))] (by simp [Act.eval, Act.put]) rfl (news_u8 _ _) (one_u8 _) (by omega) (by unfold maxLen; omega) (by omega) (by simp; omega) _ rfl ?_; intro g cap w11 hown hgrow _ _; (obtain ⟨q1, q2, q3, q4⟩ := out_pushed (ys := [IntKind.u8.wrap (x / 65536)]) HO.out (by rw [HYL.out]; exact hown) (grown_undrew hgrow)); (have HA := Lib.hid q3); (have HB4 := Lib.hid (HM.out.trans q4)); clear q3 q4)
      all_goals
        go_wp2_with fail
        go_roundw
        case rel => exact ⟨2, _, by omega, by go_num, by rw [HB.out, ← List.append_assoc, HLS.out]; exact HA.out, HB4.out⟩
        case measure => simp [intOf]
    · rw [show (3 : Int) - ((2 : Nat) : Int) = 1 by decide]
      have HB : Hid ((num x 4).take 3 = (num x 4).take 2 ++ [IntKind.u8.wrap (x / 256)]) := by
        show _ = _
        rw [wrap_u8, take_snoc 0 _ _ (by rw [num_len]; omega)]
        congr 1 <;> simp [num] <;> omega
      generalize hls : xs ++ (num x 4).take 2 = ys at *
      have HLS := Lib.hid hls
      clear hls
      generalize hyl : ys.length = n at *
      have HYL := Lib.hid hyl
      have hln : n ≤ 70004 := by have := HL.out; omega
      clear hyl
      have n0a : (wr.alloc (.cells #[.int .u8 (IntKind.u8.wrap (x / 256))] 5)).cell? ⟨ob, 0, none⟩ = some (.slice A n c) := (World.cell?_alloc_past _ _ _ HO.out.el.lt).trans n0
      go_wp2_with fail
      go_region_law (refine step_append_lies _ rfl (.tmp 16) (.tmp 22) 66 rfl B 5 i0 (.int .u8 0) 1 1 Tryz.underlying66 hi hz0 hz1 hz2 rfl (by decide) (.slice A n c) n (ys.map (Value.int .u8)) (by simp [Act.eval, Act.put]) (own_drew (by have := HO.out.own; rw [HYL.out] at this; exact this.alloc _)) _ 1 1 [.int .u8 (IntKind.u8.wrap (x / 256))] (by simp [Act.eval, Act.put]) rfl (news_u8 _ _) (one_u8 _) (by omega) (by unfold maxLen; omega) (by omega) (by simp; omega) _ rfl ?_; intro g cap w11 hown hgrow _ _; (obtain ⟨q1, q2, q3, q4⟩ := out_pushed (ys := [IntKind.u8.wrap (x / 256)]) HO.out (by rw [HYL.out]; exact hown) (grown_undrew hgrow)); (have HA := Lib.hid q3); (have HB4 := Lib.hid (HM.out.trans q4)); clear q3 q4)
      all_goals
        go_wp2_with fail
        go_roundw
        case rel => exact ⟨3, _, by omega, by go_num, by rw [HB.out, ← List.append_assoc, HLS.out]; exact HA.out, HB4.out⟩
        case measure => simp [intOf]
    · rw [show (3 : Int) - ((3 : Nat) : Int) = 0 by decide]
      have HB : Hid ((num x 4).take 4 = (num x 4).take 3 ++ [IntKind.u8.wrap (x)]) := by
        show _ = _
        rw [wrap_u8, take_snoc 0 _ _ (by rw [num_len]; omega)]
        congr 1 <;> simp [num] <;> omega
      generalize hls : xs ++ (num x 4).take 3 = ys at *
      have HLS := Lib.hid hls
      clear hls
      generalize hyl : ys.length = n at *
      have HYL := Lib.hid hyl
      have hln : n ≤ 70004 := by have := HL.out; omega
      clear hyl
      have n0a : (wr.alloc (.cells #[.int .u8 (IntKind.u8.wrap (x))] 5)).cell? ⟨ob, 0, none⟩ = some (.slice A n c) := (World.cell?_alloc_past _ _ _ HO.out.el.lt).trans n0
      go_wp2_with fail
      go_region_law (refine step_append_lies _ rfl (.tmp 16) (.tmp 22) 66 rfl B 5 i0 (.int .u8 0) 1 1 Tryz.underlying66 hi hz0 hz1 hz2 rfl (by decide) (.slice A n c) n (ys.map (Value.int .u8)) (by simp [Act.eval, Act.put]) (own_drew (by have := HO.out.own; rw [HYL.out] at this; exact this.alloc _)) _ 1 1 [.int .u8 (IntKind.u8.wrap (x))] (by simp [Act.eval, Act.put]) rfl (news_u8 _ _) (one_u8 _) (by omega) (by unfold maxLen; omega) (by omega) (by simp; omega) _ rfl ?_; intro g cap w11 hown hgrow _ _; (obtain ⟨q1, q2, q3, q4⟩ := out_pushed (ys := [IntKind.u8.wrap (x)]) HO.out (by rw [HYL.out]; exact hown) (grown_undrew hgrow)); (have HA := Lib.hid q3); (have HB4 := Lib.hid (HM.out.trans q4)); clear q3 q4)
      all_goals
        go_wp2_with fail
        go_roundw
        case rel => exact ⟨4, _, by omega, by go_num, by rw [HB.out, ← List.append_assoc, HLS.out]; exact HA.out, HB4.out⟩
        case measure => simp [intOf]
    · have hneg : ((3 : Int) - ((4 : Nat) : Int)) = -1 := by decide
      rw [hneg]
      go_wp2_with fail
      go_end0
      exact ⟨rfl, ⟨_, by have := HO.out; rwa [List.take_of_length_le (by rw [num_len]; omega)] at this⟩, HM.out⟩
end Go.Proofs.YtbjadgggpkbjmaaGreat
namespace Go.Proofs.YtbjadgggpkbjmaaGreat
open Go.RowKit
open Runes (bs bt)

theorem strCells_eq (t : ByteArray) : Lib.strCells t = (bytesL t).map (Value.int .u8) := by
  apply List.ext_getElem
  · rw [Lib.strCells_length, List.length_map, bytesL_len]
  · intro i h1 h2
    have hi : i < t.size := by rw [Lib.strCells_length] at h1; exact h1
    simp [Lib.strCells, bytesL, Runes.bt_lt hi]
    rfl
theorem out_pushed0 {W w1 : World} {B ob : Nat} {v v1 : Value} {xs ys : List Int} (h : OutAt W B ob v xs)
    (hown : w1.ownsRow B 5 1 v1 (xs.length + ys.length) (xs.map (Value.int .u8) ++ ys.map (Value.int .u8))) (hg : W.grownBy w1 v.ownBlock) :
    w1.cell? ⟨ob, 0, none⟩ = some v ∧ w1.frozen? ⟨ob, 0, none⟩ = false ∧ OutAt (w1.setCell ⟨ob, 0, none⟩ v1) B ob v1 (xs ++ ys) ∧ MildO B W (w1.setCell ⟨ob, 0, none⟩ v1) := by
  have hrow : ∀ {q : Nat}, v.ownBlock = some q → ElemT W q 5 := fun {q} e => own_elem h.own e
  have hk : w1.heap[ob]? = W.heap[ob]? := (hg.block ob h.el.lt (fun e => absurd rfl ((hrow e.symm).ne h.el (by decide))))
  have ht1 : ElemT w1 ob 66 := h.el.keep hk
  have hg2 := set_grown w1 ob 0 v1
  refine ⟨(World.cell?_of_block (a := ⟨ob, 0, none⟩) hk).trans h.cell, ht1.frozen 0, ⟨set_cell_at _ ((World.cell?_of_block (a := ⟨ob, 0, none⟩) hk).trans h.cell), ht1.set _ _ rfl, h.hB, ?_⟩, ?_⟩
  · rw [List.length_append, List.map_append]
    refine hown.kept hg2 ?_
    by_cases e : v1.ownBlock = some ob
    · exact absurd rfl ((own_elem hown e).ne ht1 (by decide))
    · exact .inr e
  · have hsz : W.heap.size ≤ w1.heap.size := hg.size
    refine ⟨hg.os, hg.tape, hg.output, by simpa using hsz, fun q t ht h6 h5 => ?_, fun q hq hs => ?_⟩
    · rw [Below.heap_setCell _ _ _ _ (ht.ne h.el h6), hg.block q ht.lt (fun e => h5 (Classical.byContradiction fun hne => ht.ne (hrow e.symm) hne rfl))]
    · have hr : ¬ some q = v.ownBlock := fun e => by have := (World.ownsRow.lt h.own q e.symm).1; omega
      rw [Below.heap_setCell _ _ _ _ (by have := h.hB; show q ≠ ob; omega), hg.block q hs hr]

set_option maxHeartbeats 0 in
set_option maxRecDepth 100000 in
theorem stringFn (t : ByteArray) (B ob : Nat) (v : Value) (xs : List Int) (W : World) (h : OutAt W B ob v xs) (ht : t.size ≤ 65536) (hl : xs.length ≤ 70000) :
    Calls Tryz.prog 20 #[.pointer (some ⟨ob, 0, none⟩), .string t] W (NumRes B ob (xs ++ encText t) W) := by
  have HN := Lib.hid (number2 t.size B ob v xs W h (by omega) (by omega) hl)
  clear h
  go_enter Tryz.func20, Tryz.ntmps20
  go_wp2_with fail
  refine HN.out.mono ?_
  rintro e w1 ⟨rfl, ⟨v1, h1⟩, hm1⟩
  have H1 := Lib.hid h1
  have HM1 := Lib.hid hm1
  clear h1 hm1 HN
  obtain ⟨A, c, rfl⟩ := own_slice H1.out.own
  have n0 := H1.out.cell
  obtain ⟨i0, hi, hz0, hz1, hz2⟩ := info_parts u8_info
  have hB : B ≤ w1.heap.size := by have := H1.out.hB; have := H1.out.el.lt; omega
  have HL : Hid ((xs ++ num t.size 2).length = xs.length + 2) := by show _ = _; simp [num_len]
  generalize hls : xs ++ num t.size 2 = ys at *
  have HLS := Lib.hid hls
  clear hls
  generalize hyl : ys.length = n at *
  have HYL := Lib.hid hyl
  have hln : n ≤ 70002 := by have := HL.out; omega
  clear hyl
  go_wp2_with (at_builtin; refine Lib.wpList_append_own_string _ rfl _ _ 66 9 rfl B 5 i0 Tryz.underlying66 Tryz.underlying9 hi hz0 hz1 hz2 (.slice A n c) n (ys.map (Value.int .u8)) rfl (by have := H1.out.own; rw [HYL.out] at this; exact this) t rfl (by unfold maxLen; omega) (by omega) hB ?_; intro v' w' hown hgrow _; (obtain ⟨A', c', rfl⟩ := own_slice hown); (obtain ⟨q1, q2, q3, q4⟩ := out_pushed0 (ys := bytesL t) H1.out (by rw [HYL.out, bytesL_len, ← strCells_eq]; exact hown) hgrow); (have HA := Lib.hid q3); (have HB4 := Lib.hid (HM1.out.trans q4)); clear q3 q4)
  go_end0
  have hA := HA.out
  rw [← HLS.out, List.append_assoc] at hA
  exact ⟨rfl, ⟨_, hA⟩, HB4.out⟩
theorem u64w (x : Int) (h0 : 0 ≤ x) (h1 : x ≤ 18446744073709551615) : IntKind.u64.wrap x = x := by
  simp [IntKind.wrap, IntKind.bits, IntKind.signed]; omega
/-- Writing an operation: its box, its fields, the encoding. -/
structure WrSt (W0 wr : World) (B ob opb : Nat) (v : Value) (ys : List Int) (o : OpV) (A : Option Addr) : Prop where
  out : OutAt wr B ob v ys
  op : OpAt wr opb 0 o
  ope : ElemT wr opb 40
  u8 : U8s wr A (fieldsOf o.kind)
  mild : MildO B W0 wr
theorem WrSt.next {W0 wr w' : World} {B ob opb : Nat} {v v' : Value} {ys zs : List Int} {o : OpV} {A : Option Addr} (h : WrSt W0 wr B ob opb v ys o A) (ho : OutAt w' B ob v' zs) (hm : MildO B wr w') : WrSt W0 w' B ob opb v' zs o A :=
  ⟨ho, h.op.keep (hm.el opb 40 h.ope (by decide) (by decide)), h.ope.keep (hm.el opb 40 h.ope (by decide) (by decide)), u8s_keep h.u8 fun q hq => hm.el q 60 hq (by decide) (by decide), h.mild.trans hm⟩
theorem WrSt.cells {W0 wr : World} {B ob opb : Nat} {v : Value} {ys : List Int} {x0 x1 x2 x3 x4 x5 : Int} {x6 : ByteArray} {A : Option Addr} (h : WrSt W0 wr B ob opb v ys ⟨x0, x1, x2, x3, x4, x5, x6⟩ A) :
    wr.cell? ⟨opb, 0, none⟩ = some (.int .u8 x0) ∧ wr.cell? ⟨opb, 1, none⟩ = some (.int .i64 x1) ∧ wr.cell? ⟨opb, 2, none⟩ = some (.int .i64 x2) ∧ wr.cell? ⟨opb, 3, none⟩ = some (.int .i64 x3) ∧
      wr.cell? ⟨opb, 4, none⟩ = some (.int .u32 x4) ∧ wr.cell? ⟨opb, 5, none⟩ = some (.int .u8 x5) ∧ wr.cell? ⟨opb, 6, none⟩ = some (.string x6) := by
  obtain ⟨m0, m1, m2, m3, m4, m5, m6⟩ := h.op
  simp only [Nat.zero_add] at m1 m2 m3 m4 m5 m6
  exact ⟨m0, m1, m2, m3, m4, m5, m6⟩
theorem encFs_take2 (o : OpV) (fs : List Int) (k : Nat) (hk : k < fs.length) : encFs o (fs.take (k + 1)) = encFs o (fs.take k) ++ encF o (fs.getD k 0) := by
  rw [take_snoc 0 fs k hk, encFs_snoc]

set_option maxHeartbeats 0 in
set_option maxRecDepth 100000 in
theorem opFn (o : OpV) (B ob : Nat) (v : Value) (xs : List Int) (W : World) (h : OutAt W B ob v xs) (hp : PlainOp o) (ht : OpTy o) (hl : xs.length ≤ 66000) :
    Calls Tryz.prog 21 #[.pointer (some ⟨ob, 0, none⟩), opVal o] W (NumRes B ob (xs ++ encOp o) W) := by
  have hk1 := hp.kind.1
  have hk2 := hp.kind.2
  have s0 := hp.slot.1
  have s1 := hp.slot.2
  have p0 := hp.pos.1
  have p1 := hp.pos.2
  have n0 := hp.num.1
  have n1 := hp.num.2
  have i0 := ht.id.1
  have i1 := ht.id.2
  have g0 := ht.grav.1
  have g1 := ht.grav.2
  have t1 := hp.text
  have HF := Lib.hid (fun W : World => fieldsFn o.kind W hk1 hk2)
  have HFL := Lib.hid (encFs_take_le t1 (fieldsOf o.kind))
  have HFT := Lib.hid (encFs_take2 o (fieldsOf o.kind))
  have HFB := Lib.hid (fields_bd2 o.kind)
  have hf3 := (fieldsOf_bd o.kind).1
  obtain ⟨x0, x1, x2, x3, x4, x5, x6⟩ := o
  dsimp only at hk1 hk2 s0 s1 p0 p1 n0 n1 i0 i1 g0 g1 t1 HF HFB hf3 HFT HFL
  clear hp ht
  have HOB := Lib.hid (opBox_new W x0 x1 x2 x3 x4 x5 x6)
  have HOE : Hid (ElemT (W.alloc (.cells #[.int .u8 x0, .int .i64 x1, .int .i64 x2, .int .i64 x3, .int .u32 x4, .int .u8 x5, .string x6] 40)) W.heap.size 40) := ⟨_, heap_alloc_new _ _⟩
  have HMA := Lib.hid (MildO.alloc B W (.cells #[.int .u8 x0, .int .i64 x1, .int .i64 x2, .int .i64 x3, .int .u32 x4, .int .u8 x5, .string x6] 40))
  have HOA : Hid (OutAt (W.alloc (.cells #[.int .u8 x0, .int .i64 x1, .int .i64 x2, .int .i64 x3, .int .u32 x4, .int .u8 x5, .string x6] 40)) B ob v xs) :=
    ⟨(World.cell?_alloc_past _ _ _ h.el.lt).trans h.cell, h.el.keep (Below.heap_alloc _ _ _ h.el.lt), h.hB, h.own.alloc _⟩
  have HN := Lib.hid (number1 x0 B ob v xs _ HOA.out (by omega) (by omega) (by omega))
  clear h
  have c0 := HOB.out.c0
  go_enter Tryz.func21, Tryz.ntmps21
  go_wp2_with fail
  refine HN.out.mono ?_
  rintro e w1 ⟨rfl, ⟨v1, h1⟩, hm1⟩
  have HO1 := Lib.hid (HOB.out.keep (hm1.el _ 40 HOE.out (by decide) (by decide)))
  have HE1 := Lib.hid (HOE.out.keep (hm1.el _ 40 HOE.out (by decide) (by decide)))
  have HM1 := Lib.hid (HMA.out.trans hm1)
  have H1 := Lib.hid h1
  clear h1 hm1 HN HOA HMA HOE HOB c0
  have c0 := HO1.out.c0
  go_wp2_with fail
  refine (HF.out _).mono ?_
  rintro e w2 ⟨A, c, rfl, hu, hg⟩
  have hmg := MildO.grown (B := B) hg
  have HS : Hid (WrSt W w2 B ob W.heap.size v1 (xs ++ num x0 1) ⟨x0, x1, x2, x3, x4, x5, x6⟩ A) := by
    have hr : v1.ownBlock = none ∨ v1.ownBlock ≠ none := by by_cases e : v1.ownBlock = none <;> simp [e]
    refine ⟨⟨(World.cell?_of_block (a := ⟨ob, 0, none⟩) (hg.block ob H1.out.el.lt (by simp))).trans H1.out.cell, H1.out.el.keep (hg.block ob H1.out.el.lt (by simp)), H1.out.hB, H1.out.own.kept hg ?_⟩, HO1.out.grown hg, HE1.out.keep (hg.block _ HE1.out.lt (by simp)), hu, HM1.out.trans hmg⟩
    rcases hr with e | e
    · exact .inl e
    · exact .inr e
  clear hu hg hmg c0 H1 HM1 HO1 HE1 HF
  generalize W.heap.size = opb at *
  generalize hfl : (fieldsOf x0).length = nf at *
  have HFN := Lib.hid hfl
  clear hfl
  go_wp2_with fail
  go_loopw [15] (fun i wr => ∃ (q : Nat) (v' : Value), q ≤ nf ∧ i = .int .i64 q ∧ Hid (WrSt W wr B ob opb v' (xs ++ num x0 1 ++ encFs ⟨x0, x1, x2, x3, x4, x5, x6⟩ ((fieldsOf x0).take q)) ⟨x0, x1, x2, x3, x4, x5, x6⟩ A)) (fun i _ => nf - (intOf i).toNat)
  case atStart => exact ⟨0, v1, Nat.zero_le _, rfl, by show WrSt _ _ _ _ _ _ _ _ _; simpa [encFs] using HS.out⟩
  case round =>
    obtain ⟨q, v', hq, rfl, HQ⟩ := hrel
    clear HS
    by_cases hqn : q < nf
    · obtain ⟨bu, ou, rfl, _, hcu⟩ := HQ.out.u8 (by dsimp only; rw [HFN.out]; omega)
      have hfq := hcu q (by dsimp only; rw [HFN.out]; exact hqn)
      clear hcu
      have HTQ := Lib.hid (HFT.out q (by first | exact hqn | (rw [HFN.out]; exact hqn)))
      have hin := HFB.out q (by first | exact hqn | (rw [HFN.out]; exact hqn))
      have hlq : (xs ++ num x0 1 ++ encFs ⟨x0, x1, x2, x3, x4, x5, x6⟩ ((fieldsOf x0).take q)).length ≤ 70000 := by
        have := HFL.out q
        simp only [List.length_append, num_len]
        omega
      generalize (fieldsOf x0).getD q 0 = f at *
      have hqi : (q : Int) < (nf : Int) := by omega
      obtain ⟨m0, m1, m2, m3, m4, m5, m6⟩ := HQ.out.cells
      rcases hin with rfl | rfl | rfl | rfl | rfl | rfl
      · have HNN := Lib.hid (number1 x1 B ob v' _ wr HQ.out.out (by omega) (by omega) hlq)
        have HE : Hid (xs ++ num x0 1 ++ encFs ⟨x0, x1, x2, x3, x4, x5, x6⟩ ((fieldsOf x0).take (q + 1)) = xs ++ num x0 1 ++ encFs ⟨x0, x1, x2, x3, x4, x5, x6⟩ ((fieldsOf x0).take q) ++ num x1 1) := by
          show _ = _; rw [HTQ.out, ← List.append_assoc]; rfl
        clear HTQ
        generalize hYS : xs ++ num x0 1 ++ encFs ⟨x0, x1, x2, x3, x4, x5, x6⟩ ((fieldsOf x0).take q) = ys at *
        clear hYS
        go_wp2_with fail
        refine HNN.out.mono ?_
        rintro e w3 ⟨rfl, ⟨v3, h3⟩, hm3⟩
        have HQ2 := Lib.hid (HQ.out.next h3 hm3)
        clear h3 hm3 HNN m0 m1 m2 m3 m4 m5 m6 hfq
        go_wp2_with fail
        go_roundw
        case rel => exact ⟨q + 1, _, by omega, by go_num, by rw [HE.out]; exact HQ2.out⟩
        case measure => simp [intOf]; omega
      · have HNN := Lib.hid (number2 x2 B ob v' _ wr HQ.out.out (by omega) (by omega) hlq)
        have HE : Hid (xs ++ num x0 1 ++ encFs ⟨x0, x1, x2, x3, x4, x5, x6⟩ ((fieldsOf x0).take (q + 1)) = xs ++ num x0 1 ++ encFs ⟨x0, x1, x2, x3, x4, x5, x6⟩ ((fieldsOf x0).take q) ++ num x2 2) := by
          show _ = _; rw [HTQ.out, ← List.append_assoc]; rfl
        clear HTQ
        generalize hYS : xs ++ num x0 1 ++ encFs ⟨x0, x1, x2, x3, x4, x5, x6⟩ ((fieldsOf x0).take q) = ys at *
        clear hYS
        go_wp2_with fail
        refine HNN.out.mono ?_
        rintro e w3 ⟨rfl, ⟨v3, h3⟩, hm3⟩
        have HQ2 := Lib.hid (HQ.out.next h3 hm3)
        clear h3 hm3 HNN m0 m1 m2 m3 m4 m5 m6 hfq
        go_wp2_with fail
        go_roundw
        case rel => exact ⟨q + 1, _, by omega, by go_num, by rw [HE.out]; exact HQ2.out⟩
        case measure => simp [intOf]; omega
      · have HNN := Lib.hid (number2 x3 B ob v' _ wr HQ.out.out (by omega) (by omega) hlq)
        have HE : Hid (xs ++ num x0 1 ++ encFs ⟨x0, x1, x2, x3, x4, x5, x6⟩ ((fieldsOf x0).take (q + 1)) = xs ++ num x0 1 ++ encFs ⟨x0, x1, x2, x3, x4, x5, x6⟩ ((fieldsOf x0).take q) ++ num x3 2) := by
          show _ = _; rw [HTQ.out, ← List.append_assoc]; rfl
        clear HTQ
        generalize hYS : xs ++ num x0 1 ++ encFs ⟨x0, x1, x2, x3, x4, x5, x6⟩ ((fieldsOf x0).take q) = ys at *
        clear hYS
        go_wp2_with fail
        refine HNN.out.mono ?_
        rintro e w3 ⟨rfl, ⟨v3, h3⟩, hm3⟩
        have HQ2 := Lib.hid (HQ.out.next h3 hm3)
        clear h3 hm3 HNN m0 m1 m2 m3 m4 m5 m6 hfq
        go_wp2_with fail
        go_roundw
        case rel => exact ⟨q + 1, _, by omega, by go_num, by rw [HE.out]; exact HQ2.out⟩
        case measure => simp [intOf]; omega
      · have HNN := Lib.hid (number4 x4 B ob v' _ wr HQ.out.out (by omega) (by omega) hlq)
        have HE : Hid (xs ++ num x0 1 ++ encFs ⟨x0, x1, x2, x3, x4, x5, x6⟩ ((fieldsOf x0).take (q + 1)) = xs ++ num x0 1 ++ encFs ⟨x0, x1, x2, x3, x4, x5, x6⟩ ((fieldsOf x0).take q) ++ num x4 4) := by
          show _ = _; rw [HTQ.out, ← List.append_assoc]; rfl
        clear HTQ
        generalize hYS : xs ++ num x0 1 ++ encFs ⟨x0, x1, x2, x3, x4, x5, x6⟩ ((fieldsOf x0).take q) = ys at *
        clear hYS
        go_wp2_with fail
        refine HNN.out.mono ?_
        rintro e w3 ⟨rfl, ⟨v3, h3⟩, hm3⟩
        have HQ2 := Lib.hid (HQ.out.next h3 hm3)
        clear h3 hm3 HNN m0 m1 m2 m3 m4 m5 m6 hfq
        go_wp2_with fail
        go_roundw
        case rel => exact ⟨q + 1, _, by omega, by go_num, by rw [HE.out]; exact HQ2.out⟩
        case measure => simp [intOf]; omega
      · have HNN := Lib.hid (number1 x5 B ob v' _ wr HQ.out.out (by omega) (by omega) hlq)
        have HE : Hid (xs ++ num x0 1 ++ encFs ⟨x0, x1, x2, x3, x4, x5, x6⟩ ((fieldsOf x0).take (q + 1)) = xs ++ num x0 1 ++ encFs ⟨x0, x1, x2, x3, x4, x5, x6⟩ ((fieldsOf x0).take q) ++ num x5 1) := by
          show _ = _; rw [HTQ.out, ← List.append_assoc]; rfl
        clear HTQ
        generalize hYS : xs ++ num x0 1 ++ encFs ⟨x0, x1, x2, x3, x4, x5, x6⟩ ((fieldsOf x0).take q) = ys at *
        clear hYS
        go_wp2_with fail
        refine HNN.out.mono ?_
        rintro e w3 ⟨rfl, ⟨v3, h3⟩, hm3⟩
        have HQ2 := Lib.hid (HQ.out.next h3 hm3)
        clear h3 hm3 HNN m0 m1 m2 m3 m4 m5 m6 hfq
        go_wp2_with fail
        go_roundw
        case rel => exact ⟨q + 1, _, by omega, by go_num, by rw [HE.out]; exact HQ2.out⟩
        case measure => simp [intOf]; omega
      · have HNN := Lib.hid (stringFn x6 B ob v' _ wr HQ.out.out (by omega) hlq)
        have HE : Hid (xs ++ num x0 1 ++ encFs ⟨x0, x1, x2, x3, x4, x5, x6⟩ ((fieldsOf x0).take (q + 1)) = xs ++ num x0 1 ++ encFs ⟨x0, x1, x2, x3, x4, x5, x6⟩ ((fieldsOf x0).take q) ++ encText x6) := by
          show _ = _; rw [HTQ.out, ← List.append_assoc]; rfl
        clear HTQ
        generalize hYS : xs ++ num x0 1 ++ encFs ⟨x0, x1, x2, x3, x4, x5, x6⟩ ((fieldsOf x0).take q) = ys at *
        clear hYS
        go_wp2_with fail
        refine HNN.out.mono ?_
        rintro e w3 ⟨rfl, ⟨v3, h3⟩, hm3⟩
        have HQ2 := Lib.hid (HQ.out.next h3 hm3)
        clear h3 hm3 HNN m0 m1 m2 m3 m4 m5 m6 hfq
        go_wp2_with fail
        go_roundw
        case rel => exact ⟨q + 1, _, by omega, by go_num, by rw [HE.out]; exact HQ2.out⟩
        case measure => simp [intOf]; omega
    · obtain rfl : q = nf := by omega
      go_wp2_with fail
      go_end0
      have hA := HQ.out.out
      rw [List.take_of_length_le (by rw [HFN.out]; omega), List.append_assoc] at hA
      exact ⟨rfl, ⟨_, hA⟩, HQ.out.mild⟩
end Go.Proofs.YtbjadgggpkbjmaaGreat
namespace Go.Proofs.YtbjadgggpkbjmaaGreat
open Go.RowKit
open Runes (bs bt)

theorem conv_row {W : World} {B n c : Nat} {A : Option Addr} {l : List Int} (hl : BL l) (hown : W.ownsRow B 5 1 (.slice A n c) l.length (l.map (Value.int .u8))) (h0 : 0 < l.length) :
    (convert 66 9 (.slice A n c)).run Tryz.prog W = .ok (.string (bs l)) W := by
  obtain ⟨g, cap, hv, _, hlt⟩ := hown.form h0
  have hA : A = some ⟨g, 0, none⟩ := by injection hv
  have hn : n = l.length := by injection hv
  subst hA hn
  have := run_convert_bytes_back (P := Tryz.prog) W 66 9 5 ⟨g, 0, none⟩ c (l.map fun i => UInt8.ofNat i.toNat) Tryz.underlying66 und5 und9 (by
    intro j hj
    have hj' : j < l.length := by simpa using hj
    have hx := hl l[j] (List.getElem_mem hj')
    simp only [List.getElem_map, UInt8.toNat_ofNat']
    have e : ((l[j].toNat % 2 ^ 8 : Nat) : Int) = l[j] := by omega
    rw [e]
    exact hown.cells (g := g) rfl j (.int .u8 l[j]) (by simp [hj']))
  simpa [bs] using this
abbrev cfgBox (c : CfgV) : Obj := .cells #[.int .i64 c.slots, .int .u64 c.gens, .int .i64 c.clients, .int .i64 c.readers, .int .i64 c.queue, .int .i64 c.batch, .int .i64 c.feed, .string c.text] 24
theorem cbox_cell {w : World} {b : Nat} {c : CfgV} (h : w.heap[b]? = some (cfgBox c)) :
    w.cell? ⟨b, 0, none⟩ = some (.int .i64 c.slots) ∧ w.cell? ⟨b, 1, none⟩ = some (.int .u64 c.gens) ∧ w.cell? ⟨b, 2, none⟩ = some (.int .i64 c.clients) ∧ w.cell? ⟨b, 3, none⟩ = some (.int .i64 c.readers) ∧ w.cell? ⟨b, 4, none⟩ = some (.int .i64 c.queue) ∧
    w.cell? ⟨b, 5, none⟩ = some (.int .i64 c.batch) ∧ w.cell? ⟨b, 6, none⟩ = some (.int .i64 c.feed) ∧ w.cell? ⟨b, 7, none⟩ = some (.string c.text) := by
  refine ⟨?_, ?_, ?_, ?_, ?_, ?_, ?_, ?_⟩ <;> (unfold World.cell?; rw [h]; rfl)
/-- Encode in the middle of its work: the script's box in block B, the encoding's variable in block ob, the configuration's box in block cb. -/
structure EnSt (w wr : World) (ob cb : Nat) (v : Value) (ys : List Int) (c : CfgV) (pv kv : Value) : Prop where
  out : OutAt wr w.heap.size ob v ys
  box : wr.heap[w.heap.size]? = some (scrBox c pv kv)
  cbox : wr.heap[cb]? = some (cfgBox c)
  bel : Below w.heap.size w wr
theorem EnSt.next {w wr w' : World} {ob cb : Nat} {v v' : Value} {ys zs : List Int} {c : CfgV} {pv kv : Value} (h : EnSt w wr ob cb v ys c pv kv) (ho : OutAt w' w.heap.size ob v' zs) (hm : MildO w.heap.size wr w') : EnSt w w' ob cb v' zs c pv kv :=
  ⟨ho, (hm.el _ 28 ⟨_, h.box⟩ (by decide) (by decide)).trans h.box, (hm.el _ 24 ⟨_, h.cbox⟩ (by decide) (by decide)).trans h.cbox,
    h.bel.trans ⟨hm.os, hm.tape, hm.out, hm.size, fun k hk => hm.low k hk (Nat.lt_of_lt_of_le hk h.bel.size)⟩⟩
theorem EnSt.alloc {w wr : World} {ob cb : Nat} {v : Value} {ys : List Int} {c : CfgV} {pv kv : Value} (h : EnSt w wr ob cb v ys c pv kv) (o : Obj) : EnSt w (wr.alloc o) ob cb v ys c pv kv :=
  h.next ⟨(World.cell?_alloc_past _ _ _ h.out.el.lt).trans h.out.cell, h.out.el.keep (Below.heap_alloc _ _ _ h.out.el.lt), h.out.hB, h.out.own.alloc _⟩ (MildO.alloc _ _ _)
theorem enst_start {w w1 : World} (c : CfgV) (pv kv : Value) (hb : Below (w.alloc (scrBox c pv kv)).heap.size (w.alloc (scrBox c pv kv)) w1) :
    EnSt w ((w1.alloc (.cells #[.slice none 0 0] 66)).alloc (cfgBox c)) w1.heap.size (w1.heap.size + 1) (.slice none 0 0) [] c pv kv := by
  have hs := hb.size
  simp only [World.size_alloc] at hs
  have h60 : (w1.alloc (.cells #[.slice none 0 0] 66)).heap[w1.heap.size]? = some (.cells #[.slice none 0 0] 66) := heap_alloc_new _ _
  have h60' : ((w1.alloc (.cells #[.slice none 0 0] 66)).alloc (cfgBox c)).heap[w1.heap.size]? = some (.cells #[.slice none 0 0] 66) := (Below.heap_alloc _ _ _ (by simp)).trans h60
  refine ⟨⟨?_, ⟨_, h60'⟩, by omega, World.ownsRow_nil _ _ _ _⟩, ?_, heap_new _ (by simp), ?_⟩
  · unfold World.cell?; rw [h60']; rfl
  · rw [Below.heap_alloc _ _ _ (by simp; omega), Below.heap_alloc _ _ _ (by omega), hb.block _ (by simp)]
    exact heap_alloc_new _ _
  · exact (((below_then (below_box w _) (by simp) hb).alloc (by omega) _).alloc (by simp; omega) _)
def EncResV (s : ScrV) (w : World) (e : Ending) (w' : World) : Prop :=
  e = .returned (.tuple #[.string (if chkScr s = 0 then bs (encScr s) else ByteArray.empty), .int .i64 (chkScr s)]) ∧ Below w.heap.size w w'
theorem encodeBad (s : ScrV) (Ap Ak : Option Addr) (cp ck : Nat) (w : World) (hz : ScrSz s) (hP : ProgsAt w w.heap.size Ap s.progs) (hK : Ints w w.heap.size Ak s.picks) (hc : chkScr s ≠ 0) :
    Calls Tryz.prog 7 #[scrVal s.cfg (.slice Ap s.progs.length cp) (.slice Ak s.picks.length ck)] w (EncResV s w) := by
  unfold EncResV
  rw [if_neg hc]
  have HC := Lib.hid (fun o : Obj => scriptCheck s Ap Ak cp ck (w.alloc o) hz (hP.below (below_box w o) (by simp)) (hK.below (below_box w o) (by simp)))
  generalize chkScr s = e at *
  have hne : (e != 0) = true := by simpa using hc
  generalize s.progs.length = n1 at *
  generalize s.picks.length = n3 at *
  generalize s.cfg = c at *
  obtain ⟨f0, f1, f2, f3, f4, f5, f6, txt⟩ := c
  have HB := Lib.hid (below_box w)
  clear hz hP hK hc
  go_enter Tryz.func7, Tryz.ntmps7
  go_wp2_with fail
  refine (HC.out _).mono ?_
  rintro e' w1 ⟨rfl, hb⟩
  have HB1 := Lib.hid (below_then (HB.out _) (by simp) hb)
  clear hb HC
  go_wp2_with fail
  go_ret2
  exact ⟨rfl, HB1.out⟩
theorem encPicks_take (ks : List Int) (k : Nat) (hk : k < ks.length) : encPicks (ks.take (k + 1)) = encPicks (ks.take k) ++ num (ks.getD k 0) 1 := by
  rw [take_snoc 0 ks k hk]; simp [encPicks]
theorem encOps_take3 (p : List OpV) (k : Nat) (hk : k < p.length) : encOps (p.take (k + 1)) = encOps (p.take k) ++ encOp (p.getD k noOp) := by
  rw [take_snoc noOp p k hk, encOps_snoc]
theorem encProgs_take3 (ps : List (List OpV)) (k : Nat) (hk : k < ps.length) : encProgs (ps.take (k + 1)) = encProgs (ps.take k) ++ encProg (ps.getD k []) := by
  rw [take_snoc [] ps k hk, encProgs_snoc]
theorem encOps_pre (p : List OpV) (j : Nat) : (encOps (p.take j)).length ≤ (encOps p).length := by
  have : encOps p = encOps (p.take j) ++ encOps (p.drop j) := by
    unfold encOps; rw [← List.flatMap_append, List.take_append_drop]
  rw [this]; simp
theorem encProgs_pre (ps : List (List OpV)) (k j : Nat) (hk : k < ps.length) : (encProgs (ps.take k)).length + 2 + (encOps ((ps.getD k []).take j)).length ≤ (encProgs ps).length := by
  have h1 : encProgs ps = encProgs (ps.take (k + 1)) ++ encProgs (ps.drop (k + 1)) := by
    unfold encProgs; rw [← List.flatMap_append, List.take_append_drop]
  have h2 := encOps_pre (ps.getD k []) j
  rw [h1, encProgs_take3 ps k hk]
  simp only [List.length_append, encProg, num_len]
  omega
def five (c : CfgV) : List Int := [c.clients, c.readers, c.queue, c.batch, c.feed]
theorem enc_five (c : CfgV) : num c.slots 2 ++ num c.gens 4 ++ encPicks (five c) ++ encText c.text = encCfg c := by
  simp [encPicks, five, encCfg]
abbrev fiveBox (c : CfgV) : Obj := .cells #[.int .i64 c.clients, .int .i64 c.readers, .int .i64 c.queue, .int .i64 c.batch, .int .i64 c.feed] 3
theorem five_cell {w : World} {b : Nat} {c : CfgV} (h : w.heap[b]? = some (fiveBox c)) (q : Nat) (hq : q < 5) : w.cell? ⟨b, q, none⟩ = some (.int .i64 ((five c).getD q 0)) := by
  unfold World.cell?; rw [h]
  match q, hq with
  | 0, _ | 1, _ | 2, _ | 3, _ | 4, _ => rfl
  | q + 5, hq => exact absurd hq (by omega)
theorem five_bd {c : CfgV} (h : cfgErr c = 0) (q : Nat) (hq : q < 5) : 0 ≤ (five c).getD q 0 ∧ (five c).getD q 0 ≤ 255 := by
  obtain ⟨_, ⟨h3, h4⟩, h5, h6, h7⟩ := cfgErr_in h
  match q, hq with
  | 0, _ => show 0 ≤ c.clients ∧ c.clients ≤ 255; omega
  | 1, _ => show 0 ≤ c.readers ∧ c.readers ≤ 255; omega
  | 2, _ => show 0 ≤ c.queue ∧ c.queue ≤ 255; omega
  | 3, _ => show 0 ≤ c.batch ∧ c.batch ≤ 255; omega
  | 4, _ => show 0 ≤ c.feed ∧ c.feed ≤ 255; omega
  | q + 5, hq => exact absurd hq (by omega)

set_option maxHeartbeats 0 in
set_option maxRecDepth 100000 in
theorem encodeOk (s : ScrV) (Ap Ak : Option Addr) (cp ck : Nat) (w : World) (hz : ScrSz s) (hP : ProgsAt w w.heap.size Ap s.progs) (hK : Ints w w.heap.size Ak s.picks) (hc : chkScr s = 0) (hty : ScrTy s) :
    Calls Tryz.prog 7 #[scrVal s.cfg (.slice Ap s.progs.length cp) (.slice Ak s.picks.length ck)] w (EncResV s w) := by
  have hok := (chk_iff s).1 hc
  have HC := Lib.hid (fun o : Obj => scriptCheck s Ap Ak cp ck (w.alloc o) hz (hP.below (below_box w o) (by simp)) (hK.below (below_box w o) (by simp)))
  unfold EncResV
  rw [if_pos hc]
  rw [hc] at HC ⊢
  clear hz hc
  obtain ⟨hcfg, hlen, hprogs, hpk, hpick, hsize⟩ := hok
  have hci := cfgErr_in hcfg
  have H5 := Lib.hid (five_bd hcfg)
  have hszl := encScr_len s
  have HBL := Lib.hid (encScr_BL s)
  have HT := Lib.hid hty
  have HG := Lib.hid hprogs
  have HPK := Lib.hid hpick
  have HP := Lib.hid hP
  have HK := Lib.hid hK
  have HS0 := Lib.hid (fun w1 pv kv => enst_start (w := w) (w1 := w1) s.cfg pv kv)
  have HEE : Hid (encScr s = encCfg s.cfg ++ encProgs s.progs ++ num s.picks.length 2 ++ encPicks s.picks) := rfl
  have hc8 := cfg_clients hcfg
  clear hty hprogs hpick hP hK
  generalize encScr s = ES at *
  obtain ⟨c, ps, ks⟩ := s
  dsimp only at hcfg hlen hpk hszl HG HPK HP HK HS0 HEE H5 HC hci hc8 ⊢
  have HP1 := Lib.hid (encProgs_take3 ps)
  have HP2 := Lib.hid (encProgs_pre ps)
  have HP3 := Lib.hid (encPicks_take ks)
  have HFV := Lib.hid (enc_five c)
  have HFT := Lib.hid (encPicks_take (five c))
  have HFC := Lib.hid (fun w b h => five_cell (w := w) (b := b) (c := c) h)
  have HCL := Lib.hid (encCfg_len c)
  have HKL := Lib.hid (fun j => encPicks_len (ks.take j))
  generalize hn1 : ps.length = n1 at *
  generalize hn3 : ks.length = n3 at *
  have HN1 := Lib.hid hn1
  have HN3 := Lib.hid hn3
  clear hn1 hn3 hcfg
  obtain ⟨⟨⟨s1, s2⟩, g1, g2⟩, ⟨⟨c1, c2⟩, r1, r2⟩, ⟨q1, q2⟩, ⟨b1, b2⟩, e1, e2⟩ := hci
  have ht16 : c.text.size ≤ 65536 := by omega
  have htl : c.text.size + 15 + (encProgs ps).length + n3 ≤ 65536 := by omega
  have HTL := Lib.hid htl
  have hn8 : n1 ≤ 8 := by omega
  clear hlen hszl hsize htl
  obtain ⟨f0, f1, f2, f3, f4, f5, f6, txt⟩ := c
  dsimp only at s1 s2 g1 g2 c1 c2 r1 r2 q1 q2 b1 b2 e1 e2 ht16 HTL HCL HFV HC HS0 hc8
  go_enter Tryz.func7, Tryz.ntmps7
  go_wp2_with fail
  refine (HC.out _).mono ?_
  rintro e' w1 ⟨rfl, hb⟩
  have HS := Lib.hid (HS0.out w1 _ _ hb)
  have hbs := hb.size
  simp only [World.size_alloc] at hbs
  have HXB := Lib.hid ((Below.heap_alloc w1 (.cells #[.slice none 0 0] 66) w.heap.size (by omega)).trans ((hb.block w.heap.size (by simp)).trans (heap_alloc_new w _)))
  obtain ⟨k0, k1, k2, k3, k4, k5, k6, k7, k8, k9⟩ := box_cell (c := ⟨f0, f1, f2, f3, f4, f5, f6, txt⟩) HXB.out
  dsimp only at k0 k1 k2 k3 k4 k5 k6 k7
  clear hb HS0 HC
  go_upto_region 6 with fail
  clear k0 k1 k2 k3 k4 k5 k6 k7 k8 k9 HXB
  generalize (w1.alloc (Obj.cells #[Value.slice none 0 0] 66)).alloc (cfgBox ⟨f0, f1, f2, f3, f4, f5, f6, txt⟩) = W1 at *

  generalize w1.heap.size + 1 = cb at *
  generalize w1.heap.size = ob at *
  obtain ⟨j0, j1, j2, j3, j4, j5, j6, j7⟩ := cbox_cell HS.out.cbox
  dsimp only at j0 j1 j2 j3 j4 j5 j6 j7
  have HN := Lib.hid (number2 f0 _ ob _ [] W1 HS.out.out (by omega) (by omega) (by simp))
  go_wp2_with fail
  refine HN.out.mono ?_
  rintro e w2 ⟨rfl, ⟨v2, h2⟩, hm2⟩
  have HS2 := Lib.hid (HS.out.next h2 hm2)
  clear h2 hm2 HN HS j0 j1 j2 j3 j4 j5 j6 j7
  obtain ⟨j0, j1, j2, j3, j4, j5, j6, j7⟩ := cbox_cell HS2.out.cbox
  dsimp only at j0 j1 j2 j3 j4 j5 j6 j7
  have HN := Lib.hid (number4 f1 _ ob _ _ w2 HS2.out.out (by omega) (by omega) (by simp [num_len]))
  go_wp2_with fail
  refine HN.out.mono ?_
  rintro e w3 ⟨rfl, ⟨v3, h3⟩, hm3⟩
  have HS3 := Lib.hid (HS2.out.next h3 hm3)
  clear h3 hm3 HN HS2 j0 j1 j2 j3 j4 j5 j6 j7
  obtain ⟨j0, j1, j2, j3, j4, j5, j6, j7⟩ := cbox_cell HS3.out.cbox
  dsimp only at j0 j1 j2 j3 j4 j5 j6 j7
  have HS4 := Lib.hid (HS3.out.alloc (fiveBox ⟨f0, f1, f2, f3, f4, f5, f6, txt⟩))
  have HFB := Lib.hid (heap_alloc_new w3 (fiveBox ⟨f0, f1, f2, f3, f4, f5, f6, txt⟩))
  go_wp2_with fail
  clear j0 j1 j2 j3 j4 j5 j6 j7 HS3
  generalize w3.alloc (fiveBox ⟨f0, f1, f2, f3, f4, f5, f6, txt⟩) = W4 at *
  generalize w3.heap.size = lb at *
  go_loopw [41] (fun i wr => ∃ (q : Nat) (v' : Value), q ≤ 5 ∧ i = .int .i64 q ∧ Hid (EnSt w wr ob cb v' (num f0 2 ++ num f1 4 ++ encPicks ((five ⟨f0, f1, f2, f3, f4, f5, f6, txt⟩).take q)) ⟨f0, f1, f2, f3, f4, f5, f6, txt⟩ (.slice Ap n1 cp) (.slice Ak n3 ck)) ∧ Hid (wr.heap[lb]? = some (fiveBox ⟨f0, f1, f2, f3, f4, f5, f6, txt⟩))) (fun i _ => 5 - (intOf i).toNat)
  case atStart => exact ⟨0, v3, by omega, rfl, by show EnSt _ _ _ _ _ _ _ _ _; simpa [encPicks] using HS4.out, HFB.out⟩
  case round =>
    obtain ⟨q, v', hq, rfl, HQ, HF⟩ := hrel
    clear HS4 HFB
    by_cases hq5 : q < 5
    · have hqi : (q : Int) < 5 := by omega
      have cf := HFC.out _ _ HF.out q hq5
      have hbd := H5.out q hq5
      have HTQ := Lib.hid (HFT.out q hq5)
      have hlq : (num f0 2 ++ num f1 4 ++ encPicks ((five ⟨f0, f1, f2, f3, f4, f5, f6, txt⟩).take q)).length ≤ 70000 := by
        have h1 := encPicks_len ((five ⟨f0, f1, f2, f3, f4, f5, f6, txt⟩).take q)
        have h2 : ((five ⟨f0, f1, f2, f3, f4, f5, f6, txt⟩).take q).length ≤ q := by simp; omega
        simp only [List.length_append, num_len]; omega
      generalize (five ⟨f0, f1, f2, f3, f4, f5, f6, txt⟩).getD q 0 = x at *
      have hu := u64w x (by omega) (by omega)
      have hx0 := hbd.1
      have hx1 := hbd.2
      have HN := Lib.hid (number1 x _ ob v' _ wr HQ.out.out (by omega) (by omega) hlq)
      go_wp2_with fail
      refine HN.out.mono ?_
      rintro e w5 ⟨rfl, ⟨v5, h5⟩, hm5⟩
      have HS5 := Lib.hid (HQ.out.next h5 hm5)
      have HF5 := Lib.hid ((hm5.el lb 3 ⟨_, HF.out⟩ (by decide) (by decide)).trans HF.out)
      clear h5 hm5 HN cf
      go_wp2_with fail
      go_roundw
      case rel => exact ⟨q + 1, _, by omega, by go_num, by rw [HTQ.out, ← List.append_assoc]; exact HS5.out, HF5.out⟩
      case measure => simp [intOf]; omega
    · obtain rfl : q = 5 := by omega
      obtain ⟨j0, j1, j2, j3, j4, j5, j6, j7⟩ := cbox_cell HQ.out.cbox
      dsimp only at j7
      have hlq : (num f0 2 ++ num f1 4 ++ encPicks ((five ⟨f0, f1, f2, f3, f4, f5, f6, txt⟩).take 5)).length ≤ 70000 := by
        simp [num_len, encPicks_len, five]
      have HN := Lib.hid (stringFn txt _ ob v' _ wr HQ.out.out ht16 hlq)
      clear j0 j1 j2 j3 j4 j5 j6 HF
      go_wp2_with fail
      refine HN.out.mono ?_
      rintro e w6 ⟨rfl, ⟨v6, h6⟩, hm6⟩
      have HS6 : Hid (EnSt w w6 ob cb v6 (encCfg ⟨f0, f1, f2, f3, f4, f5, f6, txt⟩) ⟨f0, f1, f2, f3, f4, f5, f6, txt⟩ (.slice Ap n1 cp) (.slice Ak n3 ck)) := by
        have := HQ.out.next h6 hm6
        rw [← HFV.out]; exact this
      clear h6 hm6 HN HQ j7
      obtain ⟨k0, k1, k2, k3, k4, k5, k6, k7, k8, k9⟩ := box_cell HS6.out.box
      clear k0 k1 k2 k3 k4 k5 k6 k7 k9
      go_wp2_with fail
      clear k8
      generalize encCfg ⟨f0, f1, f2, f3, f4, f5, f6, txt⟩ = EC at *
      go_loopw [55] (fun i wr => ∃ (k : Nat) (v' : Value), k ≤ n1 ∧ i = .int .i64 k ∧ Hid (EnSt w wr ob cb v' (EC ++ encProgs (ps.take k)) ⟨f0, f1, f2, f3, f4, f5, f6, txt⟩ (.slice Ap n1 cp) (.slice Ak n3 ck))) (fun i _ => n1 - (intOf i).toNat)
      case atStart => exact ⟨0, v6, Nat.zero_le _, rfl, by show EnSt _ _ _ _ _ _ _ _ _; simpa [encProgs] using HS6.out⟩
      case round =>
        obtain ⟨k, v', hk, rfl, HQ⟩ := hrel
        clear HS6
        by_cases hlt : k < n1
        · obtain ⟨b, o, rfl, hb, hcx⟩ := HP.out (by rw [HN1.out]; omega)
          obtain ⟨A1, c1', hx, ha⟩ := hcx k (by rw [HN1.out]; exact hlt)
          rw [← HQ.out.bel.cell (p := ⟨b, o + k, none⟩) hb] at hx
          have HA := Lib.hid ha
          clear hcx ha
          have HGK := Lib.hid (HG.out _ (getD_mem [] ps k (by rw [HN1.out]; exact hlt)))
          have HTK := Lib.hid (fun o ho => HT.out _ (getD_mem [] ps k (by rw [HN1.out]; exact hlt)) o ho)
          have HP1K := Lib.hid (HP1.out k (by first | exact hlt | (rw [HN1.out]; exact hlt)))
          have HP2K := Lib.hid (fun j => HP2.out k j (by first | exact hlt | (rw [HN1.out]; exact hlt)))
          generalize ps.getD k [] = p at *
          have hl256 := HGK.out.1
          generalize hpl : p.length = l at *
          have HPL := Lib.hid hpl
          clear hpl
          have hki : (k : Int) < (n1 : Int) := by omega
          have hlq : (EC ++ encProgs (ps.take k)).length ≤ 70000 := by
            have h1 := HP2K.out 0
            have h2 := HTL.out
            have h3 := HCL.out
            simp only [List.length_append]; omega
          have hu := u64w l (by omega) (by omega)
          have HN := Lib.hid (number2 l _ ob v' _ wr HQ.out.out (by omega) (by omega) hlq)
          go_wp2_with fail
          refine HN.out.mono ?_
          rintro e w7 ⟨rfl, ⟨v7, h7⟩, hm7⟩
          have HS7 := Lib.hid (HQ.out.next h7 hm7)
          clear h7 hm7 HN HQ hx
          go_wp2_with fail
          go_loopw [65] (fun i wr => ∃ (j : Nat) (v' : Value), j ≤ l ∧ i = .int .i64 j ∧ Hid (EnSt w wr ob cb v' (EC ++ encProgs (ps.take k) ++ num l 2 ++ encOps (p.take j)) ⟨f0, f1, f2, f3, f4, f5, f6, txt⟩ (.slice (some ⟨b, o, none⟩) n1 cp) (.slice Ak n3 ck))) (fun i _ => l - (intOf i).toNat)
          case atStart => exact ⟨0, v7, Nat.zero_le _, rfl, by show EnSt _ _ _ _ _ _ _ _ _; simpa [encOps] using HS7.out⟩
          case round =>
            obtain ⟨j, v', hj, rfl, HQ⟩ := hrel
            clear HS7
            by_cases hjl : j < l
            · obtain ⟨b', o', rfl, hb', hop⟩ := HA.out (by rw [HPL.out]; omega)
              have hopj := (hop j (by rw [HPL.out]; exact hjl)).keep (HQ.out.bel.block b' hb')
              clear hop
              have HOT := Lib.hid (encOps_take3 p j (by rw [HPL.out]; exact hjl))
              have hpo := HGK.out.2 _ (getD_mem noOp p j (by rw [HPL.out]; exact hjl))
              have hto := HTK.out _ (getD_mem noOp p j (by rw [HPL.out]; exact hjl))
              generalize p.getD j noOp = op at *
              have hlq : (EC ++ encProgs (ps.take k) ++ num l 2 ++ encOps (p.take j)).length ≤ 66000 := by
                have h1 := HP2K.out j
                have h2 := HTL.out
                have h3 := HCL.out
                simp only [List.length_append, num_len]; omega
              have HOF := Lib.hid (fun W => fun (h : OutAt W w.heap.size ob v' (EC ++ encProgs (ps.take k) ++ num l 2 ++ encOps (p.take j))) => opFn op _ ob v' _ W h hpo hto hlq)
              clear hpo hto
              obtain ⟨x0, x1, x2, x3, x4, x5, x6⟩ := op
              obtain ⟨m0, m1, m2, m3, m4, m5, m6⟩ := hopj
              dsimp only at m0 m1 m2 m3 m4 m5 m6
              have hji : (j : Int) < (l : Int) := by omega
              have HQA := Lib.hid (HQ.out.alloc (.cells #[.int .u8 x0, .int .i64 x1, .int .i64 x2, .int .i64 x3, .int .u32 x4, .int .u8 x5, .string x6] 40))
              have HOF2 := Lib.hid (HOF.out _ HQA.out.out)
              clear HOF
              go_wp2_with fail
              refine HOF2.out.mono ?_
              rintro e w8 ⟨rfl, ⟨v8, h8⟩, hm8⟩
              have HS8 := Lib.hid (HQA.out.next h8 hm8)
              clear h8 hm8 HOF2 m0 m1 m2 m3 m4 m5 m6 HQ HQA
              go_wp2_with fail
              go_roundw
              case rel => exact ⟨j + 1, _, by omega, by go_num, by rw [HOT.out, ← List.append_assoc]; exact HS8.out⟩
              case measure => simp [intOf]; omega
            · obtain rfl : j = l := by omega
              go_wp2_with fail
              go_roundw
              case rel =>
                have hfin := HQ.out
                have hta : p.take j = p := List.take_of_length_le (by rw [HPL.out]; omega)
                rw [hta] at hfin
                have he : EC ++ encProgs (ps.take (k + 1)) = EC ++ encProgs (ps.take k) ++ num j 2 ++ encOps p := by rw [HP1K.out]; unfold encProg; rw [HPL.out]; simp
                rw [← he] at hfin
                exact ⟨k + 1, v', by omega, by go_num, hfin⟩
              case measure => simp [intOf]; omega
        · obtain rfl : k = n1 := by omega
          obtain ⟨k0, k1, k2, k3, k4, k5, k6, k7, k8, k9⟩ := box_cell HQ.out.box
          clear k0 k1 k2 k3 k4 k5 k6 k7 k8
          have HQ' : Hid (EnSt w wr ob cb v' (EC ++ encProgs ps) ⟨f0, f1, f2, f3, f4, f5, f6, txt⟩ (.slice Ap k cp) (.slice Ak n3 ck)) := by
            have := HQ.out
            rw [List.take_of_length_le (by rw [HN1.out]; omega)] at this
            exact this
          clear HQ
          have hlq : (EC ++ encProgs ps).length ≤ 70000 := by
            have h2 := HTL.out
            have h3 := HCL.out
            simp only [List.length_append]; omega
          have hu := u64w n3 (by omega) (by omega)
          have HN := Lib.hid (number2 n3 _ ob v' _ wr HQ'.out.out (by omega) (by omega) hlq)
          go_wp2_with fail
          refine HN.out.mono ?_
          rintro e w9 ⟨rfl, ⟨v9, h9⟩, hm9⟩
          have HS9 := Lib.hid (HQ'.out.next h9 hm9)
          clear h9 hm9 HN HQ' k9
          obtain ⟨k0, k1, k2, k3, k4, k5, k6, k7, k8, k9⟩ := box_cell HS9.out.box
          clear k0 k1 k2 k3 k4 k5 k6 k7 k8
          go_wp2_with fail
          clear k9
          go_loopw [81] (fun i wr => ∃ (j : Nat) (v' : Value), j ≤ n3 ∧ i = .int .i64 j ∧ Hid (EnSt w wr ob cb v' (EC ++ encProgs ps ++ num n3 2 ++ encPicks (ks.take j)) ⟨f0, f1, f2, f3, f4, f5, f6, txt⟩ (.slice Ap k cp) (.slice Ak n3 ck))) (fun i _ => n3 - (intOf i).toNat)
          case atStart => exact ⟨0, v9, Nat.zero_le _, rfl, by show EnSt _ _ _ _ _ _ _ _ _; simpa [encPicks] using HS9.out⟩
          case round =>
            obtain ⟨j, v', hj, rfl, HQ⟩ := hrel
            clear HS9
            by_cases hjl : j < n3
            · obtain ⟨b, o, rfl, hb, hcx⟩ := HK.out (by rw [HN3.out]; omega)
              have hx := hcx j (by rw [HN3.out]; exact hjl)
              rw [← HQ.out.bel.cell (p := ⟨b, o + j, none⟩) hb] at hx
              have HTJ := Lib.hid (HP3.out j (by first | exact hjl | (rw [HN3.out]; exact hjl)))
              have hbd := HPK.out _ (getD_mem 0 ks j (by rw [HN3.out]; exact hjl))
              skip
              generalize ks.getD j 0 = x at *
              clear hcx
              have hji : (j : Int) < (n3 : Int) := by omega
              have hlq : (EC ++ encProgs ps ++ num n3 2 ++ encPicks (ks.take j)).length ≤ 70000 := by
                have h1 := HKL.out j
                have h4 : (ks.take j).length ≤ j := by simp; omega
                have h2 := HTL.out
                have h3 := HCL.out
                simp only [List.length_append, num_len]; omega
              have hu := u64w x (by omega) (by omega)
              have hx0 := hbd.1
              have HN := Lib.hid (number1 x _ ob v' _ wr HQ.out.out (by omega) (by omega) hlq)
              go_wp2_with fail
              refine HN.out.mono ?_
              rintro e w10 ⟨rfl, ⟨v10, h10⟩, hm10⟩
              have HS10 := Lib.hid (HQ.out.next h10 hm10)
              clear h10 hm10 HN HQ hx
              go_wp2_with fail
              go_roundw
              case rel => exact ⟨j + 1, _, by omega, by go_num, by rw [HTJ.out, ← List.append_assoc]; exact HS10.out⟩
              case measure => simp [intOf]; omega
            · obtain rfl : j = n3 := by omega
              have HQ' : Hid (EnSt w wr ob cb v' ES ⟨f0, f1, f2, f3, f4, f5, f6, txt⟩ (.slice Ap k cp) (.slice Ak j ck)) := by
                have := HQ.out
                rw [List.take_of_length_le (by rw [HN3.out]; omega), ← HEE.out] at this
                exact this
              have hpos : 0 < ES.length := by
                rw [HEE.out]; simp only [List.length_append, num_len]; omega
              have n0 := HQ'.out.out.cell
              obtain ⟨A, cc, rfl⟩ := own_slice HQ'.out.out.own
              have hcv := conv_row HBL.out HQ'.out.out.own hpos
              clear HQ
              go_wp2_with fail
              go_ret2
              exact ⟨rfl, HQ'.out.bel⟩
theorem scriptEncode (s : ScrV) (Ap Ak : Option Addr) (cp ck : Nat) (w : World) (hz : ScrSz s) (hP : ProgsAt w w.heap.size Ap s.progs) (hK : Ints w w.heap.size Ak s.picks) (hty : ScrTy s) :
    Calls Tryz.prog 7 #[scrVal s.cfg (.slice Ap s.progs.length cp) (.slice Ak s.picks.length ck)] w (EncResV s w) := by
  by_cases hc : chkScr s = 0
  · exact encodeOk s Ap Ak cp ck w hz hP hK hc hty
  · exact encodeBad s Ap Ak cp ck w hz hP hK hc
end Go.Proofs.YtbjadgggpkbjmaaGreat
