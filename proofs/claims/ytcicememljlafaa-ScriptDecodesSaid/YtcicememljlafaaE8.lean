/- Walks: bytes written, by the program. -/
import Derived.Test.YtcicememljlafaaE7
import Derived.Test.YtcicememljlafaaR5d
namespace Go.Proofs.Ytcicememljlafaa
open Go.RowKit
open Runes (bs)

/-- An encoding that is being written: its variable in block ob, its bytes in a row of its own. -/
structure OutAt (W : World) (B ob : Nat) (v : Value) (xs : List Int) : Prop where
  cell : W.cell? ⟨ob, 0, none⟩ = some v
  el : ElemT W ob 60
  hB : B ≤ ob
  own : W.ownsRow B 5 1 v xs.length (xs.map (Value.int .u8))
/-- What may have been written: blocks of the two kinds of an encoding. -/
structure MildO (B : Nat) (W W' : World) : Prop where
  os : W'.os = W.os
  tape : W'.tape = W.tape
  out : W'.output = W.output
  size : W.heap.size ≤ W'.heap.size
  el : ∀ q t, ElemT W q t → t ≠ 60 → t ≠ 5 → W'.heap[q]? = W.heap[q]?
  low : ∀ q, q < B → q < W.heap.size → W'.heap[q]? = W.heap[q]?
theorem MildO.refl (B : Nat) (W : World) : MildO B W W := ⟨rfl, rfl, rfl, Nat.le_refl _, fun _ _ _ _ _ => rfl, fun _ _ _ => rfl⟩
theorem MildO.trans {B : Nat} {a b c : World} (h : MildO B a b) (k : MildO B b c) : MildO B a c :=
  ⟨k.os.trans h.os, k.tape.trans h.tape, k.out.trans h.out, Nat.le_trans h.size k.size, fun q t ht h6 h5 => (k.el q t (ht.keep (h.el q t ht h6 h5)) h6 h5).trans (h.el q t ht h6 h5), fun q hq hs => (k.low q hq (Nat.lt_of_lt_of_le hs h.size)).trans (h.low q hq hs)⟩
theorem MildO.drewN (B : Nat) (W : World) (k : Nat) : MildO B W (W.drewN k) := ⟨rfl, rfl, rfl, Nat.le_refl _, fun _ _ _ _ _ => rfl, fun _ _ _ => rfl⟩
theorem MildO.alloc (B : Nat) (W : World) (o : Obj) : MildO B W (W.alloc o) := ⟨rfl, rfl, rfl, by simp, fun q _ ht _ _ => Below.heap_alloc _ _ _ ht.lt, fun q _ hq => Below.heap_alloc _ _ _ hq⟩
theorem MildO.grown {B : Nat} {W W' : World} (hg : W.grownBy W' none) : MildO B W W' := ⟨hg.os, hg.tape, hg.output, hg.size, fun q _ ht _ _ => hg.block q ht.lt (by simp), fun q _ hq => hg.block q hq (by simp)⟩
theorem MildO.below {B : Nat} {w W W' : World} (h : Below B w W) (hm : MildO B W W') (hB : B ≤ W.heap.size) : Below B w W' :=
  h.trans ⟨hm.os, hm.tape, hm.out, hm.size, fun k hk => hm.low k hk (by omega)⟩
theorem out_pushed {W w1 : World} {B ob : Nat} {v v1 : Value} {xs ys : List Int} {O : Obj} (h : OutAt W B ob v xs)
    (hown : w1.ownsRow B 5 1 v1 (xs.length + ys.length) (xs.map (Value.int .u8) ++ ys.map (Value.int .u8))) (hg : (W.alloc O).grownBy w1 v.ownBlock) :
    w1.cell? ⟨ob, 0, none⟩ = some v ∧ w1.frozen? ⟨ob, 0, none⟩ = false ∧ OutAt (w1.setCell ⟨ob, 0, none⟩ v1) B ob v1 (xs ++ ys) ∧ MildO B W (w1.setCell ⟨ob, 0, none⟩ v1) := by
  have hola : ElemT (W.alloc O) ob 60 := h.el.keep (Below.heap_alloc _ _ _ h.el.lt)
  have hrow : ∀ {q : Nat}, v.ownBlock = some q → ElemT W q 5 := fun {q} e => own_elem h.own e
  have hk : w1.heap[ob]? = W.heap[ob]? := (hg.block ob hola.lt (fun e => absurd rfl ((hrow e.symm).ne h.el (by decide)))).trans (Below.heap_alloc _ _ _ h.el.lt)
  have ht1 : ElemT w1 ob 60 := h.el.keep hk
  have hg2 := set_grown w1 ob 0 v1
  refine ⟨(World.cell?_of_block (a := ⟨ob, 0, none⟩) hk).trans h.cell, ht1.frozen 0, ⟨set_cell_at _ ((World.cell?_of_block (a := ⟨ob, 0, none⟩) hk).trans h.cell), ht1.set _ _ rfl, h.hB, ?_⟩, ?_⟩
  · rw [List.length_append, List.map_append]
    refine hown.kept hg2 ?_
    by_cases e : v1.ownBlock = some ob
    · exact absurd rfl ((own_elem hown e).ne ht1 (by decide))
    · exact .inr e
  · have hsz : W.heap.size ≤ w1.heap.size := by have := hg.size; simp at this; omega
    refine ⟨hg.os, hg.tape, hg.output, by simpa using hsz, fun q t ht h6 h5 => ?_, fun q hq hs => ?_⟩
    · rw [Below.heap_setCell _ _ _ _ (ht.ne h.el h6), hg.block q (by have := ht.lt; simp; omega) (fun e => h5 (Classical.byContradiction fun hne => ht.ne (hrow e.symm) hne rfl)), Below.heap_alloc _ _ _ ht.lt]
    · have hr : ¬ some q = v.ownBlock := fun e => by have := (World.ownsRow.lt h.own q e.symm).1; omega
      rw [Below.heap_setCell _ _ _ _ (by have := h.hB; show q ≠ ob; omega), hg.block q (by simp; omega) hr, Below.heap_alloc _ _ _ hs]
theorem OutAt.drew {W : World} {B ob : Nat} {v : Value} {xs : List Int} (h : OutAt W B ob v xs) (k : Nat) : OutAt (W.drewN k) B ob v xs := ⟨h.cell, h.el.keep rfl, h.hB, h.own⟩
theorem u8_info : (Try.prog.info? 5).map (fun i => (i.zero, i.size, i.bytes)) = some (some (.int .u8 0), 1, 1) := by kernel_rfl
theorem one_u8 (x : Int) : ∀ u ∈ ([Value.int .u8 x] : List Value), u.oneCell' = true := by intro u hu; simp at hu; subst hu; rfl
def NumRes (B ob : Nat) (ys : List Int) (W : World) (e : Ending) (W' : World) : Prop := e = .returned (.tuple #[]) ∧ (∃ v', OutAt W' B ob v' ys) ∧ MildO B W W'

theorem wrap_u8 (y : Int) : IntKind.u8.wrap y = y % 256 := by
  show _ = _
  simp [IntKind.wrap, IntKind.bits, IntKind.signed]
theorem own_drew {W : World} {B : Nat} {e : TypeId} {sz n : Nat} {v : Value} {l : List Value} (h : W.ownsRow B e sz v n l) : W.drew.ownsRow B e sz v n l := h
theorem grown_undrew {W w1 : World} {r : Option Nat} (hg : W.drew.grownBy w1 r) : W.grownBy w1 r := ⟨hg.os, hg.tape, hg.output, hg.size, hg.block⟩
theorem news_u8 (W : World) (y : Int) : ∀ j u, ([Value.int .u8 y] : List Value)[j]? = some u → (W.alloc (.cells #[.int .u8 y] 5)).drew.cell? ((⟨W.heap.size, 0, none⟩ : Addr).add j) = some u := news_val W _ 5
set_option maxHeartbeats 0 in
set_option maxRecDepth 100000 in
theorem number1 (x : Int) (B ob : Nat) (v : Value) (xs : List Int) (W : World) (h : OutAt W B ob v xs) (hx0 : 0 ≤ x) (hx1 : x ≤ 18446744073709551615) (hl : xs.length ≤ 70000) :
    Calls Try.prog 33 #[.pointer (some ⟨ob, 0, none⟩), .int .u64 x, .int .i64 1] W (NumRes B ob (xs ++ num x 1) W) := by
  have hw0 : IntKind.i64.wrap 0 = 0 := by decide
  have hw1 : IntKind.i64.wrap 8 = 8 := by decide
  have hw2 : IntKind.i64.wrap 16 = 16 := by decide
  have hw3 : IntKind.i64.wrap 24 = 24 := by decide
  go_enter Try.func33, Try.ntmps33
  go_wp2_with fail
  go_loopw [6] (fun i wr => ∃ (m : Nat) (v' : Value), m ≤ 1 ∧ i = .int .i64 (0 - (m : Int)) ∧ Hid (OutAt wr B ob v' (xs ++ (num x 1).take m)) ∧ Hid (MildO B W wr)) (fun i _ => (intOf i + 1).toNat)
  case atStart => exact ⟨0, v, by omega, rfl, by show OutAt _ _ _ _ _; simpa using h, MildO.refl _ _⟩
  case round =>
    obtain ⟨m, v', hm, rfl, HO, HM⟩ := hrel
    have HL : Hid ((xs ++ (num x 1).take m).length = xs.length + m) := by show _ = _; simp [num_len]; omega
    obtain ⟨A, c, rfl⟩ := own_slice HO.out.own
    have n0 := HO.out.cell
    obtain ⟨i0, hi, hz0, hz1, hz2⟩ := info_parts u8_info
    have hB : B ≤ wr.heap.size := by have := HO.out.hB; have := HO.out.el.lt; omega
    rcases (show m = 0 ∨ m = 1 by omega) with rfl | rfl
    · rw [show (0 : Int) - ((0 : Nat) : Int) = 0 by decide]
      have HB : Hid ((num x 1).take 1 = (num x 1).take 0 ++ [IntKind.u8.wrap (x)]) := by
        show _ = _
        rw [wrap_u8, take_snoc 0 _ _ (by rw [num_len]; omega)]
        congr 1 <;> simp [num] <;> omega
      generalize hls : xs ++ (num x 1).take 0 = ys at *
      have HLS := Lib.hid hls
      clear hls
      generalize hyl : ys.length = n at *
      have HYL := Lib.hid hyl
      have hln : n ≤ 70004 := by have := HL.out; omega
      clear hyl
      have n0a : (wr.alloc (.cells #[.int .u8 (IntKind.u8.wrap (x))] 5)).cell? ⟨ob, 0, none⟩ = some (.slice A n c) := (World.cell?_alloc_past _ _ _ HO.out.el.lt).trans n0
      go_wp2_with fail
      go_region_law (refine step_append_lies _ rfl (.tmp 16) (.tmp 22) 60 rfl B 5 i0 (.int .u8 0) 1 1 Try.underlying60 hi hz0 hz1 hz2 rfl (by decide) (.slice A n c) n (ys.map (Value.int .u8)) (by simp [Act.eval, Act.put]) (own_drew (by have := HO.out.own; rw [HYL.out] at this; exact this.alloc _)) _ 1 1 [.int .u8 (IntKind.u8.wrap (x))] (by simp [Act.eval, Act.put]) rfl (news_u8 _ _) (one_u8 _) (by omega) (by unfold maxLen; omega) (by omega) (by simp; omega) _ rfl ?_; intro g cap w11 hown hgrow _ _; (obtain ⟨q1, q2, q3, q4⟩ := out_pushed (ys := [IntKind.u8.wrap (x)]) HO.out (by rw [HYL.out]; exact hown) (grown_undrew hgrow)); (have HA := Lib.hid q3); (have HB4 := Lib.hid (HM.out.trans q4)); clear q3 q4)
      all_goals
        go_wp2_with fail
        go_roundw
        case rel => exact ⟨1, _, by omega, by go_num, by rw [HB.out, ← List.append_assoc, HLS.out]; exact HA.out, HB4.out⟩
        case measure => simp [intOf]
    · have hneg : ((0 : Int) - ((1 : Nat) : Int)) = -1 := by decide
      rw [hneg]
      go_wp2_with fail
      go_end0
      exact ⟨rfl, ⟨_, by have := HO.out; rwa [List.take_of_length_le (by rw [num_len]; omega)] at this⟩, HM.out⟩
set_option maxHeartbeats 0 in
set_option maxRecDepth 100000 in
theorem number2 (x : Int) (B ob : Nat) (v : Value) (xs : List Int) (W : World) (h : OutAt W B ob v xs) (hx0 : 0 ≤ x) (hx1 : x ≤ 18446744073709551615) (hl : xs.length ≤ 70000) :
    Calls Try.prog 33 #[.pointer (some ⟨ob, 0, none⟩), .int .u64 x, .int .i64 2] W (NumRes B ob (xs ++ num x 2) W) := by
  have hw0 : IntKind.i64.wrap 0 = 0 := by decide
  have hw1 : IntKind.i64.wrap 8 = 8 := by decide
  have hw2 : IntKind.i64.wrap 16 = 16 := by decide
  have hw3 : IntKind.i64.wrap 24 = 24 := by decide
  go_enter Try.func33, Try.ntmps33
  go_wp2_with fail
  go_loopw [6] (fun i wr => ∃ (m : Nat) (v' : Value), m ≤ 2 ∧ i = .int .i64 (1 - (m : Int)) ∧ Hid (OutAt wr B ob v' (xs ++ (num x 2).take m)) ∧ Hid (MildO B W wr)) (fun i _ => (intOf i + 1).toNat)
  case atStart => exact ⟨0, v, by omega, rfl, by show OutAt _ _ _ _ _; simpa using h, MildO.refl _ _⟩
  case round =>
    obtain ⟨m, v', hm, rfl, HO, HM⟩ := hrel
    have HL : Hid ((xs ++ (num x 2).take m).length = xs.length + m) := by show _ = _; simp [num_len]; omega
    obtain ⟨A, c, rfl⟩ := own_slice HO.out.own
    have n0 := HO.out.cell
    obtain ⟨i0, hi, hz0, hz1, hz2⟩ := info_parts u8_info
    have hB : B ≤ wr.heap.size := by have := HO.out.hB; have := HO.out.el.lt; omega
    rcases (show m = 0 ∨ m = 1 ∨ m = 2 by omega) with rfl | rfl | rfl
    · rw [show (1 : Int) - ((0 : Nat) : Int) = 1 by decide]
      have HB : Hid ((num x 2).take 1 = (num x 2).take 0 ++ [IntKind.u8.wrap (x / 256)]) := by
        show _ = _
        rw [wrap_u8, take_snoc 0 _ _ (by rw [num_len]; omega)]
        congr 1 <;> simp [num] <;> omega
      generalize hls : xs ++ (num x 2).take 0 = ys at *
      have HLS := Lib.hid hls
      clear hls
      generalize hyl : ys.length = n at *
      have HYL := Lib.hid hyl
      have hln : n ≤ 70004 := by have := HL.out; omega
      clear hyl
      have n0a : (wr.alloc (.cells #[.int .u8 (IntKind.u8.wrap (x / 256))] 5)).cell? ⟨ob, 0, none⟩ = some (.slice A n c) := (World.cell?_alloc_past _ _ _ HO.out.el.lt).trans n0
      go_wp2_with fail
      go_region_law (refine step_append_lies _ rfl (.tmp 16) (.tmp 22) 60 rfl B 5 i0 (.int .u8 0) 1 1 Try.underlying60 hi hz0 hz1 hz2 rfl (by decide) (.slice A n c) n (ys.map (Value.int .u8)) (by simp [Act.eval, Act.put]) (own_drew (by have := HO.out.own; rw [HYL.out] at this; exact this.alloc _)) _ 1 1 [.int .u8 (IntKind.u8.wrap (x / 256))] (by simp [Act.eval, Act.put]) rfl (news_u8 _ _) (one_u8 _) (by omega) (by unfold maxLen; omega) (by omega) (by simp; omega) _ rfl ?_; intro g cap w11 hown hgrow _ _; (obtain ⟨q1, q2, q3, q4⟩ := out_pushed (ys := [IntKind.u8.wrap (x / 256)]) HO.out (by rw [HYL.out]; exact hown) (grown_undrew hgrow)); (have HA := Lib.hid q3); (have HB4 := Lib.hid (HM.out.trans q4)); clear q3 q4)
      all_goals
        go_wp2_with fail
        go_roundw
        case rel => exact ⟨1, _, by omega, by go_num, by rw [HB.out, ← List.append_assoc, HLS.out]; exact HA.out, HB4.out⟩
        case measure => simp [intOf]
    · rw [show (1 : Int) - ((1 : Nat) : Int) = 0 by decide]
      have HB : Hid ((num x 2).take 2 = (num x 2).take 1 ++ [IntKind.u8.wrap (x)]) := by
        show _ = _
        rw [wrap_u8, take_snoc 0 _ _ (by rw [num_len]; omega)]
        congr 1 <;> simp [num] <;> omega
      generalize hls : xs ++ (num x 2).take 1 = ys at *
      have HLS := Lib.hid hls
      clear hls
      generalize hyl : ys.length = n at *
      have HYL := Lib.hid hyl
      have hln : n ≤ 70004 := by have := HL.out; omega
      clear hyl
      have n0a : (wr.alloc (.cells #[.int .u8 (IntKind.u8.wrap (x))] 5)).cell? ⟨ob, 0, none⟩ = some (.slice A n c) := (World.cell?_alloc_past _ _ _ HO.out.el.lt).trans n0
      go_wp2_with fail
      go_region_law (refine step_append_lies _ rfl (.tmp 16) (.tmp 22) 60 rfl B 5 i0 (.int .u8 0) 1 1 Try.underlying60 hi hz0 hz1 hz2 rfl (by decide) (.slice A n c) n (ys.map (Value.int .u8)) (by simp [Act.eval, Act.put]) (own_drew (by have := HO.out.own; rw [HYL.out] at this; exact this.alloc _)) _ 1 1 [.int .u8 (IntKind.u8.wrap (x))] (by simp [Act.eval, Act.put]) rfl (news_u8 _ _) (one_u8 _) (by omega) (by unfold maxLen; omega) (by omega) (by simp; omega) _ rfl ?_; intro g cap w11 hown hgrow _ _; (obtain ⟨q1, q2, q3, q4⟩ := out_pushed (ys := [IntKind.u8.wrap (x)]) HO.out (by rw [HYL.out]; exact hown) (grown_undrew hgrow)); (have HA := Lib.hid q3); (have HB4 := Lib.hid (HM.out.trans q4)); clear q3 q4)
      all_goals
        go_wp2_with fail
        go_roundw
        case rel => exact ⟨2, _, by omega, by go_num, by rw [HB.out, ← List.append_assoc, HLS.out]; exact HA.out, HB4.out⟩
        case measure => simp [intOf]
    · have hneg : ((1 : Int) - ((2 : Nat) : Int)) = -1 := by decide
      rw [hneg]
      go_wp2_with fail
      go_end0
      exact ⟨rfl, ⟨_, by have := HO.out; rwa [List.take_of_length_le (by rw [num_len]; omega)] at this⟩, HM.out⟩
set_option maxHeartbeats 0 in
set_option maxRecDepth 100000 in
theorem number4 (x : Int) (B ob : Nat) (v : Value) (xs : List Int) (W : World) (h : OutAt W B ob v xs) (hx0 : 0 ≤ x) (hx1 : x ≤ 18446744073709551615) (hl : xs.length ≤ 70000) :
    Calls Try.prog 33 #[.pointer (some ⟨ob, 0, none⟩), .int .u64 x, .int .i64 4] W (NumRes B ob (xs ++ num x 4) W) := by
  have hw0 : IntKind.i64.wrap 0 = 0 := by decide
  have hw1 : IntKind.i64.wrap 8 = 8 := by decide
  have hw2 : IntKind.i64.wrap 16 = 16 := by decide
  have hw3 : IntKind.i64.wrap 24 = 24 := by decide
  go_enter Try.func33, Try.ntmps33
  go_wp2_with fail
  go_loopw [6] (fun i wr => ∃ (m : Nat) (v' : Value), m ≤ 4 ∧ i = .int .i64 (3 - (m : Int)) ∧ Hid (OutAt wr B ob v' (xs ++ (num x 4).take m)) ∧ Hid (MildO B W wr)) (fun i _ => (intOf i + 1).toNat)
  case atStart => exact ⟨0, v, by omega, rfl, by show OutAt _ _ _ _ _; simpa using h, MildO.refl _ _⟩
  case round =>
    obtain ⟨m, v', hm, rfl, HO, HM⟩ := hrel
    have HL : Hid ((xs ++ (num x 4).take m).length = xs.length + m) := by show _ = _; simp [num_len]; omega
    obtain ⟨A, c, rfl⟩ := own_slice HO.out.own
    have n0 := HO.out.cell
    obtain ⟨i0, hi, hz0, hz1, hz2⟩ := info_parts u8_info
    have hB : B ≤ wr.heap.size := by have := HO.out.hB; have := HO.out.el.lt; omega
    rcases (show m = 0 ∨ m = 1 ∨ m = 2 ∨ m = 3 ∨ m = 4 by omega) with rfl | rfl | rfl | rfl | rfl
    · rw [show (3 : Int) - ((0 : Nat) : Int) = 3 by decide]
      have HB : Hid ((num x 4).take 1 = (num x 4).take 0 ++ [IntKind.u8.wrap (x / 16777216)]) := by
        show _ = _
        rw [wrap_u8, take_snoc 0 _ _ (by rw [num_len]; omega)]
        congr 1 <;> simp [num] <;> omega
      generalize hls : xs ++ (num x 4).take 0 = ys at *
      have HLS := Lib.hid hls
      clear hls
      generalize hyl : ys.length = n at *
      have HYL := Lib.hid hyl
      have hln : n ≤ 70004 := by have := HL.out; omega
      clear hyl
      have n0a : (wr.alloc (.cells #[.int .u8 (IntKind.u8.wrap (x / 16777216))] 5)).cell? ⟨ob, 0, none⟩ = some (.slice A n c) := (World.cell?_alloc_past _ _ _ HO.out.el.lt).trans n0
      go_wp2_with fail
      go_region_law (refine step_append_lies _ rfl (.tmp 16) (.tmp 22) 60 rfl B 5 i0 (.int .u8 0) 1 1 Try.underlying60 hi hz0 hz1 hz2 rfl (by decide) (.slice A n c) n (ys.map (Value.int .u8)) (by simp [Act.eval, Act.put]) (own_drew (by have := HO.out.own; rw [HYL.out] at this; exact this.alloc _)) _ 1 1 [.int .u8 (IntKind.u8.wrap (x / 16777216))] (by simp [Act.eval, Act.put]) rfl (news_u8 _ _) (one_u8 _) (by omega) (by unfold maxLen; omega) (by omega) (by simp; omega) _ rfl ?_; intro g cap w11 hown hgrow _ _; (obtain ⟨q1, q2, q3, q4⟩ := out_pushed (ys := [IntKind.u8.wrap (x / 16777216)]) HO.out (by rw [HYL.out]; exact hown) (grown_undrew hgrow)); (have HA := Lib.hid q3); (have HB4 := Lib.hid (HM.out.trans q4)); clear q3 q4)
      all_goals
        go_wp2_with fail
        go_roundw
        case rel => exact ⟨1, _, by omega, by go_num, by rw [HB.out, ← List.append_assoc, HLS.out]; exact HA.out, HB4.out⟩
        case measure => simp [intOf]
    · rw [show (3 : Int) - ((1 : Nat) : Int) = 2 by decide]
      have HB : Hid ((num x 4).take 2 = (num x 4).take 1 ++ [IntKind.u8.wrap (x / 65536)]) := by
        show _ = _
        rw [wrap_u8, take_snoc 0 _ _ (by rw [num_len]; omega)]
        congr 1 <;> simp [num] <;> omega
      generalize hls : xs ++ (num x 4).take 1 = ys at *
      have HLS := Lib.hid hls
      clear hls
      generalize hyl : ys.length = n at *
      have HYL := Lib.hid hyl
      have hln : n ≤ 70004 := by have := HL.out; omega
      clear hyl
      have n0a : (wr.alloc (.cells #[.int .u8 (IntKind.u8.wrap (x / 65536))] 5)).cell? ⟨ob, 0, none⟩ = some (.slice A n c) := (World.cell?_alloc_past _ _ _ HO.out.el.lt).trans n0
      go_wp2_with fail
      go_region_law (refine step_append_lies _ rfl (.tmp 16) (.tmp 22) 60 rfl B 5 i0 (.int .u8 0) 1 1 Try.underlying60 hi hz0 hz1 hz2 rfl (by decide) (.slice A n c) n (ys.map (Value.int .u8)) (by simp [Act.eval, Act.put]) (own_drew (by have := HO.out.own; rw [HYL.out] at this; exact this.alloc _)) _ 1 1 [.int .u8 (IntKind.u8.wrap (x / 65536))] (by simp [Act.eval, Act.put]) rfl (news_u8 _ _) (one_u8 _) (by omega) (by unfold maxLen; omega) (by omega) (by simp; omega) _ rfl ?_; intro g cap w11 hown hgrow _ _; (obtain ⟨q1, q2, q3, q4⟩ := out_pushed (ys := [IntKind.u8.wrap (x / 65536)]) HO.out (by rw [HYL.out]; exact hown) (grown_undrew hgrow)); (have HA := Lib.hid q3); (have HB4 := Lib.hid (HM.out.trans q4)); clear q3 q4)
      all_goals
        go_wp2_with fail
        go_roundw
        case rel => exact ⟨2, _, by omega, by go_num, by rw [HB.out, ← List.append_assoc, HLS.out]; exact HA.out, HB4.out⟩
        case measure => simp [intOf]
    · rw [show (3 : Int) - ((2 : Nat) : Int) = 1 by decide]
      have HB : Hid ((num x 4).take 3 = (num x 4).take 2 ++ [IntKind.u8.wrap (x / 256)]) := by
        show _ = _
        rw [wrap_u8, take_snoc 0 _ _ (by rw [num_len]; omega)]
        congr 1 <;> simp [num] <;> omega
      generalize hls : xs ++ (num x 4).take 2 = ys at *
      have HLS := Lib.hid hls
      clear hls
      generalize hyl : ys.length = n at *
      have HYL := Lib.hid hyl
      have hln : n ≤ 70004 := by have := HL.out; omega
      clear hyl
      have n0a : (wr.alloc (.cells #[.int .u8 (IntKind.u8.wrap (x / 256))] 5)).cell? ⟨ob, 0, none⟩ = some (.slice A n c) := (World.cell?_alloc_past _ _ _ HO.out.el.lt).trans n0
      go_wp2_with fail
      go_region_law (refine step_append_lies _ rfl (.tmp 16) (.tmp 22) 60 rfl B 5 i0 (.int .u8 0) 1 1 Try.underlying60 hi hz0 hz1 hz2 rfl (by decide) (.slice A n c) n (ys.map (Value.int .u8)) (by simp [Act.eval, Act.put]) (own_drew (by have := HO.out.own; rw [HYL.out] at this; exact this.alloc _)) _ 1 1 [.int .u8 (IntKind.u8.wrap (x / 256))] (by simp [Act.eval, Act.put]) rfl (news_u8 _ _) (one_u8 _) (by omega) (by unfold maxLen; omega) (by omega) (by simp; omega) _ rfl ?_; intro g cap w11 hown hgrow _ _; (obtain ⟨q1, q2, q3, q4⟩ := out_pushed (ys := [IntKind.u8.wrap (x / 256)]) HO.out (by rw [HYL.out]; exact hown) (grown_undrew hgrow)); (have HA := Lib.hid q3); (have HB4 := Lib.hid (HM.out.trans q4)); clear q3 q4)
      all_goals
        go_wp2_with fail
        go_roundw
        case rel => exact ⟨3, _, by omega, by go_num, by rw [HB.out, ← List.append_assoc, HLS.out]; exact HA.out, HB4.out⟩
        case measure => simp [intOf]
    · rw [show (3 : Int) - ((3 : Nat) : Int) = 0 by decide]
      have HB : Hid ((num x 4).take 4 = (num x 4).take 3 ++ [IntKind.u8.wrap (x)]) := by
        show _ = _
        rw [wrap_u8, take_snoc 0 _ _ (by rw [num_len]; omega)]
        congr 1 <;> simp [num] <;> omega
      generalize hls : xs ++ (num x 4).take 3 = ys at *
      have HLS := Lib.hid hls
      clear hls
      generalize hyl : ys.length = n at *
      have HYL := Lib.hid hyl
      have hln : n ≤ 70004 := by have := HL.out; omega
      clear hyl
      have n0a : (wr.alloc (.cells #[.int .u8 (IntKind.u8.wrap (x))] 5)).cell? ⟨ob, 0, none⟩ = some (.slice A n c) := (World.cell?_alloc_past _ _ _ HO.out.el.lt).trans n0
      go_wp2_with fail
      go_region_law (refine step_append_lies _ rfl (.tmp 16) (.tmp 22) 60 rfl B 5 i0 (.int .u8 0) 1 1 Try.underlying60 hi hz0 hz1 hz2 rfl (by decide) (.slice A n c) n (ys.map (Value.int .u8)) (by simp [Act.eval, Act.put]) (own_drew (by have := HO.out.own; rw [HYL.out] at this; exact this.alloc _)) _ 1 1 [.int .u8 (IntKind.u8.wrap (x))] (by simp [Act.eval, Act.put]) rfl (news_u8 _ _) (one_u8 _) (by omega) (by unfold maxLen; omega) (by omega) (by simp; omega) _ rfl ?_; intro g cap w11 hown hgrow _ _; (obtain ⟨q1, q2, q3, q4⟩ := out_pushed (ys := [IntKind.u8.wrap (x)]) HO.out (by rw [HYL.out]; exact hown) (grown_undrew hgrow)); (have HA := Lib.hid q3); (have HB4 := Lib.hid (HM.out.trans q4)); clear q3 q4)
      all_goals
        go_wp2_with fail
        go_roundw
        case rel => exact ⟨4, _, by omega, by go_num, by rw [HB.out, ← List.append_assoc, HLS.out]; exact HA.out, HB4.out⟩
        case measure => simp [intOf]
    · have hneg : ((3 : Int) - ((4 : Nat) : Int)) = -1 := by decide
      rw [hneg]
      go_wp2_with fail
      go_end0
      exact ⟨rfl, ⟨_, by have := HO.out; rwa [List.take_of_length_le (by rw [num_len]; omega)] at this⟩, HM.out⟩
end Go.Proofs.Ytcicememljlafaa
