/- Walks: a string and an operation written, by the program. -/
import Derived.Test.YtcicememljlafaaE8
import Derived.Lib.AppendStr
namespace Go.Proofs.Ytcicememljlafaa
open Go.RowKit
open Runes (bs bt)

theorem strCells_eq (t : ByteArray) : Lib.strCells t = (bytesL t).map (Value.int .u8) := by
  apply List.ext_getElem
  · rw [Lib.strCells_length, List.length_map, bytesL_len]
  · intro i h1 h2
    have hi : i < t.size := by rw [Lib.strCells_length] at h1; exact h1
    simp [Lib.strCells, bytesL, Runes.bt_lt hi]
    rfl
theorem out_pushed0 {W w1 : World} {B ob : Nat} {v v1 : Value} {xs ys : List Int} (h : OutAt W B ob v xs)
    (hown : w1.ownsRow B 5 1 v1 (xs.length + ys.length) (xs.map (Value.int .u8) ++ ys.map (Value.int .u8))) (hg : W.grownBy w1 v.ownBlock) :
    w1.cell? ⟨ob, 0, none⟩ = some v ∧ w1.frozen? ⟨ob, 0, none⟩ = false ∧ OutAt (w1.setCell ⟨ob, 0, none⟩ v1) B ob v1 (xs ++ ys) ∧ MildO B W (w1.setCell ⟨ob, 0, none⟩ v1) := by
  have hrow : ∀ {q : Nat}, v.ownBlock = some q → ElemT W q 5 := fun {q} e => own_elem h.own e
  have hk : w1.heap[ob]? = W.heap[ob]? := (hg.block ob h.el.lt (fun e => absurd rfl ((hrow e.symm).ne h.el (by decide))))
  have ht1 : ElemT w1 ob 60 := h.el.keep hk
  have hg2 := set_grown w1 ob 0 v1
  refine ⟨(World.cell?_of_block (a := ⟨ob, 0, none⟩) hk).trans h.cell, ht1.frozen 0, ⟨set_cell_at _ ((World.cell?_of_block (a := ⟨ob, 0, none⟩) hk).trans h.cell), ht1.set _ _ rfl, h.hB, ?_⟩, ?_⟩
  · rw [List.length_append, List.map_append]
    refine hown.kept hg2 ?_
    by_cases e : v1.ownBlock = some ob
    · exact absurd rfl ((own_elem hown e).ne ht1 (by decide))
    · exact .inr e
  · have hsz : W.heap.size ≤ w1.heap.size := hg.size
    refine ⟨hg.os, hg.tape, hg.output, by simpa using hsz, fun q t ht h6 h5 => ?_, fun q hq hs => ?_⟩
    · rw [Below.heap_setCell _ _ _ _ (ht.ne h.el h6), hg.block q ht.lt (fun e => h5 (Classical.byContradiction fun hne => ht.ne (hrow e.symm) hne rfl))]
    · have hr : ¬ some q = v.ownBlock := fun e => by have := (World.ownsRow.lt h.own q e.symm).1; omega
      rw [Below.heap_setCell _ _ _ _ (by have := h.hB; show q ≠ ob; omega), hg.block q hs hr]

set_option maxHeartbeats 0 in
set_option maxRecDepth 100000 in
theorem stringFn (t : ByteArray) (B ob : Nat) (v : Value) (xs : List Int) (W : World) (h : OutAt W B ob v xs) (ht : t.size ≤ 65536) (hl : xs.length ≤ 70000) :
    Calls Try.prog 34 #[.pointer (some ⟨ob, 0, none⟩), .string t] W (NumRes B ob (xs ++ encText t) W) := by
  have HN := Lib.hid (number2 t.size B ob v xs W h (by omega) (by omega) hl)
  clear h
  go_enter Try.func34, Try.ntmps34
  go_wp2_with fail
  refine HN.out.mono ?_
  rintro e w1 ⟨rfl, ⟨v1, h1⟩, hm1⟩
  have H1 := Lib.hid h1
  have HM1 := Lib.hid hm1
  clear h1 hm1 HN
  obtain ⟨A, c, rfl⟩ := own_slice H1.out.own
  have n0 := H1.out.cell
  obtain ⟨i0, hi, hz0, hz1, hz2⟩ := info_parts u8_info
  have hB : B ≤ w1.heap.size := by have := H1.out.hB; have := H1.out.el.lt; omega
  have HL : Hid ((xs ++ num t.size 2).length = xs.length + 2) := by show _ = _; simp [num_len]
  generalize hls : xs ++ num t.size 2 = ys at *
  have HLS := Lib.hid hls
  clear hls
  generalize hyl : ys.length = n at *
  have HYL := Lib.hid hyl
  have hln : n ≤ 70002 := by have := HL.out; omega
  clear hyl
  go_wp2_with (at_builtin; refine Lib.wpList_append_own_string _ rfl _ _ 60 9 rfl B 5 i0 Try.underlying60 Try.underlying9 hi hz0 hz1 hz2 (.slice A n c) n (ys.map (Value.int .u8)) rfl (by have := H1.out.own; rw [HYL.out] at this; exact this) t rfl (by unfold maxLen; omega) (by omega) hB ?_; intro v' w' hown hgrow _; (obtain ⟨A', c', rfl⟩ := own_slice hown); (obtain ⟨q1, q2, q3, q4⟩ := out_pushed0 (ys := bytesL t) H1.out (by rw [HYL.out, bytesL_len, ← strCells_eq]; exact hown) hgrow); (have HA := Lib.hid q3); (have HB4 := Lib.hid (HM1.out.trans q4)); clear q3 q4)
  go_end0
  have hA := HA.out
  rw [← HLS.out, List.append_assoc] at hA
  exact ⟨rfl, ⟨_, hA⟩, HB4.out⟩
theorem u64w (x : Int) (h0 : 0 ≤ x) (h1 : x ≤ 18446744073709551615) : IntKind.u64.wrap x = x := by
  simp [IntKind.wrap, IntKind.bits, IntKind.signed]; omega
/-- Writing an operation: its box, its fields, the encoding. -/
structure WrSt (W0 wr : World) (B ob opb : Nat) (v : Value) (ys : List Int) (o : OpV) (A : Option Addr) : Prop where
  out : OutAt wr B ob v ys
  op : OpAt wr opb 0 o
  ope : ElemT wr opb 44
  u8 : U8s wr A (fieldsOf o.kind)
  mild : MildO B W0 wr
theorem WrSt.next {W0 wr w' : World} {B ob opb : Nat} {v v' : Value} {ys zs : List Int} {o : OpV} {A : Option Addr} (h : WrSt W0 wr B ob opb v ys o A) (ho : OutAt w' B ob v' zs) (hm : MildO B wr w') : WrSt W0 w' B ob opb v' zs o A :=
  ⟨ho, h.op.keep (hm.el opb 44 h.ope (by decide) (by decide)), h.ope.keep (hm.el opb 44 h.ope (by decide) (by decide)), u8s_keep h.u8 fun q hq => hm.el q 53 hq (by decide) (by decide), h.mild.trans hm⟩
theorem WrSt.cells {W0 wr : World} {B ob opb : Nat} {v : Value} {ys : List Int} {x0 x1 x2 x3 x4 x5 : Int} {x6 : ByteArray} {A : Option Addr} (h : WrSt W0 wr B ob opb v ys ⟨x0, x1, x2, x3, x4, x5, x6⟩ A) :
    wr.cell? ⟨opb, 0, none⟩ = some (.int .u8 x0) ∧ wr.cell? ⟨opb, 1, none⟩ = some (.int .i64 x1) ∧ wr.cell? ⟨opb, 2, none⟩ = some (.int .i64 x2) ∧ wr.cell? ⟨opb, 3, none⟩ = some (.int .i64 x3) ∧
      wr.cell? ⟨opb, 4, none⟩ = some (.int .u32 x4) ∧ wr.cell? ⟨opb, 5, none⟩ = some (.int .u8 x5) ∧ wr.cell? ⟨opb, 6, none⟩ = some (.string x6) := by
  obtain ⟨m0, m1, m2, m3, m4, m5, m6⟩ := h.op
  simp only [Nat.zero_add] at m1 m2 m3 m4 m5 m6
  exact ⟨m0, m1, m2, m3, m4, m5, m6⟩
theorem encFs_take2 (o : OpV) (fs : List Int) (k : Nat) (hk : k < fs.length) : encFs o (fs.take (k + 1)) = encFs o (fs.take k) ++ encF o (fs.getD k 0) := by
  rw [take_snoc 0 fs k hk, encFs_snoc]

set_option maxHeartbeats 0 in
set_option maxRecDepth 100000 in
theorem opFn (o : OpV) (B ob : Nat) (v : Value) (xs : List Int) (W : World) (h : OutAt W B ob v xs) (hp : PlainOp o) (ht : OpTy o) (hl : xs.length ≤ 66000) :
    Calls Try.prog 35 #[.pointer (some ⟨ob, 0, none⟩), opVal o] W (NumRes B ob (xs ++ encOp o) W) := by
  have hk1 := hp.kind.1
  have hk2 := hp.kind.2
  have s0 := hp.slot.1
  have s1 := hp.slot.2
  have p0 := hp.pos.1
  have p1 := hp.pos.2
  have n0 := hp.num.1
  have n1 := hp.num.2
  have i0 := ht.id.1
  have i1 := ht.id.2
  have g0 := ht.grav.1
  have g1 := ht.grav.2
  have t1 := hp.text
  have HF := Lib.hid (fun W : World => fieldsFn o.kind W hk1 hk2)
  have HFL := Lib.hid (encFs_take_le t1 (fieldsOf o.kind))
  have HFT := Lib.hid (encFs_take2 o (fieldsOf o.kind))
  have HFB := Lib.hid (fields_bd2 o.kind)
  have hf3 := (fieldsOf_bd o.kind).1
  obtain ⟨x0, x1, x2, x3, x4, x5, x6⟩ := o
  dsimp only at hk1 hk2 s0 s1 p0 p1 n0 n1 i0 i1 g0 g1 t1 HF HFB hf3 HFT HFL
  clear hp ht
  have HOB := Lib.hid (opBox_new W x0 x1 x2 x3 x4 x5 x6)
  have HOE : Hid (ElemT (W.alloc (.cells #[.int .u8 x0, .int .i64 x1, .int .i64 x2, .int .i64 x3, .int .u32 x4, .int .u8 x5, .string x6] 44)) W.heap.size 44) := ⟨_, heap_alloc_new _ _⟩
  have HMA := Lib.hid (MildO.alloc B W (.cells #[.int .u8 x0, .int .i64 x1, .int .i64 x2, .int .i64 x3, .int .u32 x4, .int .u8 x5, .string x6] 44))
  have HOA : Hid (OutAt (W.alloc (.cells #[.int .u8 x0, .int .i64 x1, .int .i64 x2, .int .i64 x3, .int .u32 x4, .int .u8 x5, .string x6] 44)) B ob v xs) :=
    ⟨(World.cell?_alloc_past _ _ _ h.el.lt).trans h.cell, h.el.keep (Below.heap_alloc _ _ _ h.el.lt), h.hB, h.own.alloc _⟩
  have HN := Lib.hid (number1 x0 B ob v xs _ HOA.out (by omega) (by omega) (by omega))
  clear h
  have c0 := HOB.out.c0
  go_enter Try.func35, Try.ntmps35
  go_wp2_with fail
  refine HN.out.mono ?_
  rintro e w1 ⟨rfl, ⟨v1, h1⟩, hm1⟩
  have HO1 := Lib.hid (HOB.out.keep (hm1.el _ 44 HOE.out (by decide) (by decide)))
  have HE1 := Lib.hid (HOE.out.keep (hm1.el _ 44 HOE.out (by decide) (by decide)))
  have HM1 := Lib.hid (HMA.out.trans hm1)
  have H1 := Lib.hid h1
  clear h1 hm1 HN HOA HMA HOE HOB c0
  have c0 := HO1.out.c0
  go_wp2_with fail
  refine (HF.out _).mono ?_
  rintro e w2 ⟨A, c, rfl, hu, hg⟩
  have hmg := MildO.grown (B := B) hg
  have HS : Hid (WrSt W w2 B ob W.heap.size v1 (xs ++ num x0 1) ⟨x0, x1, x2, x3, x4, x5, x6⟩ A) := by
    have hr : v1.ownBlock = none ∨ v1.ownBlock ≠ none := by by_cases e : v1.ownBlock = none <;> simp [e]
    refine ⟨⟨(World.cell?_of_block (a := ⟨ob, 0, none⟩) (hg.block ob H1.out.el.lt (by simp))).trans H1.out.cell, H1.out.el.keep (hg.block ob H1.out.el.lt (by simp)), H1.out.hB, H1.out.own.kept hg ?_⟩, HO1.out.grown hg, HE1.out.keep (hg.block _ HE1.out.lt (by simp)), hu, HM1.out.trans hmg⟩
    rcases hr with e | e
    · exact .inl e
    · exact .inr e
  clear hu hg hmg c0 H1 HM1 HO1 HE1 HF
  generalize W.heap.size = opb at *
  generalize hfl : (fieldsOf x0).length = nf at *
  have HFN := Lib.hid hfl
  clear hfl
  go_wp2_with fail
  go_loopw [15] (fun i wr => ∃ (q : Nat) (v' : Value), q ≤ nf ∧ i = .int .i64 q ∧ Hid (WrSt W wr B ob opb v' (xs ++ num x0 1 ++ encFs ⟨x0, x1, x2, x3, x4, x5, x6⟩ ((fieldsOf x0).take q)) ⟨x0, x1, x2, x3, x4, x5, x6⟩ A)) (fun i _ => nf - (intOf i).toNat)
  case atStart => exact ⟨0, v1, Nat.zero_le _, rfl, by show WrSt _ _ _ _ _ _ _ _ _; simpa [encFs] using HS.out⟩
  case round =>
    obtain ⟨q, v', hq, rfl, HQ⟩ := hrel
    clear HS
    by_cases hqn : q < nf
    · obtain ⟨bu, ou, rfl, _, hcu⟩ := HQ.out.u8 (by dsimp only; rw [HFN.out]; omega)
      have hfq := hcu q (by dsimp only; rw [HFN.out]; exact hqn)
      clear hcu
      have HTQ := Lib.hid (HFT.out q (by first | exact hqn | (rw [HFN.out]; exact hqn)))
      have hin := HFB.out q (by first | exact hqn | (rw [HFN.out]; exact hqn))
      have hlq : (xs ++ num x0 1 ++ encFs ⟨x0, x1, x2, x3, x4, x5, x6⟩ ((fieldsOf x0).take q)).length ≤ 70000 := by
        have := HFL.out q
        simp only [List.length_append, num_len]
        omega
      generalize (fieldsOf x0).getD q 0 = f at *
      have hqi : (q : Int) < (nf : Int) := by omega
      obtain ⟨m0, m1, m2, m3, m4, m5, m6⟩ := HQ.out.cells
      rcases hin with rfl | rfl | rfl | rfl | rfl | rfl
      · have HNN := Lib.hid (number1 x1 B ob v' _ wr HQ.out.out (by omega) (by omega) hlq)
        have HE : Hid (xs ++ num x0 1 ++ encFs ⟨x0, x1, x2, x3, x4, x5, x6⟩ ((fieldsOf x0).take (q + 1)) = xs ++ num x0 1 ++ encFs ⟨x0, x1, x2, x3, x4, x5, x6⟩ ((fieldsOf x0).take q) ++ num x1 1) := by
          show _ = _; rw [HTQ.out, ← List.append_assoc]; rfl
        clear HTQ
        generalize hYS : xs ++ num x0 1 ++ encFs ⟨x0, x1, x2, x3, x4, x5, x6⟩ ((fieldsOf x0).take q) = ys at *
        clear hYS
        go_wp2_with fail
        refine HNN.out.mono ?_
        rintro e w3 ⟨rfl, ⟨v3, h3⟩, hm3⟩
        have HQ2 := Lib.hid (HQ.out.next h3 hm3)
        clear h3 hm3 HNN m0 m1 m2 m3 m4 m5 m6 hfq
        go_wp2_with fail
        go_roundw
        case rel => exact ⟨q + 1, _, by omega, by go_num, by rw [HE.out]; exact HQ2.out⟩
        case measure => simp [intOf]; omega
      · have HNN := Lib.hid (number2 x2 B ob v' _ wr HQ.out.out (by omega) (by omega) hlq)
        have HE : Hid (xs ++ num x0 1 ++ encFs ⟨x0, x1, x2, x3, x4, x5, x6⟩ ((fieldsOf x0).take (q + 1)) = xs ++ num x0 1 ++ encFs ⟨x0, x1, x2, x3, x4, x5, x6⟩ ((fieldsOf x0).take q) ++ num x2 2) := by
          show _ = _; rw [HTQ.out, ← List.append_assoc]; rfl
        clear HTQ
        generalize hYS : xs ++ num x0 1 ++ encFs ⟨x0, x1, x2, x3, x4, x5, x6⟩ ((fieldsOf x0).take q) = ys at *
        clear hYS
        go_wp2_with fail
        refine HNN.out.mono ?_
        rintro e w3 ⟨rfl, ⟨v3, h3⟩, hm3⟩
        have HQ2 := Lib.hid (HQ.out.next h3 hm3)
        clear h3 hm3 HNN m0 m1 m2 m3 m4 m5 m6 hfq
        go_wp2_with fail
        go_roundw
        case rel => exact ⟨q + 1, _, by omega, by go_num, by rw [HE.out]; exact HQ2.out⟩
        case measure => simp [intOf]; omega
      · have HNN := Lib.hid (number2 x3 B ob v' _ wr HQ.out.out (by omega) (by omega) hlq)
        have HE : Hid (xs ++ num x0 1 ++ encFs ⟨x0, x1, x2, x3, x4, x5, x6⟩ ((fieldsOf x0).take (q + 1)) = xs ++ num x0 1 ++ encFs ⟨x0, x1, x2, x3, x4, x5, x6⟩ ((fieldsOf x0).take q) ++ num x3 2) := by
          show _ = _; rw [HTQ.out, ← List.append_assoc]; rfl
        clear HTQ
        generalize hYS : xs ++ num x0 1 ++ encFs ⟨x0, x1, x2, x3, x4, x5, x6⟩ ((fieldsOf x0).take q) = ys at *
        clear hYS
        go_wp2_with fail
        refine HNN.out.mono ?_
        rintro e w3 ⟨rfl, ⟨v3, h3⟩, hm3⟩
        have HQ2 := Lib.hid (HQ.out.next h3 hm3)
        clear h3 hm3 HNN m0 m1 m2 m3 m4 m5 m6 hfq
        go_wp2_with fail
        go_roundw
        case rel => exact ⟨q + 1, _, by omega, by go_num, by rw [HE.out]; exact HQ2.out⟩
        case measure => simp [intOf]; omega
      · have HNN := Lib.hid (number4 x4 B ob v' _ wr HQ.out.out (by omega) (by omega) hlq)
        have HE : Hid (xs ++ num x0 1 ++ encFs ⟨x0, x1, x2, x3, x4, x5, x6⟩ ((fieldsOf x0).take (q + 1)) = xs ++ num x0 1 ++ encFs ⟨x0, x1, x2, x3, x4, x5, x6⟩ ((fieldsOf x0).take q) ++ num x4 4) := by
          show _ = _; rw [HTQ.out, ← List.append_assoc]; rfl
        clear HTQ
        generalize hYS : xs ++ num x0 1 ++ encFs ⟨x0, x1, x2, x3, x4, x5, x6⟩ ((fieldsOf x0).take q) = ys at *
        clear hYS
        go_wp2_with fail
        refine HNN.out.mono ?_
        rintro e w3 ⟨rfl, ⟨v3, h3⟩, hm3⟩
        have HQ2 := Lib.hid (HQ.out.next h3 hm3)
        clear h3 hm3 HNN m0 m1 m2 m3 m4 m5 m6 hfq
        go_wp2_with fail
        go_roundw
        case rel => exact ⟨q + 1, _, by omega, by go_num, by rw [HE.out]; exact HQ2.out⟩
        case measure => simp [intOf]; omega
      · have HNN := Lib.hid (number1 x5 B ob v' _ wr HQ.out.out (by omega) (by omega) hlq)
        have HE : Hid (xs ++ num x0 1 ++ encFs ⟨x0, x1, x2, x3, x4, x5, x6⟩ ((fieldsOf x0).take (q + 1)) = xs ++ num x0 1 ++ encFs ⟨x0, x1, x2, x3, x4, x5, x6⟩ ((fieldsOf x0).take q) ++ num x5 1) := by
          show _ = _; rw [HTQ.out, ← List.append_assoc]; rfl
        clear HTQ
        generalize hYS : xs ++ num x0 1 ++ encFs ⟨x0, x1, x2, x3, x4, x5, x6⟩ ((fieldsOf x0).take q) = ys at *
        clear hYS
        go_wp2_with fail
        refine HNN.out.mono ?_
        rintro e w3 ⟨rfl, ⟨v3, h3⟩, hm3⟩
        have HQ2 := Lib.hid (HQ.out.next h3 hm3)
        clear h3 hm3 HNN m0 m1 m2 m3 m4 m5 m6 hfq
        go_wp2_with fail
        go_roundw
        case rel => exact ⟨q + 1, _, by omega, by go_num, by rw [HE.out]; exact HQ2.out⟩
        case measure => simp [intOf]; omega
      · have HNN := Lib.hid (stringFn x6 B ob v' _ wr HQ.out.out (by omega) hlq)
        have HE : Hid (xs ++ num x0 1 ++ encFs ⟨x0, x1, x2, x3, x4, x5, x6⟩ ((fieldsOf x0).take (q + 1)) = xs ++ num x0 1 ++ encFs ⟨x0, x1, x2, x3, x4, x5, x6⟩ ((fieldsOf x0).take q) ++ encText x6) := by
          show _ = _; rw [HTQ.out, ← List.append_assoc]; rfl
        clear HTQ
        generalize hYS : xs ++ num x0 1 ++ encFs ⟨x0, x1, x2, x3, x4, x5, x6⟩ ((fieldsOf x0).take q) = ys at *
        clear hYS
        go_wp2_with fail
        refine HNN.out.mono ?_
        rintro e w3 ⟨rfl, ⟨v3, h3⟩, hm3⟩
        have HQ2 := Lib.hid (HQ.out.next h3 hm3)
        clear h3 hm3 HNN m0 m1 m2 m3 m4 m5 m6 hfq
        go_wp2_with fail
        go_roundw
        case rel => exact ⟨q + 1, _, by omega, by go_num, by rw [HE.out]; exact HQ2.out⟩
        case measure => simp [intOf]; omega
    · obtain rfl : q = nf := by omega
      go_wp2_with fail
      go_end0
      have hA := HQ.out.out
      rw [List.take_of_length_le (by rw [HFN.out]; omega), List.append_assoc] at hA
      exact ⟨rfl, ⟨_, hA⟩, HQ.out.mild⟩
end Go.Proofs.Ytcicememljlafaa
