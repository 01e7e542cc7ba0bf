/- Walks: an operation written, by the reference. -/
import Derived.Test.YtcicememljlafaaE11
import Derived.Deep.RegionHeld3
import Derived.Laws.Tables
import Derived.Deep.WholeRow
namespace Go.Proofs.Ytcicememljlafaa
open Go.RowKit
open Runes (bs bt)

abbrev opS (w : World) (ub : Nat) (x0 x1 x2 x3 x4 x5 : Int) (x6 : ByteArray) (W : World) : Prop :=
  Hid (UsSt w W ub (usesArr x0) ⟨x0, x1, x2, x3, x4, x5, x6⟩) ∧ W.cell? ⟨w.heap.size, 1, none⟩ = some (.int .i64 x1) ∧ W.cell? ⟨w.heap.size, 2, none⟩ = some (.int .i64 x2) ∧ W.cell? ⟨w.heap.size, 3, none⟩ = some (.int .i64 x3) ∧
      W.cell? ⟨w.heap.size, 4, none⟩ = some (.int .u32 x4) ∧ W.cell? ⟨w.heap.size, 5, none⟩ = some (.int .u8 x5) ∧ W.cell? ⟨w.heap.size, 6, none⟩ = some (.string x6)
theorem UsSt.below {w W W' : World} {ub : Nat} {us : Array Value} {o : OpV} (h : UsSt w W ub us o) (hb : Below W.heap.size W W') : UsSt w W' ub us o :=
  ⟨(hb.block ub (heap_lt h.us)).trans h.us, h.op.keep (hb.block _ (World.block_lt_of_cell? W _ h.op.c0)), below_then h.bel h.bel.size hb⟩
theorem opS_of {w W : World} {ub : Nat} {x0 x1 x2 x3 x4 x5 : Int} {x6 : ByteArray} (h : UsSt w W ub (usesArr x0) ⟨x0, x1, x2, x3, x4, x5, x6⟩) : opS w ub x0 x1 x2 x3 x4 x5 x6 W := by
  obtain ⟨_, m1, m2, m3, m4, m5, m6⟩ := h.cells
  exact ⟨h, m1, m2, m3, m4, m5, m6⟩
theorem opS_step {w W W' : World} {ub : Nat} {x0 x1 x2 x3 x4 x5 : Int} {x6 : ByteArray} (h : opS w ub x0 x1 x2 x3 x4 x5 x6 W) (hb : Below W.heap.size W W') : opS w ub x0 x1 x2 x3 x4 x5 x6 W' := opS_of (h.1.out.below hb)
theorem UsSt.drew {w W : World} {ub : Nat} {us : Array Value} {o : OpV} (h : UsSt w W ub us o) : UsSt w W.drew ub us o := ⟨h.us, h.op.keep rfl, h.bel.drew⟩

theorem opS_alloc {w W : World} {ub : Nat} {x0 x1 x2 x3 x4 x5 : Int} {x6 : ByteArray} (h : opS w ub x0 x1 x2 x3 x4 x5 x6 W) (o : Obj) : opS w ub x0 x1 x2 x3 x4 x5 x6 (W.alloc o) := opS_step h (below_box W o)
theorem UsSt.drew2 {w W : World} {ub : Nat} {x0 x1 x2 x3 x4 x5 : Int} {x6 : ByteArray} (h : UsSt w W ub (usesArr x0) ⟨x0, x1, x2, x3, x4, x5, x6⟩) : opS w ub x0 x1 x2 x3 x4 x5 x6 W.drew := opS_of h.drew
abbrev z83 : Obj := .cells #[.string ⟨#[]⟩, .string ⟨#[]⟩, .string ⟨#[]⟩, .string ⟨#[]⟩, .string ⟨#[]⟩, .string ⟨#[]⟩] 83
/-- The array of the parts, laid early. -/
structure PB (w : World) (ub q : Nat) (W : World) : Prop where
  blk : W.heap[q]? = some z83
  hw : w.heap.size < q
  hu : ub < q
abbrev PB.theq {w W : World} {ub q : Nat} (_ : PB w ub q W) : Nat := q
theorem opS_get {w W : World} {ub : Nat} {x0 x1 x2 x3 x4 x5 : Int} {x6 : ByteArray} (h : opS w ub x0 x1 x2 x3 x4 x5 x6 W) : UsSt w W ub (usesArr x0) ⟨x0, x1, x2, x3, x4, x5, x6⟩ := h.1.out
theorem ret_str {a b : ByteArray} (h : a = b) : Ending.returned (.string a) = .returned (.string b) := by rw [h]
theorem encFs_to (o : OpV) (k : Nat) (hk : k < 6) : (useB o.kind k = true → encFs o (usedTo o.kind (k + 1)) = encFs o (usedTo o.kind k) ++ encF o k) ∧ (useB o.kind k = false → encFs o (usedTo o.kind (k + 1)) = encFs o (usedTo o.kind k)) := by
  rw [usedTo_succ o.kind k hk]
  refine ⟨fun h => ?_, fun h => ?_⟩
  · rw [if_pos h]; simp [encFs]
  · rw [if_neg (by simp [h])]
theorem encF_le (o : OpV) (ht : o.text.size ≤ 256) (k : Int) : (encF o k).length ≤ 258 := by
  unfold encF encText
  repeat' split
  all_goals simp only [num_len, List.length_append, bytesL_len]
  all_goals omega
theorem parts_cell (x0 x1 x2 x3 x4 x5 : Int) (x6 : ByteArray) (k : Nat) (hk : k < 6) :
    (#[.string (bs (num x1 1)), .string (bs (num x2 2)), .string (bs (num x3 2)), .string (bs (num x4 4)), .string (bs (num x5 1)), .string (bs (num x6.size 2) ++ x6)] : Array Value)[k]? = some (.string (bs (encF ⟨x0, x1, x2, x3, x4, x5, x6⟩ k))) := by
  match k, hk with
  | 0, _ | 1, _ | 2, _ | 3, _ | 4, _ => rfl
  | 5, _ =>
    have e : bs (encF ⟨x0, x1, x2, x3, x4, x5, x6⟩ (5 : Nat)) = bs (num x6.size 2) ++ x6 := by
      show bs (encText x6) = _
      unfold encText
      rw [← bs_app, bs_bytesL]
    rw [e]; rfl
  | k + 6, hk => exact absurd hk (by omega)
theorem pb_new {w W W' : World} {ub : Nat} {x0 x1 x2 x3 x4 x5 : Int} {x6 : ByteArray} (hb : Below (W.alloc z83).heap.size (W.alloc z83) W') (h : opS w ub x0 x1 x2 x3 x4 x5 x6 (W.alloc z83)) : PB w ub W.heap.size W' := by
  have hn : (W.alloc z83).heap[W.heap.size]? = some z83 := heap_alloc_new _ _
  have h1 := heap_lt h.1.out.us
  have h2 : w.heap.size < (W.alloc z83).heap.size := World.block_lt_of_cell? _ _ h.1.out.op.c0
  have hs : (W.alloc z83).heap.size = W.heap.size + 1 := by simp
  rw [hs] at h1 h2
  have e1 : ub ≠ W.heap.size := fun e => by have := h.1.out.us; rw [e, hn] at this; injection this with this; injection this with _ e3; exact absurd e3 (by decide)
  have e2 : w.heap.size ≠ W.heap.size := fun e => by
    have := h.1.out.op.c0
    unfold World.cell? at this
    rw [e, hn] at this
    injection this with this
    injection this
  exact ⟨(hb.block _ (by simp)).trans hn, by omega, by omega⟩
theorem PB.old {w W W' : World} {ub q : Nat} (h : PB w ub q W) (hb : Below W.heap.size W W') : PB w ub q W' := ⟨(hb.block q (heap_lt h.blk)).trans h.blk, h.hw, h.hu⟩
theorem step_store_row {ops : Array Oper} {o : Oper} {a : Act} {w : World} {K : Act → World → Prop} {Q : Exit → Act → World → Prop} {E : Prop} (hgd : o.guard = none) (ty : TypeId) (x y : Operand) (ho : o.op = .store ty x y)
    (g : Nat) (cells : Array Value) (hx : a.eval x = .pointer (some ⟨g, 0, none⟩)) (hy : a.eval y = .agg cells)
    (t : TypeId) (old : Array Value) (hg : w.heap[g]? = some (.cells old t (0, 0))) (hi : (Try.prog.info? ty).map (·.size) = some cells.size)
    (hold : old.size = cells.size) (h1 : cells.all (·.oneCell') = true)
    (h : K (a.put o.dst undef) (w.setRow g cells)) :
    if Region.wanted o (yielded ops a.tmps) = true then Oper.wp Try.prog o a w K Q else E := by
  have hw : Region.wanted o (yielded ops a.tmps) = true := by simp [Region.wanted, hgd]
  rw [if_pos hw]
  exact wp_store_row ty x y ho g cells hx hy t old hg hi hold h1 h
theorem opS_row {w W : World} {ub q : Nat} {x0 x1 x2 x3 x4 x5 : Int} {x6 : ByteArray} {cs : Array Value} (h : opS w ub x0 x1 x2 x3 x4 x5 x6 W) (p : PB w ub q W) : opS w ub x0 x1 x2 x3 x4 x5 x6 (W.setRow q cs) := by
  have hk : ∀ k, k ≠ q → (W.setRow q cs).heap[k]? = W.heap[k]? := fun k hk => by simp [World.setRow, Array.getElem?_modify, hk.symm]
  have h1 := p.hu
  have h2 := p.hw
  exact opS_of ⟨(hk ub (by omega)).trans h.1.out.us, h.1.out.op.keep (hk _ (by omega)), h.1.out.bel.trans ⟨rfl, rfl, rfl, by simp [World.setRow], fun k hk' => hk k (by omega)⟩⟩
theorem info83 : (Try.prog.info? 83).map (·.size) = some 6 := by kernel_rfl
theorem opS_re {w W : World} {ub : Nat} {x0 x1 x2 x3 x4 x5 : Int} {x6 : ByteArray} (h : opS w ub x0 x1 x2 x3 x4 x5 x6 (W.alloc z83)) (o : Obj) : opS w ub x0 x1 x2 x3 x4 x5 x6 (W.alloc o) := by
  have p := pb_new (Below.refl _ _) h
  have hs := h.1.out.bel.size
  simp only [World.size_alloc] at hs
  have hk : ∀ k, k < W.heap.size → (W.alloc o).heap[k]? = (W.alloc z83).heap[k]? := fun k hk => (Below.heap_alloc _ _ _ hk).trans (Below.heap_alloc _ _ _ hk).symm
  have h1 := p.hu
  have h2 := p.hw
  exact opS_of ⟨(hk ub h1).trans h.1.out.us, h.1.out.op.keep (hk _ h2), ⟨h.1.out.bel.os, h.1.out.bel.tape, h.1.out.bel.output, by simpa using hs, fun k hk' => (hk k (by omega)).trans (h.1.out.bel.block k hk')⟩⟩
theorem opS_lt {w W : World} {ub : Nat} {x0 x1 x2 x3 x4 x5 : Int} {x6 : ByteArray} (h : opS w ub x0 x1 x2 x3 x4 x5 x6 W) : ub < W.heap.size ∧ w.heap.size < W.heap.size := ⟨heap_lt h.1.out.us, World.block_lt_of_cell? W _ h.1.out.op.c0⟩
theorem run_sv83 (w : World) (q : Nat) (y1 y2 y3 y4 y5 y6 : ByteArray) (hg : w.heap[q]? = some z83) :
    (storeVar 83 ⟨q, 0, none⟩ (.agg #[.string y1, .string y2, .string y3, .string y4, .string y5, .string y6])).run Try.prog w = .ok () (w.setRow q #[.string y1, .string y2, .string y3, .string y4, .string y5, .string y6]) :=
  run_storeVar_row w q 83 83 _ _ hg info83 rfl (by simp [Value.oneCell'])
theorem run_sv83n (w : World) (y1 y2 y3 y4 y5 y6 : ByteArray) :
    (storeVar 83 ⟨w.heap.size, 0, none⟩ (.agg #[.string y1, .string y2, .string y3, .string y4, .string y5, .string y6])).run Try.prog (w.alloc z83) = .ok () (w.alloc (.cells #[.string y1, .string y2, .string y3, .string y4, .string y5, .string y6] 83)) :=
  run_storeVar_new w 83 _ _ info83 rfl (by simp [Value.oneCell'])
theorem info57 : (Try.prog.info? 57).map (·.size) = some 6 := by kernel_rfl
theorem run_sv57n (w : World) (b1 b2 b3 b4 b5 b6 c1 c2 c3 c4 c5 c6 : Bool) :
    (storeVar 57 ⟨w.heap.size, 0, none⟩ (.agg #[.bool b1, .bool b2, .bool b3, .bool b4, .bool b5, .bool b6])).run Try.prog (w.alloc (.cells #[.bool c1, .bool c2, .bool c3, .bool c4, .bool c5, .bool c6] 57)) = .ok () (w.alloc (.cells #[.bool b1, .bool b2, .bool b3, .bool b4, .bool b5, .bool b6] 57)) :=
  run_storeVar_new w 57 _ _ info57 rfl (by simp [Value.oneCell'])
attribute [-go_sem] storeVar
attribute [local go_sem] run_sv83 run_sv83n run_sv57n
theorem cat_run (a b : ByteArray) (h : a.size + b.size ≤ 9223372036854775807) (W : World) : (binOp .add 9 (.string a) (.string b)).run Try.prog W = .ok (.string (a ++ b)) W := by
  have h2 : ¬ 9223372036854775807 < a.size + b.size := by omega
  go_simp
set_option maxHeartbeats 0 in
set_option maxRecDepth 100000 in
theorem opRef (x0 x1 x2 x3 x4 x5 : Int) (x6 : ByteArray) (w : World) (hp : PlainOp ⟨x0, x1, x2, x3, x4, x5, x6⟩) (ht : OpTy ⟨x0, x1, x2, x3, x4, x5, x6⟩) :
    Calls Try.prog 37 #[opVal ⟨x0, x1, x2, x3, x4, x5, x6⟩] w (PutRes (encOp ⟨x0, x1, x2, x3, x4, x5, x6⟩) w) := by
  have hk1 := hp.kind.1
  have hk2 := hp.kind.2
  have s0 := hp.slot.1
  have s1 := hp.slot.2
  have p0 := hp.pos.1
  have p1 := hp.pos.2
  have n0 := hp.num.1
  have n1 := hp.num.2
  have i0 := ht.id.1
  have i1 := ht.id.2
  have g0 := ht.grav.1
  have g1 := ht.grav.2
  have t1 := hp.text
  dsimp only at hk1 hk2 s0 s1 p0 p1 n0 n1 i0 i1 g0 g1 t1
  clear hp ht
  have HU := Lib.hid (fun W : World => usesFn x0 W (by omega) (by omega))
  unfold UsesRes usesVal at HU
  have hw1 := u64w x1 (by omega) (by omega)
  have hw2 := u64w x2 (by omega) (by omega)
  have hw3 := u64w x3 (by omega) (by omega)
  have hw4 := u64w x4 (by omega) (by omega)
  have hw5 := u64w x5 (by omega) (by omega)
  have hw6 := u64w x6.size (by omega) (by omega)
  have P0 := Lib.hid (fun W => put1 x0 W (by omega) (by omega))
  have P1 := Lib.hid (fun W => put1 x1 W (by omega) (by omega))
  have P2 := Lib.hid (fun W => put2 x2 W (by omega) (by omega))
  have P3 := Lib.hid (fun W => put2 x3 W (by omega) (by omega))
  have P4 := Lib.hid (fun W => put4 x4 W (by omega) (by omega))
  have P5 := Lib.hid (fun W => put1 x5 W (by omega) (by omega))
  have P6 := Lib.hid (fun W => put2 x6.size W (by omega) (by omega))
  have HPC := Lib.hid (parts_cell x0 x1 x2 x3 x4 x5 x6)
  have HC := Lib.hid (usesVal_cell x0)
  have HSB := Lib.hid (fun k : Nat => encF_le ⟨x0, x1, x2, x3, x4, x5, x6⟩ t1 k)
  have hw0 := u64w x0 (by omega) (by omega)
  have hbz : (bs (num x6.size 2)).size = 2 := by rw [bs_size, num_len]
  unfold PutRes at P0 P1 P2 P3 P4 P5 P6
  generalize bs (num x1 1) = y1 at *
  generalize bs (num x2 2) = y2 at *
  generalize bs (num x3 2) = y3 at *
  generalize bs (num x4 4) = y4 at *
  generalize bs (num x5 1) = y5 at *
  generalize bs (num x6.size 2) = y6 at *
  have hcat := cat_run y6 x6 (by omega)
  have hcat3 : ¬ 9223372036854775807 < 2 + x6.size := by omega
  go_enter Try.func37, Try.ntmps37
  go_wp2_with fail
  refine (HU.out _).mono ?_
  rintro e w1 ⟨rfl, hg⟩
  have HS := Lib.hid (usst_start x0 x1 x2 x3 x4 x5 x6 (usesArr x0) hg)
  go_upto_region 2 with fail
  clear hg HU
  generalize w1.alloc (Obj.cells (usesArr x0) 57) = W at *
  generalize w1.heap.size = ub at *
  have HA0 := Lib.hid (HS.out.below (below_box W z83)).drew
  have hpb0 : PB w ub W.heap.size (W.alloc z83).drew := ⟨heap_alloc_new _ _, World.block_lt_of_cell? _ _ HS.out.op.c0, heap_lt HS.out.us⟩
  go_region_held3 (fun w' => opS w ub x0 x1 x2 x3 x4 x5 x6 w')
    (first
      | (with_reducible assumption)
      | (with_reducible exact opS_of HS.out.drew)
      | (with_reducible exact opS_of HA0.out)
      | (with_reducible refine opS_alloc ?_ _; with_reducible assumption)
      | (with_reducible refine opS_re ?_ _; with_reducible assumption)
      | (with_reducible refine opS_step ?_ hgrow; with_reducible assumption)
      | (with_reducible refine opS_row ?_ hpb; with_reducible assumption)
      | (with_reducible refine opS_step ?_ hgrow; with_reducible exact opS_of HS.out.drew)
      | (with_reducible refine opS_alloc ?_ _; with_reducible exact opS_of HS.out.drew))
    (first
      | (go_at_call 36; with_reducible refine (P1.out _).mono ?_; rintro e w3 ⟨rfl, hgrow⟩; (try (have hpb := PB.old hpb hgrow)); (try (have hpb := PB.old hpb0 hgrow)); (try (have hpb := pb_new hgrow (by with_reducible assumption))); (try (have hblk := hpb.blk)))
      | (go_at_call 36; with_reducible refine (P2.out _).mono ?_; rintro e w3 ⟨rfl, hgrow⟩; (try (have hpb := PB.old hpb hgrow)); (try (have hpb := PB.old hpb0 hgrow)); (try (have hpb := pb_new hgrow (by with_reducible assumption))); (try (have hblk := hpb.blk)))
      | (go_at_call 36; with_reducible refine (P3.out _).mono ?_; rintro e w3 ⟨rfl, hgrow⟩; (try (have hpb := PB.old hpb hgrow)); (try (have hpb := PB.old hpb0 hgrow)); (try (have hpb := pb_new hgrow (by with_reducible assumption))); (try (have hblk := hpb.blk)))
      | (go_at_call 36; with_reducible refine (P4.out _).mono ?_; rintro e w3 ⟨rfl, hgrow⟩; (try (have hpb := PB.old hpb hgrow)); (try (have hpb := PB.old hpb0 hgrow)); (try (have hpb := pb_new hgrow (by with_reducible assumption))); (try (have hblk := hpb.blk)))
      | (go_at_call 36; with_reducible refine (P5.out _).mono ?_; rintro e w3 ⟨rfl, hgrow⟩; (try (have hpb := PB.old hpb hgrow)); (try (have hpb := PB.old hpb0 hgrow)); (try (have hpb := pb_new hgrow (by with_reducible assumption))); (try (have hblk := hpb.blk)))
      | (go_at_call 36; with_reducible refine (P6.out _).mono ?_; rintro e w3 ⟨rfl, hgrow⟩; (try (have hpb := PB.old hpb hgrow)); (try (have hpb := PB.old hpb0 hgrow)); (try (have hpb := pb_new hgrow (by with_reducible assumption))); (try (have hblk := hpb.blk))))
  · have hb := heap_alloc_new w3 (.cells #[.string y1, .string y2, .string y3, .string y4, .string y5, .string (y6 ++ x6)] 83)
    have hU := opS_get (W := w3.alloc (.cells #[.string y1, .string y2, .string y3, .string y4, .string y5, .string (y6 ++ x6)] 83)) (by assumption)
    generalize w3.alloc (.cells #[.string y1, .string y2, .string y3, .string y4, .string y5, .string (y6 ++ x6)] 83) = W2 at *
    generalize w3.heap.size = qb at *
    have HU := Lib.hid hU
    have HB := Lib.hid hb
    have n0 := hU.op.c0
    clear hU hb
    go_wp2_with fail
    refine (P0.out _).mono ?_
    rintro e w4 ⟨rfl, hg4⟩
    have HU4 := Lib.hid (HU.out.below hg4)
    have HB4 := Lib.hid ((hg4.block _ (heap_lt HB.out)).trans HB.out)
    clear hg4 HU HB n0
    go_wp2_with fail
    go_loopw [5, 6] (fun sv i wr => ∃ (k : Nat) (t : ByteArray), k ≤ 6 ∧ i = .int .i64 k ∧ sv = .string t ∧ t.size ≤ 1 + k * 258 ∧ Hid (t = bs (num x0 1 ++ encFs ⟨x0, x1, x2, x3, x4, x5, x6⟩ (usedTo x0 k))) ∧ Hid (wr = w4)) (fun _ i _ => 6 - (intOf i).toNat)
    case atStart => exact ⟨0, _, by omega, rfl, rfl, by rw [bs_size, num_len]; omega, by show _ = _; simp [usedTo, encFs], rfl⟩
    case round =>
      obtain ⟨k, t, hk, rfl, rfl, htz, HT, HW⟩ := hrel
      have hwr := HW.out
      subst hwr
      by_cases hlt : k < 6
      · have hki : (k : Int) < 6 := by omega
        have cu : wr.cell? ⟨ub, k, none⟩ = some (.bool (useB x0 k)) := by unfold World.cell?; rw [HU4.out.us]; exact HC.out k hlt
        have cs := (cell_of_row _ _ k _ _ _ HB4.out).trans (HPC.out k hlt)
        have hzz : (bs (encF ⟨x0, x1, x2, x3, x4, x5, x6⟩ k)).size ≤ 258 := by rw [bs_size]; exact HSB.out k
        have HE := Lib.hid (encFs_to ⟨x0, x1, x2, x3, x4, x5, x6⟩ k hlt)
        generalize hz : bs (encF ⟨x0, x1, x2, x3, x4, x5, x6⟩ k) = z at *
        have HZ := Lib.hid hz
        clear hz
        cases hu : useB x0 k
        · rw [hu] at cu
          have HE' := HE.out.2 hu
          clear HE cs hzz
          go_wp2_with fail
          go_roundw
          case rel => exact ⟨k + 1, t, by omega, by go_num, rfl, by omega, by show _ = _; rw [HE']; exact HT.out, Lib.hid trivial⟩
          case measure => simp [intOf]; omega
        · rw [hu] at cu
          have HE' := Lib.hid (HE.out.1 hu)
          clear HE
          have hcat2 : ¬ 9223372036854775807 < t.size + z.size := by omega
          go_wp2_with fail
          go_roundw
          case rel => exact ⟨k + 1, t ++ z, by omega, by go_num, rfl, by rw [ByteArray.size_append]; omega, by show _ = _; rw [HE'.out, ← List.append_assoc, ← bs_app, ← HT.out, HZ.out], Lib.hid trivial⟩
          case measure => simp [intOf]; omega
      · obtain rfl : k = 6 := by omega
        go_wp2_with fail
        go_ret
        exact ⟨ret_str (by rw [HT.out, usedTo_six x0 (by omega) (by omega)]; rfl), HU4.out.bel⟩
  · have hb := setRow_heap w3 hpb.theq _ #[.string y1, .string y2, .string y3, .string y4, .string y5, .string (y6 ++ x6)] 83 (0, 0) hpb.blk
    have hU := opS_get (W := w3.setRow hpb.theq #[.string y1, .string y2, .string y3, .string y4, .string y5, .string (y6 ++ x6)]) (by assumption)
    generalize hW2 : w3.setRow hpb.theq #[.string y1, .string y2, .string y3, .string y4, .string y5, .string (y6 ++ x6)] = W2 at *
    clear hW2
    dsimp only [PB.theq] at hb
    have HU := Lib.hid hU
    have HB := Lib.hid hb
    have n0 := hU.op.c0
    clear hU hb
    go_wp2_with fail
    refine (P0.out _).mono ?_
    rintro e w4 ⟨rfl, hg4⟩
    have HU4 := Lib.hid (HU.out.below hg4)
    have HB4 := Lib.hid ((hg4.block _ (heap_lt HB.out)).trans HB.out)
    clear hg4 HU HB n0
    go_wp2_with fail
    go_loopw [5, 6] (fun sv i wr => ∃ (k : Nat) (t : ByteArray), k ≤ 6 ∧ i = .int .i64 k ∧ sv = .string t ∧ t.size ≤ 1 + k * 258 ∧ Hid (t = bs (num x0 1 ++ encFs ⟨x0, x1, x2, x3, x4, x5, x6⟩ (usedTo x0 k))) ∧ Hid (wr = w4)) (fun _ i _ => 6 - (intOf i).toNat)
    case atStart => exact ⟨0, _, by omega, rfl, rfl, by rw [bs_size, num_len]; omega, by show _ = _; simp [usedTo, encFs], rfl⟩
    case round =>
      obtain ⟨k, t, hk, rfl, rfl, htz, HT, HW⟩ := hrel
      have hwr := HW.out
      subst hwr
      by_cases hlt : k < 6
      · have hki : (k : Int) < 6 := by omega
        have cu : wr.cell? ⟨ub, k, none⟩ = some (.bool (useB x0 k)) := by unfold World.cell?; rw [HU4.out.us]; exact HC.out k hlt
        have cs := (cell_of_row _ _ k _ _ _ HB4.out).trans (HPC.out k hlt)
        have hzz : (bs (encF ⟨x0, x1, x2, x3, x4, x5, x6⟩ k)).size ≤ 258 := by rw [bs_size]; exact HSB.out k
        have HE := Lib.hid (encFs_to ⟨x0, x1, x2, x3, x4, x5, x6⟩ k hlt)
        generalize hz : bs (encF ⟨x0, x1, x2, x3, x4, x5, x6⟩ k) = z at *
        have HZ := Lib.hid hz
        clear hz
        cases hu : useB x0 k
        · rw [hu] at cu
          have HE' := HE.out.2 hu
          clear HE cs hzz
          go_wp2_with fail
          go_roundw
          case rel => exact ⟨k + 1, t, by omega, by go_num, rfl, by omega, by show _ = _; rw [HE']; exact HT.out, Lib.hid trivial⟩
          case measure => simp [intOf]; omega
        · rw [hu] at cu
          have HE' := Lib.hid (HE.out.1 hu)
          clear HE
          have hcat2 : ¬ 9223372036854775807 < t.size + z.size := by omega
          go_wp2_with fail
          go_roundw
          case rel => exact ⟨k + 1, t ++ z, by omega, by go_num, rfl, by rw [ByteArray.size_append]; omega, by show _ = _; rw [HE'.out, ← List.append_assoc, ← bs_app, ← HT.out, HZ.out], Lib.hid trivial⟩
          case measure => simp [intOf]; omega
      · obtain rfl : k = 6 := by omega
        go_wp2_with fail
        go_ret
        exact ⟨ret_str (by rw [HT.out, usedTo_six x0 (by omega) (by omega)]; rfl), HU4.out.bel⟩
  · have hb := setRow_heap w3 hpb.theq _ #[.string y1, .string y2, .string y3, .string y4, .string y5, .string (y6 ++ x6)] 83 (0, 0) hpb.blk
    have hU := opS_get (W := w3.setRow hpb.theq #[.string y1, .string y2, .string y3, .string y4, .string y5, .string (y6 ++ x6)]) (by assumption)
    generalize hW2 : w3.setRow hpb.theq #[.string y1, .string y2, .string y3, .string y4, .string y5, .string (y6 ++ x6)] = W2 at *
    clear hW2
    dsimp only [PB.theq] at hb
    have HU := Lib.hid hU
    have HB := Lib.hid hb
    have n0 := hU.op.c0
    clear hU hb
    go_wp2_with fail
    refine (P0.out _).mono ?_
    rintro e w4 ⟨rfl, hg4⟩
    have HU4 := Lib.hid (HU.out.below hg4)
    have HB4 := Lib.hid ((hg4.block _ (heap_lt HB.out)).trans HB.out)
    clear hg4 HU HB n0
    go_wp2_with fail
    go_loopw [5, 6] (fun sv i wr => ∃ (k : Nat) (t : ByteArray), k ≤ 6 ∧ i = .int .i64 k ∧ sv = .string t ∧ t.size ≤ 1 + k * 258 ∧ Hid (t = bs (num x0 1 ++ encFs ⟨x0, x1, x2, x3, x4, x5, x6⟩ (usedTo x0 k))) ∧ Hid (wr = w4)) (fun _ i _ => 6 - (intOf i).toNat)
    case atStart => exact ⟨0, _, by omega, rfl, rfl, by rw [bs_size, num_len]; omega, by show _ = _; simp [usedTo, encFs], rfl⟩
    case round =>
      obtain ⟨k, t, hk, rfl, rfl, htz, HT, HW⟩ := hrel
      have hwr := HW.out
      subst hwr
      by_cases hlt : k < 6
      · have hki : (k : Int) < 6 := by omega
        have cu : wr.cell? ⟨ub, k, none⟩ = some (.bool (useB x0 k)) := by unfold World.cell?; rw [HU4.out.us]; exact HC.out k hlt
        have cs := (cell_of_row _ _ k _ _ _ HB4.out).trans (HPC.out k hlt)
        have hzz : (bs (encF ⟨x0, x1, x2, x3, x4, x5, x6⟩ k)).size ≤ 258 := by rw [bs_size]; exact HSB.out k
        have HE := Lib.hid (encFs_to ⟨x0, x1, x2, x3, x4, x5, x6⟩ k hlt)
        generalize hz : bs (encF ⟨x0, x1, x2, x3, x4, x5, x6⟩ k) = z at *
        have HZ := Lib.hid hz
        clear hz
        cases hu : useB x0 k
        · rw [hu] at cu
          have HE' := HE.out.2 hu
          clear HE cs hzz
          go_wp2_with fail
          go_roundw
          case rel => exact ⟨k + 1, t, by omega, by go_num, rfl, by omega, by show _ = _; rw [HE']; exact HT.out, Lib.hid trivial⟩
          case measure => simp [intOf]; omega
        · rw [hu] at cu
          have HE' := Lib.hid (HE.out.1 hu)
          clear HE
          have hcat2 : ¬ 9223372036854775807 < t.size + z.size := by omega
          go_wp2_with fail
          go_roundw
          case rel => exact ⟨k + 1, t ++ z, by omega, by go_num, rfl, by rw [ByteArray.size_append]; omega, by show _ = _; rw [HE'.out, ← List.append_assoc, ← bs_app, ← HT.out, HZ.out], Lib.hid trivial⟩
          case measure => simp [intOf]; omega
      · obtain rfl : k = 6 := by omega
        go_wp2_with fail
        go_ret
        exact ⟨ret_str (by rw [HT.out, usedTo_six x0 (by omega) (by omega)]; rfl), HU4.out.bel⟩
  · have hb := setRow_heap w3 hpb.theq _ #[.string y1, .string y2, .string y3, .string y4, .string y5, .string (y6 ++ x6)] 83 (0, 0) hpb.blk
    have hU := opS_get (W := w3.setRow hpb.theq #[.string y1, .string y2, .string y3, .string y4, .string y5, .string (y6 ++ x6)]) (by assumption)
    generalize hW2 : w3.setRow hpb.theq #[.string y1, .string y2, .string y3, .string y4, .string y5, .string (y6 ++ x6)] = W2 at *
    clear hW2
    dsimp only [PB.theq] at hb
    have HU := Lib.hid hU
    have HB := Lib.hid hb
    have n0 := hU.op.c0
    clear hU hb
    go_wp2_with fail
    refine (P0.out _).mono ?_
    rintro e w4 ⟨rfl, hg4⟩
    have HU4 := Lib.hid (HU.out.below hg4)
    have HB4 := Lib.hid ((hg4.block _ (heap_lt HB.out)).trans HB.out)
    clear hg4 HU HB n0
    go_wp2_with fail
    go_loopw [5, 6] (fun sv i wr => ∃ (k : Nat) (t : ByteArray), k ≤ 6 ∧ i = .int .i64 k ∧ sv = .string t ∧ t.size ≤ 1 + k * 258 ∧ Hid (t = bs (num x0 1 ++ encFs ⟨x0, x1, x2, x3, x4, x5, x6⟩ (usedTo x0 k))) ∧ Hid (wr = w4)) (fun _ i _ => 6 - (intOf i).toNat)
    case atStart => exact ⟨0, _, by omega, rfl, rfl, by rw [bs_size, num_len]; omega, by show _ = _; simp [usedTo, encFs], rfl⟩
    case round =>
      obtain ⟨k, t, hk, rfl, rfl, htz, HT, HW⟩ := hrel
      have hwr := HW.out
      subst hwr
      by_cases hlt : k < 6
      · have hki : (k : Int) < 6 := by omega
        have cu : wr.cell? ⟨ub, k, none⟩ = some (.bool (useB x0 k)) := by unfold World.cell?; rw [HU4.out.us]; exact HC.out k hlt
        have cs := (cell_of_row _ _ k _ _ _ HB4.out).trans (HPC.out k hlt)
        have hzz : (bs (encF ⟨x0, x1, x2, x3, x4, x5, x6⟩ k)).size ≤ 258 := by rw [bs_size]; exact HSB.out k
        have HE := Lib.hid (encFs_to ⟨x0, x1, x2, x3, x4, x5, x6⟩ k hlt)
        generalize hz : bs (encF ⟨x0, x1, x2, x3, x4, x5, x6⟩ k) = z at *
        have HZ := Lib.hid hz
        clear hz
        cases hu : useB x0 k
        · rw [hu] at cu
          have HE' := HE.out.2 hu
          clear HE cs hzz
          go_wp2_with fail
          go_roundw
          case rel => exact ⟨k + 1, t, by omega, by go_num, rfl, by omega, by show _ = _; rw [HE']; exact HT.out, Lib.hid trivial⟩
          case measure => simp [intOf]; omega
        · rw [hu] at cu
          have HE' := Lib.hid (HE.out.1 hu)
          clear HE
          have hcat2 : ¬ 9223372036854775807 < t.size + z.size := by omega
          go_wp2_with fail
          go_roundw
          case rel => exact ⟨k + 1, t ++ z, by omega, by go_num, rfl, by rw [ByteArray.size_append]; omega, by show _ = _; rw [HE'.out, ← List.append_assoc, ← bs_app, ← HT.out, HZ.out], Lib.hid trivial⟩
          case measure => simp [intOf]; omega
      · obtain rfl : k = 6 := by omega
        go_wp2_with fail
        go_ret
        exact ⟨ret_str (by rw [HT.out, usedTo_six x0 (by omega) (by omega)]; rfl), HU4.out.bel⟩
  · have hb := setRow_heap w3 hpb.theq _ #[.string y1, .string y2, .string y3, .string y4, .string y5, .string (y6 ++ x6)] 83 (0, 0) hpb.blk
    have hU := opS_get (W := w3.setRow hpb.theq #[.string y1, .string y2, .string y3, .string y4, .string y5, .string (y6 ++ x6)]) (by assumption)
    generalize hW2 : w3.setRow hpb.theq #[.string y1, .string y2, .string y3, .string y4, .string y5, .string (y6 ++ x6)] = W2 at *
    clear hW2
    dsimp only [PB.theq] at hb
    have HU := Lib.hid hU
    have HB := Lib.hid hb
    have n0 := hU.op.c0
    clear hU hb
    go_wp2_with fail
    refine (P0.out _).mono ?_
    rintro e w4 ⟨rfl, hg4⟩
    have HU4 := Lib.hid (HU.out.below hg4)
    have HB4 := Lib.hid ((hg4.block _ (heap_lt HB.out)).trans HB.out)
    clear hg4 HU HB n0
    go_wp2_with fail
    go_loopw [5, 6] (fun sv i wr => ∃ (k : Nat) (t : ByteArray), k ≤ 6 ∧ i = .int .i64 k ∧ sv = .string t ∧ t.size ≤ 1 + k * 258 ∧ Hid (t = bs (num x0 1 ++ encFs ⟨x0, x1, x2, x3, x4, x5, x6⟩ (usedTo x0 k))) ∧ Hid (wr = w4)) (fun _ i _ => 6 - (intOf i).toNat)
    case atStart => exact ⟨0, _, by omega, rfl, rfl, by rw [bs_size, num_len]; omega, by show _ = _; simp [usedTo, encFs], rfl⟩
    case round =>
      obtain ⟨k, t, hk, rfl, rfl, htz, HT, HW⟩ := hrel
      have hwr := HW.out
      subst hwr
      by_cases hlt : k < 6
      · have hki : (k : Int) < 6 := by omega
        have cu : wr.cell? ⟨ub, k, none⟩ = some (.bool (useB x0 k)) := by unfold World.cell?; rw [HU4.out.us]; exact HC.out k hlt
        have cs := (cell_of_row _ _ k _ _ _ HB4.out).trans (HPC.out k hlt)
        have hzz : (bs (encF ⟨x0, x1, x2, x3, x4, x5, x6⟩ k)).size ≤ 258 := by rw [bs_size]; exact HSB.out k
        have HE := Lib.hid (encFs_to ⟨x0, x1, x2, x3, x4, x5, x6⟩ k hlt)
        generalize hz : bs (encF ⟨x0, x1, x2, x3, x4, x5, x6⟩ k) = z at *
        have HZ := Lib.hid hz
        clear hz
        cases hu : useB x0 k
        · rw [hu] at cu
          have HE' := HE.out.2 hu
          clear HE cs hzz
          go_wp2_with fail
          go_roundw
          case rel => exact ⟨k + 1, t, by omega, by go_num, rfl, by omega, by show _ = _; rw [HE']; exact HT.out, Lib.hid trivial⟩
          case measure => simp [intOf]; omega
        · rw [hu] at cu
          have HE' := Lib.hid (HE.out.1 hu)
          clear HE
          have hcat2 : ¬ 9223372036854775807 < t.size + z.size := by omega
          go_wp2_with fail
          go_roundw
          case rel => exact ⟨k + 1, t ++ z, by omega, by go_num, rfl, by rw [ByteArray.size_append]; omega, by show _ = _; rw [HE'.out, ← List.append_assoc, ← bs_app, ← HT.out, HZ.out], Lib.hid trivial⟩
          case measure => simp [intOf]; omega
      · obtain rfl : k = 6 := by omega
        go_wp2_with fail
        go_ret
        exact ⟨ret_str (by rw [HT.out, usedTo_six x0 (by omega) (by omega)]; rfl), HU4.out.bel⟩
  · have hb := setRow_heap w3 hpb.theq _ #[.string y1, .string y2, .string y3, .string y4, .string y5, .string (y6 ++ x6)] 83 (0, 0) hpb.blk
    have hU := opS_get (W := w3.setRow hpb.theq #[.string y1, .string y2, .string y3, .string y4, .string y5, .string (y6 ++ x6)]) (by assumption)
    generalize hW2 : w3.setRow hpb.theq #[.string y1, .string y2, .string y3, .string y4, .string y5, .string (y6 ++ x6)] = W2 at *
    clear hW2
    dsimp only [PB.theq] at hb
    have HU := Lib.hid hU
    have HB := Lib.hid hb
    have n0 := hU.op.c0
    clear hU hb
    go_wp2_with fail
    refine (P0.out _).mono ?_
    rintro e w4 ⟨rfl, hg4⟩
    have HU4 := Lib.hid (HU.out.below hg4)
    have HB4 := Lib.hid ((hg4.block _ (heap_lt HB.out)).trans HB.out)
    clear hg4 HU HB n0
    go_wp2_with fail
    go_loopw [5, 6] (fun sv i wr => ∃ (k : Nat) (t : ByteArray), k ≤ 6 ∧ i = .int .i64 k ∧ sv = .string t ∧ t.size ≤ 1 + k * 258 ∧ Hid (t = bs (num x0 1 ++ encFs ⟨x0, x1, x2, x3, x4, x5, x6⟩ (usedTo x0 k))) ∧ Hid (wr = w4)) (fun _ i _ => 6 - (intOf i).toNat)
    case atStart => exact ⟨0, _, by omega, rfl, rfl, by rw [bs_size, num_len]; omega, by show _ = _; simp [usedTo, encFs], rfl⟩
    case round =>
      obtain ⟨k, t, hk, rfl, rfl, htz, HT, HW⟩ := hrel
      have hwr := HW.out
      subst hwr
      by_cases hlt : k < 6
      · have hki : (k : Int) < 6 := by omega
        have cu : wr.cell? ⟨ub, k, none⟩ = some (.bool (useB x0 k)) := by unfold World.cell?; rw [HU4.out.us]; exact HC.out k hlt
        have cs := (cell_of_row _ _ k _ _ _ HB4.out).trans (HPC.out k hlt)
        have hzz : (bs (encF ⟨x0, x1, x2, x3, x4, x5, x6⟩ k)).size ≤ 258 := by rw [bs_size]; exact HSB.out k
        have HE := Lib.hid (encFs_to ⟨x0, x1, x2, x3, x4, x5, x6⟩ k hlt)
        generalize hz : bs (encF ⟨x0, x1, x2, x3, x4, x5, x6⟩ k) = z at *
        have HZ := Lib.hid hz
        clear hz
        cases hu : useB x0 k
        · rw [hu] at cu
          have HE' := HE.out.2 hu
          clear HE cs hzz
          go_wp2_with fail
          go_roundw
          case rel => exact ⟨k + 1, t, by omega, by go_num, rfl, by omega, by show _ = _; rw [HE']; exact HT.out, Lib.hid trivial⟩
          case measure => simp [intOf]; omega
        · rw [hu] at cu
          have HE' := Lib.hid (HE.out.1 hu)
          clear HE
          have hcat2 : ¬ 9223372036854775807 < t.size + z.size := by omega
          go_wp2_with fail
          go_roundw
          case rel => exact ⟨k + 1, t ++ z, by omega, by go_num, rfl, by rw [ByteArray.size_append]; omega, by show _ = _; rw [HE'.out, ← List.append_assoc, ← bs_app, ← HT.out, HZ.out], Lib.hid trivial⟩
          case measure => simp [intOf]; omega
      · obtain rfl : k = 6 := by omega
        go_wp2_with fail
        go_ret
        exact ⟨ret_str (by rw [HT.out, usedTo_six x0 (by omega) (by omega)]; rfl), HU4.out.bel⟩
  · have hb := setRow_heap w3 hpb.theq _ #[.string y1, .string y2, .string y3, .string y4, .string y5, .string (y6 ++ x6)] 83 (0, 0) hpb.blk
    have hU := opS_get (W := w3.setRow hpb.theq #[.string y1, .string y2, .string y3, .string y4, .string y5, .string (y6 ++ x6)]) (by assumption)
    generalize hW2 : w3.setRow hpb.theq #[.string y1, .string y2, .string y3, .string y4, .string y5, .string (y6 ++ x6)] = W2 at *
    clear hW2
    dsimp only [PB.theq] at hb
    have HU := Lib.hid hU
    have HB := Lib.hid hb
    have n0 := hU.op.c0
    clear hU hb
    go_wp2_with fail
    refine (P0.out _).mono ?_
    rintro e w4 ⟨rfl, hg4⟩
    have HU4 := Lib.hid (HU.out.below hg4)
    have HB4 := Lib.hid ((hg4.block _ (heap_lt HB.out)).trans HB.out)
    clear hg4 HU HB n0
    go_wp2_with fail
    go_loopw [5, 6] (fun sv i wr => ∃ (k : Nat) (t : ByteArray), k ≤ 6 ∧ i = .int .i64 k ∧ sv = .string t ∧ t.size ≤ 1 + k * 258 ∧ Hid (t = bs (num x0 1 ++ encFs ⟨x0, x1, x2, x3, x4, x5, x6⟩ (usedTo x0 k))) ∧ Hid (wr = w4)) (fun _ i _ => 6 - (intOf i).toNat)
    case atStart => exact ⟨0, _, by omega, rfl, rfl, by rw [bs_size, num_len]; omega, by show _ = _; simp [usedTo, encFs], rfl⟩
    case round =>
      obtain ⟨k, t, hk, rfl, rfl, htz, HT, HW⟩ := hrel
      have hwr := HW.out
      subst hwr
      by_cases hlt : k < 6
      · have hki : (k : Int) < 6 := by omega
        have cu : wr.cell? ⟨ub, k, none⟩ = some (.bool (useB x0 k)) := by unfold World.cell?; rw [HU4.out.us]; exact HC.out k hlt
        have cs := (cell_of_row _ _ k _ _ _ HB4.out).trans (HPC.out k hlt)
        have hzz : (bs (encF ⟨x0, x1, x2, x3, x4, x5, x6⟩ k)).size ≤ 258 := by rw [bs_size]; exact HSB.out k
        have HE := Lib.hid (encFs_to ⟨x0, x1, x2, x3, x4, x5, x6⟩ k hlt)
        generalize hz : bs (encF ⟨x0, x1, x2, x3, x4, x5, x6⟩ k) = z at *
        have HZ := Lib.hid hz
        clear hz
        cases hu : useB x0 k
        · rw [hu] at cu
          have HE' := HE.out.2 hu
          clear HE cs hzz
          go_wp2_with fail
          go_roundw
          case rel => exact ⟨k + 1, t, by omega, by go_num, rfl, by omega, by show _ = _; rw [HE']; exact HT.out, Lib.hid trivial⟩
          case measure => simp [intOf]; omega
        · rw [hu] at cu
          have HE' := Lib.hid (HE.out.1 hu)
          clear HE
          have hcat2 : ¬ 9223372036854775807 < t.size + z.size := by omega
          go_wp2_with fail
          go_roundw
          case rel => exact ⟨k + 1, t ++ z, by omega, by go_num, rfl, by rw [ByteArray.size_append]; omega, by show _ = _; rw [HE'.out, ← List.append_assoc, ← bs_app, ← HT.out, HZ.out], Lib.hid trivial⟩
          case measure => simp [intOf]; omega
      · obtain rfl : k = 6 := by omega
        go_wp2_with fail
        go_ret
        exact ⟨ret_str (by rw [HT.out, usedTo_six x0 (by omega) (by omega)]; rfl), HU4.out.bel⟩
end Go.Proofs.Ytcicememljlafaa
