/- The reference's reader: an operation. -/
import Derived.Test.YtcicememljlafaaF1
namespace Go.Proofs.Ytcicememljlafaa
open Go.RowKit
open Runes (bs bt)

def fR (f : Int) (x : OpV × List Int × Bool) : OpV × List Int × Bool :=
  if f = 0 then ({ x.1 with slot := rv x.2.1 1 }, rd x.2.1 1, rx x.2.1 1 x.2.2)
  else if f = 1 then ({ x.1 with pos := rv x.2.1 2 }, rd x.2.1 2, rx x.2.1 2 x.2.2)
  else if f = 2 then ({ x.1 with num := rv x.2.1 2 }, rd x.2.1 2, rx x.2.1 2 x.2.2)
  else if f = 3 then ({ x.1 with id := rv x.2.1 4 }, rd x.2.1 4, rx x.2.1 4 x.2.2)
  else if f = 4 then ({ x.1 with grav := rv x.2.1 1 }, rd x.2.1 1, rx x.2.1 1 x.2.2)
  else ({ x.1 with text := tv x.2.1 }, td x.2.1, tx x.2.1 x.2.2)
def fsR : List Int → OpV × List Int × Bool → OpV × List Int × Bool
  | [], x => x
  | f :: fs, x => fsR fs (fR f x)
def opR (l : List Int) (b : Bool) : OpV × List Int × Bool := fsR (fieldsOf (rv l 1)) (op0 (rv l 1), rd l 1, rx l 1 b)
theorem dF_r {f : Int} {o o' : OpV} {l r : List Int} (h : dF f (o, l) = some (o', r)) (b : Bool) : fR f (o, l, b) = (o', r, b) := by
  unfold dF at h
  unfold fR
  dsimp only at h ⊢
  split
  · rename_i hf
    rw [if_pos hf] at h
    simp only [Option.map_eq_some_iff] at h
    obtain ⟨⟨v, l1⟩, h1, h2⟩ := h
    obtain ⟨e1, e2, e3⟩ := dNum_r h1 b
    rw [e1, e2, e3]
    simp only [Prod.mk.injEq] at h2
    obtain ⟨rfl, rfl⟩ := h2; rfl
  rename_i n0
  rw [if_neg n0] at h
  split
  · rename_i hf
    rw [if_pos hf] at h
    simp only [Option.map_eq_some_iff] at h
    obtain ⟨⟨v, l1⟩, h1, h2⟩ := h
    obtain ⟨e1, e2, e3⟩ := dNum_r h1 b
    rw [e1, e2, e3]
    simp only [Prod.mk.injEq] at h2
    obtain ⟨rfl, rfl⟩ := h2; rfl
  rename_i n1
  rw [if_neg n1] at h
  split
  · rename_i hf
    rw [if_pos hf] at h
    simp only [Option.map_eq_some_iff] at h
    obtain ⟨⟨v, l1⟩, h1, h2⟩ := h
    obtain ⟨e1, e2, e3⟩ := dNum_r h1 b
    rw [e1, e2, e3]
    simp only [Prod.mk.injEq] at h2
    obtain ⟨rfl, rfl⟩ := h2; rfl
  rename_i n2
  rw [if_neg n2] at h
  split
  · rename_i hf
    rw [if_pos hf] at h
    simp only [Option.map_eq_some_iff] at h
    obtain ⟨⟨v, l1⟩, h1, h2⟩ := h
    obtain ⟨e1, e2, e3⟩ := dNum_r h1 b
    rw [e1, e2, e3]
    simp only [Prod.mk.injEq] at h2
    obtain ⟨rfl, rfl⟩ := h2; rfl
  rename_i n3
  rw [if_neg n3] at h
  split
  · rename_i hf
    rw [if_pos hf] at h
    simp only [Option.map_eq_some_iff] at h
    obtain ⟨⟨v, l1⟩, h1, h2⟩ := h
    obtain ⟨e1, e2, e3⟩ := dNum_r h1 b
    rw [e1, e2, e3]
    simp only [Prod.mk.injEq] at h2
    obtain ⟨rfl, rfl⟩ := h2; rfl
  rename_i n4
  rw [if_neg n4] at h
  simp only [Option.map_eq_some_iff] at h
  obtain ⟨⟨v, l1⟩, h1, h2⟩ := h
  obtain ⟨e1, e2, e3⟩ := dText_r h1 b
  rw [e1, e2, e3]
  simp only [Prod.mk.injEq] at h2
  obtain ⟨rfl, rfl⟩ := h2; rfl
theorem dFs_r (fs : List Int) : ∀ {o o' : OpV} {l r : List Int}, dFs fs (o, l) = some (o', r) → ∀ b, fsR fs (o, l, b) = (o', r, b) := by
  induction fs with
  | nil =>
    intro o o' l r h b
    simp only [dFs, Option.some.injEq, Prod.mk.injEq] at h
    obtain ⟨rfl, rfl⟩ := h; rfl
  | cons f fs ih =>
    intro o o' l r h b
    simp only [dFs, Option.bind_eq_some_iff] at h
    obtain ⟨⟨o1, l1⟩, h1, h2⟩ := h
    show fsR fs (fR f (o, l, b)) = _
    rw [dF_r h1 b]
    exact ih h2 b
theorem dOp_r {o : OpV} {l r : List Int} (h : dOp l = some (o, r)) (b : Bool) : opR l b = (o, r, b) := by
  unfold dOp at h
  simp only [Option.bind_eq_some_iff] at h
  obtain ⟨⟨k, l1⟩, h1, h2⟩ := h
  dsimp only at h2
  split at h2
  · obtain ⟨e1, e2, e3⟩ := dNum_r h1 b
    unfold opR
    rw [e1, e2, e3]
    exact dFs_r _ h2 b
  · cases h2
/-- What has been read is in its bounds. -/
structure OpIn (x : OpV × List Int × Bool) (n : Nat) : Prop where
  bl : BL x.2.1
  len : x.2.1.length ≤ n
  ty : OpTy x.1
  kd : 0 ≤ x.1.kind ∧ x.1.kind ≤ 255
theorem fR_in {x : OpV × List Int × Bool} {n : Nat} (h : OpIn x n) (f : Int) : OpIn (fR f x) n := by
  obtain ⟨o, l, b⟩ := x
  obtain ⟨h1, h2, h3, h4⟩ := h
  dsimp only at h1 h2 h3 h4
  have e1 := fun k => rd_BL h1 k
  have e2 := fun k => Nat.le_trans (rd_len l k) h2
  have e3 := rv_bd h1 4
  have e4 := rv_bd h1 1
  rw [pow4] at e3
  rw [pow1] at e4
  unfold fR
  repeat' split
  · exact ⟨e1 1, e2 1, ⟨h3.id, h3.grav⟩, h4⟩
  · exact ⟨e1 2, e2 2, ⟨h3.id, h3.grav⟩, h4⟩
  · exact ⟨e1 2, e2 2, ⟨h3.id, h3.grav⟩, h4⟩
  · exact ⟨e1 4, e2 4, ⟨e3, h3.grav⟩, h4⟩
  · exact ⟨e1 1, e2 1, ⟨h3.id, e4⟩, h4⟩
  · exact ⟨td_BL h1, Nat.le_trans (td_len l) h2, ⟨h3.id, h3.grav⟩, h4⟩
theorem fsR_in (fs : List Int) {x : OpV × List Int × Bool} {n : Nat} (h : OpIn x n) : OpIn (fsR fs x) n := by
  induction fs generalizing x with
  | nil => exact h
  | cons f fs ih => exact ih (fR_in h f)
theorem opR_in {l : List Int} (h : BL l) (b : Bool) : OpIn (opR l b) l.length := by
  have e := rv_bd h 1
  rw [pow1] at e
  exact fsR_in _ ⟨rd_BL h 1, rd_len l 1, ⟨by show (0 : Int) ≤ 0 ∧ (0 : Int) < 4294967296; decide, by show (0 : Int) ≤ 0 ∧ (0 : Int) < 256; decide⟩, ⟨e.1, by show rv l 1 ≤ 255; omega⟩⟩
/-- Reading an operation: the reader's box rb, the operation's box ob, the box of the uses ub. -/
structure OqSt (W0 W : World) (rb ob ub : Nat) (o : OpV) (l : List Int) (b : Bool) (us : Array Value) : Prop where
  rd : RBox W rb l b
  op : OpAt W ob 0 o
  ope : ElemT W ob 44
  us : W.heap[ub]? = some (.cells us 57)
  res : W.heap[W0.heap.size]? = some opZero
  hob : W0.heap.size < ob
  gr : W0.grownBy W (some rb)
  hrb : rb < W0.heap.size
theorem RBox.keep {W W' : World} {rb : Nat} {l : List Int} {b : Bool} (h : RBox W rb l b) (hk : W'.heap[rb]? = W.heap[rb]?) : RBox W' rb l b :=
  ⟨⟨(World.cell?_of_block (a := ⟨rb, 0, none⟩) hk).trans h.str.cell, h.str.elem.keep hk⟩, (World.cell?_of_block (a := ⟨rb, 1, none⟩) hk).trans h.bad⟩
section
variable {W0 W W' : World} {rb ob ub : Nat} {o o' : OpV} {l l' : List Int} {b b' : Bool} {us : Array Value}
theorem OqSt.ut (h : OqSt W0 W rb ob ub o l b us) : ElemT W ub 57 := ⟨_, h.us⟩
theorem OqSt.next (h : OqSt W0 W rb ob ub o l b us) (hs : RBox W' rb l' b') (hg : W.grownBy W' (some rb)) : OqSt W0 W' rb ob ub o l' b' us := by
  have h1 := h.hob
  have h2 := h.hrb
  have hk : ∀ q, q < W.heap.size → q ≠ rb → W'.heap[q]? = W.heap[q]? := fun q hq hn => hg.block q hq (fun e => hn (by injection e))
  exact ⟨hs, h.op.keep (hk ob h.ope.lt (by omega)), h.ope.keep (hk ob h.ope.lt (by omega)), (hk ub h.ut.lt (h.ut.ne h.rd.str.elem (by decide))).trans h.us, (hk _ (heap_lt h.res) (by omega)).trans h.res, h.hob, grown_trans h.gr hg, h.hrb⟩
theorem OqSt.set (h : OqSt W0 W rb ob ub o l b us) (i : Nat) (v : Value) (ho : OpAt (W.setCell ⟨ob, i, none⟩ v) ob 0 o') : OqSt W0 (W.setCell ⟨ob, i, none⟩ v) rb ob ub o' l b us := by
  have h1 := h.hob
  have h2 := h.hrb
  have hk : ∀ q, q ≠ ob → (W.setCell ⟨ob, i, none⟩ v).heap[q]? = W.heap[q]? := fun q hq => Below.heap_setCell _ _ _ _ (by show q ≠ ob; exact hq)
  refine ⟨h.rd.keep (hk rb (by omega)), ho, h.ope.set _ _ rfl, (hk ub (h.ut.ne h.ope (by decide))).trans h.us, (hk _ (by omega)).trans h.res, h.hob, ?_, h.hrb⟩
  exact ⟨h.gr.os, h.gr.tape, h.gr.output, by simpa using h.gr.size, fun q hq hr => (hk q (by omega)).trans (h.gr.block q hq hr)⟩
theorem OqSt.cells {x0 x1 x2 x3 x4 x5 : Int} {x6 : ByteArray} (h : OqSt W0 W rb ob ub ⟨x0, x1, x2, x3, x4, x5, x6⟩ l b us) :
    W.cell? ⟨ob, 0, none⟩ = some (.int .u8 x0) ∧ W.cell? ⟨ob, 1, none⟩ = some (.int .i64 x1) ∧ W.cell? ⟨ob, 2, none⟩ = some (.int .i64 x2) ∧ W.cell? ⟨ob, 3, none⟩ = some (.int .i64 x3) ∧
      W.cell? ⟨ob, 4, none⟩ = some (.int .u32 x4) ∧ W.cell? ⟨ob, 5, none⟩ = some (.int .u8 x5) ∧ W.cell? ⟨ob, 6, none⟩ = some (.string x6) := by
  obtain ⟨m0, m1, m2, m3, m4, m5, m6⟩ := h.op
  simp only [Nat.zero_add] at m1 m2 m3 m4 m5 m6
  exact ⟨m0, m1, m2, m3, m4, m5, m6⟩
end
theorem oqst_start {W w1 w2 : World} {rb : Nat} {l1 : List Int} {b1 : Bool} (x : Int) (us : Array Value) (hrb : rb < W.heap.size) (h1 : RBox w1 rb l1 b1) (hg : (W.alloc opZero).grownBy w1 (some rb)) (hg2 : (w1.alloc (opObj x)).grownBy w2 none) :
    OqSt W (w2.alloc (.cells us 57)) rb w1.heap.size w2.heap.size (op0 x) l1 b1 us := by
  have hs := hg.size
  simp only [World.size_alloc] at hs
  have hs2 := hg2.size
  simp only [World.size_alloc] at hs2
  have hz : w1.heap[W.heap.size]? = some opZero := (hg.block _ (by simp) (by intro e; injection e; omega)).trans (heap_alloc_new _ _)
  have hk : ∀ q, q < w1.heap.size + 1 → (w2.alloc (.cells us 57)).heap[q]? = (w1.alloc (opObj x)).heap[q]? := fun q hq => (Below.heap_alloc _ _ _ (by omega)).trans (hg2.block q (by simp; omega) (by simp))
  have hk1 : ∀ q, q < w1.heap.size → (w2.alloc (.cells us 57)).heap[q]? = w1.heap[q]? := fun q hq => (hk q (by omega)).trans (Below.heap_alloc _ _ _ hq)
  refine ⟨h1.keep (hk1 rb (by omega)), (opAt_new w1 x 0 0 0 0 0 ⟨#[]⟩).keep (hk _ (by omega)), (show ElemT (w1.alloc (opObj x)) w1.heap.size 44 from ⟨_, heap_alloc_new _ _⟩).keep (hk _ (by omega)), heap_alloc_new _ _, (hk1 _ (by omega)).trans hz, by omega, ?_, hrb⟩
  exact ⟨hg2.os.trans hg.os, hg2.tape.trans hg.tape, hg2.output.trans hg.output, by simp; omega, fun q hq hr => (hk1 q (by omega)).trans ((hg.block q (by simp; omega) hr).trans (Below.heap_alloc _ _ _ hq))⟩
def ROp (rb : Nat) (l : List Int) (b : Bool) (W : World) (e : Ending) (w' : World) : Prop :=
  e = .returned (opVal (opR l b).1) ∧ RBox w' rb (opR l b).2.1 (opR l b).2.2 ∧ W.grownBy w' (some rb)
theorem rop_mk {rb : Nat} {l r : List Int} {b b' : Bool} {o : OpV} {W w' : World} (h : opR l b = (o, r, b')) (hs : RBox w' rb r b') (hg : W.grownBy w' (some rb)) : ROp rb l b W (.returned (opVal o)) w' := by
  unfold ROp; rw [h]; exact ⟨rfl, hs, hg⟩
set_option maxHeartbeats 0 in
set_option maxRecDepth 100000 in
theorem readOpR_0 (rb : Nat) (l : List Int) (b : Bool) (W : World) (h : RBox W rb l b) (hl : BL l) (hm : l.length ≤ 65536) (hfs : fieldsOf (rv l 1) = [1, 5]) :
    Calls Try.prog 48 #[.pointer (some ⟨rb, 0, none⟩)] W (ROp rb l b W) := by
  have hlt := h.str.elem.lt
  have HA := h.keep (Below.heap_alloc W opZero rb hlt)
  have HN := Lib.hid (numR1 rb l b _ HA hl hm)
  have HR : Hid (opR l b = fsR [1, 5] (op0 (rv l 1), rd l 1, rx l 1 b)) := by show _ = _; unfold opR; rw [hfs]
  have HUV : Hid (usesVal (rv l 1) = .agg #[.bool false, .bool true, .bool false, .bool false, .bool false, .bool true]) := by show _ = _; unfold usesVal useB; rw [hfs]; rfl
  have hb := rv_bd hl 1
  rw [pow1] at hb
  have HB := Lib.hid (And.intro (rd_BL hl 1) (Nat.le_trans (rd_len l 1) hm))
  have HST := Lib.hid (fun w1 w2 l1 b1 x us => oqst_start (W := W) (w1 := w1) (w2 := w2) (rb := rb) (l1 := l1) (b1 := b1) x us hlt)
  unfold RNum at HN
  clear h HA hl hm hfs hlt
  generalize rv l 1 = x at *
  generalize rd l 1 = l1 at *
  generalize rx l 1 b = b1 at *
  have hx0 := hb.1
  have hx1 := hb.2
  have hu8 := u8w x hx0 hx1
  have HF := Lib.hid (fun W : World => usesFn x W hx0 (by omega))
  unfold UsesRes at HF
  go_enter Try.func48, Try.ntmps48
  go_wp2_with fail
  refine HN.out.mono ?_
  rintro e w1 ⟨rfl, hr, hg⟩
  have c0 : (w1.alloc (opObj x)).cell? ⟨w1.heap.size, 0, none⟩ = some (.int .u8 x) := (opAt_new w1 x 0 0 0 0 0 ⟨#[]⟩).c0
  have HRG := Lib.hid (And.intro hr hg)
  clear hr hg HN
  go_wp2_with fail
  refine (HF.out _).mono ?_
  rintro e w2 ⟨rfl, hg2⟩
  have HQ := Lib.hid (HST.out w1 w2 l1 b1 x #[.bool false, .bool true, .bool false, .bool false, .bool false, .bool true] HRG.out.1 HRG.out.2 hg2)
  rw [HUV.out]
  clear HRG hg2 HST HF c0 hb
  go_upto_region 3 with fail
  generalize w2.alloc (.cells #[.bool false, .bool true, .bool false, .bool false, .bool false, .bool true] 57) = W0 at *
  generalize w1.heap.size = ob at *
  generalize w2.heap.size = ub at *
  have HQ : Hid (OqSt W W0 rb ob ub ⟨x, 0, 0, 0, 0, 0, ByteArray.empty⟩ l1 b1 #[.bool false, .bool true, .bool false, .bool false, .bool false, .bool true]) := HQ.out
  have HN := Lib.hid (numR2 rb l1 b1 W0 HQ.out.rd HB.out.1 HB.out.2)
  have HR : Hid (opR l b = fsR [5] (⟨x, 0, rv l1 2, 0, 0, 0, ByteArray.empty⟩, rd l1 2, rx l1 2 b1)) := HR.out
  have hv := rv_bd HB.out.1 2
  rw [pow2] at hv
  have HB := Lib.hid (And.intro (rd_BL HB.out.1 2) (Nat.le_trans (rd_len l1 2) HB.out.2))
  unfold RNum at HN
  generalize rv l1 2 = v0 at *
  generalize rd l1 2 = q0 at *
  generalize rx l1 2 b1 = d0 at *
  have hw := i64w v0 (by omega) (by omega)
  have u0 := cell_of_row _ _ 0 _ _ _ HQ.out.us
  have u1 := cell_of_row _ _ 1 _ _ _ HQ.out.us
  have u2 := cell_of_row _ _ 2 _ _ _ HQ.out.us
  have u3 := cell_of_row _ _ 3 _ _ _ HQ.out.us
  have u4 := cell_of_row _ _ 4 _ _ _ HQ.out.us
  have u5 := cell_of_row _ _ 5 _ _ _ HQ.out.us
  simp at u0 u1 u2 u3 u4 u5
  go_wp2_with fail
  refine HN.out.mono ?_
  rintro e ws0 ⟨rfl, hr, hg⟩
  have HQ := Lib.hid (HQ.out.next hr hg)
  clear hr hg HN u0 u1 u2 u3 u4 u5
  obtain ⟨m0, m1, m2, m3, m4, m5, m6⟩ := HQ.out.cells
  have fr := HQ.out.ope.frozen 2
  have HQ : Hid (OqSt W (ws0.setCell ⟨ob, 2, none⟩ (.int .i64 v0)) rb ob ub ⟨x, 0, v0, 0, 0, 0, ByteArray.empty⟩ q0 d0 #[.bool false, .bool true, .bool false, .bool false, .bool false, .bool true]) := HQ.out.set 2 _ (HQ.out.op.put2 v0)
  go_upto_region 7 with fail
  clear m0 m1 m2 m3 m4 m5 m6 fr
  generalize ws0.setCell ⟨ob, 2, none⟩ (.int .i64 v0) = W1 at *
  have HN := Lib.hid (textR rb q0 d0 W1 HQ.out.rd HB.out.1 HB.out.2)
  have HR : Hid (opR l b = fsR [] (⟨x, 0, v0, 0, 0, 0, tv q0⟩, td q0, tx q0 d0)) := HR.out
  have HB := Lib.hid (And.intro (td_BL HB.out.1) (Nat.le_trans (td_len q0) HB.out.2))
  unfold RTxt at HN
  generalize tv q0 = v1 at *
  generalize td q0 = q1 at *
  generalize tx q0 d0 = d1 at *
  have u0 := cell_of_row _ _ 0 _ _ _ HQ.out.us
  have u1 := cell_of_row _ _ 1 _ _ _ HQ.out.us
  have u2 := cell_of_row _ _ 2 _ _ _ HQ.out.us
  have u3 := cell_of_row _ _ 3 _ _ _ HQ.out.us
  have u4 := cell_of_row _ _ 4 _ _ _ HQ.out.us
  have u5 := cell_of_row _ _ 5 _ _ _ HQ.out.us
  simp at u0 u1 u2 u3 u4 u5
  go_wp2_with fail
  refine HN.out.mono ?_
  rintro e ws1 ⟨rfl, hr, hg⟩
  have HQ := Lib.hid (HQ.out.next hr hg)
  clear hr hg HN u0 u1 u2 u3 u4 u5
  obtain ⟨m0, m1, m2, m3, m4, m5, m6⟩ := HQ.out.cells
  have fr := HQ.out.ope.frozen 6
  have HQ : Hid (OqSt W (ws1.setCell ⟨ob, 6, none⟩ (.string v1)) rb ob ub ⟨x, 0, v0, 0, 0, 0, v1⟩ q1 d1 #[.bool false, .bool true, .bool false, .bool false, .bool false, .bool true]) := HQ.out.set 6 _ (HQ.out.op.put6 v1)
  go_upto_region 15 with fail
  clear m0 m1 m2 m3 m4 m5 m6 fr
  generalize ws1.setCell ⟨ob, 6, none⟩ (.string v1) = W2 at *
  have u0 := cell_of_row _ _ 0 _ _ _ HQ.out.us
  have u1 := cell_of_row _ _ 1 _ _ _ HQ.out.us
  have u2 := cell_of_row _ _ 2 _ _ _ HQ.out.us
  have u3 := cell_of_row _ _ 3 _ _ _ HQ.out.us
  have u4 := cell_of_row _ _ 4 _ _ _ HQ.out.us
  have u5 := cell_of_row _ _ 5 _ _ _ HQ.out.us
  simp at u0 u1 u2 u3 u4 u5
  clear u0 u1 u2 u3 u4 u5
  obtain ⟨m0, m1, m2, m3, m4, m5, m6⟩ := HQ.out.cells
  have hz : ElemT W2 W.heap.size 44 := ⟨_, HQ.out.res⟩
  have r0 : W2.cell? ⟨W.heap.size, 0, none⟩ = some (.int .u8 0) := by rw [cell_of_row _ _ 0 _ _ _ HQ.out.res]; rfl
  have r1 : W2.cell? ⟨W.heap.size, 1, none⟩ = some (.int .i64 0) := by rw [cell_of_row _ _ 1 _ _ _ HQ.out.res]; rfl
  have r2 : W2.cell? ⟨W.heap.size, 2, none⟩ = some (.int .i64 0) := by rw [cell_of_row _ _ 2 _ _ _ HQ.out.res]; rfl
  have r3 : W2.cell? ⟨W.heap.size, 3, none⟩ = some (.int .i64 0) := by rw [cell_of_row _ _ 3 _ _ _ HQ.out.res]; rfl
  have r4 : W2.cell? ⟨W.heap.size, 4, none⟩ = some (.int .u32 0) := by rw [cell_of_row _ _ 4 _ _ _ HQ.out.res]; rfl
  have r5 : W2.cell? ⟨W.heap.size, 5, none⟩ = some (.int .u8 0) := by rw [cell_of_row _ _ 5 _ _ _ HQ.out.res]; rfl
  have r6 : W2.cell? ⟨W.heap.size, 6, none⟩ = some (.string ⟨#[]⟩) := by rw [cell_of_row _ _ 6 _ _ _ HQ.out.res]; rfl
  have z0 := hz.frozen 0
  have z1 := hz.frozen 1
  have z2 := hz.frozen 2
  have z3 := hz.frozen 3
  have z4 := hz.frozen 4
  have z5 := hz.frozen 5
  have z6 := hz.frozen 6
  clear hz
  go_wp2_with fail
  refine bodyPost_ret (v := opVal ⟨x, 0, v0, 0, 0, 0, v1⟩) (by simp [results, Try.results48, go_sem, r0, r1, r2, r3, r4, r5, r6]) rfl (rop_mk HR.out ?_ ?_)
  · have hne : rb ≠ W.heap.size := by have := HQ.out.hrb; omega
    have hk : ∀ (W1 : World) (i : Nat) (v : Value), RBox W1 rb q1 d1 → RBox (W1.setCell ⟨W.heap.size, i, none⟩ v) rb q1 d1 := fun W1 i v h => h.keep (Below.heap_setCell _ _ _ _ hne)
    iterate 7 with_reducible refine hk _ _ _ ?_
    exact HQ.out.rd
  · have hk : ∀ (W1 : World) (i : Nat) (v : Value), W.grownBy W1 (some rb) → W.grownBy (W1.setCell ⟨W.heap.size, i, none⟩ v) (some rb) := fun W1 i v h => ⟨h.os, h.tape, h.output, by simpa using h.size, fun q hq hr => (Below.heap_setCell _ _ _ _ (by show q ≠ W.heap.size; omega)).trans (h.block q hq hr)⟩
    iterate 7 with_reducible refine hk _ _ _ ?_
    exact HQ.out.gr
set_option maxHeartbeats 0 in
set_option maxRecDepth 100000 in
theorem readOpR_1 (rb : Nat) (l : List Int) (b : Bool) (W : World) (h : RBox W rb l b) (hl : BL l) (hm : l.length ≤ 65536) (hfs : fieldsOf (rv l 1) = [1, 2]) :
    Calls Try.prog 48 #[.pointer (some ⟨rb, 0, none⟩)] W (ROp rb l b W) := by
  have hlt := h.str.elem.lt
  have HA := h.keep (Below.heap_alloc W opZero rb hlt)
  have HN := Lib.hid (numR1 rb l b _ HA hl hm)
  have HR : Hid (opR l b = fsR [1, 2] (op0 (rv l 1), rd l 1, rx l 1 b)) := by show _ = _; unfold opR; rw [hfs]
  have HUV : Hid (usesVal (rv l 1) = .agg #[.bool false, .bool true, .bool true, .bool false, .bool false, .bool false]) := by show _ = _; unfold usesVal useB; rw [hfs]; rfl
  have hb := rv_bd hl 1
  rw [pow1] at hb
  have HB := Lib.hid (And.intro (rd_BL hl 1) (Nat.le_trans (rd_len l 1) hm))
  have HST := Lib.hid (fun w1 w2 l1 b1 x us => oqst_start (W := W) (w1 := w1) (w2 := w2) (rb := rb) (l1 := l1) (b1 := b1) x us hlt)
  unfold RNum at HN
  clear h HA hl hm hfs hlt
  generalize rv l 1 = x at *
  generalize rd l 1 = l1 at *
  generalize rx l 1 b = b1 at *
  have hx0 := hb.1
  have hx1 := hb.2
  have hu8 := u8w x hx0 hx1
  have HF := Lib.hid (fun W : World => usesFn x W hx0 (by omega))
  unfold UsesRes at HF
  go_enter Try.func48, Try.ntmps48
  go_wp2_with fail
  refine HN.out.mono ?_
  rintro e w1 ⟨rfl, hr, hg⟩
  have c0 : (w1.alloc (opObj x)).cell? ⟨w1.heap.size, 0, none⟩ = some (.int .u8 x) := (opAt_new w1 x 0 0 0 0 0 ⟨#[]⟩).c0
  have HRG := Lib.hid (And.intro hr hg)
  clear hr hg HN
  go_wp2_with fail
  refine (HF.out _).mono ?_
  rintro e w2 ⟨rfl, hg2⟩
  have HQ := Lib.hid (HST.out w1 w2 l1 b1 x #[.bool false, .bool true, .bool true, .bool false, .bool false, .bool false] HRG.out.1 HRG.out.2 hg2)
  rw [HUV.out]
  clear HRG hg2 HST HF c0 hb
  go_upto_region 3 with fail
  generalize w2.alloc (.cells #[.bool false, .bool true, .bool true, .bool false, .bool false, .bool false] 57) = W0 at *
  generalize w1.heap.size = ob at *
  generalize w2.heap.size = ub at *
  have HQ : Hid (OqSt W W0 rb ob ub ⟨x, 0, 0, 0, 0, 0, ByteArray.empty⟩ l1 b1 #[.bool false, .bool true, .bool true, .bool false, .bool false, .bool false]) := HQ.out
  have HN := Lib.hid (numR2 rb l1 b1 W0 HQ.out.rd HB.out.1 HB.out.2)
  have HR : Hid (opR l b = fsR [2] (⟨x, 0, rv l1 2, 0, 0, 0, ByteArray.empty⟩, rd l1 2, rx l1 2 b1)) := HR.out
  have hv := rv_bd HB.out.1 2
  rw [pow2] at hv
  have HB := Lib.hid (And.intro (rd_BL HB.out.1 2) (Nat.le_trans (rd_len l1 2) HB.out.2))
  unfold RNum at HN
  generalize rv l1 2 = v0 at *
  generalize rd l1 2 = q0 at *
  generalize rx l1 2 b1 = d0 at *
  have hw := i64w v0 (by omega) (by omega)
  have u0 := cell_of_row _ _ 0 _ _ _ HQ.out.us
  have u1 := cell_of_row _ _ 1 _ _ _ HQ.out.us
  have u2 := cell_of_row _ _ 2 _ _ _ HQ.out.us
  have u3 := cell_of_row _ _ 3 _ _ _ HQ.out.us
  have u4 := cell_of_row _ _ 4 _ _ _ HQ.out.us
  have u5 := cell_of_row _ _ 5 _ _ _ HQ.out.us
  simp at u0 u1 u2 u3 u4 u5
  go_wp2_with fail
  refine HN.out.mono ?_
  rintro e ws0 ⟨rfl, hr, hg⟩
  have HQ := Lib.hid (HQ.out.next hr hg)
  clear hr hg HN u0 u1 u2 u3 u4 u5
  obtain ⟨m0, m1, m2, m3, m4, m5, m6⟩ := HQ.out.cells
  have fr := HQ.out.ope.frozen 2
  have HQ : Hid (OqSt W (ws0.setCell ⟨ob, 2, none⟩ (.int .i64 v0)) rb ob ub ⟨x, 0, v0, 0, 0, 0, ByteArray.empty⟩ q0 d0 #[.bool false, .bool true, .bool true, .bool false, .bool false, .bool false]) := HQ.out.set 2 _ (HQ.out.op.put2 v0)
  go_upto_region 7 with fail
  clear m0 m1 m2 m3 m4 m5 m6 fr
  generalize ws0.setCell ⟨ob, 2, none⟩ (.int .i64 v0) = W1 at *
  have HN := Lib.hid (numR2 rb q0 d0 W1 HQ.out.rd HB.out.1 HB.out.2)
  have HR : Hid (opR l b = fsR [] (⟨x, 0, v0, rv q0 2, 0, 0, ByteArray.empty⟩, rd q0 2, rx q0 2 d0)) := HR.out
  have hv := rv_bd HB.out.1 2
  rw [pow2] at hv
  have HB := Lib.hid (And.intro (rd_BL HB.out.1 2) (Nat.le_trans (rd_len q0 2) HB.out.2))
  unfold RNum at HN
  generalize rv q0 2 = v1 at *
  generalize rd q0 2 = q1 at *
  generalize rx q0 2 d0 = d1 at *
  have hw := i64w v1 (by omega) (by omega)
  have u0 := cell_of_row _ _ 0 _ _ _ HQ.out.us
  have u1 := cell_of_row _ _ 1 _ _ _ HQ.out.us
  have u2 := cell_of_row _ _ 2 _ _ _ HQ.out.us
  have u3 := cell_of_row _ _ 3 _ _ _ HQ.out.us
  have u4 := cell_of_row _ _ 4 _ _ _ HQ.out.us
  have u5 := cell_of_row _ _ 5 _ _ _ HQ.out.us
  simp at u0 u1 u2 u3 u4 u5
  go_wp2_with fail
  refine HN.out.mono ?_
  rintro e ws1 ⟨rfl, hr, hg⟩
  have HQ := Lib.hid (HQ.out.next hr hg)
  clear hr hg HN u0 u1 u2 u3 u4 u5
  obtain ⟨m0, m1, m2, m3, m4, m5, m6⟩ := HQ.out.cells
  have fr := HQ.out.ope.frozen 3
  have HQ : Hid (OqSt W (ws1.setCell ⟨ob, 3, none⟩ (.int .i64 v1)) rb ob ub ⟨x, 0, v0, v1, 0, 0, ByteArray.empty⟩ q1 d1 #[.bool false, .bool true, .bool true, .bool false, .bool false, .bool false]) := HQ.out.set 3 _ (HQ.out.op.put3 v1)
  go_upto_region 9 with fail
  clear m0 m1 m2 m3 m4 m5 m6 fr
  generalize ws1.setCell ⟨ob, 3, none⟩ (.int .i64 v1) = W2 at *
  have u0 := cell_of_row _ _ 0 _ _ _ HQ.out.us
  have u1 := cell_of_row _ _ 1 _ _ _ HQ.out.us
  have u2 := cell_of_row _ _ 2 _ _ _ HQ.out.us
  have u3 := cell_of_row _ _ 3 _ _ _ HQ.out.us
  have u4 := cell_of_row _ _ 4 _ _ _ HQ.out.us
  have u5 := cell_of_row _ _ 5 _ _ _ HQ.out.us
  simp at u0 u1 u2 u3 u4 u5
  go_upto_region 15 with fail
  clear u0 u1 u2 u3 u4 u5
  obtain ⟨m0, m1, m2, m3, m4, m5, m6⟩ := HQ.out.cells
  have hz : ElemT W2 W.heap.size 44 := ⟨_, HQ.out.res⟩
  have r0 : W2.cell? ⟨W.heap.size, 0, none⟩ = some (.int .u8 0) := by rw [cell_of_row _ _ 0 _ _ _ HQ.out.res]; rfl
  have r1 : W2.cell? ⟨W.heap.size, 1, none⟩ = some (.int .i64 0) := by rw [cell_of_row _ _ 1 _ _ _ HQ.out.res]; rfl
  have r2 : W2.cell? ⟨W.heap.size, 2, none⟩ = some (.int .i64 0) := by rw [cell_of_row _ _ 2 _ _ _ HQ.out.res]; rfl
  have r3 : W2.cell? ⟨W.heap.size, 3, none⟩ = some (.int .i64 0) := by rw [cell_of_row _ _ 3 _ _ _ HQ.out.res]; rfl
  have r4 : W2.cell? ⟨W.heap.size, 4, none⟩ = some (.int .u32 0) := by rw [cell_of_row _ _ 4 _ _ _ HQ.out.res]; rfl
  have r5 : W2.cell? ⟨W.heap.size, 5, none⟩ = some (.int .u8 0) := by rw [cell_of_row _ _ 5 _ _ _ HQ.out.res]; rfl
  have r6 : W2.cell? ⟨W.heap.size, 6, none⟩ = some (.string ⟨#[]⟩) := by rw [cell_of_row _ _ 6 _ _ _ HQ.out.res]; rfl
  have z0 := hz.frozen 0
  have z1 := hz.frozen 1
  have z2 := hz.frozen 2
  have z3 := hz.frozen 3
  have z4 := hz.frozen 4
  have z5 := hz.frozen 5
  have z6 := hz.frozen 6
  clear hz
  go_wp2_with fail
  refine bodyPost_ret (v := opVal ⟨x, 0, v0, v1, 0, 0, ByteArray.empty⟩) (by simp [results, Try.results48, go_sem, r0, r1, r2, r3, r4, r5, r6]) rfl (rop_mk HR.out ?_ ?_)
  · have hne : rb ≠ W.heap.size := by have := HQ.out.hrb; omega
    have hk : ∀ (W1 : World) (i : Nat) (v : Value), RBox W1 rb q1 d1 → RBox (W1.setCell ⟨W.heap.size, i, none⟩ v) rb q1 d1 := fun W1 i v h => h.keep (Below.heap_setCell _ _ _ _ hne)
    iterate 7 with_reducible refine hk _ _ _ ?_
    exact HQ.out.rd
  · have hk : ∀ (W1 : World) (i : Nat) (v : Value), W.grownBy W1 (some rb) → W.grownBy (W1.setCell ⟨W.heap.size, i, none⟩ v) (some rb) := fun W1 i v h => ⟨h.os, h.tape, h.output, by simpa using h.size, fun q hq hr => (Below.heap_setCell _ _ _ _ (by show q ≠ W.heap.size; omega)).trans (h.block q hq hr)⟩
    iterate 7 with_reducible refine hk _ _ _ ?_
    exact HQ.out.gr
set_option maxHeartbeats 0 in
set_option maxRecDepth 100000 in
theorem readOpR_2 (rb : Nat) (l : List Int) (b : Bool) (W : World) (h : RBox W rb l b) (hl : BL l) (hm : l.length ≤ 65536) (hfs : fieldsOf (rv l 1) = [1, 3, 4]) :
    Calls Try.prog 48 #[.pointer (some ⟨rb, 0, none⟩)] W (ROp rb l b W) := by
  have hlt := h.str.elem.lt
  have HA := h.keep (Below.heap_alloc W opZero rb hlt)
  have HN := Lib.hid (numR1 rb l b _ HA hl hm)
  have HR : Hid (opR l b = fsR [1, 3, 4] (op0 (rv l 1), rd l 1, rx l 1 b)) := by show _ = _; unfold opR; rw [hfs]
  have HUV : Hid (usesVal (rv l 1) = .agg #[.bool false, .bool true, .bool false, .bool true, .bool true, .bool false]) := by show _ = _; unfold usesVal useB; rw [hfs]; rfl
  have hb := rv_bd hl 1
  rw [pow1] at hb
  have HB := Lib.hid (And.intro (rd_BL hl 1) (Nat.le_trans (rd_len l 1) hm))
  have HST := Lib.hid (fun w1 w2 l1 b1 x us => oqst_start (W := W) (w1 := w1) (w2 := w2) (rb := rb) (l1 := l1) (b1 := b1) x us hlt)
  unfold RNum at HN
  clear h HA hl hm hfs hlt
  generalize rv l 1 = x at *
  generalize rd l 1 = l1 at *
  generalize rx l 1 b = b1 at *
  have hx0 := hb.1
  have hx1 := hb.2
  have hu8 := u8w x hx0 hx1
  have HF := Lib.hid (fun W : World => usesFn x W hx0 (by omega))
  unfold UsesRes at HF
  go_enter Try.func48, Try.ntmps48
  go_wp2_with fail
  refine HN.out.mono ?_
  rintro e w1 ⟨rfl, hr, hg⟩
  have c0 : (w1.alloc (opObj x)).cell? ⟨w1.heap.size, 0, none⟩ = some (.int .u8 x) := (opAt_new w1 x 0 0 0 0 0 ⟨#[]⟩).c0
  have HRG := Lib.hid (And.intro hr hg)
  clear hr hg HN
  go_wp2_with fail
  refine (HF.out _).mono ?_
  rintro e w2 ⟨rfl, hg2⟩
  have HQ := Lib.hid (HST.out w1 w2 l1 b1 x #[.bool false, .bool true, .bool false, .bool true, .bool true, .bool false] HRG.out.1 HRG.out.2 hg2)
  rw [HUV.out]
  clear HRG hg2 HST HF c0 hb
  go_upto_region 3 with fail
  generalize w2.alloc (.cells #[.bool false, .bool true, .bool false, .bool true, .bool true, .bool false] 57) = W0 at *
  generalize w1.heap.size = ob at *
  generalize w2.heap.size = ub at *
  have HQ : Hid (OqSt W W0 rb ob ub ⟨x, 0, 0, 0, 0, 0, ByteArray.empty⟩ l1 b1 #[.bool false, .bool true, .bool false, .bool true, .bool true, .bool false]) := HQ.out
  have HN := Lib.hid (numR2 rb l1 b1 W0 HQ.out.rd HB.out.1 HB.out.2)
  have HR : Hid (opR l b = fsR [3, 4] (⟨x, 0, rv l1 2, 0, 0, 0, ByteArray.empty⟩, rd l1 2, rx l1 2 b1)) := HR.out
  have hv := rv_bd HB.out.1 2
  rw [pow2] at hv
  have HB := Lib.hid (And.intro (rd_BL HB.out.1 2) (Nat.le_trans (rd_len l1 2) HB.out.2))
  unfold RNum at HN
  generalize rv l1 2 = v0 at *
  generalize rd l1 2 = q0 at *
  generalize rx l1 2 b1 = d0 at *
  have hw := i64w v0 (by omega) (by omega)
  have u0 := cell_of_row _ _ 0 _ _ _ HQ.out.us
  have u1 := cell_of_row _ _ 1 _ _ _ HQ.out.us
  have u2 := cell_of_row _ _ 2 _ _ _ HQ.out.us
  have u3 := cell_of_row _ _ 3 _ _ _ HQ.out.us
  have u4 := cell_of_row _ _ 4 _ _ _ HQ.out.us
  have u5 := cell_of_row _ _ 5 _ _ _ HQ.out.us
  simp at u0 u1 u2 u3 u4 u5
  go_wp2_with fail
  refine HN.out.mono ?_
  rintro e ws0 ⟨rfl, hr, hg⟩
  have HQ := Lib.hid (HQ.out.next hr hg)
  clear hr hg HN u0 u1 u2 u3 u4 u5
  obtain ⟨m0, m1, m2, m3, m4, m5, m6⟩ := HQ.out.cells
  have fr := HQ.out.ope.frozen 2
  have HQ : Hid (OqSt W (ws0.setCell ⟨ob, 2, none⟩ (.int .i64 v0)) rb ob ub ⟨x, 0, v0, 0, 0, 0, ByteArray.empty⟩ q0 d0 #[.bool false, .bool true, .bool false, .bool true, .bool true, .bool false]) := HQ.out.set 2 _ (HQ.out.op.put2 v0)
  go_upto_region 7 with fail
  clear m0 m1 m2 m3 m4 m5 m6 fr
  generalize ws0.setCell ⟨ob, 2, none⟩ (.int .i64 v0) = W1 at *
  have HN := Lib.hid (numR4 rb q0 d0 W1 HQ.out.rd HB.out.1 HB.out.2)
  have HR : Hid (opR l b = fsR [4] (⟨x, 0, v0, 0, rv q0 4, 0, ByteArray.empty⟩, rd q0 4, rx q0 4 d0)) := HR.out
  have hv := rv_bd HB.out.1 4
  rw [pow4] at hv
  have HB := Lib.hid (And.intro (rd_BL HB.out.1 4) (Nat.le_trans (rd_len q0 4) HB.out.2))
  unfold RNum at HN
  generalize rv q0 4 = v1 at *
  generalize rd q0 4 = q1 at *
  generalize rx q0 4 d0 = d1 at *
  have hw := u32w v1 (by omega) (by omega)
  have u0 := cell_of_row _ _ 0 _ _ _ HQ.out.us
  have u1 := cell_of_row _ _ 1 _ _ _ HQ.out.us
  have u2 := cell_of_row _ _ 2 _ _ _ HQ.out.us
  have u3 := cell_of_row _ _ 3 _ _ _ HQ.out.us
  have u4 := cell_of_row _ _ 4 _ _ _ HQ.out.us
  have u5 := cell_of_row _ _ 5 _ _ _ HQ.out.us
  simp at u0 u1 u2 u3 u4 u5
  go_wp2_with fail
  refine HN.out.mono ?_
  rintro e ws1 ⟨rfl, hr, hg⟩
  have HQ := Lib.hid (HQ.out.next hr hg)
  clear hr hg HN u0 u1 u2 u3 u4 u5
  obtain ⟨m0, m1, m2, m3, m4, m5, m6⟩ := HQ.out.cells
  have fr := HQ.out.ope.frozen 4
  have HQ : Hid (OqSt W (ws1.setCell ⟨ob, 4, none⟩ (.int .u32 v1)) rb ob ub ⟨x, 0, v0, 0, v1, 0, ByteArray.empty⟩ q1 d1 #[.bool false, .bool true, .bool false, .bool true, .bool true, .bool false]) := HQ.out.set 4 _ (HQ.out.op.put4 v1)
  go_upto_region 11 with fail
  clear m0 m1 m2 m3 m4 m5 m6 fr
  generalize ws1.setCell ⟨ob, 4, none⟩ (.int .u32 v1) = W2 at *
  have HN := Lib.hid (numR1 rb q1 d1 W2 HQ.out.rd HB.out.1 HB.out.2)
  have HR : Hid (opR l b = fsR [] (⟨x, 0, v0, 0, v1, rv q1 1, ByteArray.empty⟩, rd q1 1, rx q1 1 d1)) := HR.out
  have hv := rv_bd HB.out.1 1
  rw [pow1] at hv
  have HB := Lib.hid (And.intro (rd_BL HB.out.1 1) (Nat.le_trans (rd_len q1 1) HB.out.2))
  unfold RNum at HN
  generalize rv q1 1 = v2 at *
  generalize rd q1 1 = q2 at *
  generalize rx q1 1 d1 = d2 at *
  have hw := u8w v2 (by omega) (by omega)
  have u0 := cell_of_row _ _ 0 _ _ _ HQ.out.us
  have u1 := cell_of_row _ _ 1 _ _ _ HQ.out.us
  have u2 := cell_of_row _ _ 2 _ _ _ HQ.out.us
  have u3 := cell_of_row _ _ 3 _ _ _ HQ.out.us
  have u4 := cell_of_row _ _ 4 _ _ _ HQ.out.us
  have u5 := cell_of_row _ _ 5 _ _ _ HQ.out.us
  simp at u0 u1 u2 u3 u4 u5
  go_wp2_with fail
  refine HN.out.mono ?_
  rintro e ws2 ⟨rfl, hr, hg⟩
  have HQ := Lib.hid (HQ.out.next hr hg)
  clear hr hg HN u0 u1 u2 u3 u4 u5
  obtain ⟨m0, m1, m2, m3, m4, m5, m6⟩ := HQ.out.cells
  have fr := HQ.out.ope.frozen 5
  have HQ : Hid (OqSt W (ws2.setCell ⟨ob, 5, none⟩ (.int .u8 v2)) rb ob ub ⟨x, 0, v0, 0, v1, v2, ByteArray.empty⟩ q2 d2 #[.bool false, .bool true, .bool false, .bool true, .bool true, .bool false]) := HQ.out.set 5 _ (HQ.out.op.put5 v2)
  go_upto_region 13 with fail
  clear m0 m1 m2 m3 m4 m5 m6 fr
  generalize ws2.setCell ⟨ob, 5, none⟩ (.int .u8 v2) = W3 at *
  have u0 := cell_of_row _ _ 0 _ _ _ HQ.out.us
  have u1 := cell_of_row _ _ 1 _ _ _ HQ.out.us
  have u2 := cell_of_row _ _ 2 _ _ _ HQ.out.us
  have u3 := cell_of_row _ _ 3 _ _ _ HQ.out.us
  have u4 := cell_of_row _ _ 4 _ _ _ HQ.out.us
  have u5 := cell_of_row _ _ 5 _ _ _ HQ.out.us
  simp at u0 u1 u2 u3 u4 u5
  go_upto_region 15 with fail
  clear u0 u1 u2 u3 u4 u5
  obtain ⟨m0, m1, m2, m3, m4, m5, m6⟩ := HQ.out.cells
  have hz : ElemT W3 W.heap.size 44 := ⟨_, HQ.out.res⟩
  have r0 : W3.cell? ⟨W.heap.size, 0, none⟩ = some (.int .u8 0) := by rw [cell_of_row _ _ 0 _ _ _ HQ.out.res]; rfl
  have r1 : W3.cell? ⟨W.heap.size, 1, none⟩ = some (.int .i64 0) := by rw [cell_of_row _ _ 1 _ _ _ HQ.out.res]; rfl
  have r2 : W3.cell? ⟨W.heap.size, 2, none⟩ = some (.int .i64 0) := by rw [cell_of_row _ _ 2 _ _ _ HQ.out.res]; rfl
  have r3 : W3.cell? ⟨W.heap.size, 3, none⟩ = some (.int .i64 0) := by rw [cell_of_row _ _ 3 _ _ _ HQ.out.res]; rfl
  have r4 : W3.cell? ⟨W.heap.size, 4, none⟩ = some (.int .u32 0) := by rw [cell_of_row _ _ 4 _ _ _ HQ.out.res]; rfl
  have r5 : W3.cell? ⟨W.heap.size, 5, none⟩ = some (.int .u8 0) := by rw [cell_of_row _ _ 5 _ _ _ HQ.out.res]; rfl
  have r6 : W3.cell? ⟨W.heap.size, 6, none⟩ = some (.string ⟨#[]⟩) := by rw [cell_of_row _ _ 6 _ _ _ HQ.out.res]; rfl
  have z0 := hz.frozen 0
  have z1 := hz.frozen 1
  have z2 := hz.frozen 2
  have z3 := hz.frozen 3
  have z4 := hz.frozen 4
  have z5 := hz.frozen 5
  have z6 := hz.frozen 6
  clear hz
  go_wp2_with fail
  refine bodyPost_ret (v := opVal ⟨x, 0, v0, 0, v1, v2, ByteArray.empty⟩) (by simp [results, Try.results48, go_sem, r0, r1, r2, r3, r4, r5, r6]) rfl (rop_mk HR.out ?_ ?_)
  · have hne : rb ≠ W.heap.size := by have := HQ.out.hrb; omega
    have hk : ∀ (W1 : World) (i : Nat) (v : Value), RBox W1 rb q2 d2 → RBox (W1.setCell ⟨W.heap.size, i, none⟩ v) rb q2 d2 := fun W1 i v h => h.keep (Below.heap_setCell _ _ _ _ hne)
    iterate 7 with_reducible refine hk _ _ _ ?_
    exact HQ.out.rd
  · have hk : ∀ (W1 : World) (i : Nat) (v : Value), W.grownBy W1 (some rb) → W.grownBy (W1.setCell ⟨W.heap.size, i, none⟩ v) (some rb) := fun W1 i v h => ⟨h.os, h.tape, h.output, by simpa using h.size, fun q hq hr => (Below.heap_setCell _ _ _ _ (by show q ≠ W.heap.size; omega)).trans (h.block q hq hr)⟩
    iterate 7 with_reducible refine hk _ _ _ ?_
    exact HQ.out.gr
set_option maxHeartbeats 0 in
set_option maxRecDepth 100000 in
theorem readOpR_3 (rb : Nat) (l : List Int) (b : Bool) (W : World) (h : RBox W rb l b) (hl : BL l) (hm : l.length ≤ 65536) (hfs : fieldsOf (rv l 1) = [3]) :
    Calls Try.prog 48 #[.pointer (some ⟨rb, 0, none⟩)] W (ROp rb l b W) := by
  have hlt := h.str.elem.lt
  have HA := h.keep (Below.heap_alloc W opZero rb hlt)
  have HN := Lib.hid (numR1 rb l b _ HA hl hm)
  have HR : Hid (opR l b = fsR [3] (op0 (rv l 1), rd l 1, rx l 1 b)) := by show _ = _; unfold opR; rw [hfs]
  have HUV : Hid (usesVal (rv l 1) = .agg #[.bool false, .bool false, .bool false, .bool true, .bool false, .bool false]) := by show _ = _; unfold usesVal useB; rw [hfs]; rfl
  have hb := rv_bd hl 1
  rw [pow1] at hb
  have HB := Lib.hid (And.intro (rd_BL hl 1) (Nat.le_trans (rd_len l 1) hm))
  have HST := Lib.hid (fun w1 w2 l1 b1 x us => oqst_start (W := W) (w1 := w1) (w2 := w2) (rb := rb) (l1 := l1) (b1 := b1) x us hlt)
  unfold RNum at HN
  clear h HA hl hm hfs hlt
  generalize rv l 1 = x at *
  generalize rd l 1 = l1 at *
  generalize rx l 1 b = b1 at *
  have hx0 := hb.1
  have hx1 := hb.2
  have hu8 := u8w x hx0 hx1
  have HF := Lib.hid (fun W : World => usesFn x W hx0 (by omega))
  unfold UsesRes at HF
  go_enter Try.func48, Try.ntmps48
  go_wp2_with fail
  refine HN.out.mono ?_
  rintro e w1 ⟨rfl, hr, hg⟩
  have c0 : (w1.alloc (opObj x)).cell? ⟨w1.heap.size, 0, none⟩ = some (.int .u8 x) := (opAt_new w1 x 0 0 0 0 0 ⟨#[]⟩).c0
  have HRG := Lib.hid (And.intro hr hg)
  clear hr hg HN
  go_wp2_with fail
  refine (HF.out _).mono ?_
  rintro e w2 ⟨rfl, hg2⟩
  have HQ := Lib.hid (HST.out w1 w2 l1 b1 x #[.bool false, .bool false, .bool false, .bool true, .bool false, .bool false] HRG.out.1 HRG.out.2 hg2)
  rw [HUV.out]
  clear HRG hg2 HST HF c0 hb
  go_upto_region 3 with fail
  generalize w2.alloc (.cells #[.bool false, .bool false, .bool false, .bool true, .bool false, .bool false] 57) = W0 at *
  generalize w1.heap.size = ob at *
  generalize w2.heap.size = ub at *
  have HQ : Hid (OqSt W W0 rb ob ub ⟨x, 0, 0, 0, 0, 0, ByteArray.empty⟩ l1 b1 #[.bool false, .bool false, .bool false, .bool true, .bool false, .bool false]) := HQ.out
  have HN := Lib.hid (numR4 rb l1 b1 W0 HQ.out.rd HB.out.1 HB.out.2)
  have HR : Hid (opR l b = fsR [] (⟨x, 0, 0, 0, rv l1 4, 0, ByteArray.empty⟩, rd l1 4, rx l1 4 b1)) := HR.out
  have hv := rv_bd HB.out.1 4
  rw [pow4] at hv
  have HB := Lib.hid (And.intro (rd_BL HB.out.1 4) (Nat.le_trans (rd_len l1 4) HB.out.2))
  unfold RNum at HN
  generalize rv l1 4 = v0 at *
  generalize rd l1 4 = q0 at *
  generalize rx l1 4 b1 = d0 at *
  have hw := u32w v0 (by omega) (by omega)
  have u0 := cell_of_row _ _ 0 _ _ _ HQ.out.us
  have u1 := cell_of_row _ _ 1 _ _ _ HQ.out.us
  have u2 := cell_of_row _ _ 2 _ _ _ HQ.out.us
  have u3 := cell_of_row _ _ 3 _ _ _ HQ.out.us
  have u4 := cell_of_row _ _ 4 _ _ _ HQ.out.us
  have u5 := cell_of_row _ _ 5 _ _ _ HQ.out.us
  simp at u0 u1 u2 u3 u4 u5
  go_wp2_with fail
  refine HN.out.mono ?_
  rintro e ws0 ⟨rfl, hr, hg⟩
  have HQ := Lib.hid (HQ.out.next hr hg)
  clear hr hg HN u0 u1 u2 u3 u4 u5
  obtain ⟨m0, m1, m2, m3, m4, m5, m6⟩ := HQ.out.cells
  have fr := HQ.out.ope.frozen 4
  have HQ : Hid (OqSt W (ws0.setCell ⟨ob, 4, none⟩ (.int .u32 v0)) rb ob ub ⟨x, 0, 0, 0, v0, 0, ByteArray.empty⟩ q0 d0 #[.bool false, .bool false, .bool false, .bool true, .bool false, .bool false]) := HQ.out.set 4 _ (HQ.out.op.put4 v0)
  go_upto_region 11 with fail
  clear m0 m1 m2 m3 m4 m5 m6 fr
  generalize ws0.setCell ⟨ob, 4, none⟩ (.int .u32 v0) = W1 at *
  have u0 := cell_of_row _ _ 0 _ _ _ HQ.out.us
  have u1 := cell_of_row _ _ 1 _ _ _ HQ.out.us
  have u2 := cell_of_row _ _ 2 _ _ _ HQ.out.us
  have u3 := cell_of_row _ _ 3 _ _ _ HQ.out.us
  have u4 := cell_of_row _ _ 4 _ _ _ HQ.out.us
  have u5 := cell_of_row _ _ 5 _ _ _ HQ.out.us
  simp at u0 u1 u2 u3 u4 u5
  go_upto_region 15 with fail
  clear u0 u1 u2 u3 u4 u5
  obtain ⟨m0, m1, m2, m3, m4, m5, m6⟩ := HQ.out.cells
  have hz : ElemT W1 W.heap.size 44 := ⟨_, HQ.out.res⟩
  have r0 : W1.cell? ⟨W.heap.size, 0, none⟩ = some (.int .u8 0) := by rw [cell_of_row _ _ 0 _ _ _ HQ.out.res]; rfl
  have r1 : W1.cell? ⟨W.heap.size, 1, none⟩ = some (.int .i64 0) := by rw [cell_of_row _ _ 1 _ _ _ HQ.out.res]; rfl
  have r2 : W1.cell? ⟨W.heap.size, 2, none⟩ = some (.int .i64 0) := by rw [cell_of_row _ _ 2 _ _ _ HQ.out.res]; rfl
  have r3 : W1.cell? ⟨W.heap.size, 3, none⟩ = some (.int .i64 0) := by rw [cell_of_row _ _ 3 _ _ _ HQ.out.res]; rfl
  have r4 : W1.cell? ⟨W.heap.size, 4, none⟩ = some (.int .u32 0) := by rw [cell_of_row _ _ 4 _ _ _ HQ.out.res]; rfl
  have r5 : W1.cell? ⟨W.heap.size, 5, none⟩ = some (.int .u8 0) := by rw [cell_of_row _ _ 5 _ _ _ HQ.out.res]; rfl
  have r6 : W1.cell? ⟨W.heap.size, 6, none⟩ = some (.string ⟨#[]⟩) := by rw [cell_of_row _ _ 6 _ _ _ HQ.out.res]; rfl
  have z0 := hz.frozen 0
  have z1 := hz.frozen 1
  have z2 := hz.frozen 2
  have z3 := hz.frozen 3
  have z4 := hz.frozen 4
  have z5 := hz.frozen 5
  have z6 := hz.frozen 6
  clear hz
  go_wp2_with fail
  refine bodyPost_ret (v := opVal ⟨x, 0, 0, 0, v0, 0, ByteArray.empty⟩) (by simp [results, Try.results48, go_sem, r0, r1, r2, r3, r4, r5, r6]) rfl (rop_mk HR.out ?_ ?_)
  · have hne : rb ≠ W.heap.size := by have := HQ.out.hrb; omega
    have hk : ∀ (W1 : World) (i : Nat) (v : Value), RBox W1 rb q0 d0 → RBox (W1.setCell ⟨W.heap.size, i, none⟩ v) rb q0 d0 := fun W1 i v h => h.keep (Below.heap_setCell _ _ _ _ hne)
    iterate 7 with_reducible refine hk _ _ _ ?_
    exact HQ.out.rd
  · have hk : ∀ (W1 : World) (i : Nat) (v : Value), W.grownBy W1 (some rb) → W.grownBy (W1.setCell ⟨W.heap.size, i, none⟩ v) (some rb) := fun W1 i v h => ⟨h.os, h.tape, h.output, by simpa using h.size, fun q hq hr => (Below.heap_setCell _ _ _ _ (by show q ≠ W.heap.size; omega)).trans (h.block q hq hr)⟩
    iterate 7 with_reducible refine hk _ _ _ ?_
    exact HQ.out.gr
set_option maxHeartbeats 0 in
set_option maxRecDepth 100000 in
theorem readOpR_4 (rb : Nat) (l : List Int) (b : Bool) (W : World) (h : RBox W rb l b) (hl : BL l) (hm : l.length ≤ 65536) (hfs : fieldsOf (rv l 1) = []) :
    Calls Try.prog 48 #[.pointer (some ⟨rb, 0, none⟩)] W (ROp rb l b W) := by
  have hlt := h.str.elem.lt
  have HA := h.keep (Below.heap_alloc W opZero rb hlt)
  have HN := Lib.hid (numR1 rb l b _ HA hl hm)
  have HR : Hid (opR l b = fsR [] (op0 (rv l 1), rd l 1, rx l 1 b)) := by show _ = _; unfold opR; rw [hfs]
  have HUV : Hid (usesVal (rv l 1) = .agg #[.bool false, .bool false, .bool false, .bool false, .bool false, .bool false]) := by show _ = _; unfold usesVal useB; rw [hfs]; rfl
  have hb := rv_bd hl 1
  rw [pow1] at hb
  have HB := Lib.hid (And.intro (rd_BL hl 1) (Nat.le_trans (rd_len l 1) hm))
  have HST := Lib.hid (fun w1 w2 l1 b1 x us => oqst_start (W := W) (w1 := w1) (w2 := w2) (rb := rb) (l1 := l1) (b1 := b1) x us hlt)
  unfold RNum at HN
  clear h HA hl hm hfs hlt
  generalize rv l 1 = x at *
  generalize rd l 1 = l1 at *
  generalize rx l 1 b = b1 at *
  have hx0 := hb.1
  have hx1 := hb.2
  have hu8 := u8w x hx0 hx1
  have HF := Lib.hid (fun W : World => usesFn x W hx0 (by omega))
  unfold UsesRes at HF
  go_enter Try.func48, Try.ntmps48
  go_wp2_with fail
  refine HN.out.mono ?_
  rintro e w1 ⟨rfl, hr, hg⟩
  have c0 : (w1.alloc (opObj x)).cell? ⟨w1.heap.size, 0, none⟩ = some (.int .u8 x) := (opAt_new w1 x 0 0 0 0 0 ⟨#[]⟩).c0
  have HRG := Lib.hid (And.intro hr hg)
  clear hr hg HN
  go_wp2_with fail
  refine (HF.out _).mono ?_
  rintro e w2 ⟨rfl, hg2⟩
  have HQ := Lib.hid (HST.out w1 w2 l1 b1 x #[.bool false, .bool false, .bool false, .bool false, .bool false, .bool false] HRG.out.1 HRG.out.2 hg2)
  rw [HUV.out]
  clear HRG hg2 HST HF c0 hb
  go_upto_region 3 with fail
  generalize w2.alloc (.cells #[.bool false, .bool false, .bool false, .bool false, .bool false, .bool false] 57) = W0 at *
  generalize w1.heap.size = ob at *
  generalize w2.heap.size = ub at *
  have HQ : Hid (OqSt W W0 rb ob ub ⟨x, 0, 0, 0, 0, 0, ByteArray.empty⟩ l1 b1 #[.bool false, .bool false, .bool false, .bool false, .bool false, .bool false]) := HQ.out
  have u0 := cell_of_row _ _ 0 _ _ _ HQ.out.us
  have u1 := cell_of_row _ _ 1 _ _ _ HQ.out.us
  have u2 := cell_of_row _ _ 2 _ _ _ HQ.out.us
  have u3 := cell_of_row _ _ 3 _ _ _ HQ.out.us
  have u4 := cell_of_row _ _ 4 _ _ _ HQ.out.us
  have u5 := cell_of_row _ _ 5 _ _ _ HQ.out.us
  simp at u0 u1 u2 u3 u4 u5
  go_upto_region 15 with fail
  clear u0 u1 u2 u3 u4 u5
  obtain ⟨m0, m1, m2, m3, m4, m5, m6⟩ := HQ.out.cells
  have hz : ElemT W0 W.heap.size 44 := ⟨_, HQ.out.res⟩
  have r0 : W0.cell? ⟨W.heap.size, 0, none⟩ = some (.int .u8 0) := by rw [cell_of_row _ _ 0 _ _ _ HQ.out.res]; rfl
  have r1 : W0.cell? ⟨W.heap.size, 1, none⟩ = some (.int .i64 0) := by rw [cell_of_row _ _ 1 _ _ _ HQ.out.res]; rfl
  have r2 : W0.cell? ⟨W.heap.size, 2, none⟩ = some (.int .i64 0) := by rw [cell_of_row _ _ 2 _ _ _ HQ.out.res]; rfl
  have r3 : W0.cell? ⟨W.heap.size, 3, none⟩ = some (.int .i64 0) := by rw [cell_of_row _ _ 3 _ _ _ HQ.out.res]; rfl
  have r4 : W0.cell? ⟨W.heap.size, 4, none⟩ = some (.int .u32 0) := by rw [cell_of_row _ _ 4 _ _ _ HQ.out.res]; rfl
  have r5 : W0.cell? ⟨W.heap.size, 5, none⟩ = some (.int .u8 0) := by rw [cell_of_row _ _ 5 _ _ _ HQ.out.res]; rfl
  have r6 : W0.cell? ⟨W.heap.size, 6, none⟩ = some (.string ⟨#[]⟩) := by rw [cell_of_row _ _ 6 _ _ _ HQ.out.res]; rfl
  have z0 := hz.frozen 0
  have z1 := hz.frozen 1
  have z2 := hz.frozen 2
  have z3 := hz.frozen 3
  have z4 := hz.frozen 4
  have z5 := hz.frozen 5
  have z6 := hz.frozen 6
  clear hz
  go_wp2_with fail
  refine bodyPost_ret (v := opVal ⟨x, 0, 0, 0, 0, 0, ByteArray.empty⟩) (by simp [results, Try.results48, go_sem, r0, r1, r2, r3, r4, r5, r6]) rfl (rop_mk HR.out ?_ ?_)
  · have hne : rb ≠ W.heap.size := by have := HQ.out.hrb; omega
    have hk : ∀ (W1 : World) (i : Nat) (v : Value), RBox W1 rb l1 b1 → RBox (W1.setCell ⟨W.heap.size, i, none⟩ v) rb l1 b1 := fun W1 i v h => h.keep (Below.heap_setCell _ _ _ _ hne)
    iterate 7 with_reducible refine hk _ _ _ ?_
    exact HQ.out.rd
  · have hk : ∀ (W1 : World) (i : Nat) (v : Value), W.grownBy W1 (some rb) → W.grownBy (W1.setCell ⟨W.heap.size, i, none⟩ v) (some rb) := fun W1 i v h => ⟨h.os, h.tape, h.output, by simpa using h.size, fun q hq hr => (Below.heap_setCell _ _ _ _ (by show q ≠ W.heap.size; omega)).trans (h.block q hq hr)⟩
    iterate 7 with_reducible refine hk _ _ _ ?_
    exact HQ.out.gr
set_option maxHeartbeats 0 in
set_option maxRecDepth 100000 in
theorem readOpR_5 (rb : Nat) (l : List Int) (b : Bool) (W : World) (h : RBox W rb l b) (hl : BL l) (hm : l.length ≤ 65536) (hfs : fieldsOf (rv l 1) = [0]) :
    Calls Try.prog 48 #[.pointer (some ⟨rb, 0, none⟩)] W (ROp rb l b W) := by
  have hlt := h.str.elem.lt
  have HA := h.keep (Below.heap_alloc W opZero rb hlt)
  have HN := Lib.hid (numR1 rb l b _ HA hl hm)
  have HR : Hid (opR l b = fsR [0] (op0 (rv l 1), rd l 1, rx l 1 b)) := by show _ = _; unfold opR; rw [hfs]
  have HUV : Hid (usesVal (rv l 1) = .agg #[.bool true, .bool false, .bool false, .bool false, .bool false, .bool false]) := by show _ = _; unfold usesVal useB; rw [hfs]; rfl
  have hb := rv_bd hl 1
  rw [pow1] at hb
  have HB := Lib.hid (And.intro (rd_BL hl 1) (Nat.le_trans (rd_len l 1) hm))
  have HST := Lib.hid (fun w1 w2 l1 b1 x us => oqst_start (W := W) (w1 := w1) (w2 := w2) (rb := rb) (l1 := l1) (b1 := b1) x us hlt)
  unfold RNum at HN
  clear h HA hl hm hfs hlt
  generalize rv l 1 = x at *
  generalize rd l 1 = l1 at *
  generalize rx l 1 b = b1 at *
  have hx0 := hb.1
  have hx1 := hb.2
  have hu8 := u8w x hx0 hx1
  have HF := Lib.hid (fun W : World => usesFn x W hx0 (by omega))
  unfold UsesRes at HF
  go_enter Try.func48, Try.ntmps48
  go_wp2_with fail
  refine HN.out.mono ?_
  rintro e w1 ⟨rfl, hr, hg⟩
  have c0 : (w1.alloc (opObj x)).cell? ⟨w1.heap.size, 0, none⟩ = some (.int .u8 x) := (opAt_new w1 x 0 0 0 0 0 ⟨#[]⟩).c0
  have HRG := Lib.hid (And.intro hr hg)
  clear hr hg HN
  go_wp2_with fail
  refine (HF.out _).mono ?_
  rintro e w2 ⟨rfl, hg2⟩
  have HQ := Lib.hid (HST.out w1 w2 l1 b1 x #[.bool true, .bool false, .bool false, .bool false, .bool false, .bool false] HRG.out.1 HRG.out.2 hg2)
  rw [HUV.out]
  clear HRG hg2 HST HF c0 hb
  go_upto_region 3 with fail
  generalize w2.alloc (.cells #[.bool true, .bool false, .bool false, .bool false, .bool false, .bool false] 57) = W0 at *
  generalize w1.heap.size = ob at *
  generalize w2.heap.size = ub at *
  have HQ : Hid (OqSt W W0 rb ob ub ⟨x, 0, 0, 0, 0, 0, ByteArray.empty⟩ l1 b1 #[.bool true, .bool false, .bool false, .bool false, .bool false, .bool false]) := HQ.out
  have HN := Lib.hid (numR1 rb l1 b1 W0 HQ.out.rd HB.out.1 HB.out.2)
  have HR : Hid (opR l b = fsR [] (⟨x, rv l1 1, 0, 0, 0, 0, ByteArray.empty⟩, rd l1 1, rx l1 1 b1)) := HR.out
  have hv := rv_bd HB.out.1 1
  rw [pow1] at hv
  have HB := Lib.hid (And.intro (rd_BL HB.out.1 1) (Nat.le_trans (rd_len l1 1) HB.out.2))
  unfold RNum at HN
  generalize rv l1 1 = v0 at *
  generalize rd l1 1 = q0 at *
  generalize rx l1 1 b1 = d0 at *
  have hw := i64w v0 (by omega) (by omega)
  have u0 := cell_of_row _ _ 0 _ _ _ HQ.out.us
  have u1 := cell_of_row _ _ 1 _ _ _ HQ.out.us
  have u2 := cell_of_row _ _ 2 _ _ _ HQ.out.us
  have u3 := cell_of_row _ _ 3 _ _ _ HQ.out.us
  have u4 := cell_of_row _ _ 4 _ _ _ HQ.out.us
  have u5 := cell_of_row _ _ 5 _ _ _ HQ.out.us
  simp at u0 u1 u2 u3 u4 u5
  go_wp2_with fail
  refine HN.out.mono ?_
  rintro e ws0 ⟨rfl, hr, hg⟩
  have HQ := Lib.hid (HQ.out.next hr hg)
  clear hr hg HN u0 u1 u2 u3 u4 u5
  obtain ⟨m0, m1, m2, m3, m4, m5, m6⟩ := HQ.out.cells
  have fr := HQ.out.ope.frozen 1
  have HQ : Hid (OqSt W (ws0.setCell ⟨ob, 1, none⟩ (.int .i64 v0)) rb ob ub ⟨x, v0, 0, 0, 0, 0, ByteArray.empty⟩ q0 d0 #[.bool true, .bool false, .bool false, .bool false, .bool false, .bool false]) := HQ.out.set 1 _ (HQ.out.op.put1 v0)
  go_upto_region 5 with fail
  clear m0 m1 m2 m3 m4 m5 m6 fr
  generalize ws0.setCell ⟨ob, 1, none⟩ (.int .i64 v0) = W1 at *
  have u0 := cell_of_row _ _ 0 _ _ _ HQ.out.us
  have u1 := cell_of_row _ _ 1 _ _ _ HQ.out.us
  have u2 := cell_of_row _ _ 2 _ _ _ HQ.out.us
  have u3 := cell_of_row _ _ 3 _ _ _ HQ.out.us
  have u4 := cell_of_row _ _ 4 _ _ _ HQ.out.us
  have u5 := cell_of_row _ _ 5 _ _ _ HQ.out.us
  simp at u0 u1 u2 u3 u4 u5
  go_upto_region 15 with fail
  clear u0 u1 u2 u3 u4 u5
  obtain ⟨m0, m1, m2, m3, m4, m5, m6⟩ := HQ.out.cells
  have hz : ElemT W1 W.heap.size 44 := ⟨_, HQ.out.res⟩
  have r0 : W1.cell? ⟨W.heap.size, 0, none⟩ = some (.int .u8 0) := by rw [cell_of_row _ _ 0 _ _ _ HQ.out.res]; rfl
  have r1 : W1.cell? ⟨W.heap.size, 1, none⟩ = some (.int .i64 0) := by rw [cell_of_row _ _ 1 _ _ _ HQ.out.res]; rfl
  have r2 : W1.cell? ⟨W.heap.size, 2, none⟩ = some (.int .i64 0) := by rw [cell_of_row _ _ 2 _ _ _ HQ.out.res]; rfl
  have r3 : W1.cell? ⟨W.heap.size, 3, none⟩ = some (.int .i64 0) := by rw [cell_of_row _ _ 3 _ _ _ HQ.out.res]; rfl
  have r4 : W1.cell? ⟨W.heap.size, 4, none⟩ = some (.int .u32 0) := by rw [cell_of_row _ _ 4 _ _ _ HQ.out.res]; rfl
  have r5 : W1.cell? ⟨W.heap.size, 5, none⟩ = some (.int .u8 0) := by rw [cell_of_row _ _ 5 _ _ _ HQ.out.res]; rfl
  have r6 : W1.cell? ⟨W.heap.size, 6, none⟩ = some (.string ⟨#[]⟩) := by rw [cell_of_row _ _ 6 _ _ _ HQ.out.res]; rfl
  have z0 := hz.frozen 0
  have z1 := hz.frozen 1
  have z2 := hz.frozen 2
  have z3 := hz.frozen 3
  have z4 := hz.frozen 4
  have z5 := hz.frozen 5
  have z6 := hz.frozen 6
  clear hz
  go_wp2_with fail
  refine bodyPost_ret (v := opVal ⟨x, v0, 0, 0, 0, 0, ByteArray.empty⟩) (by simp [results, Try.results48, go_sem, r0, r1, r2, r3, r4, r5, r6]) rfl (rop_mk HR.out ?_ ?_)
  · have hne : rb ≠ W.heap.size := by have := HQ.out.hrb; omega
    have hk : ∀ (W1 : World) (i : Nat) (v : Value), RBox W1 rb q0 d0 → RBox (W1.setCell ⟨W.heap.size, i, none⟩ v) rb q0 d0 := fun W1 i v h => h.keep (Below.heap_setCell _ _ _ _ hne)
    iterate 7 with_reducible refine hk _ _ _ ?_
    exact HQ.out.rd
  · have hk : ∀ (W1 : World) (i : Nat) (v : Value), W.grownBy W1 (some rb) → W.grownBy (W1.setCell ⟨W.heap.size, i, none⟩ v) (some rb) := fun W1 i v h => ⟨h.os, h.tape, h.output, by simpa using h.size, fun q hq hr => (Below.heap_setCell _ _ _ _ (by show q ≠ W.heap.size; omega)).trans (h.block q hq hr)⟩
    iterate 7 with_reducible refine hk _ _ _ ?_
    exact HQ.out.gr
set_option maxHeartbeats 0 in
set_option maxRecDepth 100000 in
theorem readOpR_6 (rb : Nat) (l : List Int) (b : Bool) (W : World) (h : RBox W rb l b) (hl : BL l) (hm : l.length ≤ 65536) (hfs : fieldsOf (rv l 1) = [0, 1, 2]) :
    Calls Try.prog 48 #[.pointer (some ⟨rb, 0, none⟩)] W (ROp rb l b W) := by
  have hlt := h.str.elem.lt
  have HA := h.keep (Below.heap_alloc W opZero rb hlt)
  have HN := Lib.hid (numR1 rb l b _ HA hl hm)
  have HR : Hid (opR l b = fsR [0, 1, 2] (op0 (rv l 1), rd l 1, rx l 1 b)) := by show _ = _; unfold opR; rw [hfs]
  have HUV : Hid (usesVal (rv l 1) = .agg #[.bool true, .bool true, .bool true, .bool false, .bool false, .bool false]) := by show _ = _; unfold usesVal useB; rw [hfs]; rfl
  have hb := rv_bd hl 1
  rw [pow1] at hb
  have HB := Lib.hid (And.intro (rd_BL hl 1) (Nat.le_trans (rd_len l 1) hm))
  have HST := Lib.hid (fun w1 w2 l1 b1 x us => oqst_start (W := W) (w1 := w1) (w2 := w2) (rb := rb) (l1 := l1) (b1 := b1) x us hlt)
  unfold RNum at HN
  clear h HA hl hm hfs hlt
  generalize rv l 1 = x at *
  generalize rd l 1 = l1 at *
  generalize rx l 1 b = b1 at *
  have hx0 := hb.1
  have hx1 := hb.2
  have hu8 := u8w x hx0 hx1
  have HF := Lib.hid (fun W : World => usesFn x W hx0 (by omega))
  unfold UsesRes at HF
  go_enter Try.func48, Try.ntmps48
  go_wp2_with fail
  refine HN.out.mono ?_
  rintro e w1 ⟨rfl, hr, hg⟩
  have c0 : (w1.alloc (opObj x)).cell? ⟨w1.heap.size, 0, none⟩ = some (.int .u8 x) := (opAt_new w1 x 0 0 0 0 0 ⟨#[]⟩).c0
  have HRG := Lib.hid (And.intro hr hg)
  clear hr hg HN
  go_wp2_with fail
  refine (HF.out _).mono ?_
  rintro e w2 ⟨rfl, hg2⟩
  have HQ := Lib.hid (HST.out w1 w2 l1 b1 x #[.bool true, .bool true, .bool true, .bool false, .bool false, .bool false] HRG.out.1 HRG.out.2 hg2)
  rw [HUV.out]
  clear HRG hg2 HST HF c0 hb
  go_upto_region 3 with fail
  generalize w2.alloc (.cells #[.bool true, .bool true, .bool true, .bool false, .bool false, .bool false] 57) = W0 at *
  generalize w1.heap.size = ob at *
  generalize w2.heap.size = ub at *
  have HQ : Hid (OqSt W W0 rb ob ub ⟨x, 0, 0, 0, 0, 0, ByteArray.empty⟩ l1 b1 #[.bool true, .bool true, .bool true, .bool false, .bool false, .bool false]) := HQ.out
  have HN := Lib.hid (numR1 rb l1 b1 W0 HQ.out.rd HB.out.1 HB.out.2)
  have HR : Hid (opR l b = fsR [1, 2] (⟨x, rv l1 1, 0, 0, 0, 0, ByteArray.empty⟩, rd l1 1, rx l1 1 b1)) := HR.out
  have hv := rv_bd HB.out.1 1
  rw [pow1] at hv
  have HB := Lib.hid (And.intro (rd_BL HB.out.1 1) (Nat.le_trans (rd_len l1 1) HB.out.2))
  unfold RNum at HN
  generalize rv l1 1 = v0 at *
  generalize rd l1 1 = q0 at *
  generalize rx l1 1 b1 = d0 at *
  have hw := i64w v0 (by omega) (by omega)
  have u0 := cell_of_row _ _ 0 _ _ _ HQ.out.us
  have u1 := cell_of_row _ _ 1 _ _ _ HQ.out.us
  have u2 := cell_of_row _ _ 2 _ _ _ HQ.out.us
  have u3 := cell_of_row _ _ 3 _ _ _ HQ.out.us
  have u4 := cell_of_row _ _ 4 _ _ _ HQ.out.us
  have u5 := cell_of_row _ _ 5 _ _ _ HQ.out.us
  simp at u0 u1 u2 u3 u4 u5
  go_wp2_with fail
  refine HN.out.mono ?_
  rintro e ws0 ⟨rfl, hr, hg⟩
  have HQ := Lib.hid (HQ.out.next hr hg)
  clear hr hg HN u0 u1 u2 u3 u4 u5
  obtain ⟨m0, m1, m2, m3, m4, m5, m6⟩ := HQ.out.cells
  have fr := HQ.out.ope.frozen 1
  have HQ : Hid (OqSt W (ws0.setCell ⟨ob, 1, none⟩ (.int .i64 v0)) rb ob ub ⟨x, v0, 0, 0, 0, 0, ByteArray.empty⟩ q0 d0 #[.bool true, .bool true, .bool true, .bool false, .bool false, .bool false]) := HQ.out.set 1 _ (HQ.out.op.put1 v0)
  go_upto_region 5 with fail
  clear m0 m1 m2 m3 m4 m5 m6 fr
  generalize ws0.setCell ⟨ob, 1, none⟩ (.int .i64 v0) = W1 at *
  have HN := Lib.hid (numR2 rb q0 d0 W1 HQ.out.rd HB.out.1 HB.out.2)
  have HR : Hid (opR l b = fsR [2] (⟨x, v0, rv q0 2, 0, 0, 0, ByteArray.empty⟩, rd q0 2, rx q0 2 d0)) := HR.out
  have hv := rv_bd HB.out.1 2
  rw [pow2] at hv
  have HB := Lib.hid (And.intro (rd_BL HB.out.1 2) (Nat.le_trans (rd_len q0 2) HB.out.2))
  unfold RNum at HN
  generalize rv q0 2 = v1 at *
  generalize rd q0 2 = q1 at *
  generalize rx q0 2 d0 = d1 at *
  have hw := i64w v1 (by omega) (by omega)
  have u0 := cell_of_row _ _ 0 _ _ _ HQ.out.us
  have u1 := cell_of_row _ _ 1 _ _ _ HQ.out.us
  have u2 := cell_of_row _ _ 2 _ _ _ HQ.out.us
  have u3 := cell_of_row _ _ 3 _ _ _ HQ.out.us
  have u4 := cell_of_row _ _ 4 _ _ _ HQ.out.us
  have u5 := cell_of_row _ _ 5 _ _ _ HQ.out.us
  simp at u0 u1 u2 u3 u4 u5
  go_wp2_with fail
  refine HN.out.mono ?_
  rintro e ws1 ⟨rfl, hr, hg⟩
  have HQ := Lib.hid (HQ.out.next hr hg)
  clear hr hg HN u0 u1 u2 u3 u4 u5
  obtain ⟨m0, m1, m2, m3, m4, m5, m6⟩ := HQ.out.cells
  have fr := HQ.out.ope.frozen 2
  have HQ : Hid (OqSt W (ws1.setCell ⟨ob, 2, none⟩ (.int .i64 v1)) rb ob ub ⟨x, v0, v1, 0, 0, 0, ByteArray.empty⟩ q1 d1 #[.bool true, .bool true, .bool true, .bool false, .bool false, .bool false]) := HQ.out.set 2 _ (HQ.out.op.put2 v1)
  go_upto_region 7 with fail
  clear m0 m1 m2 m3 m4 m5 m6 fr
  generalize ws1.setCell ⟨ob, 2, none⟩ (.int .i64 v1) = W2 at *
  have HN := Lib.hid (numR2 rb q1 d1 W2 HQ.out.rd HB.out.1 HB.out.2)
  have HR : Hid (opR l b = fsR [] (⟨x, v0, v1, rv q1 2, 0, 0, ByteArray.empty⟩, rd q1 2, rx q1 2 d1)) := HR.out
  have hv := rv_bd HB.out.1 2
  rw [pow2] at hv
  have HB := Lib.hid (And.intro (rd_BL HB.out.1 2) (Nat.le_trans (rd_len q1 2) HB.out.2))
  unfold RNum at HN
  generalize rv q1 2 = v2 at *
  generalize rd q1 2 = q2 at *
  generalize rx q1 2 d1 = d2 at *
  have hw := i64w v2 (by omega) (by omega)
  have u0 := cell_of_row _ _ 0 _ _ _ HQ.out.us
  have u1 := cell_of_row _ _ 1 _ _ _ HQ.out.us
  have u2 := cell_of_row _ _ 2 _ _ _ HQ.out.us
  have u3 := cell_of_row _ _ 3 _ _ _ HQ.out.us
  have u4 := cell_of_row _ _ 4 _ _ _ HQ.out.us
  have u5 := cell_of_row _ _ 5 _ _ _ HQ.out.us
  simp at u0 u1 u2 u3 u4 u5
  go_wp2_with fail
  refine HN.out.mono ?_
  rintro e ws2 ⟨rfl, hr, hg⟩
  have HQ := Lib.hid (HQ.out.next hr hg)
  clear hr hg HN u0 u1 u2 u3 u4 u5
  obtain ⟨m0, m1, m2, m3, m4, m5, m6⟩ := HQ.out.cells
  have fr := HQ.out.ope.frozen 3
  have HQ : Hid (OqSt W (ws2.setCell ⟨ob, 3, none⟩ (.int .i64 v2)) rb ob ub ⟨x, v0, v1, v2, 0, 0, ByteArray.empty⟩ q2 d2 #[.bool true, .bool true, .bool true, .bool false, .bool false, .bool false]) := HQ.out.set 3 _ (HQ.out.op.put3 v2)
  go_upto_region 9 with fail
  clear m0 m1 m2 m3 m4 m5 m6 fr
  generalize ws2.setCell ⟨ob, 3, none⟩ (.int .i64 v2) = W3 at *
  have u0 := cell_of_row _ _ 0 _ _ _ HQ.out.us
  have u1 := cell_of_row _ _ 1 _ _ _ HQ.out.us
  have u2 := cell_of_row _ _ 2 _ _ _ HQ.out.us
  have u3 := cell_of_row _ _ 3 _ _ _ HQ.out.us
  have u4 := cell_of_row _ _ 4 _ _ _ HQ.out.us
  have u5 := cell_of_row _ _ 5 _ _ _ HQ.out.us
  simp at u0 u1 u2 u3 u4 u5
  go_upto_region 15 with fail
  clear u0 u1 u2 u3 u4 u5
  obtain ⟨m0, m1, m2, m3, m4, m5, m6⟩ := HQ.out.cells
  have hz : ElemT W3 W.heap.size 44 := ⟨_, HQ.out.res⟩
  have r0 : W3.cell? ⟨W.heap.size, 0, none⟩ = some (.int .u8 0) := by rw [cell_of_row _ _ 0 _ _ _ HQ.out.res]; rfl
  have r1 : W3.cell? ⟨W.heap.size, 1, none⟩ = some (.int .i64 0) := by rw [cell_of_row _ _ 1 _ _ _ HQ.out.res]; rfl
  have r2 : W3.cell? ⟨W.heap.size, 2, none⟩ = some (.int .i64 0) := by rw [cell_of_row _ _ 2 _ _ _ HQ.out.res]; rfl
  have r3 : W3.cell? ⟨W.heap.size, 3, none⟩ = some (.int .i64 0) := by rw [cell_of_row _ _ 3 _ _ _ HQ.out.res]; rfl
  have r4 : W3.cell? ⟨W.heap.size, 4, none⟩ = some (.int .u32 0) := by rw [cell_of_row _ _ 4 _ _ _ HQ.out.res]; rfl
  have r5 : W3.cell? ⟨W.heap.size, 5, none⟩ = some (.int .u8 0) := by rw [cell_of_row _ _ 5 _ _ _ HQ.out.res]; rfl
  have r6 : W3.cell? ⟨W.heap.size, 6, none⟩ = some (.string ⟨#[]⟩) := by rw [cell_of_row _ _ 6 _ _ _ HQ.out.res]; rfl
  have z0 := hz.frozen 0
  have z1 := hz.frozen 1
  have z2 := hz.frozen 2
  have z3 := hz.frozen 3
  have z4 := hz.frozen 4
  have z5 := hz.frozen 5
  have z6 := hz.frozen 6
  clear hz
  go_wp2_with fail
  refine bodyPost_ret (v := opVal ⟨x, v0, v1, v2, 0, 0, ByteArray.empty⟩) (by simp [results, Try.results48, go_sem, r0, r1, r2, r3, r4, r5, r6]) rfl (rop_mk HR.out ?_ ?_)
  · have hne : rb ≠ W.heap.size := by have := HQ.out.hrb; omega
    have hk : ∀ (W1 : World) (i : Nat) (v : Value), RBox W1 rb q2 d2 → RBox (W1.setCell ⟨W.heap.size, i, none⟩ v) rb q2 d2 := fun W1 i v h => h.keep (Below.heap_setCell _ _ _ _ hne)
    iterate 7 with_reducible refine hk _ _ _ ?_
    exact HQ.out.rd
  · have hk : ∀ (W1 : World) (i : Nat) (v : Value), W.grownBy W1 (some rb) → W.grownBy (W1.setCell ⟨W.heap.size, i, none⟩ v) (some rb) := fun W1 i v h => ⟨h.os, h.tape, h.output, by simpa using h.size, fun q hq hr => (Below.heap_setCell _ _ _ _ (by show q ≠ W.heap.size; omega)).trans (h.block q hq hr)⟩
    iterate 7 with_reducible refine hk _ _ _ ?_
    exact HQ.out.gr
set_option maxHeartbeats 0 in
set_option maxRecDepth 100000 in
theorem readOpR_7 (rb : Nat) (l : List Int) (b : Bool) (W : World) (h : RBox W rb l b) (hl : BL l) (hm : l.length ≤ 65536) (hfs : fieldsOf (rv l 1) = [0, 2]) :
    Calls Try.prog 48 #[.pointer (some ⟨rb, 0, none⟩)] W (ROp rb l b W) := by
  have hlt := h.str.elem.lt
  have HA := h.keep (Below.heap_alloc W opZero rb hlt)
  have HN := Lib.hid (numR1 rb l b _ HA hl hm)
  have HR : Hid (opR l b = fsR [0, 2] (op0 (rv l 1), rd l 1, rx l 1 b)) := by show _ = _; unfold opR; rw [hfs]
  have HUV : Hid (usesVal (rv l 1) = .agg #[.bool true, .bool false, .bool true, .bool false, .bool false, .bool false]) := by show _ = _; unfold usesVal useB; rw [hfs]; rfl
  have hb := rv_bd hl 1
  rw [pow1] at hb
  have HB := Lib.hid (And.intro (rd_BL hl 1) (Nat.le_trans (rd_len l 1) hm))
  have HST := Lib.hid (fun w1 w2 l1 b1 x us => oqst_start (W := W) (w1 := w1) (w2 := w2) (rb := rb) (l1 := l1) (b1 := b1) x us hlt)
  unfold RNum at HN
  clear h HA hl hm hfs hlt
  generalize rv l 1 = x at *
  generalize rd l 1 = l1 at *
  generalize rx l 1 b = b1 at *
  have hx0 := hb.1
  have hx1 := hb.2
  have hu8 := u8w x hx0 hx1
  have HF := Lib.hid (fun W : World => usesFn x W hx0 (by omega))
  unfold UsesRes at HF
  go_enter Try.func48, Try.ntmps48
  go_wp2_with fail
  refine HN.out.mono ?_
  rintro e w1 ⟨rfl, hr, hg⟩
  have c0 : (w1.alloc (opObj x)).cell? ⟨w1.heap.size, 0, none⟩ = some (.int .u8 x) := (opAt_new w1 x 0 0 0 0 0 ⟨#[]⟩).c0
  have HRG := Lib.hid (And.intro hr hg)
  clear hr hg HN
  go_wp2_with fail
  refine (HF.out _).mono ?_
  rintro e w2 ⟨rfl, hg2⟩
  have HQ := Lib.hid (HST.out w1 w2 l1 b1 x #[.bool true, .bool false, .bool true, .bool false, .bool false, .bool false] HRG.out.1 HRG.out.2 hg2)
  rw [HUV.out]
  clear HRG hg2 HST HF c0 hb
  go_upto_region 3 with fail
  generalize w2.alloc (.cells #[.bool true, .bool false, .bool true, .bool false, .bool false, .bool false] 57) = W0 at *
  generalize w1.heap.size = ob at *
  generalize w2.heap.size = ub at *
  have HQ : Hid (OqSt W W0 rb ob ub ⟨x, 0, 0, 0, 0, 0, ByteArray.empty⟩ l1 b1 #[.bool true, .bool false, .bool true, .bool false, .bool false, .bool false]) := HQ.out
  have HN := Lib.hid (numR1 rb l1 b1 W0 HQ.out.rd HB.out.1 HB.out.2)
  have HR : Hid (opR l b = fsR [2] (⟨x, rv l1 1, 0, 0, 0, 0, ByteArray.empty⟩, rd l1 1, rx l1 1 b1)) := HR.out
  have hv := rv_bd HB.out.1 1
  rw [pow1] at hv
  have HB := Lib.hid (And.intro (rd_BL HB.out.1 1) (Nat.le_trans (rd_len l1 1) HB.out.2))
  unfold RNum at HN
  generalize rv l1 1 = v0 at *
  generalize rd l1 1 = q0 at *
  generalize rx l1 1 b1 = d0 at *
  have hw := i64w v0 (by omega) (by omega)
  have u0 := cell_of_row _ _ 0 _ _ _ HQ.out.us
  have u1 := cell_of_row _ _ 1 _ _ _ HQ.out.us
  have u2 := cell_of_row _ _ 2 _ _ _ HQ.out.us
  have u3 := cell_of_row _ _ 3 _ _ _ HQ.out.us
  have u4 := cell_of_row _ _ 4 _ _ _ HQ.out.us
  have u5 := cell_of_row _ _ 5 _ _ _ HQ.out.us
  simp at u0 u1 u2 u3 u4 u5
  go_wp2_with fail
  refine HN.out.mono ?_
  rintro e ws0 ⟨rfl, hr, hg⟩
  have HQ := Lib.hid (HQ.out.next hr hg)
  clear hr hg HN u0 u1 u2 u3 u4 u5
  obtain ⟨m0, m1, m2, m3, m4, m5, m6⟩ := HQ.out.cells
  have fr := HQ.out.ope.frozen 1
  have HQ : Hid (OqSt W (ws0.setCell ⟨ob, 1, none⟩ (.int .i64 v0)) rb ob ub ⟨x, v0, 0, 0, 0, 0, ByteArray.empty⟩ q0 d0 #[.bool true, .bool false, .bool true, .bool false, .bool false, .bool false]) := HQ.out.set 1 _ (HQ.out.op.put1 v0)
  go_upto_region 5 with fail
  clear m0 m1 m2 m3 m4 m5 m6 fr
  generalize ws0.setCell ⟨ob, 1, none⟩ (.int .i64 v0) = W1 at *
  have HN := Lib.hid (numR2 rb q0 d0 W1 HQ.out.rd HB.out.1 HB.out.2)
  have HR : Hid (opR l b = fsR [] (⟨x, v0, 0, rv q0 2, 0, 0, ByteArray.empty⟩, rd q0 2, rx q0 2 d0)) := HR.out
  have hv := rv_bd HB.out.1 2
  rw [pow2] at hv
  have HB := Lib.hid (And.intro (rd_BL HB.out.1 2) (Nat.le_trans (rd_len q0 2) HB.out.2))
  unfold RNum at HN
  generalize rv q0 2 = v1 at *
  generalize rd q0 2 = q1 at *
  generalize rx q0 2 d0 = d1 at *
  have hw := i64w v1 (by omega) (by omega)
  have u0 := cell_of_row _ _ 0 _ _ _ HQ.out.us
  have u1 := cell_of_row _ _ 1 _ _ _ HQ.out.us
  have u2 := cell_of_row _ _ 2 _ _ _ HQ.out.us
  have u3 := cell_of_row _ _ 3 _ _ _ HQ.out.us
  have u4 := cell_of_row _ _ 4 _ _ _ HQ.out.us
  have u5 := cell_of_row _ _ 5 _ _ _ HQ.out.us
  simp at u0 u1 u2 u3 u4 u5
  go_wp2_with fail
  refine HN.out.mono ?_
  rintro e ws1 ⟨rfl, hr, hg⟩
  have HQ := Lib.hid (HQ.out.next hr hg)
  clear hr hg HN u0 u1 u2 u3 u4 u5
  obtain ⟨m0, m1, m2, m3, m4, m5, m6⟩ := HQ.out.cells
  have fr := HQ.out.ope.frozen 3
  have HQ : Hid (OqSt W (ws1.setCell ⟨ob, 3, none⟩ (.int .i64 v1)) rb ob ub ⟨x, v0, 0, v1, 0, 0, ByteArray.empty⟩ q1 d1 #[.bool true, .bool false, .bool true, .bool false, .bool false, .bool false]) := HQ.out.set 3 _ (HQ.out.op.put3 v1)
  go_upto_region 9 with fail
  clear m0 m1 m2 m3 m4 m5 m6 fr
  generalize ws1.setCell ⟨ob, 3, none⟩ (.int .i64 v1) = W2 at *
  have u0 := cell_of_row _ _ 0 _ _ _ HQ.out.us
  have u1 := cell_of_row _ _ 1 _ _ _ HQ.out.us
  have u2 := cell_of_row _ _ 2 _ _ _ HQ.out.us
  have u3 := cell_of_row _ _ 3 _ _ _ HQ.out.us
  have u4 := cell_of_row _ _ 4 _ _ _ HQ.out.us
  have u5 := cell_of_row _ _ 5 _ _ _ HQ.out.us
  simp at u0 u1 u2 u3 u4 u5
  go_upto_region 15 with fail
  clear u0 u1 u2 u3 u4 u5
  obtain ⟨m0, m1, m2, m3, m4, m5, m6⟩ := HQ.out.cells
  have hz : ElemT W2 W.heap.size 44 := ⟨_, HQ.out.res⟩
  have r0 : W2.cell? ⟨W.heap.size, 0, none⟩ = some (.int .u8 0) := by rw [cell_of_row _ _ 0 _ _ _ HQ.out.res]; rfl
  have r1 : W2.cell? ⟨W.heap.size, 1, none⟩ = some (.int .i64 0) := by rw [cell_of_row _ _ 1 _ _ _ HQ.out.res]; rfl
  have r2 : W2.cell? ⟨W.heap.size, 2, none⟩ = some (.int .i64 0) := by rw [cell_of_row _ _ 2 _ _ _ HQ.out.res]; rfl
  have r3 : W2.cell? ⟨W.heap.size, 3, none⟩ = some (.int .i64 0) := by rw [cell_of_row _ _ 3 _ _ _ HQ.out.res]; rfl
  have r4 : W2.cell? ⟨W.heap.size, 4, none⟩ = some (.int .u32 0) := by rw [cell_of_row _ _ 4 _ _ _ HQ.out.res]; rfl
  have r5 : W2.cell? ⟨W.heap.size, 5, none⟩ = some (.int .u8 0) := by rw [cell_of_row _ _ 5 _ _ _ HQ.out.res]; rfl
  have r6 : W2.cell? ⟨W.heap.size, 6, none⟩ = some (.string ⟨#[]⟩) := by rw [cell_of_row _ _ 6 _ _ _ HQ.out.res]; rfl
  have z0 := hz.frozen 0
  have z1 := hz.frozen 1
  have z2 := hz.frozen 2
  have z3 := hz.frozen 3
  have z4 := hz.frozen 4
  have z5 := hz.frozen 5
  have z6 := hz.frozen 6
  clear hz
  go_wp2_with fail
  refine bodyPost_ret (v := opVal ⟨x, v0, 0, v1, 0, 0, ByteArray.empty⟩) (by simp [results, Try.results48, go_sem, r0, r1, r2, r3, r4, r5, r6]) rfl (rop_mk HR.out ?_ ?_)
  · have hne : rb ≠ W.heap.size := by have := HQ.out.hrb; omega
    have hk : ∀ (W1 : World) (i : Nat) (v : Value), RBox W1 rb q1 d1 → RBox (W1.setCell ⟨W.heap.size, i, none⟩ v) rb q1 d1 := fun W1 i v h => h.keep (Below.heap_setCell _ _ _ _ hne)
    iterate 7 with_reducible refine hk _ _ _ ?_
    exact HQ.out.rd
  · have hk : ∀ (W1 : World) (i : Nat) (v : Value), W.grownBy W1 (some rb) → W.grownBy (W1.setCell ⟨W.heap.size, i, none⟩ v) (some rb) := fun W1 i v h => ⟨h.os, h.tape, h.output, by simpa using h.size, fun q hq hr => (Below.heap_setCell _ _ _ _ (by show q ≠ W.heap.size; omega)).trans (h.block q hq hr)⟩
    iterate 7 with_reducible refine hk _ _ _ ?_
    exact HQ.out.gr
set_option maxHeartbeats 0 in
set_option maxRecDepth 100000 in
theorem readOpR_8 (rb : Nat) (l : List Int) (b : Bool) (W : World) (h : RBox W rb l b) (hl : BL l) (hm : l.length ≤ 65536) (hfs : fieldsOf (rv l 1) = [0, 3]) :
    Calls Try.prog 48 #[.pointer (some ⟨rb, 0, none⟩)] W (ROp rb l b W) := by
  have hlt := h.str.elem.lt
  have HA := h.keep (Below.heap_alloc W opZero rb hlt)
  have HN := Lib.hid (numR1 rb l b _ HA hl hm)
  have HR : Hid (opR l b = fsR [0, 3] (op0 (rv l 1), rd l 1, rx l 1 b)) := by show _ = _; unfold opR; rw [hfs]
  have HUV : Hid (usesVal (rv l 1) = .agg #[.bool true, .bool false, .bool false, .bool true, .bool false, .bool false]) := by show _ = _; unfold usesVal useB; rw [hfs]; rfl
  have hb := rv_bd hl 1
  rw [pow1] at hb
  have HB := Lib.hid (And.intro (rd_BL hl 1) (Nat.le_trans (rd_len l 1) hm))
  have HST := Lib.hid (fun w1 w2 l1 b1 x us => oqst_start (W := W) (w1 := w1) (w2 := w2) (rb := rb) (l1 := l1) (b1 := b1) x us hlt)
  unfold RNum at HN
  clear h HA hl hm hfs hlt
  generalize rv l 1 = x at *
  generalize rd l 1 = l1 at *
  generalize rx l 1 b = b1 at *
  have hx0 := hb.1
  have hx1 := hb.2
  have hu8 := u8w x hx0 hx1
  have HF := Lib.hid (fun W : World => usesFn x W hx0 (by omega))
  unfold UsesRes at HF
  go_enter Try.func48, Try.ntmps48
  go_wp2_with fail
  refine HN.out.mono ?_
  rintro e w1 ⟨rfl, hr, hg⟩
  have c0 : (w1.alloc (opObj x)).cell? ⟨w1.heap.size, 0, none⟩ = some (.int .u8 x) := (opAt_new w1 x 0 0 0 0 0 ⟨#[]⟩).c0
  have HRG := Lib.hid (And.intro hr hg)
  clear hr hg HN
  go_wp2_with fail
  refine (HF.out _).mono ?_
  rintro e w2 ⟨rfl, hg2⟩
  have HQ := Lib.hid (HST.out w1 w2 l1 b1 x #[.bool true, .bool false, .bool false, .bool true, .bool false, .bool false] HRG.out.1 HRG.out.2 hg2)
  rw [HUV.out]
  clear HRG hg2 HST HF c0 hb
  go_upto_region 3 with fail
  generalize w2.alloc (.cells #[.bool true, .bool false, .bool false, .bool true, .bool false, .bool false] 57) = W0 at *
  generalize w1.heap.size = ob at *
  generalize w2.heap.size = ub at *
  have HQ : Hid (OqSt W W0 rb ob ub ⟨x, 0, 0, 0, 0, 0, ByteArray.empty⟩ l1 b1 #[.bool true, .bool false, .bool false, .bool true, .bool false, .bool false]) := HQ.out
  have HN := Lib.hid (numR1 rb l1 b1 W0 HQ.out.rd HB.out.1 HB.out.2)
  have HR : Hid (opR l b = fsR [3] (⟨x, rv l1 1, 0, 0, 0, 0, ByteArray.empty⟩, rd l1 1, rx l1 1 b1)) := HR.out
  have hv := rv_bd HB.out.1 1
  rw [pow1] at hv
  have HB := Lib.hid (And.intro (rd_BL HB.out.1 1) (Nat.le_trans (rd_len l1 1) HB.out.2))
  unfold RNum at HN
  generalize rv l1 1 = v0 at *
  generalize rd l1 1 = q0 at *
  generalize rx l1 1 b1 = d0 at *
  have hw := i64w v0 (by omega) (by omega)
  have u0 := cell_of_row _ _ 0 _ _ _ HQ.out.us
  have u1 := cell_of_row _ _ 1 _ _ _ HQ.out.us
  have u2 := cell_of_row _ _ 2 _ _ _ HQ.out.us
  have u3 := cell_of_row _ _ 3 _ _ _ HQ.out.us
  have u4 := cell_of_row _ _ 4 _ _ _ HQ.out.us
  have u5 := cell_of_row _ _ 5 _ _ _ HQ.out.us
  simp at u0 u1 u2 u3 u4 u5
  go_wp2_with fail
  refine HN.out.mono ?_
  rintro e ws0 ⟨rfl, hr, hg⟩
  have HQ := Lib.hid (HQ.out.next hr hg)
  clear hr hg HN u0 u1 u2 u3 u4 u5
  obtain ⟨m0, m1, m2, m3, m4, m5, m6⟩ := HQ.out.cells
  have fr := HQ.out.ope.frozen 1
  have HQ : Hid (OqSt W (ws0.setCell ⟨ob, 1, none⟩ (.int .i64 v0)) rb ob ub ⟨x, v0, 0, 0, 0, 0, ByteArray.empty⟩ q0 d0 #[.bool true, .bool false, .bool false, .bool true, .bool false, .bool false]) := HQ.out.set 1 _ (HQ.out.op.put1 v0)
  go_upto_region 5 with fail
  clear m0 m1 m2 m3 m4 m5 m6 fr
  generalize ws0.setCell ⟨ob, 1, none⟩ (.int .i64 v0) = W1 at *
  have HN := Lib.hid (numR4 rb q0 d0 W1 HQ.out.rd HB.out.1 HB.out.2)
  have HR : Hid (opR l b = fsR [] (⟨x, v0, 0, 0, rv q0 4, 0, ByteArray.empty⟩, rd q0 4, rx q0 4 d0)) := HR.out
  have hv := rv_bd HB.out.1 4
  rw [pow4] at hv
  have HB := Lib.hid (And.intro (rd_BL HB.out.1 4) (Nat.le_trans (rd_len q0 4) HB.out.2))
  unfold RNum at HN
  generalize rv q0 4 = v1 at *
  generalize rd q0 4 = q1 at *
  generalize rx q0 4 d0 = d1 at *
  have hw := u32w v1 (by omega) (by omega)
  have u0 := cell_of_row _ _ 0 _ _ _ HQ.out.us
  have u1 := cell_of_row _ _ 1 _ _ _ HQ.out.us
  have u2 := cell_of_row _ _ 2 _ _ _ HQ.out.us
  have u3 := cell_of_row _ _ 3 _ _ _ HQ.out.us
  have u4 := cell_of_row _ _ 4 _ _ _ HQ.out.us
  have u5 := cell_of_row _ _ 5 _ _ _ HQ.out.us
  simp at u0 u1 u2 u3 u4 u5
  go_wp2_with fail
  refine HN.out.mono ?_
  rintro e ws1 ⟨rfl, hr, hg⟩
  have HQ := Lib.hid (HQ.out.next hr hg)
  clear hr hg HN u0 u1 u2 u3 u4 u5
  obtain ⟨m0, m1, m2, m3, m4, m5, m6⟩ := HQ.out.cells
  have fr := HQ.out.ope.frozen 4
  have HQ : Hid (OqSt W (ws1.setCell ⟨ob, 4, none⟩ (.int .u32 v1)) rb ob ub ⟨x, v0, 0, 0, v1, 0, ByteArray.empty⟩ q1 d1 #[.bool true, .bool false, .bool false, .bool true, .bool false, .bool false]) := HQ.out.set 4 _ (HQ.out.op.put4 v1)
  go_upto_region 11 with fail
  clear m0 m1 m2 m3 m4 m5 m6 fr
  generalize ws1.setCell ⟨ob, 4, none⟩ (.int .u32 v1) = W2 at *
  have u0 := cell_of_row _ _ 0 _ _ _ HQ.out.us
  have u1 := cell_of_row _ _ 1 _ _ _ HQ.out.us
  have u2 := cell_of_row _ _ 2 _ _ _ HQ.out.us
  have u3 := cell_of_row _ _ 3 _ _ _ HQ.out.us
  have u4 := cell_of_row _ _ 4 _ _ _ HQ.out.us
  have u5 := cell_of_row _ _ 5 _ _ _ HQ.out.us
  simp at u0 u1 u2 u3 u4 u5
  go_upto_region 15 with fail
  clear u0 u1 u2 u3 u4 u5
  obtain ⟨m0, m1, m2, m3, m4, m5, m6⟩ := HQ.out.cells
  have hz : ElemT W2 W.heap.size 44 := ⟨_, HQ.out.res⟩
  have r0 : W2.cell? ⟨W.heap.size, 0, none⟩ = some (.int .u8 0) := by rw [cell_of_row _ _ 0 _ _ _ HQ.out.res]; rfl
  have r1 : W2.cell? ⟨W.heap.size, 1, none⟩ = some (.int .i64 0) := by rw [cell_of_row _ _ 1 _ _ _ HQ.out.res]; rfl
  have r2 : W2.cell? ⟨W.heap.size, 2, none⟩ = some (.int .i64 0) := by rw [cell_of_row _ _ 2 _ _ _ HQ.out.res]; rfl
  have r3 : W2.cell? ⟨W.heap.size, 3, none⟩ = some (.int .i64 0) := by rw [cell_of_row _ _ 3 _ _ _ HQ.out.res]; rfl
  have r4 : W2.cell? ⟨W.heap.size, 4, none⟩ = some (.int .u32 0) := by rw [cell_of_row _ _ 4 _ _ _ HQ.out.res]; rfl
  have r5 : W2.cell? ⟨W.heap.size, 5, none⟩ = some (.int .u8 0) := by rw [cell_of_row _ _ 5 _ _ _ HQ.out.res]; rfl
  have r6 : W2.cell? ⟨W.heap.size, 6, none⟩ = some (.string ⟨#[]⟩) := by rw [cell_of_row _ _ 6 _ _ _ HQ.out.res]; rfl
  have z0 := hz.frozen 0
  have z1 := hz.frozen 1
  have z2 := hz.frozen 2
  have z3 := hz.frozen 3
  have z4 := hz.frozen 4
  have z5 := hz.frozen 5
  have z6 := hz.frozen 6
  clear hz
  go_wp2_with fail
  refine bodyPost_ret (v := opVal ⟨x, v0, 0, 0, v1, 0, ByteArray.empty⟩) (by simp [results, Try.results48, go_sem, r0, r1, r2, r3, r4, r5, r6]) rfl (rop_mk HR.out ?_ ?_)
  · have hne : rb ≠ W.heap.size := by have := HQ.out.hrb; omega
    have hk : ∀ (W1 : World) (i : Nat) (v : Value), RBox W1 rb q1 d1 → RBox (W1.setCell ⟨W.heap.size, i, none⟩ v) rb q1 d1 := fun W1 i v h => h.keep (Below.heap_setCell _ _ _ _ hne)
    iterate 7 with_reducible refine hk _ _ _ ?_
    exact HQ.out.rd
  · have hk : ∀ (W1 : World) (i : Nat) (v : Value), W.grownBy W1 (some rb) → W.grownBy (W1.setCell ⟨W.heap.size, i, none⟩ v) (some rb) := fun W1 i v h => ⟨h.os, h.tape, h.output, by simpa using h.size, fun q hq hr => (Below.heap_setCell _ _ _ _ (by show q ≠ W.heap.size; omega)).trans (h.block q hq hr)⟩
    iterate 7 with_reducible refine hk _ _ _ ?_
    exact HQ.out.gr
set_option maxHeartbeats 0 in
set_option maxRecDepth 100000 in
theorem readOpR_9 (rb : Nat) (l : List Int) (b : Bool) (W : World) (h : RBox W rb l b) (hl : BL l) (hm : l.length ≤ 65536) (hfs : fieldsOf (rv l 1) = [0, 1]) :
    Calls Try.prog 48 #[.pointer (some ⟨rb, 0, none⟩)] W (ROp rb l b W) := by
  have hlt := h.str.elem.lt
  have HA := h.keep (Below.heap_alloc W opZero rb hlt)
  have HN := Lib.hid (numR1 rb l b _ HA hl hm)
  have HR : Hid (opR l b = fsR [0, 1] (op0 (rv l 1), rd l 1, rx l 1 b)) := by show _ = _; unfold opR; rw [hfs]
  have HUV : Hid (usesVal (rv l 1) = .agg #[.bool true, .bool true, .bool false, .bool false, .bool false, .bool false]) := by show _ = _; unfold usesVal useB; rw [hfs]; rfl
  have hb := rv_bd hl 1
  rw [pow1] at hb
  have HB := Lib.hid (And.intro (rd_BL hl 1) (Nat.le_trans (rd_len l 1) hm))
  have HST := Lib.hid (fun w1 w2 l1 b1 x us => oqst_start (W := W) (w1 := w1) (w2 := w2) (rb := rb) (l1 := l1) (b1 := b1) x us hlt)
  unfold RNum at HN
  clear h HA hl hm hfs hlt
  generalize rv l 1 = x at *
  generalize rd l 1 = l1 at *
  generalize rx l 1 b = b1 at *
  have hx0 := hb.1
  have hx1 := hb.2
  have hu8 := u8w x hx0 hx1
  have HF := Lib.hid (fun W : World => usesFn x W hx0 (by omega))
  unfold UsesRes at HF
  go_enter Try.func48, Try.ntmps48
  go_wp2_with fail
  refine HN.out.mono ?_
  rintro e w1 ⟨rfl, hr, hg⟩
  have c0 : (w1.alloc (opObj x)).cell? ⟨w1.heap.size, 0, none⟩ = some (.int .u8 x) := (opAt_new w1 x 0 0 0 0 0 ⟨#[]⟩).c0
  have HRG := Lib.hid (And.intro hr hg)
  clear hr hg HN
  go_wp2_with fail
  refine (HF.out _).mono ?_
  rintro e w2 ⟨rfl, hg2⟩
  have HQ := Lib.hid (HST.out w1 w2 l1 b1 x #[.bool true, .bool true, .bool false, .bool false, .bool false, .bool false] HRG.out.1 HRG.out.2 hg2)
  rw [HUV.out]
  clear HRG hg2 HST HF c0 hb
  go_upto_region 3 with fail
  generalize w2.alloc (.cells #[.bool true, .bool true, .bool false, .bool false, .bool false, .bool false] 57) = W0 at *
  generalize w1.heap.size = ob at *
  generalize w2.heap.size = ub at *
  have HQ : Hid (OqSt W W0 rb ob ub ⟨x, 0, 0, 0, 0, 0, ByteArray.empty⟩ l1 b1 #[.bool true, .bool true, .bool false, .bool false, .bool false, .bool false]) := HQ.out
  have HN := Lib.hid (numR1 rb l1 b1 W0 HQ.out.rd HB.out.1 HB.out.2)
  have HR : Hid (opR l b = fsR [1] (⟨x, rv l1 1, 0, 0, 0, 0, ByteArray.empty⟩, rd l1 1, rx l1 1 b1)) := HR.out
  have hv := rv_bd HB.out.1 1
  rw [pow1] at hv
  have HB := Lib.hid (And.intro (rd_BL HB.out.1 1) (Nat.le_trans (rd_len l1 1) HB.out.2))
  unfold RNum at HN
  generalize rv l1 1 = v0 at *
  generalize rd l1 1 = q0 at *
  generalize rx l1 1 b1 = d0 at *
  have hw := i64w v0 (by omega) (by omega)
  have u0 := cell_of_row _ _ 0 _ _ _ HQ.out.us
  have u1 := cell_of_row _ _ 1 _ _ _ HQ.out.us
  have u2 := cell_of_row _ _ 2 _ _ _ HQ.out.us
  have u3 := cell_of_row _ _ 3 _ _ _ HQ.out.us
  have u4 := cell_of_row _ _ 4 _ _ _ HQ.out.us
  have u5 := cell_of_row _ _ 5 _ _ _ HQ.out.us
  simp at u0 u1 u2 u3 u4 u5
  go_wp2_with fail
  refine HN.out.mono ?_
  rintro e ws0 ⟨rfl, hr, hg⟩
  have HQ := Lib.hid (HQ.out.next hr hg)
  clear hr hg HN u0 u1 u2 u3 u4 u5
  obtain ⟨m0, m1, m2, m3, m4, m5, m6⟩ := HQ.out.cells
  have fr := HQ.out.ope.frozen 1
  have HQ : Hid (OqSt W (ws0.setCell ⟨ob, 1, none⟩ (.int .i64 v0)) rb ob ub ⟨x, v0, 0, 0, 0, 0, ByteArray.empty⟩ q0 d0 #[.bool true, .bool true, .bool false, .bool false, .bool false, .bool false]) := HQ.out.set 1 _ (HQ.out.op.put1 v0)
  go_upto_region 5 with fail
  clear m0 m1 m2 m3 m4 m5 m6 fr
  generalize ws0.setCell ⟨ob, 1, none⟩ (.int .i64 v0) = W1 at *
  have HN := Lib.hid (numR2 rb q0 d0 W1 HQ.out.rd HB.out.1 HB.out.2)
  have HR : Hid (opR l b = fsR [] (⟨x, v0, rv q0 2, 0, 0, 0, ByteArray.empty⟩, rd q0 2, rx q0 2 d0)) := HR.out
  have hv := rv_bd HB.out.1 2
  rw [pow2] at hv
  have HB := Lib.hid (And.intro (rd_BL HB.out.1 2) (Nat.le_trans (rd_len q0 2) HB.out.2))
  unfold RNum at HN
  generalize rv q0 2 = v1 at *
  generalize rd q0 2 = q1 at *
  generalize rx q0 2 d0 = d1 at *
  have hw := i64w v1 (by omega) (by omega)
  have u0 := cell_of_row _ _ 0 _ _ _ HQ.out.us
  have u1 := cell_of_row _ _ 1 _ _ _ HQ.out.us
  have u2 := cell_of_row _ _ 2 _ _ _ HQ.out.us
  have u3 := cell_of_row _ _ 3 _ _ _ HQ.out.us
  have u4 := cell_of_row _ _ 4 _ _ _ HQ.out.us
  have u5 := cell_of_row _ _ 5 _ _ _ HQ.out.us
  simp at u0 u1 u2 u3 u4 u5
  go_wp2_with fail
  refine HN.out.mono ?_
  rintro e ws1 ⟨rfl, hr, hg⟩
  have HQ := Lib.hid (HQ.out.next hr hg)
  clear hr hg HN u0 u1 u2 u3 u4 u5
  obtain ⟨m0, m1, m2, m3, m4, m5, m6⟩ := HQ.out.cells
  have fr := HQ.out.ope.frozen 2
  have HQ : Hid (OqSt W (ws1.setCell ⟨ob, 2, none⟩ (.int .i64 v1)) rb ob ub ⟨x, v0, v1, 0, 0, 0, ByteArray.empty⟩ q1 d1 #[.bool true, .bool true, .bool false, .bool false, .bool false, .bool false]) := HQ.out.set 2 _ (HQ.out.op.put2 v1)
  go_upto_region 7 with fail
  clear m0 m1 m2 m3 m4 m5 m6 fr
  generalize ws1.setCell ⟨ob, 2, none⟩ (.int .i64 v1) = W2 at *
  have u0 := cell_of_row _ _ 0 _ _ _ HQ.out.us
  have u1 := cell_of_row _ _ 1 _ _ _ HQ.out.us
  have u2 := cell_of_row _ _ 2 _ _ _ HQ.out.us
  have u3 := cell_of_row _ _ 3 _ _ _ HQ.out.us
  have u4 := cell_of_row _ _ 4 _ _ _ HQ.out.us
  have u5 := cell_of_row _ _ 5 _ _ _ HQ.out.us
  simp at u0 u1 u2 u3 u4 u5
  go_upto_region 15 with fail
  clear u0 u1 u2 u3 u4 u5
  obtain ⟨m0, m1, m2, m3, m4, m5, m6⟩ := HQ.out.cells
  have hz : ElemT W2 W.heap.size 44 := ⟨_, HQ.out.res⟩
  have r0 : W2.cell? ⟨W.heap.size, 0, none⟩ = some (.int .u8 0) := by rw [cell_of_row _ _ 0 _ _ _ HQ.out.res]; rfl
  have r1 : W2.cell? ⟨W.heap.size, 1, none⟩ = some (.int .i64 0) := by rw [cell_of_row _ _ 1 _ _ _ HQ.out.res]; rfl
  have r2 : W2.cell? ⟨W.heap.size, 2, none⟩ = some (.int .i64 0) := by rw [cell_of_row _ _ 2 _ _ _ HQ.out.res]; rfl
  have r3 : W2.cell? ⟨W.heap.size, 3, none⟩ = some (.int .i64 0) := by rw [cell_of_row _ _ 3 _ _ _ HQ.out.res]; rfl
  have r4 : W2.cell? ⟨W.heap.size, 4, none⟩ = some (.int .u32 0) := by rw [cell_of_row _ _ 4 _ _ _ HQ.out.res]; rfl
  have r5 : W2.cell? ⟨W.heap.size, 5, none⟩ = some (.int .u8 0) := by rw [cell_of_row _ _ 5 _ _ _ HQ.out.res]; rfl
  have r6 : W2.cell? ⟨W.heap.size, 6, none⟩ = some (.string ⟨#[]⟩) := by rw [cell_of_row _ _ 6 _ _ _ HQ.out.res]; rfl
  have z0 := hz.frozen 0
  have z1 := hz.frozen 1
  have z2 := hz.frozen 2
  have z3 := hz.frozen 3
  have z4 := hz.frozen 4
  have z5 := hz.frozen 5
  have z6 := hz.frozen 6
  clear hz
  go_wp2_with fail
  refine bodyPost_ret (v := opVal ⟨x, v0, v1, 0, 0, 0, ByteArray.empty⟩) (by simp [results, Try.results48, go_sem, r0, r1, r2, r3, r4, r5, r6]) rfl (rop_mk HR.out ?_ ?_)
  · have hne : rb ≠ W.heap.size := by have := HQ.out.hrb; omega
    have hk : ∀ (W1 : World) (i : Nat) (v : Value), RBox W1 rb q1 d1 → RBox (W1.setCell ⟨W.heap.size, i, none⟩ v) rb q1 d1 := fun W1 i v h => h.keep (Below.heap_setCell _ _ _ _ hne)
    iterate 7 with_reducible refine hk _ _ _ ?_
    exact HQ.out.rd
  · have hk : ∀ (W1 : World) (i : Nat) (v : Value), W.grownBy W1 (some rb) → W.grownBy (W1.setCell ⟨W.heap.size, i, none⟩ v) (some rb) := fun W1 i v h => ⟨h.os, h.tape, h.output, by simpa using h.size, fun q hq hr => (Below.heap_setCell _ _ _ _ (by show q ≠ W.heap.size; omega)).trans (h.block q hq hr)⟩
    iterate 7 with_reducible refine hk _ _ _ ?_
    exact HQ.out.gr
theorem fields_cases (k : Int) : fieldsOf k = [1, 5] ∨ fieldsOf k = [1, 2] ∨ fieldsOf k = [1, 3, 4] ∨ fieldsOf k = [3] ∨ fieldsOf k = [] ∨ fieldsOf k = [0] ∨ fieldsOf k = [0, 1, 2] ∨ fieldsOf k = [0, 2] ∨ fieldsOf k = [0, 3] ∨ fieldsOf k = [0, 1] := by
  by_cases hk : 1 ≤ k ∧ k ≤ 13
  · have hk' : k = 1 ∨ k = 2 ∨ k = 3 ∨ k = 4 ∨ k = 5 ∨ k = 6 ∨ k = 7 ∨ k = 8 ∨ k = 9 ∨ k = 10 ∨ k = 11 ∨ k = 12 ∨ k = 13 := by omega
    rcases hk' with rfl | rfl | rfl | rfl | rfl | rfl | rfl | rfl | rfl | rfl | rfl | rfl | rfl <;> decide
  · have e : fieldsOf k = [] := by
      unfold fieldsOf
      simp [show ¬ k = 1 by omega, show ¬ k = 2 by omega, show ¬ k = 3 by omega, show ¬ k = 4 by omega, show ¬ k = 5 by omega, show ¬ k = 6 by omega, show ¬ k = 7 by omega, show ¬ k = 8 by omega, show ¬ k = 9 by omega, show ¬ k = 10 by omega, show ¬ k = 11 by omega, show ¬ k = 12 by omega, show ¬ k = 13 by omega]
    simp [e]
theorem readOpR (rb : Nat) (l : List Int) (b : Bool) (W : World) (h : RBox W rb l b) (hl : BL l) (hm : l.length ≤ 65536) :
    Calls Try.prog 48 #[.pointer (some ⟨rb, 0, none⟩)] W (ROp rb l b W) := by
  rcases fields_cases (rv l 1) with e | e | e | e | e | e | e | e | e | e
  · exact readOpR_0 rb l b W h hl hm e
  · exact readOpR_1 rb l b W h hl hm e
  · exact readOpR_2 rb l b W h hl hm e
  · exact readOpR_3 rb l b W h hl hm e
  · exact readOpR_4 rb l b W h hl hm e
  · exact readOpR_5 rb l b W h hl hm e
  · exact readOpR_6 rb l b W h hl hm e
  · exact readOpR_7 rb l b W h hl hm e
  · exact readOpR_8 rb l b W h hl hm e
  · exact readOpR_9 rb l b W h hl hm e
end Go.Proofs.Ytcicememljlafaa
