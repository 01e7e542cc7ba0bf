/- The law's walk: the examples of the chapter. -/
import Derived.Test.YtbjadgggpkbjmaaGreatGk
namespace Go.Proofs.YtbjadgggpkbjmaaGreat
open Go.RowKit
open Runes (bs bt)

abbrev xBox : Obj := scrBox xCfg (.slice none 0 0) (.slice none 0 0)
abbrev wBox : Obj := .cells #[.int .i64 16, .int .u64 1, .int .i64 0, .int .i64 0, .int .i64 1, .int .i64 1, .int .i64 1, .string ⟨#[]⟩, .slice none 0 0, .slice none 0 0] 28
theorem keep_box {W W' : World} (h : Below W.heap.size W W') {b : Nat} {o : Obj} (hb : W.heap[b]? = some o) : W'.heap[b]? = some o := by
  have hlt : b < W.heap.size := by
    rcases Nat.lt_or_ge b W.heap.size with h | h
    · exact h
    · rw [Array.getElem?_eq_none h] at hb; cases hb
  exact (h.block b hlt).trans hb
open Go.Ab Closed in
theorem ZMem.mk2 {w w2 : World} {base : Nat} {φ : Phi} {p k : Value} (hr : HR w base φ rb.zH w2) (hu : VR φ rb.zV (scrVal zCfg p k)) (hp : VR φ (Cut.s 25 0 1 36893488147419103233) p) (hk : VR φ (Cut.s 29 0 2 36893488147419103234) k) :
    ZMem base (w2.alloc (scrBox zCfg p k)) w2.heap.size p k := by
  refine (ZMem.mk' hr hu hp hk).move (fun b _ hb => ?_) (by rw [boxed_size]; simp)
  have hb' : b < w2.heap.size + 1 := by rw [boxed_size] at hb; exact hb
  rcases Nat.lt_or_ge b w2.heap.size with h | h
  · rw [(boxed_own w2 zCfg p k).block b h]
    exact Below.heap_alloc _ _ _ h
  · have e : b = w2.heap.size := by omega
    subst e
    rw [boxed_at, heap_alloc_new]
abbrev zRow : Array Value := #[.int .u8 0, .int .u8 0, .int .u8 1, .int .u8 0, .int .u8 0, .int .u8 0, .int .u8 0, .int .u8 1, .int .u8 2, .int .u8 1, .int .u8 6, .int .u8 3, .int .u8 0, .int .u8 1, .int .u8 0, .int .u8 1]
theorem conv_z (V : World) : (convert 35 9 (.slice (some ⟨V.heap.size, 0, none⟩) 16 16)).run Tryz.prog (V.alloc (.cells zRow 5)) = .ok (.string zBytes) (V.alloc (.cells zRow 5)) := by
  have h := conv_bytes V [0, 0, 1, 0, 0, 0, 0, 1, 2, 1, 6, 3, 0, 1, 0, 1] (by intro x hx; simp at hx; omega) 16
  rw [show bs [0, 0, 1, 0, 0, 0, 0, 1, 2, 1, 6, 3, 0, 1, 0, 1] = zBytes by decide] at h
  exact h
/-- The law's two boxes. -/
def Two (w W : World) (a b : Nat) : Prop := W.heap[a]? = some xBox ∧ W.heap[b]? = some xBox ∧ a < b ∧ Below w.heap.size w W ∧ w.heap.size ≤ a
theorem Two.below {w W W' : World} {a b : Nat} (h : Hid (Two w W a b)) (hb : Below W.heap.size W W') : Hid (Two w W' a b) :=
  Lib.hid ⟨keep_box hb h.out.1, keep_box hb h.out.2.1, h.out.2.2.1, h.out.2.2.2.1.trans (hb.mono h.out.2.2.2.1.size), h.out.2.2.2.2⟩
abbrev wRow1 : Obj := .cells #[.int .u8 7, .int .i64 3, .int .i64 0, .int .i64 1, .int .u32 0, .int .u8 0, .string ⟨#[]⟩] 40
abbrev wRow2 (n : Nat) : Obj := .cells #[.slice (some ⟨n, 0, none⟩) 1 1] 41
abbrev wRow3 : Obj := .cells #[.int .i64 0, .int .i64 1] 3
abbrev wRows (W : World) : World := ((W.alloc wRow1).alloc (wRow2 W.heap.size)).alloc wRow3
abbrev wWorld (W : World) (b : Nat) : World := scrSet (wRows W) b zCfg (.slice (some ⟨W.heap.size + 1, 0, none⟩) 1 1) (.slice (some ⟨W.heap.size + 1 + 1, 0, none⟩) 2 2)
/-- After the second want is laid. -/
structure Laid (w V : World) (b z base : Nat) (A1 : Option Addr) (p1 : Nat) (B1 : Option Addr) (k1 n : Nat) : Prop where
  below : Below w.heap.size w V
  low : w.heap.size ≤ base ∧ base ≤ z
  want : V.heap[b]? = some (scrBox zCfg (.slice (some ⟨n + 1, 0, none⟩) 1 1) (.slice (some ⟨n + 1 + 1, 0, none⟩) 2 2))
  box : V.heap[z]? = some (scrBox zCfg (.slice A1 1 p1) (.slice B1 2 k1))
  mem : ZMem base V z (.slice A1 1 p1) (.slice B1 2 k1)
  progs : ProgsAt V V.heap.size A1 [[zOp]]
  picks : Ints V V.heap.size B1 [0, 1]
  progs' : ProgsAt V V.heap.size (some ⟨n + 1, 0, none⟩) [[zOp]]
  picks' : Ints V V.heap.size (some ⟨n + 1 + 1, 0, none⟩) [0, 1]
theorem laid_ok {w W : World} {a b z base : Nat} {A1 B1 : Option Addr} {p1 k1 : Nat} (G : Two w W a b) (hlow : b < base) (hz : base ≤ z) (hbx : W.heap[z]? = some (scrBox zCfg (.slice A1 1 p1) (.slice B1 2 k1))) (HZ : ZMem base W z (.slice A1 1 p1) (.slice B1 2 k1)) :
    Laid w (wWorld W b) b z base A1 p1 B1 k1 W.heap.size := by
  obtain ⟨ga, gb, gab, gw, gwa⟩ := G
  have hb : b < W.heap.size := lt_of_heap gb
  have hzl : z < W.heap.size := lt_of_heap hbx
  have hrows : Below W.heap.size W (wRows W) := ((below_box W _).alloc (by simp) _).alloc (by simp; omega) _
  have hsz : (wRows W).heap.size = W.heap.size + 1 + 1 + 1 := by simp
  have hsz2 : (wWorld W b).heap.size = W.heap.size + 1 + 1 + 1 := by rw [show (wWorld W b).heap.size = (wRows W).heap.size from scrSet_s _ _ _, hsz]
  have hk : ∀ i, i ≠ b → i < W.heap.size → (wWorld W b).heap[i]? = W.heap[i]? := fun i hi hlt => (scrSet_o _ _ _ hi).trans (hrows.block i hlt)
  have hmem := HZ.move (W' := wWorld W b) (fun i hi hlt => hk i (by omega) hlt) (by rw [hsz2]; omega)
  obtain ⟨A', c', B', d', e1, e2, r1, r2⟩ := hmem.read
  injection e1 with e1 e3 e4
  injection e2 with e2 e5 e6
  subst e1 e2
  have n0 : (wWorld W b).heap[W.heap.size]? = some wRow1 := (scrSet_o _ _ _ (by omega)).trans (by
    have h := heap_alloc_new W wRow1
    have := ((Below.refl _ (W.alloc wRow1)).alloc (Nat.le_refl _) (wRow2 W.heap.size)).alloc (by simp) wRow3
    exact (this.block _ (by simp)).trans h)
  have n1 : (wWorld W b).heap[W.heap.size + 1]? = some (wRow2 W.heap.size) := (scrSet_o _ _ _ (by omega)).trans (by
    have h := heap_alloc_new (W.alloc wRow1) (wRow2 W.heap.size)
    rw [show (W.alloc wRow1).heap.size = W.heap.size + 1 by simp] at h
    exact ((below_box _ wRow3).block _ (by simp)).trans h)
  have n2 : (wWorld W b).heap[W.heap.size + 1 + 1]? = some wRow3 := (scrSet_o _ _ _ (by omega)).trans (by
    have h := heap_alloc_new ((W.alloc wRow1).alloc (wRow2 W.heap.size)) wRow3
    rw [show ((W.alloc wRow1).alloc (wRow2 W.heap.size)).heap.size = W.heap.size + 1 + 1 by simp] at h
    exact h)
  have hopen : ZP (wWorld W b) (some ⟨W.heap.size + 1, 0, none⟩) :=
    ⟨_, W.heap.size, 1, _, _, rfl, n1, n0, rfl, ⟨cell_at n0 _, cell_at n0 _, cell_at n0 _, cell_at n0 _, cell_at n0 _, cell_at n0 _, cell_at n0 _⟩⟩
  refine ⟨scrSet_b _ _ _ (gw.trans (hrows.mono gw.size)) (by omega), ⟨by omega, hz⟩, scrSet_a (c0 := xCfg) (p0 := .slice none 0 0) (k0 := .slice none 0 0) ((hrows.block b hb).trans gb), (hk z (by omega) hzl).trans hbx, hmem, r1.at_, r2, hopen.at_, ?_⟩
  intro _
  refine ⟨_, 0, rfl, by rw [hsz2]; omega, fun j hj => ?_⟩
  have hj' : j = 0 ∨ j = 1 := by simp at hj; omega
  rcases hj' with rfl | rfl
  · rw [cell_at n2]; rfl
  · rw [show 0 + 1 = 1 from rfl, cell_at n2]; rfl
/-- The box of z from now on. -/
def Tail (w V : World) (z : Nat) (A : Option Addr) (p : Nat) (v : Value) : Prop := V.heap[z]? = some (scrBox zCfg (.slice A 1 p) v) ∧ ZP V A ∧ Below w.heap.size w V ∧ w.heap.size ≤ z
theorem Tail.below {w V V' : World} {z : Nat} {A : Option Addr} {p : Nat} {v : Value} (h : Tail w V z A p v) (hb : Below V.heap.size V V') : Tail w V' z A p v :=
  ⟨keep_box hb h.1, h.2.1.keep fun q _ _ hq _ => hb.block q (lt_of_heap hq), h.2.2.1.trans (hb.mono h.2.2.1.size), h.2.2.2⟩
theorem Tail.set {w V : World} {z : Nat} {A : Option Addr} {p : Nat} {v : Value} (h : Tail w V z A p v) (u : Value) : Tail w (V.setCell ⟨z, 9, none⟩ u) z A p u := by
  obtain ⟨h1, h2, h3, h4⟩ := h
  refine ⟨by simp [World.setCell, Array.getElem?_modify, h1], h2.keep fun q e arr hq he => ?_, h3.setCell h4 _, h4⟩
  refine Below.heap_setCell _ _ _ _ ?_
  intro e'
  have e'' : q = z := e'
  subst e''
  rw [h1] at hq
  injection hq with hq
  injection hq with _ hq
  rcases he with he | he
  · rw [he] at hq; cases hq
  · rw [he] at hq; cases hq
/-- The row of picks is written. -/
theorem Tail.grown {w V V' : World} {z r : Nat} {A : Option Addr} {p : Nat} {v : Value} {arr : Array Value} (h : Tail w V z A p v) (hr : V.heap[r]? = some (.cells arr 3 (0, 0))) (hz : r ≠ z) (hl : w.heap.size ≤ r) (hg : V.grownBy V' (some r)) : Tail w V' z A p v := by
  have hk : ∀ q, q < V.heap.size → q ≠ r → V'.heap[q]? = V.heap[q]? := fun q hq hne => hg.block q hq (fun e => hne (by injection e))
  refine ⟨(hk z (lt_of_heap h.1) hz.symm).trans h.1, h.2.1.keep fun q e arr' hq he => hk q (lt_of_heap hq) ?_, h.2.2.1.grown hg h.2.2.1.size (fun g hg' => by injection hg' with e; subst e; exact hl), h.2.2.2⟩
  rintro rfl
  rw [hr] at hq
  injection hq with hq
  injection hq with _ hq
  rcases he with he | he
  · rw [he] at hq; cases hq
  · rw [he] at hq; cases hq
theorem ints_row {W : World} {b : Nat} {arr : Array Value} {e : TypeId} (h : W.heap[b]? = some (.cells arr e (0, 0))) (xs : List Int) (hx : ∀ j, j < xs.length → arr[j]? = some (.int .i64 (xs.getD j 0))) : Ints W W.heap.size (some ⟨b, 0, none⟩) xs := fun _ =>
  ⟨b, 0, rfl, lt_of_heap h, fun j hj => by rw [Nat.zero_add, cell_at h]; exact hx j hj⟩
noncomputable def bigRow : Array Value := madeCells #[.int .i64 0] 65536
theorem bigRow_size : bigRow.size = 65536 := size_madeCells _ _
theorem und26 : Tryz.prog.underlying 26 = some (.slice 3) := by kernel_rfl
theorem make_big (W : World) : (Instr.makeSlice 26 (.int .i64 65536) (.int .i64 65536)).run Tryz.prog W = .ok (.slice (some ⟨W.heap.size, 0, none⟩) 65536 65536) (W.alloc (.cells bigRow 3)) := by
  have hi : ∃ i, Tryz.prog.info? 3 = some i ∧ i.zero = some (.int .i64 0) ∧ i.size = 1 ∧ i.bytes = 8 := by
    have h := int_info
    cases hi : Tryz.prog.info? 3 with
    | none => rw [hi] at h; cases h
    | some i =>
      rw [hi] at h
      simp only [Option.map_some, Option.some.injEq, Prod.mk.injEq] at h
      exact ⟨i, rfl, h.1, h.2.1, h.2.2⟩
  obtain ⟨i, h1, h2, h3, h4⟩ := hi
  have h := run_makeSlice (P := Tryz.prog) (w := W) 26 3 i _ und26 h1 h2 .i64 .i64 65536 65536 (by decide) (by decide) (by rw [h3]; decide) (by rw [h4]; decide) (by decide)
  rw [h3] at h
  exact h
/-- A new row, put into the box. -/
theorem Tail.put {w W : World} {z : Nat} {A : Option Addr} {p : Nat} {v : Value} (h : Hid (Tail w W z A p v)) (arr : Array Value) (n c : Nat) :
    Hid (Tail w ((W.alloc (.cells arr 3)).setCell ⟨z, 9, none⟩ (.slice (some ⟨W.heap.size, 0, none⟩) n c)) z A p (.slice (some ⟨W.heap.size, 0, none⟩) n c) ∧
      ((W.alloc (.cells arr 3)).setCell ⟨z, 9, none⟩ (.slice (some ⟨W.heap.size, 0, none⟩) n c)).heap[W.heap.size]? = some (.cells arr 3 (0, 0))) := by
  refine Lib.hid ⟨(h.out.below (below_box W _)).set _, ?_⟩
  have : z < W.heap.size := lt_of_heap h.out.1
  rw [Below.heap_setCell _ _ _ _ (show W.heap.size ≠ z by omega)]
  exact heap_alloc_new _ _
theorem rep_get (N j : Nat) (v : Value) (h : j < N) : (List.replicate N v)[j]? = some v := by simp [h]
theorem rep_getD (N j : Nat) (v : Int) (h : j < N) : (List.replicate N v).getD j 0 = v := by simp [List.getD_eq_getElem?_getD, h]
theorem take_rep (N n : Nat) (v : Value) (h : n ≤ N) : (List.replicate N v).take n = List.replicate n v := by simp [Nat.min_eq_left h]
def zrow (n : Nat) : List Value := List.replicate n (.int .i64 0)
theorem big_own {W : World} {r : Nat} (h : W.heap[r]? = some (.cells bigRow 3 (0, 0))) (n : Nat) (hn : n ≤ 65536) (o : Obj) : (W.alloc o).ownsRow r 3 1 (.slice (some ⟨r, 0, none⟩) n 65536) n (zrow n) := by
  refine ⟨by unfold zrow; rw [List.length_replicate, Nat.mul_one], .inr ⟨r, 65536, bigRow, rfl, Nat.le_refl _, (Below.heap_alloc _ _ _ (lt_of_heap h)).trans h, hn, by unfold maxLen; decide, bigRow_size, ?_⟩⟩
  rw [show bigRow.toList = List.replicate 65536 (.int .i64 0) from toList_madeCells_one _ _, Nat.mul_one]
  exact take_rep _ _ _ hn
theorem own_ints {W : World} {base r n c : Nat} (h : W.ownsRow base 3 1 (.slice (some ⟨r, 0, none⟩) (n + 1) c) (n + 1) (zrow n ++ [.int .i64 0])) (z : Nat) (hz : r ≠ z) (u : Value) :
    Ints (W.setCell ⟨z, 9, none⟩ u) (W.setCell ⟨z, 9, none⟩ u).heap.size (some ⟨r, 0, none⟩) (List.replicate (n + 1) 0) := by
  unfold zrow at h
  have e : (List.replicate n (Value.int .i64 0) ++ [.int .i64 0]) = (List.replicate (n + 1) (0 : Int)).map (Value.int .i64) := by
    rw [List.map_replicate, List.replicate_succ']
  rw [e] at h
  have hI := (Ints.of_own h).2
  intro hx
  obtain ⟨b, o, e, hlt, hc⟩ := hI hx
  injection e with e
  injection e with e1 e2
  subst e1 e2
  exact ⟨r, 0, rfl, by simpa using hlt, fun j hj => (World.cell?_of_block (a := ⟨r, 0 + j, none⟩) (Below.heap_setCell _ _ _ _ hz)).trans (hc j hj)⟩
theorem big_ints {W : World} {b : Nat} (h : W.heap[b]? = some (.cells bigRow 3 (0, 0))) (n : Nat) (hn : n ≤ 65536) : Ints W W.heap.size (some ⟨b, 0, none⟩) (List.replicate n 0) :=
  ints_row h _ fun j hj => by
    rw [List.length_replicate] at hj
    have h1 : bigRow[j]? = bigRow.toList[j]? := by simp
    rw [h1, show bigRow.toList = List.replicate 65536 (.int .i64 0) from toList_madeCells_one _ _, rep_get _ _ _ (Nat.lt_of_lt_of_le hj hn), rep_getD _ _ _ hj]
theorem Tail.setK {w W : World} {z r : Nat} {A : Option Addr} {p : Nat} {v : Value} {o : Obj} (h : Hid (Tail w W z A p v ∧ W.heap[r]? = some o ∧ r ≠ z ∧ w.heap.size ≤ r)) (u : Value) :
    Hid (Tail w (W.setCell ⟨z, 9, none⟩ u) z A p u ∧ (W.setCell ⟨z, 9, none⟩ u).heap[r]? = some o ∧ r ≠ z ∧ w.heap.size ≤ r) :=
  Lib.hid ⟨h.out.1.set u, (Below.heap_setCell _ _ _ _ h.out.2.2.1).trans h.out.2.1, h.out.2.2⟩
theorem Tail.belowK {w W W' : World} {z r : Nat} {A : Option Addr} {p : Nat} {v : Value} {o : Obj} (h : Hid (Tail w W z A p v ∧ W.heap[r]? = some o ∧ r ≠ z ∧ w.heap.size ≤ r)) (hb : Below W.heap.size W W') :
    Hid (Tail w W' z A p v ∧ W'.heap[r]? = some o ∧ r ≠ z ∧ w.heap.size ≤ r) :=
  Lib.hid ⟨h.out.1.below hb, keep_box hb h.out.2.1, h.out.2.2⟩
set_option maxHeartbeats 1000000 in
set_option maxRecDepth 100000 in
theorem scriptExamples (w : World) : Calls Tryz.prog 3 #[] w (BoolBelow true w) := by
  go_enter Tryz.func3, Tryz.ntmps3
  go_wp2_with fail
  refine (read_none _).mono ?_
  rintro e w1 ⟨rfl, hw⟩
  have GB := Lib.hid hw
  clear hw
  go_upto_region 3 with fail
  have G : Hid (Two w ((w1.alloc xBox).alloc wBox) w1.heap.size (w1.heap.size + 1)) := Lib.hid ⟨keep_box ((Below.refl _ _).alloc (Nat.le_refl _) _) (heap_alloc_new _ _), by
    have := heap_alloc_new (w1.alloc xBox) wBox
    rw [show (w1.alloc xBox).heap.size = w1.heap.size + 1 by simp] at this
    exact this, by omega, (GB.out.alloc GB.out.size _).alloc (by have := GB.out.size; simp; omega) _, GB.out.size⟩
  clear GB
  generalize (w1.alloc xBox).alloc wBox = W at *
  generalize w1.heap.size = a at *
  generalize a + 1 = b at *
  obtain ⟨c0, c1, c2, c3, c4, c5, c6, c7, c8, c9⟩ := box_cell G.out.1
  obtain ⟨d0, d1, d2, d3, d4, d5, d6, d7, d8, d9⟩ := box_cell G.out.2.1
  go_wp2_with fail
  refine (eq_xy _ _ _ _ _ _ _ _ _).mono ?_
  rintro e w2 ⟨rfl, hw⟩
  have G2 := Two.below G hw
  clear hw G c0 c1 c2 c3 c4 c5 c6 c7 c8 c9 d0 d1 d2 d3 d4 d5 d6 d7 d8 d9
  obtain ⟨c0, c1, c2, c3, c4, c5, c6, c7, c8, c9⟩ := box_cell G2.out.1
  go_wp2_with fail
  refine (chk_xx _).mono ?_
  rintro e w3 ⟨rfl, hw⟩
  have G3 := Two.below G2 hw
  clear hw G2 c0 c1 c2 c3 c4 c5 c6 c7 c8 c9
  obtain ⟨c0, c1, c2, c3, c4, c5, c6, c7, c8, c9⟩ := box_cell G3.out.1
  go_wp2_with fail
  refine (enc_xx _).mono ?_
  rintro e w4 ⟨rfl, hw⟩
  have G4 := Two.below G3 hw
  clear hw G3 c0 c1 c2 c3 c4 c5 c6 c7 c8 c9
  go_upto_region 6 with fail
  have hv : ∀ V : World, (convert 35 9 (.slice (some ⟨V.heap.size, 0, none⟩) 15 15)).run Tryz.prog (V.alloc (.cells #[.int .u8 0, .int .u8 16, .int .u8 0, .int .u8 0, .int .u8 0, .int .u8 1, .int .u8 0, .int .u8 0, .int .u8 1, .int .u8 1, .int .u8 1, .int .u8 0, .int .u8 0, .int .u8 0, .int .u8 0] 5)) = .ok (.string encX) (V.alloc (.cells #[.int .u8 0, .int .u8 16, .int .u8 0, .int .u8 0, .int .u8 0, .int .u8 1, .int .u8 0, .int .u8 0, .int .u8 1, .int .u8 1, .int .u8 1, .int .u8 0, .int .u8 0, .int .u8 0, .int .u8 0] 5)) := fun V => by
    have h := conv_bytes V [0, 16, 0, 0, 0, 1, 0, 0, 1, 1, 1, 0, 0, 0, 0] (by intro x hx; simp at hx; omega) 15
    rw [show bs [0, 16, 0, 0, 0, 1, 0, 0, 1, 1, 1, 0, 0, 0, 0] = encX by decide] at h
    exact h
  go_upto_region 8 with fail
  have G5 := Two.below G4 ((Below.refl _ _).alloc (Nat.le_refl _) (.cells #[.int .u8 0, .int .u8 16, .int .u8 0, .int .u8 0, .int .u8 0, .int .u8 1, .int .u8 0, .int .u8 0, .int .u8 1, .int .u8 1, .int .u8 1, .int .u8 0, .int .u8 0, .int .u8 0, .int .u8 0] 5))
  clear G4 hv
  generalize w4.alloc (.cells #[.int .u8 0, .int .u8 16, .int .u8 0, .int .u8 0, .int .u8 0, .int .u8 1, .int .u8 0, .int .u8 0, .int .u8 1, .int .u8 1, .int .u8 1, .int .u8 0, .int .u8 0, .int .u8 0, .int .u8 0] 5) = w5 at *
  go_wp2_with fail
  refine (dec_xx _).mono ?_
  rintro e w6 ⟨A, ca, B, cb, rfl, hw⟩
  have G6 := Two.below G5 hw
  clear hw G5
  go_upto_region 9 with fail
  have G7 := Two.below G6 ((Below.refl _ _).alloc (Nat.le_refl _) (scrBox xCfg (.slice A 0 ca) (.slice B 0 cb)))
  have H7 := Lib.hid (heap_alloc_new w6 (scrBox xCfg (.slice A 0 ca) (.slice B 0 cb)))
  clear G6
  generalize w6.alloc (scrBox xCfg (.slice A 0 ca) (.slice B 0 cb)) = w7 at *
  generalize w6.heap.size = y at *
  obtain ⟨c0, c1, c2, c3, c4, c5, c6, c7, c8, c9⟩ := box_cell G7.out.1
  obtain ⟨d0, d1, d2, d3, d4, d5, d6, d7, d8, d9⟩ := box_cell H7.out
  go_wp2_with fail
  refine (eq_xy _ _ _ _ _ _ _ _ _).mono ?_
  rintro e w8 ⟨rfl, hw⟩
  have G8 := Two.below G7 hw
  clear hw G7 H7 c0 c1 c2 c3 c4 c5 c6 c7 c8 c9 d0 d1 d2 d3 d4 d5 d6 d7 d8 d9
  go_upto_region 11 with fail
  have hx : encX.extract 0 14 = cutX := by decide
  go_wp2_with fail
  refine (dec_cutX _).mono ?_
  rintro e w9 ⟨rfl, hw⟩
  have G9 := Two.below G8 hw
  clear hw G8
  go_upto_region 12 with fail
  have Ga := Two.below G9 ((Below.refl _ _).alloc (Nat.le_refl _) (scrBox cfg0 (.slice none 0 0) (.slice none 0 0)))
  clear G9
  generalize w9.alloc (scrBox cfg0 (.slice none 0 0) (.slice none 0 0)) = wa at *
  generalize w9.heap.size = na at *
  go_wp2_with fail
  refine (dec_none _).mono ?_
  rintro e wb ⟨rfl, hw⟩
  have Gb := Two.below Ga hw
  clear hw Ga
  go_upto_region 15 with fail
  have Gc := Two.below Gb ((Below.refl _ _).alloc (Nat.le_refl _) (scrBox cfg0 (.slice none 0 0) (.slice none 0 0)))
  clear Gb
  generalize wb.alloc (scrBox cfg0 (.slice none 0 0) (.slice none 0 0)) = wc at *
  generalize wb.heap.size = nb at *
  go_upto_region 17 with fail
  have hv := conv_z wc
  have Gd := Two.below Gc ((Below.refl _ _).alloc (Nat.le_refl _) (.cells zRow 5))
  clear Gc
  go_wp2_with fail
  refine (read_z _).mono ?_
  rintro e wd ⟨φ, p, k, rfl, hr, hu, hp, hk⟩
  have HZ := Lib.hid (ZMem.mk2 hr hu hp hk)
  have Ge := Two.below Gd hr.below
  have hzb := Lib.hid hr.below.size
  have hlow := Lib.hid (show b < (wc.alloc (.cells zRow 5)).heap.size from by
    have := Gd.out.2.1
    rcases Nat.lt_or_ge b (wc.alloc (.cells zRow 5)).heap.size with h | h
    · exact h
    · rw [Array.getElem?_eq_none h] at this; cases this)
  clear hr hu hp hk Gd hv
  obtain ⟨A1, p1, B1, k1, rfl, rfl, hP, hI⟩ := HZ.out.read
  have HP := Lib.hid hP
  have HI := Lib.hid hI
  clear hP hI
  go_upto_region 18 with fail
  have Gf := Two.below Ge ((Below.refl _ _).alloc (Nat.le_refl _) (scrBox zCfg (.slice A1 1 p1) (.slice B1 2 k1)))
  have Hf := Lib.hid (heap_alloc_new wd (scrBox zCfg (.slice A1 1 p1) (.slice B1 2 k1)))
  clear Ge
  generalize wd.alloc (scrBox zCfg (.slice A1 1 p1) (.slice B1 2 k1)) = wf at *
  generalize wd.heap.size = z at *
  generalize (wc.alloc (.cells zRow 5)).heap.size = base at *
  obtain ⟨d0, d1, d2, d3, d4, d5, d6, d7, d8, d9⟩ := box_cell Gf.out.2.1
  have hfz : ∀ o, wf.frozen? ⟨b, o, none⟩ = false := fun o => by simp [World.frozen?, Gf.out.2.1]
  have hb : b < wf.heap.size := by
    rcases Nat.lt_or_ge b wf.heap.size with h | h
    · exact h
    · have := Gf.out.2.1; rw [Array.getElem?_eq_none h] at this; cases this
  have hk : ∀ (o1 o2 o3 : Obj) (o : Nat), (((wf.alloc o1).alloc o2).alloc o3).cell? ⟨b, o, none⟩ = wf.cell? ⟨b, o, none⟩ := fun o1 o2 o3 o => by
    rw [World.cell?_alloc_lt _ _ _ (by simp; omega), World.cell?_alloc_lt _ _ _ (by simp; omega), World.cell?_alloc_lt _ _ _ (by simpa using hb)]
  have hkf : ∀ (o1 o2 o3 : Obj) (o : Nat), (((wf.alloc o1).alloc o2).alloc o3).frozen? ⟨b, o, none⟩ = false := fun o1 o2 o3 o => by
    rw [World.frozen?_alloc_old _ _ _ (by simp; omega), World.frozen?_alloc_old _ _ _ (by simp; omega), World.frozen?_alloc_old _ _ _ (by show b ≠ _; omega)]; exact hfz o
  have HB := Lib.hid hb
  clear hb hfz
  go_upto_region 19 with fail
  show Code.wp Tryz.prog _ _ _ (wWorld wf b)
  have L := Lib.hid (laid_ok Gf.out hlow.out hzb.out Hf.out HZ.out)
  clear d0 d1 d2 d3 d4 d5 d6 d7 d8 d9 hk hkf HB Gf HP HI HZ Hf hlow hzb
  generalize wWorld wf b = V at *
  generalize wf.heap.size = n at *
  obtain ⟨c0, c1, c2, c3, c4, c5, c6, c7, c8, c9⟩ := box_cell L.out.box
  obtain ⟨d0, d1, d2, d3, d4, d5, d6, d7, d8, d9⟩ := box_cell L.out.want
  have HE := Lib.hid (eq_zz V A1 B1 (some ⟨n + 1, 0, none⟩) (some ⟨n + 1 + 1, 0, none⟩) p1 k1 1 2 L.out.progs L.out.picks L.out.progs' L.out.picks')
  go_wp2_with fail
  refine (HE.out).mono ?_
  rintro e wg ⟨rfl, hw⟩
  have HM := Lib.hid (L.out.mem.below hw)
  have HBx := Lib.hid (keep_box hw L.out.box)
  have HW := Lib.hid (And.intro (L.out.below.trans (hw.mono L.out.below.size)) L.out.low)
  clear hw HE L c0 c1 c2 c3 c4 c5 c6 c7 c8 c9 d0 d1 d2 d3 d4 d5 d6 d7 d8 d9
  go_upto_region 21 with fail
  obtain ⟨c0, c1, c2, c3, c4, c5, c6, c7, c8, c9⟩ := box_cell HBx.out
  go_wp2_with fail
  refine (HM.out.run).mono ?_
  rintro e wh ⟨q, cap, A, cp, k', rfl, e1, e2, hbx, hP, hw⟩
  have T0 : Hid (Tail w wh z A cp k') := Lib.hid ⟨hbx, hP, HW.out.1.trans (hw.mono HW.out.2.1), by have := HW.out.2; omega⟩
  clear hbx hP hw HM HBx HW c0 c1 c2 c3 c4 c5 c6 c7 c8 c9
  go_upto_region 24 with fail
  clear e1 e2
  generalize (⟨q, 0, none⟩ : Addr) = qa at *
  obtain ⟨c0, c1, c2, c3, c4, c5, c6, c7, c8, c9⟩ := box_cell T0.out.1
  have hz : z < wh.heap.size := lt_of_heap T0.out.1
  have hk : ∀ (o1 : Obj) (o : Nat), (wh.alloc o1).cell? ⟨z, o, none⟩ = wh.cell? ⟨z, o, none⟩ := fun o1 o => World.cell?_alloc_lt _ _ _ hz
  have hkf : ∀ (o1 : Obj) (o : Nat), (wh.alloc o1).frozen? ⟨z, o, none⟩ = false := fun o1 o => by
    rw [World.frozen?_alloc_old _ _ _ (by show z ≠ _; omega)]; simp [World.frozen?, T0.out.1]
  clear hz
  go_upto_region 25 with fail
  have T1 := Tail.put T0 #[.int .i64 2] 1 1
  clear T0 hk hkf c0 c1 c2 c3 c4 c5 c6 c7 c8 c9
  generalize (wh.alloc (.cells #[.int .i64 2] 3)).setCell ⟨z, 9, none⟩ (.slice (some ⟨wh.heap.size, 0, none⟩) 1 1) = wi at *
  generalize wh.heap.size = r1 at *
  have HC := Lib.hid (chk_zz wi A (some ⟨r1, 0, none⟩) cp 1 1 [2] 2 rfl (by decide) T1.out.1.2.1.at_ (ints_row T1.out.2 _ (fun j hj => by simp at hj; subst hj; rfl)) chk_two)
  obtain ⟨c0, c1, c2, c3, c4, c5, c6, c7, c8, c9⟩ := box_cell T1.out.1.1
  go_wp2_with fail
  refine (HC.out).mono ?_
  rintro e wj ⟨rfl, hw⟩
  have T2 := Lib.hid (T1.out.1.below hw)
  clear hw HC T1 c0 c1 c2 c3 c4 c5 c6 c7 c8 c9
  go_upto_region 27 with fail
  obtain ⟨c0, c1, c2, c3, c4, c5, c6, c7, c8, c9⟩ := box_cell T2.out.1
  have hz : z < wj.heap.size := lt_of_heap T2.out.1
  have hk : ∀ (o1 : Obj) (o : Nat), (wj.alloc o1).cell? ⟨z, o, none⟩ = wj.cell? ⟨z, o, none⟩ := fun o1 o => World.cell?_alloc_lt _ _ _ hz
  have hkf : ∀ (o1 : Obj) (o : Nat), (wj.alloc o1).frozen? ⟨z, o, none⟩ = false := fun o1 o => by
    rw [World.frozen?_alloc_old _ _ _ (by show z ≠ _; omega)]; simp [World.frozen?, T2.out.1]
  have hr2 := Lib.hid (show wj.heap.size ≠ z ∧ w.heap.size ≤ wj.heap.size from ⟨by omega, T2.out.2.2.1.size⟩)
  clear hz
  have hm := make_big wj
  go_upto_region 28 with fail
  have T3' := Tail.put T2 bigRow 65536 65536
  have T3 := Lib.hid (And.intro T3'.out.1 (And.intro T3'.out.2 hr2.out))
  clear T2 T3' hr2 hm hk hkf c0 c1 c2 c3 c4 c5 c6 c7 c8 c9
  generalize (wj.alloc (.cells bigRow 3)).setCell ⟨z, 9, none⟩ (.slice (some ⟨wj.heap.size, 0, none⟩) 65536 65536) = wk at *
  generalize wj.heap.size = r at *
  have HC := Lib.hid (chk_zz wk A (some ⟨r, 0, none⟩) cp 65536 65536 (List.replicate 65536 0) 5 (by rw [List.length_replicate]) (by decide) T3.out.1.2.1.at_ (big_ints T3.out.2.1 _ (by decide)) (chk_zeros _ (by decide)))
  obtain ⟨c0, c1, c2, c3, c4, c5, c6, c7, c8, c9⟩ := box_cell T3.out.1.1
  go_wp2_with fail
  refine (HC.out).mono ?_
  rintro e wl ⟨rfl, hw⟩
  have T4 := Tail.belowK T3 hw
  clear hw HC T3 c0 c1 c2 c3 c4 c5 c6 c7 c8 c9
  go_upto_region 30 with fail
  obtain ⟨c0, c1, c2, c3, c4, c5, c6, c7, c8, c9⟩ := box_cell T4.out.1.1
  have hkf : ∀ (o : Nat), wl.frozen? ⟨z, o, none⟩ = false := fun o => by simp [World.frozen?, T4.out.1.1]
  go_upto_region 31 with fail
  have T5 := Tail.setK T4 (.slice (some ⟨r, 0, none⟩) 65535 65536)
  clear T4 hkf c0 c1 c2 c3 c4 c5 c6 c7 c8 c9
  generalize wl.setCell ⟨z, 9, none⟩ (.slice (some ⟨r, 0, none⟩) 65535 65536) = wm at *
  have HC := Lib.hid (chk_zz wm A (some ⟨r, 0, none⟩) cp 65536 65535 (List.replicate 65535 0) 5 (by rw [List.length_replicate]) (by decide) T5.out.1.2.1.at_ (big_ints T5.out.2.1 _ (by decide)) (chk_zeros _ (by decide)))
  obtain ⟨c0, c1, c2, c3, c4, c5, c6, c7, c8, c9⟩ := box_cell T5.out.1.1
  go_wp2_with fail
  refine (HC.out).mono ?_
  rintro e wn ⟨rfl, hw⟩
  have T6 := Tail.belowK T5 hw
  clear hw HC T5 c0 c1 c2 c3 c4 c5 c6 c7 c8 c9
  go_upto_region 33 with fail
  obtain ⟨c0, c1, c2, c3, c4, c5, c6, c7, c8, c9⟩ := box_cell T6.out.1.1
  have hkf : ∀ (o : Nat), wn.frozen? ⟨z, o, none⟩ = false := fun o => by simp [World.frozen?, T6.out.1.1]
  go_upto_region 34 with fail
  have T7 := Tail.setK T6 (.slice (some ⟨r, 0, none⟩) 65512 65536)
  clear T6 hkf c0 c1 c2 c3 c4 c5 c6 c7 c8 c9
  generalize wn.setCell ⟨z, 9, none⟩ (.slice (some ⟨r, 0, none⟩) 65512 65536) = wo at *
  have HC := Lib.hid (chk_zz wo A (some ⟨r, 0, none⟩) cp 65536 65512 (List.replicate 65512 0) 0 (by rw [List.length_replicate]) (by decide) T7.out.1.2.1.at_ (big_ints T7.out.2.1 _ (by decide)) (chk_fits _ (by decide)))
  obtain ⟨c0, c1, c2, c3, c4, c5, c6, c7, c8, c9⟩ := box_cell T7.out.1.1
  go_wp2_with fail
  refine (HC.out).mono ?_
  rintro e wp ⟨rfl, hw⟩
  have T8 := Tail.belowK T7 hw
  clear hw HC T7 c0 c1 c2 c3 c4 c5 c6 c7 c8 c9
  go_upto_region 36 with fail
  obtain ⟨c0, c1, c2, c3, c4, c5, c6, c7, c8, c9⟩ := box_cell T8.out.1.1
  have hz : z < wp.heap.size := lt_of_heap T8.out.1.1
  have hk : ∀ (o1 : Obj) (o : Nat), (wp.alloc o1).cell? ⟨z, o, none⟩ = wp.cell? ⟨z, o, none⟩ := fun o1 o => World.cell?_alloc_lt _ _ _ hz
  have hkf : ∀ (o1 : Obj) (o : Nat), (wp.alloc o1).frozen? ⟨z, o, none⟩ = false := fun o1 o => by
    rw [World.frozen?_alloc_old _ _ _ (by show z ≠ _; omega)]; simp [World.frozen?, T8.out.1.1]
  have hal := Lib.hid hz
  clear hz
  obtain ⟨i0, hi, hz0, hz1, hz2⟩ := info_parts int_info
  go_wp2_with (at_builtin; refine wpList_append_fits _ rfl _ _ 26 rfl r 3 i0 1 und26 hi hz1 r 65512 65536 (zrow 65512) rfl (big_own T8.out.2.1 65512 (by decide) _) ⟨wp.heap.size, 0, none⟩ 1 1 [.int .i64 0] rfl rfl (news_one wp 0) (one_one 0) (by decide) ?_)
  intro w' hown hg
  have T9 := Lib.hid ((T8.out.1.below (below_box wp (.cells #[.int .i64 0] 3))).grown (arr := bigRow) ((Below.heap_alloc _ _ _ (lt_of_heap T8.out.2.1)).trans T8.out.2.1) T8.out.2.2.1 T8.out.2.2.2 hg)
  have HI := Lib.hid (own_ints hown z T8.out.2.2.1 (.slice (some ⟨r, 0, none⟩) 65513 65536))
  have hkf : ∀ (o : Nat), w'.frozen? ⟨z, o, none⟩ = false := fun o => by simp [World.frozen?, T9.out.1]
  clear T8 hk hown hg hi hz0 hz1 hz2 hal c0 c1 c2 c3 c4 c5 c6 c7 c8 c9
  obtain ⟨c0, c1, c2, c3, c4, c5, c6, c7, c8, c9⟩ := box_cell T9.out.1
  go_upto_region 37 with fail
  have Ta := Lib.hid (T9.out.set (.slice (some ⟨r, 0, none⟩) 65513 65536))
  clear T9 hkf c0 c1 c2 c3 c4 c5 c6 c7 c8 c9
  generalize w'.setCell ⟨z, 9, none⟩ (.slice (some ⟨r, 0, none⟩) 65513 65536) = wq at *
  have HC := Lib.hid (chk_zz wq A (some ⟨r, 0, none⟩) cp 65536 65513 (List.replicate 65513 0) 5 (by rw [List.length_replicate]) (by decide) Ta.out.2.1.at_ HI.out (chk_zeros _ (by decide)))
  obtain ⟨c0, c1, c2, c3, c4, c5, c6, c7, c8, c9⟩ := box_cell Ta.out.1
  go_wp2_with fail
  refine (HC.out).mono ?_
  rintro e wr ⟨rfl, hw⟩
  have HF : Hid (Below w.heap.size w wr) := Lib.hid (Ta.out.2.2.1.trans (hw.mono Ta.out.2.2.1.size))
  clear hw HC Ta HI c0 c1 c2 c3 c4 c5 c6 c7 c8 c9
  go_wp2
  exact bodyPost_ret (v := .bool true) (by simp [results, Tryz.results3, go_sem]) rfl ⟨rfl, HF.out⟩
end Go.Proofs.YtbjadgggpkbjmaaGreat
