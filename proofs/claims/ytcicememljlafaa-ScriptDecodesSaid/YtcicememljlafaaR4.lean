/- The states of a reading. -/
import Derived.Test.YtcicememljlafaaR3
namespace Go.Proofs.Ytcicememljlafaa
open Go.RowKit

abbrev zeroScr : Obj := .cells #[.int .i64 0, .int .u64 0, .int .i64 0, .int .i64 0, .int .i64 0, .int .i64 0, .int .i64 0, .string ⟨#[]⟩, .slice none 0 0, .slice none 0 0] 28
def cfg0 : CfgV := ⟨0, 0, 0, 0, 0, 0, 0, ⟨#[]⟩⟩

/-- Read, in the middle of its work: the rest s in block B, the result's block B + 1, the script's block B + 1 + 1, the closure's block B + 1 + 1 + 1. -/
structure RdSt (w0 W : World) (B : Nat) (s : ByteArray) (lim : Nat) (cfg : CfgV) (v8 v9 : Value) (ps : List (List OpV)) (ks : List Int) : Prop where
  str : StrBox W B 9 s
  res : W.heap[B + 1]? = some zeroScr
  bld : Bld W B (B + 1 + 1) lim cfg v8 v9 ps ks
  fnb : W.heap[B + 1 + 1 + 1]? = some (.cells #[.func (.func 26) #[] #[.pointer (some ⟨B, 0, none⟩)]] 48)
  bel : Below B w0 W

section
variable {w0 W W' : World} {B lim : Nat} {s s' : ByteArray} {cfg : CfgV} {v8 v9 : Value} {ps : List (List OpV)} {ks : List Int}
theorem RdSt.fn (h : RdSt w0 W B s lim cfg v8 v9 ps ks) : W.cell? ⟨B + 1 + 1 + 1, 0, none⟩ = some (.func (.func 26) #[] #[.pointer (some ⟨B, 0, none⟩)]) := by
  rw [cell_of_row _ _ 0 _ _ _ h.fnb]; rfl
theorem RdSt.fnt (h : RdSt w0 W B s lim cfg v8 v9 ps ks) : ElemT W (B + 1 + 1 + 1) 48 := ⟨_, h.fnb⟩
theorem RdSt.lt3 (h : RdSt w0 W B s lim cfg v8 v9 ps ks) : B + 1 + 1 + 1 < W.heap.size := World.block_lt_of_cell? W _ h.fn
theorem RdSt.next (h : RdSt w0 W B s lim cfg v8 v9 ps ks) (hs : StrBox W' B 9 s') (hg : W.grownBy W' (some B)) : RdSt w0 W' B s' lim cfg v8 v9 ps ks := by
  have h3 := h.lt3
  exact ⟨hs, (hg.block (B + 1) (by omega) (by intro e; injection e; omega)).trans h.res, h.bld.mild (Mild.grown hg fun q e => by injection e with e; subst e; exact ⟨9, h.str.elem, .inl (by decide)⟩),
    (hg.block (B + 1 + 1 + 1) h3 (by intro e; injection e; omega)).trans h.fnb,
    h.bel.trans ⟨hg.os, hg.tape, hg.output, hg.size, fun k hk => hg.block k (by omega) (by intro e; injection e; omega)⟩⟩
/-- Any other step that leaves the four blocks alone. -/
theorem RdSt.other (h : RdSt w0 W B s lim cfg v8 v9 ps ks) (hm : Mild W W' lim) (hk : ∀ q, q < B + 1 + 1 + 1 + 1 → W'.heap[q]? = W.heap[q]?) : RdSt w0 W' B s lim cfg v8 v9 ps ks :=
  ⟨h.str.grownN (hk B (by omega)), (hk _ (by omega)).trans h.res, h.bld.mild hm, (hk (B + 1 + 1 + 1) (by omega)).trans h.fnb,
    h.bel.trans ⟨hm.1, hm.2.1, hm.2.2.1, hm.2.2.2.1, fun k hk' => hk k (by omega)⟩⟩
theorem RdSt.alloc (h : RdSt w0 W B s lim cfg v8 v9 ps ks) (o : Obj) : RdSt w0 (W.alloc o) B s lim cfg v8 v9 ps ks := by
  have h3 := h.lt3
  exact h.other (Mild.alloc _ _ _) fun q hq => Below.heap_alloc _ _ _ (by omega)
theorem RdSt.more {lim' : Nat} (h : RdSt w0 W B s lim cfg v8 v9 ps ks) (hl : lim ≤ lim') : RdSt w0 W B s lim' cfg v8 v9 ps ks := ⟨h.str, h.res, h.bld.more hl, h.fnb, h.bel⟩
theorem RdSt.frx (h : RdSt w0 W B s lim cfg v8 v9 ps ks) (i : Nat) : W.frozen? ⟨B + 1 + 1, i, none⟩ = false := h.bld.t.frozen i
theorem RdSt.set0 (h : RdSt w0 W B s lim cfg v8 v9 ps ks) (x : Int) : RdSt w0 (W.setCell ⟨B + 1 + 1, 0, none⟩ (.int .i64 x)) B s lim { cfg with slots := x } v8 v9 ps ks :=
  ⟨h.str.grownN (Below.heap_setCell _ _ _ _ (by show B ≠ B + 1 + 1; omega)), (Below.heap_setCell _ _ _ _ (by show B + 1 ≠ B + 1 + 1; omega)).trans h.res, h.bld.set0 x,
    (Below.heap_setCell _ _ _ _ (by show B + 1 + 1 + 1 ≠ B + 1 + 1; omega)).trans h.fnb, h.bel.setCell (by show B ≤ B + 1 + 1; omega) _⟩
theorem RdSt.set1 (h : RdSt w0 W B s lim cfg v8 v9 ps ks) (x : Int) : RdSt w0 (W.setCell ⟨B + 1 + 1, 1, none⟩ (.int .u64 x)) B s lim { cfg with gens := x } v8 v9 ps ks :=
  ⟨h.str.grownN (Below.heap_setCell _ _ _ _ (by show B ≠ B + 1 + 1; omega)), (Below.heap_setCell _ _ _ _ (by show B + 1 ≠ B + 1 + 1; omega)).trans h.res, h.bld.set1 x,
    (Below.heap_setCell _ _ _ _ (by show B + 1 + 1 + 1 ≠ B + 1 + 1; omega)).trans h.fnb, h.bel.setCell (by show B ≤ B + 1 + 1; omega) _⟩
theorem RdSt.set2 (h : RdSt w0 W B s lim cfg v8 v9 ps ks) (x : Int) : RdSt w0 (W.setCell ⟨B + 1 + 1, 2, none⟩ (.int .i64 x)) B s lim { cfg with clients := x } v8 v9 ps ks :=
  ⟨h.str.grownN (Below.heap_setCell _ _ _ _ (by show B ≠ B + 1 + 1; omega)), (Below.heap_setCell _ _ _ _ (by show B + 1 ≠ B + 1 + 1; omega)).trans h.res, h.bld.set2 x,
    (Below.heap_setCell _ _ _ _ (by show B + 1 + 1 + 1 ≠ B + 1 + 1; omega)).trans h.fnb, h.bel.setCell (by show B ≤ B + 1 + 1; omega) _⟩
theorem RdSt.set3 (h : RdSt w0 W B s lim cfg v8 v9 ps ks) (x : Int) : RdSt w0 (W.setCell ⟨B + 1 + 1, 3, none⟩ (.int .i64 x)) B s lim { cfg with readers := x } v8 v9 ps ks :=
  ⟨h.str.grownN (Below.heap_setCell _ _ _ _ (by show B ≠ B + 1 + 1; omega)), (Below.heap_setCell _ _ _ _ (by show B + 1 ≠ B + 1 + 1; omega)).trans h.res, h.bld.set3 x,
    (Below.heap_setCell _ _ _ _ (by show B + 1 + 1 + 1 ≠ B + 1 + 1; omega)).trans h.fnb, h.bel.setCell (by show B ≤ B + 1 + 1; omega) _⟩
theorem RdSt.set4 (h : RdSt w0 W B s lim cfg v8 v9 ps ks) (x : Int) : RdSt w0 (W.setCell ⟨B + 1 + 1, 4, none⟩ (.int .i64 x)) B s lim { cfg with queue := x } v8 v9 ps ks :=
  ⟨h.str.grownN (Below.heap_setCell _ _ _ _ (by show B ≠ B + 1 + 1; omega)), (Below.heap_setCell _ _ _ _ (by show B + 1 ≠ B + 1 + 1; omega)).trans h.res, h.bld.set4 x,
    (Below.heap_setCell _ _ _ _ (by show B + 1 + 1 + 1 ≠ B + 1 + 1; omega)).trans h.fnb, h.bel.setCell (by show B ≤ B + 1 + 1; omega) _⟩
theorem RdSt.set5 (h : RdSt w0 W B s lim cfg v8 v9 ps ks) (x : Int) : RdSt w0 (W.setCell ⟨B + 1 + 1, 5, none⟩ (.int .i64 x)) B s lim { cfg with batch := x } v8 v9 ps ks :=
  ⟨h.str.grownN (Below.heap_setCell _ _ _ _ (by show B ≠ B + 1 + 1; omega)), (Below.heap_setCell _ _ _ _ (by show B + 1 ≠ B + 1 + 1; omega)).trans h.res, h.bld.set5 x,
    (Below.heap_setCell _ _ _ _ (by show B + 1 + 1 + 1 ≠ B + 1 + 1; omega)).trans h.fnb, h.bel.setCell (by show B ≤ B + 1 + 1; omega) _⟩
theorem RdSt.set6 (h : RdSt w0 W B s lim cfg v8 v9 ps ks) (x : Int) : RdSt w0 (W.setCell ⟨B + 1 + 1, 6, none⟩ (.int .i64 x)) B s lim { cfg with feed := x } v8 v9 ps ks :=
  ⟨h.str.grownN (Below.heap_setCell _ _ _ _ (by show B ≠ B + 1 + 1; omega)), (Below.heap_setCell _ _ _ _ (by show B + 1 ≠ B + 1 + 1; omega)).trans h.res, h.bld.set6 x,
    (Below.heap_setCell _ _ _ _ (by show B + 1 + 1 + 1 ≠ B + 1 + 1; omega)).trans h.fnb, h.bel.setCell (by show B ≤ B + 1 + 1; omega) _⟩
theorem RdSt.set7 (h : RdSt w0 W B s lim cfg v8 v9 ps ks) (x : ByteArray) : RdSt w0 (W.setCell ⟨B + 1 + 1, 7, none⟩ (.string x)) B s lim { cfg with text := x } v8 v9 ps ks :=
  ⟨h.str.grownN (Below.heap_setCell _ _ _ _ (by show B ≠ B + 1 + 1; omega)), (Below.heap_setCell _ _ _ _ (by show B + 1 ≠ B + 1 + 1; omega)).trans h.res, h.bld.set7 x,
    (Below.heap_setCell _ _ _ _ (by show B + 1 + 1 + 1 ≠ B + 1 + 1; omega)).trans h.fnb, h.bel.setCell (by show B ≤ B + 1 + 1; omega) _⟩
end

theorem rdst_init (w : World) (s : ByteArray) :
    RdSt w ((((w.alloc (.cells #[.string s] 9)).alloc zeroScr).alloc zeroScr).alloc (.cells #[.func (.func 26) #[] #[.pointer (some ⟨w.heap.size, 0, none⟩)]] 48)) w.heap.size s w.heap.size cfg0 (.slice none 0 0) (.slice none 0 0) [] [] := by
  have h0 : ((((w.alloc (.cells #[.string s] 9)).alloc zeroScr).alloc zeroScr).alloc (.cells #[.func (.func 26) #[] #[.pointer (some ⟨w.heap.size, 0, none⟩)]] 48)).heap[w.heap.size]? = some (.cells #[.string s] 9) := by
    repeat (first | (refine heap_new _ ?_; (simp; done)) | refine heap_old ?_)
  have h1 : ((((w.alloc (.cells #[.string s] 9)).alloc zeroScr).alloc zeroScr).alloc (.cells #[.func (.func 26) #[] #[.pointer (some ⟨w.heap.size, 0, none⟩)]] 48)).heap[w.heap.size + 1]? = some zeroScr := by
    repeat (first | (refine heap_new _ ?_; (simp; done)) | refine heap_old ?_)
  have h2 : ((((w.alloc (.cells #[.string s] 9)).alloc zeroScr).alloc zeroScr).alloc (.cells #[.func (.func 26) #[] #[.pointer (some ⟨w.heap.size, 0, none⟩)]] 48)).heap[w.heap.size + 1 + 1]? = some zeroScr := by
    repeat (first | (refine heap_new _ ?_; (simp; done)) | refine heap_old ?_)
  have h3 : ((((w.alloc (.cells #[.string s] 9)).alloc zeroScr).alloc zeroScr).alloc (.cells #[.func (.func 26) #[] #[.pointer (some ⟨w.heap.size, 0, none⟩)]] 48)).heap[w.heap.size + 1 + 1 + 1]? = some (.cells #[.func (.func 26) #[] #[.pointer (some ⟨w.heap.size, 0, none⟩)]] 48) := by
    repeat (first | (refine heap_new _ ?_; (simp; done)) | refine heap_old ?_)
  have hc : ∀ i u, (#[.int .i64 0, .int .u64 0, .int .i64 0, .int .i64 0, .int .i64 0, .int .i64 0, .int .i64 0, .string ⟨#[]⟩, .slice none 0 0, .slice none 0 0] : Array Value)[i]? = some u →
      ((((w.alloc (.cells #[.string s] 9)).alloc zeroScr).alloc zeroScr).alloc (.cells #[.func (.func 26) #[] #[.pointer (some ⟨w.heap.size, 0, none⟩)]] 48)).cell? ⟨w.heap.size + 1 + 1, i, none⟩ = some u := by
    intro i u hu
    rw [cell_of_row _ _ i _ _ _ h2]; exact hu
  refine ⟨⟨?_, ⟨_, h0⟩⟩, h1, ⟨⟨_, h2⟩, by omega, hc 0 _ rfl, hc 1 _ rfl, hc 2 _ rfl, hc 3 _ rfl, hc 4 _ rfl, hc 5 _ rfl, hc 6 _ rfl, hc 7 _ rfl, hc 8 _ rfl, hc 9 _ rfl, ⟨[], World.ownsRow_nil _ _ _ _, rfl, fun j hj => absurd hj (by simp)⟩, World.ownsRow_nil _ _ _ _⟩, ?_, ?_⟩
  · rw [cell_of_row _ _ 0 _ _ _ h0]; rfl
  · exact h3
  · exact ((((Below.refl _ _).alloc (Nat.le_refl _) _).alloc (by simp) _).alloc (by simp; omega) _).alloc (by simp; omega) _

/-- A program's row that is being made: the operations xs so far, in blocks from lim on. -/
def CurRow (W : World) (lim : Nat) (v : Value) (xs : List OpV) : Prop :=
  W.ownsRow lim 44 7 v xs.length (xs.flatMap fun o => [.int .u8 o.kind, .int .i64 o.slot, .int .i64 o.pos, .int .i64 o.num, .int .u32 o.id, .int .u8 o.grav, .string o.text])
/-- The operation that is being read, in a block of its own. -/
structure OpBox (W : World) (ob : Nat) (x : OpV) : Prop where
  elem : ElemT W ob 44
  op : OpAt W ob 0 x
theorem OpBox.keep {W W' : World} {ob : Nat} {x : OpV} (h : OpBox W ob x) (hk : W'.heap[ob]? = W.heap[ob]?) : OpBox W' ob x := ⟨h.elem.keep hk, h.op.keep hk⟩
end Go.Proofs.Ytcicememljlafaa
