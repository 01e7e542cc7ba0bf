/- Merged texts: R4, R4b, R4c, R5a. -/
import Derived.Test.YtbjadgggpkbjmaaGreatGb
namespace Go.Proofs.YtbjadgggpkbjmaaGreat
open Go.RowKit

abbrev zeroScr : Obj := .cells #[.int .i64 0, .int .u64 0, .int .i64 0, .int .i64 0, .int .i64 0, .int .i64 0, .int .i64 0, .string ⟨#[]⟩, .slice none 0 0, .slice none 0 0] 28
def cfg0 : CfgV := ⟨0, 0, 0, 0, 0, 0, 0, ⟨#[]⟩⟩

/-- Read, in the middle of its work: the rest s in block B, the result's block B + 1, the script's block B + 1 + 1, the closure's block B + 1 + 1 + 1. -/
structure RdSt (w0 W : World) (B : Nat) (s : ByteArray) (lim : Nat) (cfg : CfgV) (v8 v9 : Value) (ps : List (List OpV)) (ks : List Int) : Prop where
  str : StrBox W B 9 s
  res : W.heap[B + 1]? = some zeroScr
  bld : Bld W B (B + 1 + 1) lim cfg v8 v9 ps ks
  fnb : W.heap[B + 1 + 1 + 1]? = some (.cells #[.func (.func 10) #[] #[.pointer (some ⟨B, 0, none⟩)]] 55)
  bel : Below B w0 W

section
variable {w0 W W' : World} {B lim : Nat} {s s' : ByteArray} {cfg : CfgV} {v8 v9 : Value} {ps : List (List OpV)} {ks : List Int}
theorem RdSt.fn (h : RdSt w0 W B s lim cfg v8 v9 ps ks) : W.cell? ⟨B + 1 + 1 + 1, 0, none⟩ = some (.func (.func 10) #[] #[.pointer (some ⟨B, 0, none⟩)]) := by
  rw [cell_of_row _ _ 0 _ _ _ h.fnb]; rfl
theorem RdSt.fnt (h : RdSt w0 W B s lim cfg v8 v9 ps ks) : ElemT W (B + 1 + 1 + 1) 55 := ⟨_, h.fnb⟩
theorem RdSt.lt3 (h : RdSt w0 W B s lim cfg v8 v9 ps ks) : B + 1 + 1 + 1 < W.heap.size := World.block_lt_of_cell? W _ h.fn
theorem RdSt.next (h : RdSt w0 W B s lim cfg v8 v9 ps ks) (hs : StrBox W' B 9 s') (hg : W.grownBy W' (some B)) : RdSt w0 W' B s' lim cfg v8 v9 ps ks := by
  have h3 := h.lt3
  exact ⟨hs, (hg.block (B + 1) (by omega) (by intro e; injection e; omega)).trans h.res, h.bld.mild (Mild.grown hg fun q e => by injection e with e; subst e; exact ⟨9, h.str.elem, .inl (by decide)⟩),
    (hg.block (B + 1 + 1 + 1) h3 (by intro e; injection e; omega)).trans h.fnb,
    h.bel.trans ⟨hg.os, hg.tape, hg.output, hg.size, fun k hk => hg.block k (by omega) (by intro e; injection e; omega)⟩⟩
/-- Any other step that leaves the four blocks alone. -/
theorem RdSt.other (h : RdSt w0 W B s lim cfg v8 v9 ps ks) (hm : Mild W W' lim) (hk : ∀ q, q < B + 1 + 1 + 1 + 1 → W'.heap[q]? = W.heap[q]?) : RdSt w0 W' B s lim cfg v8 v9 ps ks :=
  ⟨h.str.grownN (hk B (by omega)), (hk _ (by omega)).trans h.res, h.bld.mild hm, (hk (B + 1 + 1 + 1) (by omega)).trans h.fnb,
    h.bel.trans ⟨hm.1, hm.2.1, hm.2.2.1, hm.2.2.2.1, fun k hk' => hk k (by omega)⟩⟩
theorem RdSt.alloc (h : RdSt w0 W B s lim cfg v8 v9 ps ks) (o : Obj) : RdSt w0 (W.alloc o) B s lim cfg v8 v9 ps ks := by
  have h3 := h.lt3
  exact h.other (Mild.alloc _ _ _) fun q hq => Below.heap_alloc _ _ _ (by omega)
theorem RdSt.more {lim' : Nat} (h : RdSt w0 W B s lim cfg v8 v9 ps ks) (hl : lim ≤ lim') : RdSt w0 W B s lim' cfg v8 v9 ps ks := ⟨h.str, h.res, h.bld.more hl, h.fnb, h.bel⟩
theorem RdSt.frx (h : RdSt w0 W B s lim cfg v8 v9 ps ks) (i : Nat) : W.frozen? ⟨B + 1 + 1, i, none⟩ = false := h.bld.t.frozen i
theorem RdSt.set0 (h : RdSt w0 W B s lim cfg v8 v9 ps ks) (x : Int) : RdSt w0 (W.setCell ⟨B + 1 + 1, 0, none⟩ (.int .i64 x)) B s lim { cfg with slots := x } v8 v9 ps ks :=
  ⟨h.str.grownN (Below.heap_setCell _ _ _ _ (by show B ≠ B + 1 + 1; omega)), (Below.heap_setCell _ _ _ _ (by show B + 1 ≠ B + 1 + 1; omega)).trans h.res, h.bld.set0 x,
    (Below.heap_setCell _ _ _ _ (by show B + 1 + 1 + 1 ≠ B + 1 + 1; omega)).trans h.fnb, h.bel.setCell (by show B ≤ B + 1 + 1; omega) _⟩
theorem RdSt.set1 (h : RdSt w0 W B s lim cfg v8 v9 ps ks) (x : Int) : RdSt w0 (W.setCell ⟨B + 1 + 1, 1, none⟩ (.int .u64 x)) B s lim { cfg with gens := x } v8 v9 ps ks :=
  ⟨h.str.grownN (Below.heap_setCell _ _ _ _ (by show B ≠ B + 1 + 1; omega)), (Below.heap_setCell _ _ _ _ (by show B + 1 ≠ B + 1 + 1; omega)).trans h.res, h.bld.set1 x,
    (Below.heap_setCell _ _ _ _ (by show B + 1 + 1 + 1 ≠ B + 1 + 1; omega)).trans h.fnb, h.bel.setCell (by show B ≤ B + 1 + 1; omega) _⟩
theorem RdSt.set2 (h : RdSt w0 W B s lim cfg v8 v9 ps ks) (x : Int) : RdSt w0 (W.setCell ⟨B + 1 + 1, 2, none⟩ (.int .i64 x)) B s lim { cfg with clients := x } v8 v9 ps ks :=
  ⟨h.str.grownN (Below.heap_setCell _ _ _ _ (by show B ≠ B + 1 + 1; omega)), (Below.heap_setCell _ _ _ _ (by show B + 1 ≠ B + 1 + 1; omega)).trans h.res, h.bld.set2 x,
    (Below.heap_setCell _ _ _ _ (by show B + 1 + 1 + 1 ≠ B + 1 + 1; omega)).trans h.fnb, h.bel.setCell (by show B ≤ B + 1 + 1; omega) _⟩
theorem RdSt.set3 (h : RdSt w0 W B s lim cfg v8 v9 ps ks) (x : Int) : RdSt w0 (W.setCell ⟨B + 1 + 1, 3, none⟩ (.int .i64 x)) B s lim { cfg with readers := x } v8 v9 ps ks :=
  ⟨h.str.grownN (Below.heap_setCell _ _ _ _ (by show B ≠ B + 1 + 1; omega)), (Below.heap_setCell _ _ _ _ (by show B + 1 ≠ B + 1 + 1; omega)).trans h.res, h.bld.set3 x,
    (Below.heap_setCell _ _ _ _ (by show B + 1 + 1 + 1 ≠ B + 1 + 1; omega)).trans h.fnb, h.bel.setCell (by show B ≤ B + 1 + 1; omega) _⟩
theorem RdSt.set4 (h : RdSt w0 W B s lim cfg v8 v9 ps ks) (x : Int) : RdSt w0 (W.setCell ⟨B + 1 + 1, 4, none⟩ (.int .i64 x)) B s lim { cfg with queue := x } v8 v9 ps ks :=
  ⟨h.str.grownN (Below.heap_setCell _ _ _ _ (by show B ≠ B + 1 + 1; omega)), (Below.heap_setCell _ _ _ _ (by show B + 1 ≠ B + 1 + 1; omega)).trans h.res, h.bld.set4 x,
    (Below.heap_setCell _ _ _ _ (by show B + 1 + 1 + 1 ≠ B + 1 + 1; omega)).trans h.fnb, h.bel.setCell (by show B ≤ B + 1 + 1; omega) _⟩
theorem RdSt.set5 (h : RdSt w0 W B s lim cfg v8 v9 ps ks) (x : Int) : RdSt w0 (W.setCell ⟨B + 1 + 1, 5, none⟩ (.int .i64 x)) B s lim { cfg with batch := x } v8 v9 ps ks :=
  ⟨h.str.grownN (Below.heap_setCell _ _ _ _ (by show B ≠ B + 1 + 1; omega)), (Below.heap_setCell _ _ _ _ (by show B + 1 ≠ B + 1 + 1; omega)).trans h.res, h.bld.set5 x,
    (Below.heap_setCell _ _ _ _ (by show B + 1 + 1 + 1 ≠ B + 1 + 1; omega)).trans h.fnb, h.bel.setCell (by show B ≤ B + 1 + 1; omega) _⟩
theorem RdSt.set6 (h : RdSt w0 W B s lim cfg v8 v9 ps ks) (x : Int) : RdSt w0 (W.setCell ⟨B + 1 + 1, 6, none⟩ (.int .i64 x)) B s lim { cfg with feed := x } v8 v9 ps ks :=
  ⟨h.str.grownN (Below.heap_setCell _ _ _ _ (by show B ≠ B + 1 + 1; omega)), (Below.heap_setCell _ _ _ _ (by show B + 1 ≠ B + 1 + 1; omega)).trans h.res, h.bld.set6 x,
    (Below.heap_setCell _ _ _ _ (by show B + 1 + 1 + 1 ≠ B + 1 + 1; omega)).trans h.fnb, h.bel.setCell (by show B ≤ B + 1 + 1; omega) _⟩
theorem RdSt.set7 (h : RdSt w0 W B s lim cfg v8 v9 ps ks) (x : ByteArray) : RdSt w0 (W.setCell ⟨B + 1 + 1, 7, none⟩ (.string x)) B s lim { cfg with text := x } v8 v9 ps ks :=
  ⟨h.str.grownN (Below.heap_setCell _ _ _ _ (by show B ≠ B + 1 + 1; omega)), (Below.heap_setCell _ _ _ _ (by show B + 1 ≠ B + 1 + 1; omega)).trans h.res, h.bld.set7 x,
    (Below.heap_setCell _ _ _ _ (by show B + 1 + 1 + 1 ≠ B + 1 + 1; omega)).trans h.fnb, h.bel.setCell (by show B ≤ B + 1 + 1; omega) _⟩
end

theorem rdst_init (w : World) (s : ByteArray) :
    RdSt w ((((w.alloc (.cells #[.string s] 9)).alloc zeroScr).alloc zeroScr).alloc (.cells #[.func (.func 10) #[] #[.pointer (some ⟨w.heap.size, 0, none⟩)]] 55)) w.heap.size s w.heap.size cfg0 (.slice none 0 0) (.slice none 0 0) [] [] := by
  have h0 : ((((w.alloc (.cells #[.string s] 9)).alloc zeroScr).alloc zeroScr).alloc (.cells #[.func (.func 10) #[] #[.pointer (some ⟨w.heap.size, 0, none⟩)]] 55)).heap[w.heap.size]? = some (.cells #[.string s] 9) := by
    repeat (first | (refine heap_new _ ?_; (simp; done)) | refine heap_old ?_)
  have h1 : ((((w.alloc (.cells #[.string s] 9)).alloc zeroScr).alloc zeroScr).alloc (.cells #[.func (.func 10) #[] #[.pointer (some ⟨w.heap.size, 0, none⟩)]] 55)).heap[w.heap.size + 1]? = some zeroScr := by
    repeat (first | (refine heap_new _ ?_; (simp; done)) | refine heap_old ?_)
  have h2 : ((((w.alloc (.cells #[.string s] 9)).alloc zeroScr).alloc zeroScr).alloc (.cells #[.func (.func 10) #[] #[.pointer (some ⟨w.heap.size, 0, none⟩)]] 55)).heap[w.heap.size + 1 + 1]? = some zeroScr := by
    repeat (first | (refine heap_new _ ?_; (simp; done)) | refine heap_old ?_)
  have h3 : ((((w.alloc (.cells #[.string s] 9)).alloc zeroScr).alloc zeroScr).alloc (.cells #[.func (.func 10) #[] #[.pointer (some ⟨w.heap.size, 0, none⟩)]] 55)).heap[w.heap.size + 1 + 1 + 1]? = some (.cells #[.func (.func 10) #[] #[.pointer (some ⟨w.heap.size, 0, none⟩)]] 55) := by
    repeat (first | (refine heap_new _ ?_; (simp; done)) | refine heap_old ?_)
  have hc : ∀ i u, (#[.int .i64 0, .int .u64 0, .int .i64 0, .int .i64 0, .int .i64 0, .int .i64 0, .int .i64 0, .string ⟨#[]⟩, .slice none 0 0, .slice none 0 0] : Array Value)[i]? = some u →
      ((((w.alloc (.cells #[.string s] 9)).alloc zeroScr).alloc zeroScr).alloc (.cells #[.func (.func 10) #[] #[.pointer (some ⟨w.heap.size, 0, none⟩)]] 55)).cell? ⟨w.heap.size + 1 + 1, i, none⟩ = some u := by
    intro i u hu
    rw [cell_of_row _ _ i _ _ _ h2]; exact hu
  refine ⟨⟨?_, ⟨_, h0⟩⟩, h1, ⟨⟨_, h2⟩, by omega, hc 0 _ rfl, hc 1 _ rfl, hc 2 _ rfl, hc 3 _ rfl, hc 4 _ rfl, hc 5 _ rfl, hc 6 _ rfl, hc 7 _ rfl, hc 8 _ rfl, hc 9 _ rfl, ⟨[], World.ownsRow_nil _ _ _ _, rfl, fun j hj => absurd hj (by simp)⟩, World.ownsRow_nil _ _ _ _⟩, ?_, ?_⟩
  · rw [cell_of_row _ _ 0 _ _ _ h0]; rfl
  · exact h3
  · exact ((((Below.refl _ _).alloc (Nat.le_refl _) _).alloc (by simp) _).alloc (by simp; omega) _).alloc (by simp; omega) _

/-- A program's row that is being made: the operations xs so far, in blocks from lim on. -/
def CurRow (W : World) (lim : Nat) (v : Value) (xs : List OpV) : Prop :=
  W.ownsRow lim 40 7 v xs.length (xs.flatMap fun o => [.int .u8 o.kind, .int .i64 o.slot, .int .i64 o.pos, .int .i64 o.num, .int .u32 o.id, .int .u8 o.grav, .string o.text])
/-- The operation that is being read, in a block of its own. -/
structure OpBox (W : World) (ob : Nat) (x : OpV) : Prop where
  elem : ElemT W ob 40
  op : OpAt W ob 0 x
theorem OpBox.keep {W W' : World} {ob : Nat} {x : OpV} (h : OpBox W ob x) (hk : W'.heap[ob]? = W.heap[ob]?) : OpBox W' ob x := ⟨h.elem.keep hk, h.op.keep hk⟩
end Go.Proofs.YtbjadgggpkbjmaaGreat
namespace Go.Proofs.YtbjadgggpkbjmaaGreat
open Go.RowKit

structure FSt (w0 W : World) (B : Nat) (s : ByteArray) (lim : Nat) (cf : CfgV) (v8 v9 : Value) (ps : List (List OpV)) (ks : List Int) (ob : Nat) (o : OpV) (v7 : Value) (xs : List OpV) (A : Option Addr) (fs : List Int) : Prop where
  rd : RdSt w0 W B s lim cf v8 v9 ps ks
  op : OpBox W ob o
  obl : lim ≤ ob
  cur : CurRow W lim v7 xs
  ne : v7.ownBlock ≠ some ob
  u8 : U8s W A fs
  B4 : B + 1 + 1 + 1 + 1 ≤ lim

theorem U8s.keep {W W' : World} {A : Option Addr} {fs : List Int} (h : U8s W A fs) (hk : ∀ q, ElemT W q 60 → W'.heap[q]? = W.heap[q]?) : U8s W' A fs := fun hp => by
  obtain ⟨b, o, e, ht, hc⟩ := h hp
  exact ⟨b, o, e, ht.keep (hk b ht), fun j hj => (World.cell?_of_block (a := ⟨b, o + j, none⟩) (hk b ht)).trans (hc j hj)⟩
theorem CurRow.kept {W W' : World} {lim : Nat} {v : Value} {xs : List OpV} {row : Option Nat} (h : CurRow W lim v xs) (hg : W.grownBy W' row) (hr : ∀ q, row = some q → v.ownBlock ≠ some q) : CurRow W' lim v xs := by
  refine World.ownsRow.kept h hg ?_
  cases row with
  | none => by_cases e : v.ownBlock = none
            · exact .inl e
            · exact .inr e
  | some q => exact .inr (hr q rfl)

section
variable {w0 W W' : World} {B lim ob : Nat} {s s' : ByteArray} {cf : CfgV} {v8 v9 v7 : Value} {ps : List (List OpV)} {ks : List Int} {o : OpV} {xs : List OpV} {A : Option Addr} {fs : List Int}
theorem FSt.next (h : FSt w0 W B s lim cf v8 v9 ps ks ob o v7 xs A fs) (hs : StrBox W' B 9 s') (hg : W.grownBy W' (some B)) : FSt w0 W' B s' lim cf v8 v9 ps ks ob o v7 xs A fs := by
  have hob := h.op.elem
  have h9 := h.rd.str.elem
  refine ⟨h.rd.next hs hg, h.op.keep (hg.block ob hob.lt (fun e => hob.ne h9 (by decide) (by injection e))), h.obl, h.cur.kept hg ?_, h.ne, h.u8.keep fun q hq => hg.block q hq.lt (fun e => hq.ne h9 (by decide) (by injection e)), h.B4⟩
  intro q e hv
  injection e with e
  subst e
  exact (own_elem h.cur hv).ne h9 (by decide) rfl
theorem FSt.setRd (h : FSt w0 W B s lim cf v8 v9 ps ks ob o v7 xs A fs) (i : Nat) (v : Value) : RdSt w0 (W.setCell ⟨ob, i, none⟩ v) B s lim cf v8 v9 ps ks ∧ CurRow (W.setCell ⟨ob, i, none⟩ v) lim v7 xs ∧ U8s (W.setCell ⟨ob, i, none⟩ v) A fs := by
  have hob := h.op.elem
  have hlt := h.B4
  have hl2 := h.obl
  refine ⟨h.rd.other (Mild.set v lim hob (.inr ⟨rfl, h.obl⟩)) fun q hq => Below.heap_setCell _ _ _ _ (by show q ≠ ob; omega), h.cur.kept (set_grown W ob i v) (fun q e => by injection e with e; subst e; exact h.ne), h.u8.keep fun q hq => Below.heap_setCell _ _ _ _ (hq.ne hob (by decide))⟩
theorem FSt.set1 (h : FSt w0 W B s lim cf v8 v9 ps ks ob o v7 xs A fs) (x : Int) : FSt w0 (W.setCell ⟨ob, 1, none⟩ (.int .i64 x)) B s lim cf v8 v9 ps ks ob { o with slot := x } v7 xs A fs := by
  obtain ⟨r1, r2, r3⟩ := h.setRd 1 (.int .i64 x)
  exact ⟨r1, ⟨h.op.elem.set _ _ rfl, by have := (set_cell_ne (w := W) (xb := ob) (i := 1) (j := 0) (.int .i64 x) (by decide)).trans (by simpa using h.op.op.c0); simpa using this, by have := set_cell_at (i := 1) (.int .i64 x) (by simpa using h.op.op.c1); simpa using this, by have := (set_cell_ne (w := W) (xb := ob) (i := 1) (j := 2) (.int .i64 x) (by decide)).trans (by simpa using h.op.op.c2); simpa using this, by have := (set_cell_ne (w := W) (xb := ob) (i := 1) (j := 3) (.int .i64 x) (by decide)).trans (by simpa using h.op.op.c3); simpa using this, by have := (set_cell_ne (w := W) (xb := ob) (i := 1) (j := 4) (.int .i64 x) (by decide)).trans (by simpa using h.op.op.c4); simpa using this, by have := (set_cell_ne (w := W) (xb := ob) (i := 1) (j := 5) (.int .i64 x) (by decide)).trans (by simpa using h.op.op.c5); simpa using this, by have := (set_cell_ne (w := W) (xb := ob) (i := 1) (j := 6) (.int .i64 x) (by decide)).trans (by simpa using h.op.op.c6); simpa using this⟩, h.obl, r2, h.ne, r3, h.B4⟩
theorem FSt.set2 (h : FSt w0 W B s lim cf v8 v9 ps ks ob o v7 xs A fs) (x : Int) : FSt w0 (W.setCell ⟨ob, 2, none⟩ (.int .i64 x)) B s lim cf v8 v9 ps ks ob { o with pos := x } v7 xs A fs := by
  obtain ⟨r1, r2, r3⟩ := h.setRd 2 (.int .i64 x)
  exact ⟨r1, ⟨h.op.elem.set _ _ rfl, by have := (set_cell_ne (w := W) (xb := ob) (i := 2) (j := 0) (.int .i64 x) (by decide)).trans (by simpa using h.op.op.c0); simpa using this, by have := (set_cell_ne (w := W) (xb := ob) (i := 2) (j := 1) (.int .i64 x) (by decide)).trans (by simpa using h.op.op.c1); simpa using this, by have := set_cell_at (i := 2) (.int .i64 x) (by simpa using h.op.op.c2); simpa using this, by have := (set_cell_ne (w := W) (xb := ob) (i := 2) (j := 3) (.int .i64 x) (by decide)).trans (by simpa using h.op.op.c3); simpa using this, by have := (set_cell_ne (w := W) (xb := ob) (i := 2) (j := 4) (.int .i64 x) (by decide)).trans (by simpa using h.op.op.c4); simpa using this, by have := (set_cell_ne (w := W) (xb := ob) (i := 2) (j := 5) (.int .i64 x) (by decide)).trans (by simpa using h.op.op.c5); simpa using this, by have := (set_cell_ne (w := W) (xb := ob) (i := 2) (j := 6) (.int .i64 x) (by decide)).trans (by simpa using h.op.op.c6); simpa using this⟩, h.obl, r2, h.ne, r3, h.B4⟩
theorem FSt.set3 (h : FSt w0 W B s lim cf v8 v9 ps ks ob o v7 xs A fs) (x : Int) : FSt w0 (W.setCell ⟨ob, 3, none⟩ (.int .i64 x)) B s lim cf v8 v9 ps ks ob { o with num := x } v7 xs A fs := by
  obtain ⟨r1, r2, r3⟩ := h.setRd 3 (.int .i64 x)
  exact ⟨r1, ⟨h.op.elem.set _ _ rfl, by have := (set_cell_ne (w := W) (xb := ob) (i := 3) (j := 0) (.int .i64 x) (by decide)).trans (by simpa using h.op.op.c0); simpa using this, by have := (set_cell_ne (w := W) (xb := ob) (i := 3) (j := 1) (.int .i64 x) (by decide)).trans (by simpa using h.op.op.c1); simpa using this, by have := (set_cell_ne (w := W) (xb := ob) (i := 3) (j := 2) (.int .i64 x) (by decide)).trans (by simpa using h.op.op.c2); simpa using this, by have := set_cell_at (i := 3) (.int .i64 x) (by simpa using h.op.op.c3); simpa using this, by have := (set_cell_ne (w := W) (xb := ob) (i := 3) (j := 4) (.int .i64 x) (by decide)).trans (by simpa using h.op.op.c4); simpa using this, by have := (set_cell_ne (w := W) (xb := ob) (i := 3) (j := 5) (.int .i64 x) (by decide)).trans (by simpa using h.op.op.c5); simpa using this, by have := (set_cell_ne (w := W) (xb := ob) (i := 3) (j := 6) (.int .i64 x) (by decide)).trans (by simpa using h.op.op.c6); simpa using this⟩, h.obl, r2, h.ne, r3, h.B4⟩
theorem FSt.set4 (h : FSt w0 W B s lim cf v8 v9 ps ks ob o v7 xs A fs) (x : Int) : FSt w0 (W.setCell ⟨ob, 4, none⟩ (.int .u32 x)) B s lim cf v8 v9 ps ks ob { o with id := x } v7 xs A fs := by
  obtain ⟨r1, r2, r3⟩ := h.setRd 4 (.int .u32 x)
  exact ⟨r1, ⟨h.op.elem.set _ _ rfl, by have := (set_cell_ne (w := W) (xb := ob) (i := 4) (j := 0) (.int .u32 x) (by decide)).trans (by simpa using h.op.op.c0); simpa using this, by have := (set_cell_ne (w := W) (xb := ob) (i := 4) (j := 1) (.int .u32 x) (by decide)).trans (by simpa using h.op.op.c1); simpa using this, by have := (set_cell_ne (w := W) (xb := ob) (i := 4) (j := 2) (.int .u32 x) (by decide)).trans (by simpa using h.op.op.c2); simpa using this, by have := (set_cell_ne (w := W) (xb := ob) (i := 4) (j := 3) (.int .u32 x) (by decide)).trans (by simpa using h.op.op.c3); simpa using this, by have := set_cell_at (i := 4) (.int .u32 x) (by simpa using h.op.op.c4); simpa using this, by have := (set_cell_ne (w := W) (xb := ob) (i := 4) (j := 5) (.int .u32 x) (by decide)).trans (by simpa using h.op.op.c5); simpa using this, by have := (set_cell_ne (w := W) (xb := ob) (i := 4) (j := 6) (.int .u32 x) (by decide)).trans (by simpa using h.op.op.c6); simpa using this⟩, h.obl, r2, h.ne, r3, h.B4⟩
theorem FSt.set5 (h : FSt w0 W B s lim cf v8 v9 ps ks ob o v7 xs A fs) (x : Int) : FSt w0 (W.setCell ⟨ob, 5, none⟩ (.int .u8 x)) B s lim cf v8 v9 ps ks ob { o with grav := x } v7 xs A fs := by
  obtain ⟨r1, r2, r3⟩ := h.setRd 5 (.int .u8 x)
  exact ⟨r1, ⟨h.op.elem.set _ _ rfl, by have := (set_cell_ne (w := W) (xb := ob) (i := 5) (j := 0) (.int .u8 x) (by decide)).trans (by simpa using h.op.op.c0); simpa using this, by have := (set_cell_ne (w := W) (xb := ob) (i := 5) (j := 1) (.int .u8 x) (by decide)).trans (by simpa using h.op.op.c1); simpa using this, by have := (set_cell_ne (w := W) (xb := ob) (i := 5) (j := 2) (.int .u8 x) (by decide)).trans (by simpa using h.op.op.c2); simpa using this, by have := (set_cell_ne (w := W) (xb := ob) (i := 5) (j := 3) (.int .u8 x) (by decide)).trans (by simpa using h.op.op.c3); simpa using this, by have := (set_cell_ne (w := W) (xb := ob) (i := 5) (j := 4) (.int .u8 x) (by decide)).trans (by simpa using h.op.op.c4); simpa using this, by have := set_cell_at (i := 5) (.int .u8 x) (by simpa using h.op.op.c5); simpa using this, by have := (set_cell_ne (w := W) (xb := ob) (i := 5) (j := 6) (.int .u8 x) (by decide)).trans (by simpa using h.op.op.c6); simpa using this⟩, h.obl, r2, h.ne, r3, h.B4⟩
theorem FSt.set6 (h : FSt w0 W B s lim cf v8 v9 ps ks ob o v7 xs A fs) (x : ByteArray) : FSt w0 (W.setCell ⟨ob, 6, none⟩ (.string x)) B s lim cf v8 v9 ps ks ob { o with text := x } v7 xs A fs := by
  obtain ⟨r1, r2, r3⟩ := h.setRd 6 (.string x)
  exact ⟨r1, ⟨h.op.elem.set _ _ rfl, by have := (set_cell_ne (w := W) (xb := ob) (i := 6) (j := 0) (.string x) (by decide)).trans (by simpa using h.op.op.c0); simpa using this, by have := (set_cell_ne (w := W) (xb := ob) (i := 6) (j := 1) (.string x) (by decide)).trans (by simpa using h.op.op.c1); simpa using this, by have := (set_cell_ne (w := W) (xb := ob) (i := 6) (j := 2) (.string x) (by decide)).trans (by simpa using h.op.op.c2); simpa using this, by have := (set_cell_ne (w := W) (xb := ob) (i := 6) (j := 3) (.string x) (by decide)).trans (by simpa using h.op.op.c3); simpa using this, by have := (set_cell_ne (w := W) (xb := ob) (i := 6) (j := 4) (.string x) (by decide)).trans (by simpa using h.op.op.c4); simpa using this, by have := (set_cell_ne (w := W) (xb := ob) (i := 6) (j := 5) (.string x) (by decide)).trans (by simpa using h.op.op.c5); simpa using this, by have := set_cell_at (i := 6) (.string x) (by simpa using h.op.op.c6); simpa using this⟩, h.obl, r2, h.ne, r3, h.B4⟩
end
end Go.Proofs.YtbjadgggpkbjmaaGreat
namespace Go.Proofs.YtbjadgggpkbjmaaGreat
open Go.RowKit

abbrev opObj (k : Int) : Obj := .cells #[.int .u8 k, .int .i64 0, .int .i64 0, .int .i64 0, .int .u32 0, .int .u8 0, .string ⟨#[]⟩] 40
theorem fst_init {w0 W W' : World} {B lim : Nat} {s : ByteArray} {cf : CfgV} {v8 v9 v7 : Value} {ps : List (List OpV)} {ks : List Int} {k : Int} {xs : List OpV} {A : Option Addr} {fs : List Int}
    (h : RdSt w0 W B s lim cf v8 v9 ps ks) (hc : CurRow W lim v7 xs) (hl : lim ≤ W.heap.size) (h4 : B + 1 + 1 + 1 + 1 ≤ lim) (hu : U8s W' A fs) (hg : (W.alloc (opObj k)).grownBy W' none) :
    FSt w0 W' B s lim cf v8 v9 ps ks W.heap.size (op0 k) v7 xs A fs := by
  have hn : (W.alloc (opObj k)).heap[W.heap.size]? = some (opObj k) := heap_alloc_new W _
  have hn' : W'.heap[W.heap.size]? = some (opObj k) := (hg.block _ (by simp) (by simp)).trans hn
  have hm : Mild W W' lim := ⟨hg.os, hg.tape, hg.output, Nat.le_trans (by simp) hg.size, fun q t ht _ _ => (hg.block q (by have := ht.lt; simp; omega) (by simp)).trans (Below.heap_alloc _ _ _ ht.lt)⟩
  have hgW : W.grownBy W' none := ⟨hg.os, hg.tape, hg.output, Nat.le_trans (by simp) hg.size, fun q hq _ => (hg.block q (by simp; omega) (by simp)).trans (Below.heap_alloc _ _ _ hq)⟩
  have h3 := h.lt3
  refine ⟨h.other hm fun q hq => hgW.block q (by omega) (by simp), ⟨⟨_, hn'⟩, ?_⟩, hl, hc.kept hgW (fun q e => by cases e), ?_, hu, h4⟩
  · have g : ∀ i u, (#[.int .u8 k, .int .i64 0, .int .i64 0, .int .i64 0, .int .u32 0, .int .u8 0, .string ⟨#[]⟩] : Array Value)[i]? = some u → W'.cell? ⟨W.heap.size, i, none⟩ = some u := fun i u hu => by
      rw [cell_of_row _ _ i _ _ _ hn']; exact hu
    exact ⟨g 0 _ rfl, by rw [Nat.zero_add]; exact g 1 _ rfl, by rw [Nat.zero_add]; exact g 2 _ rfl, by rw [Nat.zero_add]; exact g 3 _ rfl, by rw [Nat.zero_add]; exact g 4 _ rfl, by rw [Nat.zero_add]; exact g 5 _ rfl, by rw [Nat.zero_add]; exact g 6 _ rfl⟩
  · intro e
    have := (World.ownsRow.lt hc _ e).2
    omega

theorem take_succ_getD (fs : List Int) (q : Nat) (h : q < fs.length) : fs.take (q + 1) = fs.take q ++ [fs.getD q 0] := by
  rw [List.take_succ_eq_append_getElem h]
  simp [List.getD_eq_getElem?_getD, h]
theorem foldF_take (fs : List Int) (q : Nat) (h : q < fs.length) (x : OpV × ByteArray) : foldF (fs.take (q + 1)) x = stepF (fs.getD q 0) (foldF (fs.take q) x) := by
  rw [take_succ_getD fs q h, foldF_snoc]
theorem getD_mem_bd (k : Int) (q : Nat) (h : q < (fieldsOf k).length) : 0 ≤ (fieldsOf k).getD q 0 ∧ (fieldsOf k).getD q 0 ≤ 5 := by
  have hb := (fieldsOf_bd k).2 ((fieldsOf k).getD q 0) (by simp [List.getD_eq_getElem?_getD, h])
  exact hb

def opCells (o : OpV) : List Value := [.int .u8 o.kind, .int .i64 o.slot, .int .i64 o.pos, .int .i64 o.num, .int .u32 o.id, .int .u8 o.grav, .string o.text]
theorem op_info : (Tryz.prog.info? 40).map (fun i => (i.zero, i.size, i.bytes)) = some (some (.agg #[.int .u8 0, .int .i64 0, .int .i64 0, .int .i64 0, .int .u32 0, .int .u8 0, .string ⟨#[]⟩]), 7, 56) := by kernel_rfl
theorem slice_info : (Tryz.prog.info? 41).map (fun i => (i.zero, i.size, i.bytes)) = some (some (.slice none 0 0), 1, 24) := by kernel_rfl
theorem news_op (W : World) (o : OpV) (t : TypeId) : ∀ j u, (opCells o)[j]? = some u → (W.alloc (.cells #[.int .u8 o.kind, .int .i64 o.slot, .int .i64 o.pos, .int .i64 o.num, .int .u32 o.id, .int .u8 o.grav, .string o.text] t)).cell? ((⟨W.heap.size, 0, none⟩ : Addr).add j) = some u := by
  intro j u hj
  have e : (⟨W.heap.size, 0, none⟩ : Addr).add j = ⟨W.heap.size, j, none⟩ := by unfold Addr.add; by_cases h0 : j = 0 <;> simp [h0]
  rw [e, World.cell?_alloc_at _ _ _ _ rfl]
  simpa [opCells] using hj
theorem one_op (o : OpV) : ∀ u ∈ opCells o, u.oneCell' = true := by
  intro u hu
  simp only [opCells, List.mem_cons, List.not_mem_nil, or_false] at hu
  rcases hu with rfl | rfl | rfl | rfl | rfl | rfl | rfl <;> rfl
theorem cur_flat (xs : List OpV) : (xs.flatMap fun o => [Value.int .u8 o.kind, .int .i64 o.slot, .int .i64 o.pos, .int .i64 o.num, .int .u32 o.id, .int .u8 o.grav, .string o.text]) = xs.flatMap opCells := rfl
end Go.Proofs.YtbjadgggpkbjmaaGreat
namespace Go.Proofs.YtbjadgggpkbjmaaGreat
open Go.RowKit

def firstLoop : Code → Option Code
  | .loop c => some c
  | .seq a b => match firstLoop a with
    | some c => some c
    | none => firstLoop b
  | .block _ c => firstLoop c
  | .scope c => firstLoop c
  | .cond _ a b => match firstLoop a with
    | some c => some c
    | none => firstLoop b
  | _ => none
noncomputable def body12a : Code := ((Tryz.f4.body.bind firstLoop).getD .skip)
noncomputable def body12b : Code := ((firstLoop body12a).getD .skip)
noncomputable def body12c : Code := ((firstLoop body12b).getD .skip)

set_option maxHeartbeats 4000000 in
set_option maxRecDepth 100000 in
theorem fieldsLoop (w W : World) (B ob lim2 nf c : Nat) (A : Option Addr) (kd : Int) (st : ByteArray) (cf : CfgV) (v8 v7 : Value) (ps : List (List OpV)) (xs : List OpV)
    (c0 c1 c2 c3 c6 c9 c11 c12 c13 c14 c15 c16 c17 c18 c19 c20 c21 c22 c23 c24 c25 c26 c27 c28 c29 c30 c31 c32 c33 c34 c35 c36 c37 c38 c39 c40 c41 c42 c43 c44 c45 c46 c47 c48 c49 c50 c51 c52 c53 c54 c55 c56 c57 c58 c59 c60 c61 c62 c63 c64 c65 c66 c67 c68 c69 c70 c71 c72 c73 c74 c75 c76 c115 c116 c117 c118 c119 c120 c121 c122 c123 c124 c125 c126 c127 c128 c129 c130 c131 c132 c133 c134 c135 c136 c137 c138 c139 c140 c141 c142 c143 c144 c145 c146 c147 : Value) (u10 u80 u81 u82 u83 u84 u85 u86 u87 u88 u89 u90 u91 u92 u93 u94 u95 u96 u97 u98 u99 u100 u101 u102 u103 u104 u105 u106 u107 u108 u109 u110 u111 u112 u113 u114 : Value) (Q : Exit → Act → World → Prop)
    (hx : ∀ (u10 u80 u81 u82 u83 u84 u85 u86 u87 u88 u89 u90 u91 u92 u93 u94 u95 u96 u97 u98 u99 u100 u101 u102 u103 u104 u105 u106 u107 u108 u109 u110 u111 u112 u113 u114 : Value) (W' : World), Hid (FSt w W' B (foldF (fieldsOf kd) (op0 kd, st)).2 lim2 cf v8 (.slice none 0 0) ps [] ob (foldF (fieldsOf kd) (op0 kd, st)).1 v7 xs A (fieldsOf kd)) → Q (.exit 4) ⟨List.toArray (c0 :: c1 :: c2 :: c3 :: (.pointer (some ⟨B + 1 + 1 + 1, 0, none⟩)) :: (.func (.func 11) #[] #[.pointer (some ⟨B + 1 + 1 + 1, 0, none⟩)]) :: c6 :: v7 :: (.pointer (some ⟨ob, 0, none⟩)) :: c9 :: u10 :: c11 :: c12 :: c13 :: c14 :: c15 :: c16 :: c17 :: c18 :: c19 :: c20 :: c21 :: c22 :: c23 :: c24 :: c25 :: c26 :: c27 :: c28 :: c29 :: c30 :: c31 :: c32 :: c33 :: c34 :: c35 :: c36 :: c37 :: c38 :: c39 :: c40 :: c41 :: c42 :: c43 :: c44 :: c45 :: c46 :: c47 :: c48 :: c49 :: c50 :: c51 :: c52 :: c53 :: c54 :: c55 :: c56 :: c57 :: c58 :: c59 :: c60 :: c61 :: c62 :: c63 :: c64 :: c65 :: c66 :: c67 :: c68 :: c69 :: c70 :: c71 :: c72 :: c73 :: c74 :: c75 :: c76 :: (.slice A nf c) :: (.int .i64 nf) :: (.int .i64 nf) :: u80 :: u81 :: u82 :: u83 :: u84 :: u85 :: u86 :: u87 :: u88 :: u89 :: u90 :: u91 :: u92 :: u93 :: u94 :: u95 :: u96 :: u97 :: u98 :: u99 :: u100 :: u101 :: u102 :: u103 :: u104 :: u105 :: u106 :: u107 :: u108 :: u109 :: u110 :: u111 :: u112 :: u113 :: u114 :: c115 :: c116 :: c117 :: c118 :: c119 :: c120 :: c121 :: c122 :: c123 :: c124 :: c125 :: c126 :: c127 :: c128 :: c129 :: c130 :: c131 :: c132 :: c133 :: c134 :: c135 :: c136 :: c137 :: c138 :: c139 :: c140 :: c141 :: c142 :: c143 :: c144 :: c145 :: c146 :: c147 :: []), []⟩ W')
    (HF : Hid (FSt w W B st lim2 cf v8 (.slice none 0 0) ps [] ob (op0 kd) v7 xs A (fieldsOf kd))) (hst : st.size ≤ 3000) (HNF : Hid ((fieldsOf kd).length = nf)) :
    Code.wp Tryz.prog (Code.loop body12c) Q ⟨List.toArray (c0 :: c1 :: c2 :: c3 :: (.pointer (some ⟨B + 1 + 1 + 1, 0, none⟩)) :: (.func (.func 11) #[] #[.pointer (some ⟨B + 1 + 1 + 1, 0, none⟩)]) :: c6 :: v7 :: (.pointer (some ⟨ob, 0, none⟩)) :: c9 :: u10 :: c11 :: c12 :: c13 :: c14 :: c15 :: c16 :: c17 :: c18 :: c19 :: c20 :: c21 :: c22 :: c23 :: c24 :: c25 :: c26 :: c27 :: c28 :: c29 :: c30 :: c31 :: c32 :: c33 :: c34 :: c35 :: c36 :: c37 :: c38 :: c39 :: c40 :: c41 :: c42 :: c43 :: c44 :: c45 :: c46 :: c47 :: c48 :: c49 :: c50 :: c51 :: c52 :: c53 :: c54 :: c55 :: c56 :: c57 :: c58 :: c59 :: c60 :: c61 :: c62 :: c63 :: c64 :: c65 :: c66 :: c67 :: c68 :: c69 :: c70 :: c71 :: c72 :: c73 :: c74 :: c75 :: c76 :: (.slice A nf c) :: (.int .i64 nf) :: (.int .i64 (0 : Int)) :: u80 :: u81 :: u82 :: u83 :: u84 :: u85 :: u86 :: u87 :: u88 :: u89 :: u90 :: u91 :: u92 :: u93 :: u94 :: u95 :: u96 :: u97 :: u98 :: u99 :: u100 :: u101 :: u102 :: u103 :: u104 :: u105 :: u106 :: u107 :: u108 :: u109 :: u110 :: u111 :: u112 :: u113 :: u114 :: c115 :: c116 :: c117 :: c118 :: c119 :: c120 :: c121 :: c122 :: c123 :: c124 :: c125 :: c126 :: c127 :: c128 :: c129 :: c130 :: c131 :: c132 :: c133 :: c134 :: c135 :: c136 :: c137 :: c138 :: c139 :: c140 :: c141 :: c142 :: c143 :: c144 :: c145 :: c146 :: c147 :: []), []⟩ W := by
  have hfl : nf ≤ 3 := by rw [← HNF.out]; exact (fieldsOf_bd kd).1
  have HX := Lib.hid hx
  clear hx
  conv => arg 2; arg 1; whnf
  go_loopw [79] (fun i wr => ∃ q : Nat, q ≤ nf ∧ i = .int .i64 q ∧ Hid (FSt w wr B (foldF ((fieldsOf kd).take q) (op0 kd, st)).2 lim2 cf v8 (.slice none 0 0) ps [] ob (foldF ((fieldsOf kd).take q) (op0 kd, st)).1 v7 xs A (fieldsOf kd))) (fun i _ => nf - (intOf i).toNat)
  case atStart => exact ⟨0, Nat.zero_le _, rfl, HF.out⟩
  case round =>
    obtain ⟨q, hq, rfl, HG⟩ := hrel
    clear HF
    by_cases hql : q < nf
    · have HFT := Lib.hid (foldF_take (fieldsOf kd) q (by rw [HNF.out]; exact hql) (op0 kd, st))
      have hsy := Nat.le_trans (foldF_size ((fieldsOf kd).take q) (op0 kd, st)) hst
      generalize foldF ((fieldsOf kd).take q) (op0 kd, st) = y at *
      have hfb := getD_mem_bd kd q (by rw [HNF.out]; exact hql)
      obtain ⟨bb, oo, rfl, hte, hcs⟩ := HG.out.u8 (by rw [HNF.out]; omega)
      have hcq := hcs q (by rw [HNF.out]; exact hql)
      clear hte hcs HX
      generalize hgf : (fieldsOf kd).getD q 0 = f at *
      have HGF := Lib.hid hgf
      clear hgf
      have hf6 : f = 0 ∨ f = 1 ∨ f = 2 ∨ f = 3 ∨ f = 4 ∨ f = 5 := by omega
      clear hfb
      have n10 := HG.out.rd.fn
      rcases hf6 with rfl | rfl | rfl | rfl | rfl | rfl
      · have HE : Hid (foldF ((fieldsOf kd).take (q + 1)) (op0 kd, st) = ({ y.1 with slot := hd y.2 % 4 }, tl y.2)) := by show _ = _; rw [HFT.out]; rfl
        clear HFT
        go_wp2_with fail
        refine (nextFn 4 B 9 y.2 _ HG.out.rd.str hsy (by omega) (by omega)).mono ?_
        rintro e w11 ⟨rfl, hb, hg⟩
        have HG1 := Lib.hid (HG.out.next hb hg)
        clear n10 hb hg HG
        have b0 := Int.emod_nonneg (hd y.2) (show (4 : Int) ≠ 0 by omega)
        have b1 := Int.emod_lt_of_pos (hd y.2) (show (0 : Int) < 4 by omega)
        generalize hd y.2 % 4 = x at *
        have n11 := HG1.out.op.op.c1
        have f11 := HG1.out.op.elem.frozen 1
        rw [Nat.zero_add] at n11
        have HG2 := Lib.hid (HG1.out.set1 x)
        clear HG1
        go_wp2_with fail
        go_roundw
        case rel => exact ⟨q + 1, by omega, by go_num, by rw [HE.out]; exact HG2⟩
        case measure => simp [intOf]; omega
      · have HE : Hid (foldF ((fieldsOf kd).take (q + 1)) (op0 kd, st) = ({ y.1 with pos := hd y.2 % 64 }, tl y.2)) := by show _ = _; rw [HFT.out]; rfl
        clear HFT
        go_wp2_with fail
        refine (nextFn 64 B 9 y.2 _ HG.out.rd.str hsy (by omega) (by omega)).mono ?_
        rintro e w11 ⟨rfl, hb, hg⟩
        have HG1 := Lib.hid (HG.out.next hb hg)
        clear n10 hb hg HG
        have b0 := Int.emod_nonneg (hd y.2) (show (64 : Int) ≠ 0 by omega)
        have b1 := Int.emod_lt_of_pos (hd y.2) (show (0 : Int) < 64 by omega)
        generalize hd y.2 % 64 = x at *
        have n11 := HG1.out.op.op.c2
        have f11 := HG1.out.op.elem.frozen 2
        rw [Nat.zero_add] at n11
        have HG2 := Lib.hid (HG1.out.set2 x)
        clear HG1
        go_wp2_with fail
        go_roundw
        case rel => exact ⟨q + 1, by omega, by go_num, by rw [HE.out]; exact HG2⟩
        case measure => simp [intOf]; omega
      · have HE : Hid (foldF ((fieldsOf kd).take (q + 1)) (op0 kd, st) = ({ y.1 with num := hd y.2 % 32 }, tl y.2)) := by show _ = _; rw [HFT.out]; rfl
        clear HFT
        go_wp2_with fail
        refine (nextFn 32 B 9 y.2 _ HG.out.rd.str hsy (by omega) (by omega)).mono ?_
        rintro e w11 ⟨rfl, hb, hg⟩
        have HG1 := Lib.hid (HG.out.next hb hg)
        clear n10 hb hg HG
        have b0 := Int.emod_nonneg (hd y.2) (show (32 : Int) ≠ 0 by omega)
        have b1 := Int.emod_lt_of_pos (hd y.2) (show (0 : Int) < 32 by omega)
        generalize hd y.2 % 32 = x at *
        have n11 := HG1.out.op.op.c3
        have f11 := HG1.out.op.elem.frozen 3
        rw [Nat.zero_add] at n11
        have HG2 := Lib.hid (HG1.out.set3 x)
        clear HG1
        go_wp2_with fail
        go_roundw
        case rel => exact ⟨q + 1, by omega, by go_num, by rw [HE.out]; exact HG2⟩
        case measure => simp [intOf]; omega
      · have HE : Hid (foldF ((fieldsOf kd).take (q + 1)) (op0 kd, st) = ({ y.1 with id := hd y.2 % 4 }, tl y.2)) := by show _ = _; rw [HFT.out]; rfl
        clear HFT
        go_wp2_with fail
        refine (nextFn 4 B 9 y.2 _ HG.out.rd.str hsy (by omega) (by omega)).mono ?_
        rintro e w11 ⟨rfl, hb, hg⟩
        have HG1 := Lib.hid (HG.out.next hb hg)
        clear n10 hb hg HG
        have b0 := Int.emod_nonneg (hd y.2) (show (4 : Int) ≠ 0 by omega)
        have b1 := Int.emod_lt_of_pos (hd y.2) (show (0 : Int) < 4 by omega)
        generalize hd y.2 % 4 = x at *
        have n11 := HG1.out.op.op.c4
        have f11 := HG1.out.op.elem.frozen 4
        rw [Nat.zero_add] at n11
        have HG2 := Lib.hid (HG1.out.set4 x)
        clear HG1
        go_wp2_with fail
        go_roundw
        case rel => exact ⟨q + 1, by omega, by go_num, by rw [HE.out]; exact HG2⟩
        case measure => simp [intOf]; omega
      · have HE : Hid (foldF ((fieldsOf kd).take (q + 1)) (op0 kd, st) = ({ y.1 with grav := hd y.2 % 2 }, tl y.2)) := by show _ = _; rw [HFT.out]; rfl
        clear HFT
        go_wp2_with fail
        refine (nextFn 2 B 9 y.2 _ HG.out.rd.str hsy (by omega) (by omega)).mono ?_
        rintro e w11 ⟨rfl, hb, hg⟩
        have HG1 := Lib.hid (HG.out.next hb hg)
        clear n10 hb hg HG
        have b0 := Int.emod_nonneg (hd y.2) (show (2 : Int) ≠ 0 by omega)
        have b1 := Int.emod_lt_of_pos (hd y.2) (show (0 : Int) < 2 by omega)
        generalize hd y.2 % 2 = x at *
        have n11 := HG1.out.op.op.c5
        have f11 := HG1.out.op.elem.frozen 5
        rw [Nat.zero_add] at n11
        have HG2 := Lib.hid (HG1.out.set5 x)
        clear HG1
        go_wp2_with fail
        go_roundw
        case rel => exact ⟨q + 1, by omega, by go_num, by rw [HE.out]; exact HG2⟩
        case measure => simp [intOf]; omega
      · have HE : Hid (foldF ((fieldsOf kd).take (q + 1)) (op0 kd, st) = ({ y.1 with text := letT (tl y.2) (hd y.2 % 16).toNat }, tlN (tl y.2) (hd y.2 % 16).toNat)) := by show _ = _; rw [HFT.out]; rfl
        clear HFT
        go_wp2_with fail
        refine (wordFn 16 B (B + 1 + 1 + 1) 9 y.2 _ HG.out.rd.str HG.out.rd.fn (by omega) hsy (by omega) (by omega)).mono ?_
        rintro e w11 ⟨rfl, hb, hg⟩
        have HG1 := Lib.hid (HG.out.next hb hg)
        clear n10 hb hg HG
        generalize letT (tl y.2) (hd y.2 % 16).toNat = x at *
        have n11 := HG1.out.op.op.c6
        have f11 := HG1.out.op.elem.frozen 6
        rw [Nat.zero_add] at n11
        have HG2 := Lib.hid (HG1.out.set6 x)
        clear HG1
        go_wp2_with fail
        go_roundw
        case rel => exact ⟨q + 1, by omega, by go_num, by rw [HE.out]; exact HG2⟩
        case measure => simp [intOf]; omega
    · obtain rfl : q = nf := by omega
      go_wp2_with fail
      rw [List.take_of_length_le (by rw [HNF.out]; exact Nat.le_refl _)] at HG
      exact HX.out _ _ _ _ _ _ _ _ _ _ _ _ _ _ _ _ _ _ _ _ _ _ _ _ _ _ _ _ _ _ _ _ _ _ _ _ _ HG
end Go.Proofs.YtbjadgggpkbjmaaGreat
