/- Reading a script as the reference does: its states. -/
import Derived.Test.YtcicememljlafaaR5e
namespace Go.Proofs.Ytcicememljlafaa
open Go.RowKit

/-- The reference's Read, in the middle of its work: the result's block B, the reader's B + 1, the script's B + 1 + 1. -/
structure RrSt (w0 W : World) (B : Nat) (s : ByteArray) (lim : Nat) (cfg : CfgV) (v8 v9 : Value) (ps : List (List OpV)) (ks : List Int) : Prop where
  str : StrBox W (B + 1) 56 s
  res : W.heap[B]? = some zeroScr
  bld : Bld W B (B + 1 + 1) lim cfg v8 v9 ps ks
  bel : Below B w0 W
section
variable {w0 W W' : World} {B lim : Nat} {s s' : ByteArray} {cfg : CfgV} {v8 v9 : Value} {ps : List (List OpV)} {ks : List Int}
theorem RrSt.lt2 (h : RrSt w0 W B s lim cfg v8 v9 ps ks) : B + 1 + 1 < W.heap.size := h.bld.t.lt
theorem RrSt.next (h : RrSt w0 W B s lim cfg v8 v9 ps ks) (hs : StrBox W' (B + 1) 56 s') (hg : W.grownBy W' (some (B + 1))) : RrSt w0 W' B s' lim cfg v8 v9 ps ks := by
  have h3 := h.lt2
  exact ⟨hs, (hg.block B (by omega) (by intro e; injection e; omega)).trans h.res, h.bld.mild (Mild.grown hg fun q e => by injection e with e; subst e; exact ⟨56, h.str.elem, .inl (by decide)⟩),
    h.bel.trans ⟨hg.os, hg.tape, hg.output, hg.size, fun k hk => hg.block k (by omega) (by intro e; injection e; omega)⟩⟩
theorem RrSt.other (h : RrSt w0 W B s lim cfg v8 v9 ps ks) (hm : Mild W W' lim) (hk : ∀ q, q < B + 1 + 1 + 1 → W'.heap[q]? = W.heap[q]?) : RrSt w0 W' B s lim cfg v8 v9 ps ks :=
  ⟨h.str.grownN (hk (B + 1) (by omega)), (hk _ (by omega)).trans h.res, h.bld.mild hm, h.bel.trans ⟨hm.1, hm.2.1, hm.2.2.1, hm.2.2.2.1, fun k hk' => hk k (by omega)⟩⟩
theorem RrSt.alloc (h : RrSt w0 W B s lim cfg v8 v9 ps ks) (o : Obj) : RrSt w0 (W.alloc o) B s lim cfg v8 v9 ps ks := by
  have h3 := h.lt2
  exact h.other (Mild.alloc _ _ _) fun q hq => Below.heap_alloc _ _ _ (by omega)
theorem RrSt.drew (h : RrSt w0 W B s lim cfg v8 v9 ps ks) : RrSt w0 W.drew B s lim cfg v8 v9 ps ks := h.other (Mild.drewN W 1 lim) fun _ _ => rfl
theorem RrSt.more {lim' : Nat} (h : RrSt w0 W B s lim cfg v8 v9 ps ks) (hl : lim ≤ lim') : RrSt w0 W B s lim' cfg v8 v9 ps ks := ⟨h.str, h.res, h.bld.more hl, h.bel⟩
theorem RrSt.frx (h : RrSt w0 W B s lim cfg v8 v9 ps ks) (i : Nat) : W.frozen? ⟨B + 1 + 1, i, none⟩ = false := h.bld.t.frozen i
theorem RrSt.set0 (h : RrSt w0 W B s lim cfg v8 v9 ps ks) (x : Int) : RrSt w0 (W.setCell ⟨B + 1 + 1, 0, none⟩ (.int .i64 x)) B s lim { cfg with slots := x } v8 v9 ps ks :=
  ⟨h.str.grownN (Below.heap_setCell _ _ _ _ (by show B + 1 ≠ B + 1 + 1; omega)), (Below.heap_setCell _ _ _ _ (by show B ≠ B + 1 + 1; omega)).trans h.res, h.bld.set0 x, h.bel.setCell (by show B ≤ B + 1 + 1; omega) _⟩
theorem RrSt.set1 (h : RrSt w0 W B s lim cfg v8 v9 ps ks) (x : Int) : RrSt w0 (W.setCell ⟨B + 1 + 1, 1, none⟩ (.int .u64 x)) B s lim { cfg with gens := x } v8 v9 ps ks :=
  ⟨h.str.grownN (Below.heap_setCell _ _ _ _ (by show B + 1 ≠ B + 1 + 1; omega)), (Below.heap_setCell _ _ _ _ (by show B ≠ B + 1 + 1; omega)).trans h.res, h.bld.set1 x, h.bel.setCell (by show B ≤ B + 1 + 1; omega) _⟩
theorem RrSt.set2 (h : RrSt w0 W B s lim cfg v8 v9 ps ks) (x : Int) : RrSt w0 (W.setCell ⟨B + 1 + 1, 2, none⟩ (.int .i64 x)) B s lim { cfg with clients := x } v8 v9 ps ks :=
  ⟨h.str.grownN (Below.heap_setCell _ _ _ _ (by show B + 1 ≠ B + 1 + 1; omega)), (Below.heap_setCell _ _ _ _ (by show B ≠ B + 1 + 1; omega)).trans h.res, h.bld.set2 x, h.bel.setCell (by show B ≤ B + 1 + 1; omega) _⟩
theorem RrSt.set3 (h : RrSt w0 W B s lim cfg v8 v9 ps ks) (x : Int) : RrSt w0 (W.setCell ⟨B + 1 + 1, 3, none⟩ (.int .i64 x)) B s lim { cfg with readers := x } v8 v9 ps ks :=
  ⟨h.str.grownN (Below.heap_setCell _ _ _ _ (by show B + 1 ≠ B + 1 + 1; omega)), (Below.heap_setCell _ _ _ _ (by show B ≠ B + 1 + 1; omega)).trans h.res, h.bld.set3 x, h.bel.setCell (by show B ≤ B + 1 + 1; omega) _⟩
theorem RrSt.set4 (h : RrSt w0 W B s lim cfg v8 v9 ps ks) (x : Int) : RrSt w0 (W.setCell ⟨B + 1 + 1, 4, none⟩ (.int .i64 x)) B s lim { cfg with queue := x } v8 v9 ps ks :=
  ⟨h.str.grownN (Below.heap_setCell _ _ _ _ (by show B + 1 ≠ B + 1 + 1; omega)), (Below.heap_setCell _ _ _ _ (by show B ≠ B + 1 + 1; omega)).trans h.res, h.bld.set4 x, h.bel.setCell (by show B ≤ B + 1 + 1; omega) _⟩
theorem RrSt.set5 (h : RrSt w0 W B s lim cfg v8 v9 ps ks) (x : Int) : RrSt w0 (W.setCell ⟨B + 1 + 1, 5, none⟩ (.int .i64 x)) B s lim { cfg with batch := x } v8 v9 ps ks :=
  ⟨h.str.grownN (Below.heap_setCell _ _ _ _ (by show B + 1 ≠ B + 1 + 1; omega)), (Below.heap_setCell _ _ _ _ (by show B ≠ B + 1 + 1; omega)).trans h.res, h.bld.set5 x, h.bel.setCell (by show B ≤ B + 1 + 1; omega) _⟩
theorem RrSt.set6 (h : RrSt w0 W B s lim cfg v8 v9 ps ks) (x : Int) : RrSt w0 (W.setCell ⟨B + 1 + 1, 6, none⟩ (.int .i64 x)) B s lim { cfg with feed := x } v8 v9 ps ks :=
  ⟨h.str.grownN (Below.heap_setCell _ _ _ _ (by show B + 1 ≠ B + 1 + 1; omega)), (Below.heap_setCell _ _ _ _ (by show B ≠ B + 1 + 1; omega)).trans h.res, h.bld.set6 x, h.bel.setCell (by show B ≤ B + 1 + 1; omega) _⟩
theorem RrSt.set7 (h : RrSt w0 W B s lim cfg v8 v9 ps ks) (x : ByteArray) : RrSt w0 (W.setCell ⟨B + 1 + 1, 7, none⟩ (.string x)) B s lim { cfg with text := x } v8 v9 ps ks :=
  ⟨h.str.grownN (Below.heap_setCell _ _ _ _ (by show B + 1 ≠ B + 1 + 1; omega)), (Below.heap_setCell _ _ _ _ (by show B ≠ B + 1 + 1; omega)).trans h.res, h.bld.set7 x, h.bel.setCell (by show B ≤ B + 1 + 1; omega) _⟩
end
theorem rrst_init (w : World) (s : ByteArray) :
    RrSt w (((w.alloc zeroScr).alloc (.cells #[.string s, .bool false] 56)).alloc zeroScr) w.heap.size s w.heap.size cfg0 (.slice none 0 0) (.slice none 0 0) [] [] := by
  have h0 : (((w.alloc zeroScr).alloc (.cells #[.string s, .bool false] 56)).alloc zeroScr).heap[w.heap.size]? = some zeroScr := by
    repeat (first | (refine heap_new _ ?_; (simp; done)) | refine heap_old ?_)
  have h1 : (((w.alloc zeroScr).alloc (.cells #[.string s, .bool false] 56)).alloc zeroScr).heap[w.heap.size + 1]? = some (.cells #[.string s, .bool false] 56) := by
    repeat (first | (refine heap_new _ ?_; (simp; done)) | refine heap_old ?_)
  have h2 : (((w.alloc zeroScr).alloc (.cells #[.string s, .bool false] 56)).alloc zeroScr).heap[w.heap.size + 1 + 1]? = some zeroScr := by
    repeat (first | (refine heap_new _ ?_; (simp; done)) | refine heap_old ?_)
  have hc : ∀ i u, (#[.int .i64 0, .int .u64 0, .int .i64 0, .int .i64 0, .int .i64 0, .int .i64 0, .int .i64 0, .string ⟨#[]⟩, .slice none 0 0, .slice none 0 0] : Array Value)[i]? = some u →
      (((w.alloc zeroScr).alloc (.cells #[.string s, .bool false] 56)).alloc zeroScr).cell? ⟨w.heap.size + 1 + 1, i, none⟩ = some u := by
    intro i u hu
    rw [cell_of_row _ _ i _ _ _ h2]; exact hu
  refine ⟨⟨?_, ⟨_, h1⟩⟩, h0, ⟨⟨_, h2⟩, by omega, hc 0 _ rfl, hc 1 _ rfl, hc 2 _ rfl, hc 3 _ rfl, hc 4 _ rfl, hc 5 _ rfl, hc 6 _ rfl, hc 7 _ rfl, hc 8 _ rfl, hc 9 _ rfl, ⟨[], World.ownsRow_nil _ _ _ _, rfl, fun j hj => absurd hj (by simp)⟩, World.ownsRow_nil _ _ _ _⟩, ?_⟩
  · rw [cell_of_row _ _ 0 _ _ _ h1]; rfl
  · exact (((Below.refl _ _).alloc (Nat.le_refl _) _).alloc (by simp) _).alloc (by simp; omega) _

/-- .. in the middle of an operation. -/
structure FrSt (w0 W : World) (B : Nat) (s : ByteArray) (lim : Nat) (cf : CfgV) (v8 v9 : Value) (ps : List (List OpV)) (ks : List Int) (ob : Nat) (o : OpV) (v7 : Value) (xs : List OpV) (ub : Nat) (us : Array Value) : Prop where
  rd : RrSt w0 W B s lim cf v8 v9 ps ks
  op : OpBox W ob o
  obl : lim ≤ ob
  cur : CurRow W lim v7 xs
  ne : v7.ownBlock ≠ some ob
  ub : W.heap[ub]? = some (.cells us 57)
  B3 : B + 1 + 1 + 1 ≤ lim
section
variable {w0 W W' : World} {B lim ob ub : Nat} {s s' : ByteArray} {cf : CfgV} {v8 v9 v7 : Value} {ps : List (List OpV)} {ks : List Int} {o : OpV} {xs : List OpV} {us : Array Value}
theorem FrSt.ut (h : FrSt w0 W B s lim cf v8 v9 ps ks ob o v7 xs ub us) : ElemT W ub 57 := ⟨_, h.ub⟩
theorem FrSt.next (h : FrSt w0 W B s lim cf v8 v9 ps ks ob o v7 xs ub us) (hs : StrBox W' (B + 1) 56 s') (hg : W.grownBy W' (some (B + 1))) : FrSt w0 W' B s' lim cf v8 v9 ps ks ob o v7 xs ub us := by
  have hob := h.op.elem
  have h9 := h.rd.str.elem
  refine ⟨h.rd.next hs hg, h.op.keep (hg.block ob hob.lt (fun e => hob.ne h9 (by decide) (by injection e))), h.obl, h.cur.kept hg ?_, h.ne, (hg.block ub h.ut.lt (fun e => h.ut.ne h9 (by decide) (by injection e))).trans h.ub, h.B3⟩
  intro q e hv
  injection e with e
  subst e
  exact (own_elem h.cur hv).ne h9 (by decide) rfl
theorem FrSt.setRd (h : FrSt w0 W B s lim cf v8 v9 ps ks ob o v7 xs ub us) (i : Nat) (v : Value) : RrSt w0 (W.setCell ⟨ob, i, none⟩ v) B s lim cf v8 v9 ps ks ∧ CurRow (W.setCell ⟨ob, i, none⟩ v) lim v7 xs ∧ (W.setCell ⟨ob, i, none⟩ v).heap[ub]? = some (.cells us 57) := by
  have hob := h.op.elem
  have hlt := h.B3
  have hl2 := h.obl
  refine ⟨h.rd.other (Mild.set v lim hob (.inr ⟨rfl, h.obl⟩)) fun q hq => Below.heap_setCell _ _ _ _ (by show q ≠ ob; omega), h.cur.kept (set_grown W ob i v) (fun q e => by injection e with e; subst e; exact h.ne), (Below.heap_setCell _ _ _ _ (h.ut.ne hob (by decide))).trans h.ub⟩
theorem FrSt.set1 (h : FrSt w0 W B s lim cf v8 v9 ps ks ob o v7 xs ub us) (x : Int) : FrSt w0 (W.setCell ⟨ob, 1, none⟩ (.int .i64 x)) B s lim cf v8 v9 ps ks ob { o with slot := x } v7 xs ub us := by
  obtain ⟨r1, r2, r3⟩ := h.setRd 1 (.int .i64 x)
  exact ⟨r1, ⟨h.op.elem.set _ _ rfl, by have := (set_cell_ne (w := W) (xb := ob) (i := 1) (j := 0) (.int .i64 x) (by decide)).trans (by simpa using h.op.op.c0); simpa using this, by have := set_cell_at (i := 1) (.int .i64 x) (by simpa using h.op.op.c1); simpa using this, by have := (set_cell_ne (w := W) (xb := ob) (i := 1) (j := 2) (.int .i64 x) (by decide)).trans (by simpa using h.op.op.c2); simpa using this, by have := (set_cell_ne (w := W) (xb := ob) (i := 1) (j := 3) (.int .i64 x) (by decide)).trans (by simpa using h.op.op.c3); simpa using this, by have := (set_cell_ne (w := W) (xb := ob) (i := 1) (j := 4) (.int .i64 x) (by decide)).trans (by simpa using h.op.op.c4); simpa using this, by have := (set_cell_ne (w := W) (xb := ob) (i := 1) (j := 5) (.int .i64 x) (by decide)).trans (by simpa using h.op.op.c5); simpa using this, by have := (set_cell_ne (w := W) (xb := ob) (i := 1) (j := 6) (.int .i64 x) (by decide)).trans (by simpa using h.op.op.c6); simpa using this⟩, h.obl, r2, h.ne, r3, h.B3⟩
theorem FrSt.set2 (h : FrSt w0 W B s lim cf v8 v9 ps ks ob o v7 xs ub us) (x : Int) : FrSt w0 (W.setCell ⟨ob, 2, none⟩ (.int .i64 x)) B s lim cf v8 v9 ps ks ob { o with pos := x } v7 xs ub us := by
  obtain ⟨r1, r2, r3⟩ := h.setRd 2 (.int .i64 x)
  exact ⟨r1, ⟨h.op.elem.set _ _ rfl, by have := (set_cell_ne (w := W) (xb := ob) (i := 2) (j := 0) (.int .i64 x) (by decide)).trans (by simpa using h.op.op.c0); simpa using this, by have := (set_cell_ne (w := W) (xb := ob) (i := 2) (j := 1) (.int .i64 x) (by decide)).trans (by simpa using h.op.op.c1); simpa using this, by have := set_cell_at (i := 2) (.int .i64 x) (by simpa using h.op.op.c2); simpa using this, by have := (set_cell_ne (w := W) (xb := ob) (i := 2) (j := 3) (.int .i64 x) (by decide)).trans (by simpa using h.op.op.c3); simpa using this, by have := (set_cell_ne (w := W) (xb := ob) (i := 2) (j := 4) (.int .i64 x) (by decide)).trans (by simpa using h.op.op.c4); simpa using this, by have := (set_cell_ne (w := W) (xb := ob) (i := 2) (j := 5) (.int .i64 x) (by decide)).trans (by simpa using h.op.op.c5); simpa using this, by have := (set_cell_ne (w := W) (xb := ob) (i := 2) (j := 6) (.int .i64 x) (by decide)).trans (by simpa using h.op.op.c6); simpa using this⟩, h.obl, r2, h.ne, r3, h.B3⟩
theorem FrSt.set3 (h : FrSt w0 W B s lim cf v8 v9 ps ks ob o v7 xs ub us) (x : Int) : FrSt w0 (W.setCell ⟨ob, 3, none⟩ (.int .i64 x)) B s lim cf v8 v9 ps ks ob { o with num := x } v7 xs ub us := by
  obtain ⟨r1, r2, r3⟩ := h.setRd 3 (.int .i64 x)
  exact ⟨r1, ⟨h.op.elem.set _ _ rfl, by have := (set_cell_ne (w := W) (xb := ob) (i := 3) (j := 0) (.int .i64 x) (by decide)).trans (by simpa using h.op.op.c0); simpa using this, by have := (set_cell_ne (w := W) (xb := ob) (i := 3) (j := 1) (.int .i64 x) (by decide)).trans (by simpa using h.op.op.c1); simpa using this, by have := (set_cell_ne (w := W) (xb := ob) (i := 3) (j := 2) (.int .i64 x) (by decide)).trans (by simpa using h.op.op.c2); simpa using this, by have := set_cell_at (i := 3) (.int .i64 x) (by simpa using h.op.op.c3); simpa using this, by have := (set_cell_ne (w := W) (xb := ob) (i := 3) (j := 4) (.int .i64 x) (by decide)).trans (by simpa using h.op.op.c4); simpa using this, by have := (set_cell_ne (w := W) (xb := ob) (i := 3) (j := 5) (.int .i64 x) (by decide)).trans (by simpa using h.op.op.c5); simpa using this, by have := (set_cell_ne (w := W) (xb := ob) (i := 3) (j := 6) (.int .i64 x) (by decide)).trans (by simpa using h.op.op.c6); simpa using this⟩, h.obl, r2, h.ne, r3, h.B3⟩
theorem FrSt.set4 (h : FrSt w0 W B s lim cf v8 v9 ps ks ob o v7 xs ub us) (x : Int) : FrSt w0 (W.setCell ⟨ob, 4, none⟩ (.int .u32 x)) B s lim cf v8 v9 ps ks ob { o with id := x } v7 xs ub us := by
  obtain ⟨r1, r2, r3⟩ := h.setRd 4 (.int .u32 x)
  exact ⟨r1, ⟨h.op.elem.set _ _ rfl, by have := (set_cell_ne (w := W) (xb := ob) (i := 4) (j := 0) (.int .u32 x) (by decide)).trans (by simpa using h.op.op.c0); simpa using this, by have := (set_cell_ne (w := W) (xb := ob) (i := 4) (j := 1) (.int .u32 x) (by decide)).trans (by simpa using h.op.op.c1); simpa using this, by have := (set_cell_ne (w := W) (xb := ob) (i := 4) (j := 2) (.int .u32 x) (by decide)).trans (by simpa using h.op.op.c2); simpa using this, by have := (set_cell_ne (w := W) (xb := ob) (i := 4) (j := 3) (.int .u32 x) (by decide)).trans (by simpa using h.op.op.c3); simpa using this, by have := set_cell_at (i := 4) (.int .u32 x) (by simpa using h.op.op.c4); simpa using this, by have := (set_cell_ne (w := W) (xb := ob) (i := 4) (j := 5) (.int .u32 x) (by decide)).trans (by simpa using h.op.op.c5); simpa using this, by have := (set_cell_ne (w := W) (xb := ob) (i := 4) (j := 6) (.int .u32 x) (by decide)).trans (by simpa using h.op.op.c6); simpa using this⟩, h.obl, r2, h.ne, r3, h.B3⟩
theorem FrSt.set5 (h : FrSt w0 W B s lim cf v8 v9 ps ks ob o v7 xs ub us) (x : Int) : FrSt w0 (W.setCell ⟨ob, 5, none⟩ (.int .u8 x)) B s lim cf v8 v9 ps ks ob { o with grav := x } v7 xs ub us := by
  obtain ⟨r1, r2, r3⟩ := h.setRd 5 (.int .u8 x)
  exact ⟨r1, ⟨h.op.elem.set _ _ rfl, by have := (set_cell_ne (w := W) (xb := ob) (i := 5) (j := 0) (.int .u8 x) (by decide)).trans (by simpa using h.op.op.c0); simpa using this, by have := (set_cell_ne (w := W) (xb := ob) (i := 5) (j := 1) (.int .u8 x) (by decide)).trans (by simpa using h.op.op.c1); simpa using this, by have := (set_cell_ne (w := W) (xb := ob) (i := 5) (j := 2) (.int .u8 x) (by decide)).trans (by simpa using h.op.op.c2); simpa using this, by have := (set_cell_ne (w := W) (xb := ob) (i := 5) (j := 3) (.int .u8 x) (by decide)).trans (by simpa using h.op.op.c3); simpa using this, by have := (set_cell_ne (w := W) (xb := ob) (i := 5) (j := 4) (.int .u8 x) (by decide)).trans (by simpa using h.op.op.c4); simpa using this, by have := set_cell_at (i := 5) (.int .u8 x) (by simpa using h.op.op.c5); simpa using this, by have := (set_cell_ne (w := W) (xb := ob) (i := 5) (j := 6) (.int .u8 x) (by decide)).trans (by simpa using h.op.op.c6); simpa using this⟩, h.obl, r2, h.ne, r3, h.B3⟩
theorem FrSt.set6 (h : FrSt w0 W B s lim cf v8 v9 ps ks ob o v7 xs ub us) (x : ByteArray) : FrSt w0 (W.setCell ⟨ob, 6, none⟩ (.string x)) B s lim cf v8 v9 ps ks ob { o with text := x } v7 xs ub us := by
  obtain ⟨r1, r2, r3⟩ := h.setRd 6 (.string x)
  exact ⟨r1, ⟨h.op.elem.set _ _ rfl, by have := (set_cell_ne (w := W) (xb := ob) (i := 6) (j := 0) (.string x) (by decide)).trans (by simpa using h.op.op.c0); simpa using this, by have := (set_cell_ne (w := W) (xb := ob) (i := 6) (j := 1) (.string x) (by decide)).trans (by simpa using h.op.op.c1); simpa using this, by have := (set_cell_ne (w := W) (xb := ob) (i := 6) (j := 2) (.string x) (by decide)).trans (by simpa using h.op.op.c2); simpa using this, by have := (set_cell_ne (w := W) (xb := ob) (i := 6) (j := 3) (.string x) (by decide)).trans (by simpa using h.op.op.c3); simpa using this, by have := (set_cell_ne (w := W) (xb := ob) (i := 6) (j := 4) (.string x) (by decide)).trans (by simpa using h.op.op.c4); simpa using this, by have := (set_cell_ne (w := W) (xb := ob) (i := 6) (j := 5) (.string x) (by decide)).trans (by simpa using h.op.op.c5); simpa using this, by have := set_cell_at (i := 6) (.string x) (by simpa using h.op.op.c6); simpa using this⟩, h.obl, r2, h.ne, r3, h.B3⟩

theorem FrSt.cell (h : FrSt w0 W B s lim cf v8 v9 ps ks ob o v7 xs ub us) (i : Nat) : W.cell? ⟨ub, i, none⟩ = us[i]? := cell_of_row _ _ i _ _ _ h.ub
end
theorem frst_init {w0 W W' : World} {B lim : Nat} {s : ByteArray} {cf : CfgV} {v8 v9 v7 : Value} {ps : List (List OpV)} {ks : List Int} {k : Int} {xs : List OpV} {us : Array Value}
    (h : RrSt w0 W B s lim cf v8 v9 ps ks) (hc : CurRow W lim v7 xs) (hl : lim ≤ W.heap.size) (h4 : B + 1 + 1 + 1 ≤ lim) (hg : (W.alloc (opObj k)).grownBy W' none) :
    FrSt w0 (W'.alloc (.cells us 57)) B s lim cf v8 v9 ps ks W.heap.size (op0 k) v7 xs W'.heap.size us := by
  have hn : (W.alloc (opObj k)).heap[W.heap.size]? = some (opObj k) := heap_alloc_new W _
  have hn' : W'.heap[W.heap.size]? = some (opObj k) := (hg.block _ (by simp) (by simp)).trans hn
  have hlt : W.heap.size < W'.heap.size := by have := hg.size; simp at this; omega
  have hn2 : (W'.alloc (.cells us 57)).heap[W.heap.size]? = some (opObj k) := (Below.heap_alloc _ _ _ hlt).trans hn'
  have hm : Mild W (W'.alloc (.cells us 57)) lim := ⟨hg.os, hg.tape, hg.output, by simp; omega, fun q t ht _ _ => (Below.heap_alloc _ _ _ (by have := ht.lt; omega)).trans ((hg.block q (by have := ht.lt; simp; omega) (by simp)).trans (Below.heap_alloc _ _ _ ht.lt))⟩
  have hgW : W.grownBy (W'.alloc (.cells us 57)) none := ⟨hg.os, hg.tape, hg.output, by simp; omega, fun q hq _ => (Below.heap_alloc _ _ _ (by omega)).trans ((hg.block q (by simp; omega) (by simp)).trans (Below.heap_alloc _ _ _ hq))⟩
  have h3 := h.lt2
  refine ⟨h.other hm fun q hq => hgW.block q (by omega) (by simp), ⟨⟨_, hn2⟩, ?_⟩, hl, hc.kept hgW (fun q e => by cases e), ?_, heap_alloc_new _ _, h4⟩
  · have g : ∀ i u, (#[.int .u8 k, .int .i64 0, .int .i64 0, .int .i64 0, .int .u32 0, .int .u8 0, .string ⟨#[]⟩] : Array Value)[i]? = some u → (W'.alloc (.cells us 57)).cell? ⟨W.heap.size, i, none⟩ = some u := fun i u hu => by
      rw [cell_of_row _ _ i _ _ _ hn2]; exact hu
    exact ⟨g 0 _ rfl, by rw [Nat.zero_add]; exact g 1 _ rfl, by rw [Nat.zero_add]; exact g 2 _ rfl, by rw [Nat.zero_add]; exact g 3 _ rfl, by rw [Nat.zero_add]; exact g 4 _ rfl, by rw [Nat.zero_add]; exact g 5 _ rfl, by rw [Nat.zero_add]; exact g 6 _ rfl⟩
  · intro e
    have := (World.ownsRow.lt hc _ e).2
    omega

/-! ### The fields that a kind of operation uses, by the reference -/
def useB (k : Int) (i : Int) : Bool := (fieldsOf k).contains i
def usesVal (k : Int) : Value := .agg #[.bool (useB k 0), .bool (useB k 1), .bool (useB k 2), .bool (useB k 3), .bool (useB k 4), .bool (useB k 5)]
def UsesRes (k : Int) (w : World) (e : Ending) (w' : World) : Prop := e = .returned (usesVal k) ∧ w.grownBy w' none
set_option maxHeartbeats 4000000 in
theorem usesFn (k : Int) (w : World) (h0 : 0 ≤ k) (h1 : k ≤ 255) : Calls Try.prog 32 #[.int .u8 k] w (UsesRes k w) := by
  by_cases hk : k = 1 ∨ k = 2 ∨ k = 3 ∨ k = 4 ∨ k = 6 ∨ k = 7 ∨ k = 8 ∨ k = 9 ∨ k = 10 ∨ k = 11 ∨ k = 12 ∨ k = 13
  · rcases hk with rfl | rfl | rfl | rfl | rfl | rfl | rfl | rfl | rfl | rfl | rfl | rfl
    all_goals
      go_enter Try.func32, Try.ntmps32
      go_wp2
      exact bodyPost_ret (v := usesVal _) (by simp [results, Try.results32, go_sem]; rfl) rfl ⟨rfl, grown_alloc (World.grownBy.refl _ _) _⟩
  · have e : usesVal k = .agg #[.bool false, .bool false, .bool false, .bool false, .bool false, .bool false] := by
      have : fieldsOf k = [] := by
        unfold fieldsOf
        simp [show ¬ k = 1 by omega, show ¬ k = 2 by omega, show ¬ k = 3 by omega, show ¬ k = 4 by omega, show ¬ k = 6 by omega, show ¬ k = 7 by omega, show ¬ k = 8 by omega, show ¬ k = 9 by omega, show ¬ k = 10 by omega, show ¬ k = 11 by omega, show ¬ k = 12 by omega, show ¬ k = 13 by omega]
      unfold usesVal useB
      rw [this]; rfl
    have n1 : ¬ k = 1 := by omega
    have n2 : ¬ k = 2 := by omega
    have n3 : ¬ k = 3 := by omega
    have n4 : ¬ k = 4 := by omega
    have n6 : ¬ k = 6 := by omega
    have n7 : ¬ k = 7 := by omega
    have n8 : ¬ k = 8 := by omega
    have n9 : ¬ k = 9 := by omega
    have n10 : ¬ k = 10 := by omega
    have n11 : ¬ k = 11 := by omega
    have n12 : ¬ k = 12 := by omega
    have n13 : ¬ k = 13 := by omega
    clear hk
    have E := Lib.hid e
    clear e
    go_enter Try.func32, Try.ntmps32
    go_wp2
    exact bodyPost_ret (v := .agg #[.bool false, .bool false, .bool false, .bool false, .bool false, .bool false]) (by simp [results, Try.results32, go_sem]) rfl ⟨by rw [E.out], grown_alloc (World.grownBy.refl _ _) _⟩
end Go.Proofs.Ytcicememljlafaa
