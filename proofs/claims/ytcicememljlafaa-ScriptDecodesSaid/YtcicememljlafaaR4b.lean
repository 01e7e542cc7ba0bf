/- The states of a reading, in the middle of an operation. -/
import Derived.Test.YtcicememljlafaaR4
namespace Go.Proofs.Ytcicememljlafaa
open Go.RowKit

structure FSt (w0 W : World) (B : Nat) (s : ByteArray) (lim : Nat) (cf : CfgV) (v8 v9 : Value) (ps : List (List OpV)) (ks : List Int) (ob : Nat) (o : OpV) (v7 : Value) (xs : List OpV) (A : Option Addr) (fs : List Int) : Prop where
  rd : RdSt w0 W B s lim cf v8 v9 ps ks
  op : OpBox W ob o
  obl : lim ≤ ob
  cur : CurRow W lim v7 xs
  ne : v7.ownBlock ≠ some ob
  u8 : U8s W A fs
  B4 : B + 1 + 1 + 1 + 1 ≤ lim

theorem U8s.keep {W W' : World} {A : Option Addr} {fs : List Int} (h : U8s W A fs) (hk : ∀ q, ElemT W q 53 → W'.heap[q]? = W.heap[q]?) : U8s W' A fs := fun hp => by
  obtain ⟨b, o, e, ht, hc⟩ := h hp
  exact ⟨b, o, e, ht.keep (hk b ht), fun j hj => (World.cell?_of_block (a := ⟨b, o + j, none⟩) (hk b ht)).trans (hc j hj)⟩
theorem CurRow.kept {W W' : World} {lim : Nat} {v : Value} {xs : List OpV} {row : Option Nat} (h : CurRow W lim v xs) (hg : W.grownBy W' row) (hr : ∀ q, row = some q → v.ownBlock ≠ some q) : CurRow W' lim v xs := by
  refine World.ownsRow.kept h hg ?_
  cases row with
  | none => by_cases e : v.ownBlock = none
            · exact .inl e
            · exact .inr e
  | some q => exact .inr (hr q rfl)

section
variable {w0 W W' : World} {B lim ob : Nat} {s s' : ByteArray} {cf : CfgV} {v8 v9 v7 : Value} {ps : List (List OpV)} {ks : List Int} {o : OpV} {xs : List OpV} {A : Option Addr} {fs : List Int}
theorem FSt.next (h : FSt w0 W B s lim cf v8 v9 ps ks ob o v7 xs A fs) (hs : StrBox W' B 9 s') (hg : W.grownBy W' (some B)) : FSt w0 W' B s' lim cf v8 v9 ps ks ob o v7 xs A fs := by
  have hob := h.op.elem
  have h9 := h.rd.str.elem
  refine ⟨h.rd.next hs hg, h.op.keep (hg.block ob hob.lt (fun e => hob.ne h9 (by decide) (by injection e))), h.obl, h.cur.kept hg ?_, h.ne, h.u8.keep fun q hq => hg.block q hq.lt (fun e => hq.ne h9 (by decide) (by injection e)), h.B4⟩
  intro q e hv
  injection e with e
  subst e
  exact (own_elem h.cur hv).ne h9 (by decide) rfl
theorem FSt.setRd (h : FSt w0 W B s lim cf v8 v9 ps ks ob o v7 xs A fs) (i : Nat) (v : Value) : RdSt w0 (W.setCell ⟨ob, i, none⟩ v) B s lim cf v8 v9 ps ks ∧ CurRow (W.setCell ⟨ob, i, none⟩ v) lim v7 xs ∧ U8s (W.setCell ⟨ob, i, none⟩ v) A fs := by
  have hob := h.op.elem
  have hlt := h.B4
  have hl2 := h.obl
  refine ⟨h.rd.other (Mild.set v lim hob (.inr ⟨rfl, h.obl⟩)) fun q hq => Below.heap_setCell _ _ _ _ (by show q ≠ ob; omega), h.cur.kept (set_grown W ob i v) (fun q e => by injection e with e; subst e; exact h.ne), h.u8.keep fun q hq => Below.heap_setCell _ _ _ _ (hq.ne hob (by decide))⟩
theorem FSt.set1 (h : FSt w0 W B s lim cf v8 v9 ps ks ob o v7 xs A fs) (x : Int) : FSt w0 (W.setCell ⟨ob, 1, none⟩ (.int .i64 x)) B s lim cf v8 v9 ps ks ob { o with slot := x } v7 xs A fs := by
  obtain ⟨r1, r2, r3⟩ := h.setRd 1 (.int .i64 x)
  exact ⟨r1, ⟨h.op.elem.set _ _ rfl, by have := (set_cell_ne (w := W) (xb := ob) (i := 1) (j := 0) (.int .i64 x) (by decide)).trans (by simpa using h.op.op.c0); simpa using this, by have := set_cell_at (i := 1) (.int .i64 x) (by simpa using h.op.op.c1); simpa using this, by have := (set_cell_ne (w := W) (xb := ob) (i := 1) (j := 2) (.int .i64 x) (by decide)).trans (by simpa using h.op.op.c2); simpa using this, by have := (set_cell_ne (w := W) (xb := ob) (i := 1) (j := 3) (.int .i64 x) (by decide)).trans (by simpa using h.op.op.c3); simpa using this, by have := (set_cell_ne (w := W) (xb := ob) (i := 1) (j := 4) (.int .i64 x) (by decide)).trans (by simpa using h.op.op.c4); simpa using this, by have := (set_cell_ne (w := W) (xb := ob) (i := 1) (j := 5) (.int .i64 x) (by decide)).trans (by simpa using h.op.op.c5); simpa using this, by have := (set_cell_ne (w := W) (xb := ob) (i := 1) (j := 6) (.int .i64 x) (by decide)).trans (by simpa using h.op.op.c6); simpa using this⟩, h.obl, r2, h.ne, r3, h.B4⟩
theorem FSt.set2 (h : FSt w0 W B s lim cf v8 v9 ps ks ob o v7 xs A fs) (x : Int) : FSt w0 (W.setCell ⟨ob, 2, none⟩ (.int .i64 x)) B s lim cf v8 v9 ps ks ob { o with pos := x } v7 xs A fs := by
  obtain ⟨r1, r2, r3⟩ := h.setRd 2 (.int .i64 x)
  exact ⟨r1, ⟨h.op.elem.set _ _ rfl, by have := (set_cell_ne (w := W) (xb := ob) (i := 2) (j := 0) (.int .i64 x) (by decide)).trans (by simpa using h.op.op.c0); simpa using this, by have := (set_cell_ne (w := W) (xb := ob) (i := 2) (j := 1) (.int .i64 x) (by decide)).trans (by simpa using h.op.op.c1); simpa using this, by have := set_cell_at (i := 2) (.int .i64 x) (by simpa using h.op.op.c2); simpa using this, by have := (set_cell_ne (w := W) (xb := ob) (i := 2) (j := 3) (.int .i64 x) (by decide)).trans (by simpa using h.op.op.c3); simpa using this, by have := (set_cell_ne (w := W) (xb := ob) (i := 2) (j := 4) (.int .i64 x) (by decide)).trans (by simpa using h.op.op.c4); simpa using this, by have := (set_cell_ne (w := W) (xb := ob) (i := 2) (j := 5) (.int .i64 x) (by decide)).trans (by simpa using h.op.op.c5); simpa using this, by have := (set_cell_ne (w := W) (xb := ob) (i := 2) (j := 6) (.int .i64 x) (by decide)).trans (by simpa using h.op.op.c6); simpa using this⟩, h.obl, r2, h.ne, r3, h.B4⟩
theorem FSt.set3 (h : FSt w0 W B s lim cf v8 v9 ps ks ob o v7 xs A fs) (x : Int) : FSt w0 (W.setCell ⟨ob, 3, none⟩ (.int .i64 x)) B s lim cf v8 v9 ps ks ob { o with num := x } v7 xs A fs := by
  obtain ⟨r1, r2, r3⟩ := h.setRd 3 (.int .i64 x)
  exact ⟨r1, ⟨h.op.elem.set _ _ rfl, by have := (set_cell_ne (w := W) (xb := ob) (i := 3) (j := 0) (.int .i64 x) (by decide)).trans (by simpa using h.op.op.c0); simpa using this, by have := (set_cell_ne (w := W) (xb := ob) (i := 3) (j := 1) (.int .i64 x) (by decide)).trans (by simpa using h.op.op.c1); simpa using this, by have := (set_cell_ne (w := W) (xb := ob) (i := 3) (j := 2) (.int .i64 x) (by decide)).trans (by simpa using h.op.op.c2); simpa using this, by have := set_cell_at (i := 3) (.int .i64 x) (by simpa using h.op.op.c3); simpa using this, by have := (set_cell_ne (w := W) (xb := ob) (i := 3) (j := 4) (.int .i64 x) (by decide)).trans (by simpa using h.op.op.c4); simpa using this, by have := (set_cell_ne (w := W) (xb := ob) (i := 3) (j := 5) (.int .i64 x) (by decide)).trans (by simpa using h.op.op.c5); simpa using this, by have := (set_cell_ne (w := W) (xb := ob) (i := 3) (j := 6) (.int .i64 x) (by decide)).trans (by simpa using h.op.op.c6); simpa using this⟩, h.obl, r2, h.ne, r3, h.B4⟩
theorem FSt.set4 (h : FSt w0 W B s lim cf v8 v9 ps ks ob o v7 xs A fs) (x : Int) : FSt w0 (W.setCell ⟨ob, 4, none⟩ (.int .u32 x)) B s lim cf v8 v9 ps ks ob { o with id := x } v7 xs A fs := by
  obtain ⟨r1, r2, r3⟩ := h.setRd 4 (.int .u32 x)
  exact ⟨r1, ⟨h.op.elem.set _ _ rfl, by have := (set_cell_ne (w := W) (xb := ob) (i := 4) (j := 0) (.int .u32 x) (by decide)).trans (by simpa using h.op.op.c0); simpa using this, by have := (set_cell_ne (w := W) (xb := ob) (i := 4) (j := 1) (.int .u32 x) (by decide)).trans (by simpa using h.op.op.c1); simpa using this, by have := (set_cell_ne (w := W) (xb := ob) (i := 4) (j := 2) (.int .u32 x) (by decide)).trans (by simpa using h.op.op.c2); simpa using this, by have := (set_cell_ne (w := W) (xb := ob) (i := 4) (j := 3) (.int .u32 x) (by decide)).trans (by simpa using h.op.op.c3); simpa using this, by have := set_cell_at (i := 4) (.int .u32 x) (by simpa using h.op.op.c4); simpa using this, by have := (set_cell_ne (w := W) (xb := ob) (i := 4) (j := 5) (.int .u32 x) (by decide)).trans (by simpa using h.op.op.c5); simpa using this, by have := (set_cell_ne (w := W) (xb := ob) (i := 4) (j := 6) (.int .u32 x) (by decide)).trans (by simpa using h.op.op.c6); simpa using this⟩, h.obl, r2, h.ne, r3, h.B4⟩
theorem FSt.set5 (h : FSt w0 W B s lim cf v8 v9 ps ks ob o v7 xs A fs) (x : Int) : FSt w0 (W.setCell ⟨ob, 5, none⟩ (.int .u8 x)) B s lim cf v8 v9 ps ks ob { o with grav := x } v7 xs A fs := by
  obtain ⟨r1, r2, r3⟩ := h.setRd 5 (.int .u8 x)
  exact ⟨r1, ⟨h.op.elem.set _ _ rfl, by have := (set_cell_ne (w := W) (xb := ob) (i := 5) (j := 0) (.int .u8 x) (by decide)).trans (by simpa using h.op.op.c0); simpa using this, by have := (set_cell_ne (w := W) (xb := ob) (i := 5) (j := 1) (.int .u8 x) (by decide)).trans (by simpa using h.op.op.c1); simpa using this, by have := (set_cell_ne (w := W) (xb := ob) (i := 5) (j := 2) (.int .u8 x) (by decide)).trans (by simpa using h.op.op.c2); simpa using this, by have := (set_cell_ne (w := W) (xb := ob) (i := 5) (j := 3) (.int .u8 x) (by decide)).trans (by simpa using h.op.op.c3); simpa using this, by have := (set_cell_ne (w := W) (xb := ob) (i := 5) (j := 4) (.int .u8 x) (by decide)).trans (by simpa using h.op.op.c4); simpa using this, by have := set_cell_at (i := 5) (.int .u8 x) (by simpa using h.op.op.c5); simpa using this, by have := (set_cell_ne (w := W) (xb := ob) (i := 5) (j := 6) (.int .u8 x) (by decide)).trans (by simpa using h.op.op.c6); simpa using this⟩, h.obl, r2, h.ne, r3, h.B4⟩
theorem FSt.set6 (h : FSt w0 W B s lim cf v8 v9 ps ks ob o v7 xs A fs) (x : ByteArray) : FSt w0 (W.setCell ⟨ob, 6, none⟩ (.string x)) B s lim cf v8 v9 ps ks ob { o with text := x } v7 xs A fs := by
  obtain ⟨r1, r2, r3⟩ := h.setRd 6 (.string x)
  exact ⟨r1, ⟨h.op.elem.set _ _ rfl, by have := (set_cell_ne (w := W) (xb := ob) (i := 6) (j := 0) (.string x) (by decide)).trans (by simpa using h.op.op.c0); simpa using this, by have := (set_cell_ne (w := W) (xb := ob) (i := 6) (j := 1) (.string x) (by decide)).trans (by simpa using h.op.op.c1); simpa using this, by have := (set_cell_ne (w := W) (xb := ob) (i := 6) (j := 2) (.string x) (by decide)).trans (by simpa using h.op.op.c2); simpa using this, by have := (set_cell_ne (w := W) (xb := ob) (i := 6) (j := 3) (.string x) (by decide)).trans (by simpa using h.op.op.c3); simpa using this, by have := (set_cell_ne (w := W) (xb := ob) (i := 6) (j := 4) (.string x) (by decide)).trans (by simpa using h.op.op.c4); simpa using this, by have := (set_cell_ne (w := W) (xb := ob) (i := 6) (j := 5) (.string x) (by decide)).trans (by simpa using h.op.op.c5); simpa using this, by have := set_cell_at (i := 6) (.string x) (by simpa using h.op.op.c6); simpa using this⟩, h.obl, r2, h.ne, r3, h.B4⟩
end
end Go.Proofs.Ytcicememljlafaa
