/- A script that is being built in memory: its struct's block, the row of its programs, the rows of the finished programs, the row of its picks. -/
import Derived.Test.YtcicememljlafaaA4
namespace Go.Proofs.Ytcicememljlafaa
open Go.RowKit

/-- Block q has elements of type t. -/
def ElemT (w : World) (q : Nat) (t : TypeId) : Prop := ∃ cs, w.heap[q]? = some (.cells cs t (0, 0))
theorem ElemT.lt {w : World} {q : Nat} {t : TypeId} (h : ElemT w q t) : q < w.heap.size := by
  obtain ⟨cs, h⟩ := h
  rcases Nat.lt_or_ge q w.heap.size with hlt | hge
  · exact hlt
  · rw [Array.getElem?_eq_none hge] at h; cases h
theorem ElemT.ne {w : World} {q q' : Nat} {t t' : TypeId} (h : ElemT w q t) (h' : ElemT w q' t') (hne : t ≠ t') : q ≠ q' := by
  rintro rfl
  obtain ⟨cs, h⟩ := h
  obtain ⟨cs', h'⟩ := h'
  rw [h] at h'
  injection h' with h'
  injection h' with _ e
  exact hne e
theorem ElemT.keep {w w' : World} {q : Nat} {t : TypeId} (h : ElemT w q t) (hk : w'.heap[q]? = w.heap[q]?) : ElemT w' q t := by
  obtain ⟨cs, h⟩ := h
  exact ⟨cs, hk.trans h⟩
theorem ElemT.set {w : World} {q : Nat} {t : TypeId} (h : ElemT w q t) (p : Addr) (v : Value) (hp : p.spot = none) : ElemT (w.setCell p v) q t := by
  by_cases e : q = p.block
  · obtain ⟨cs, h⟩ := h
    subst e
    exact ⟨cs.setIfInBounds p.off v, by simp [World.setCell, Array.getElem?_modify, h, hp]⟩
  · exact h.keep (Below.heap_setCell _ _ _ _ e)
theorem ElemT.frozen {w : World} {q : Nat} {t : TypeId} (h : ElemT w q t) (o : Nat) : w.frozen? ⟨q, o, none⟩ = false := by
  obtain ⟨cs, h⟩ := h
  simp [World.frozen?, h]
theorem own_elem {w : World} {base : Nat} {e : TypeId} {size n : Nat} {v : Value} {xs : List Value} (h : w.ownsRow base e size v n xs) {q : Nat} (hq : v.ownBlock = some q) : ElemT w q e := by
  rcases h.2 with ⟨rfl, _⟩ | ⟨g, cap, cur, rfl, _, hh, _⟩
  · simp [Value.ownBlock] at hq
  · simp [Value.ownBlock] at hq
    subst hq
    exact ⟨cur, hh⟩

/-- What may have been written between w and w': a block of another type than a script's, or a program's row from lim on. -/
def Mild (w w' : World) (lim : Nat) : Prop :=
  w'.os = w.os ∧ w'.tape = w.tape ∧ w'.output = w.output ∧ w.heap.size ≤ w'.heap.size ∧
    ∀ q t, ElemT w q t → (t = 28 ∨ t = 41 ∨ t = 3 ∨ t = 44) → (t = 44 → q < lim) → w'.heap[q]? = w.heap[q]?
theorem Mild.refl (w : World) (lim : Nat) : Mild w w lim := ⟨rfl, rfl, rfl, Nat.le_refl _, fun _ _ _ _ _ => rfl⟩
theorem Mild.grown {w w' : World} {lim : Nat} {row : Option Nat} (hg : w.grownBy w' row) (hr : ∀ q, row = some q → ∃ t, ElemT w q t ∧ ((t ≠ 28 ∧ t ≠ 41 ∧ t ≠ 3 ∧ t ≠ 44) ∨ (t = 44 ∧ lim ≤ q))) : Mild w w' lim := by
  refine ⟨hg.os, hg.tape, hg.output, hg.size, fun q t ht hk hl => hg.block q ht.lt (fun e => ?_)⟩
  obtain ⟨t', ht', h⟩ := hr q e.symm
  have : t = t' := Classical.byContradiction fun hne => ht.ne ht' hne rfl
  subst this
  rcases h with ⟨h1, h2, h3, h4⟩ | ⟨h4, h5⟩
  · rcases hk with e | e | e | e
    · exact h1 e
    · exact h2 e
    · exact h3 e
    · exact h4 e
  · have := hl h4
    omega
theorem Mild.alloc (w : World) (o : Obj) (lim : Nat) : Mild w (w.alloc o) lim := ⟨rfl, rfl, rfl, by simp, fun q _ ht _ _ => Below.heap_alloc _ _ _ ht.lt⟩
theorem Mild.drewN (w : World) (k lim : Nat) : Mild w (w.drewN k) lim := ⟨rfl, rfl, rfl, Nat.le_refl _, fun _ _ _ _ _ => rfl⟩
theorem Mild.set {w : World} {p : Addr} {t : TypeId} (v : Value) (lim : Nat) (ht : ElemT w p.block t) (h : (t ≠ 28 ∧ t ≠ 41 ∧ t ≠ 3 ∧ t ≠ 44) ∨ (t = 44 ∧ lim ≤ p.block)) : Mild w (w.setCell p v) lim :=
  Mild.grown (row := some p.block) ⟨rfl, rfl, rfl, by simp, fun k _ hk => Below.heap_setCell _ _ _ _ (fun e => hk (by rw [e]))⟩ (fun q e => by injection e with e; subst e; exact ⟨t, ht, h⟩)

/-- The operations of a finished program: in a row of operations below lim. -/
def OpsIn (w : World) (lim : Nat) (A : Option Addr) (xs : List OpV) : Prop :=
  0 < xs.length → ∃ b o, A = some ⟨b, o, none⟩ ∧ b < lim ∧ ElemT w b 44 ∧ ∀ j, j < xs.length → OpAt w b (o + j * 7) (xs.getD j noOp)
theorem OpsIn.mild {w w' : World} {lim : Nat} {A : Option Addr} {xs : List OpV} (h : OpsIn w lim A xs) (hm : Mild w w' lim) : OpsIn w' lim A xs := fun hx => by
  obtain ⟨b, o, e, hb, ht, hc⟩ := h hx
  have hk := hm.2.2.2.2 b 44 ht (by simp) (fun _ => hb)
  exact ⟨b, o, e, hb, ht.keep hk, fun j hj => (hc j hj).keep hk⟩
theorem OpsIn.more {w : World} {lim lim' : Nat} {A : Option Addr} {xs : List OpV} (h : OpsIn w lim A xs) (hl : lim ≤ lim') : OpsIn w lim' A xs := fun hx => by
  obtain ⟨b, o, e, hb, ht, hc⟩ := h hx
  exact ⟨b, o, e, by omega, ht, hc⟩
theorem OpsIn.at_ {w : World} {lim : Nat} {A : Option Addr} {xs : List OpV} (h : OpsIn w lim A xs) : OpsAt w w.heap.size A xs := fun hx => by
  obtain ⟨b, o, e, hb, ht, hc⟩ := h hx
  exact ⟨b, o, e, ht.lt, hc⟩

/-- The values of the finished programs. -/
def ProgVals (w : World) (lim : Nat) (vals : List Value) (ps : List (List OpV)) : Prop :=
  vals.length = ps.length ∧ ∀ j, j < ps.length → ∃ A c, vals[j]? = some (.slice A (ps.getD j []).length c) ∧ OpsIn w lim A (ps.getD j [])
theorem ProgVals.mild {w w' : World} {lim : Nat} {vals : List Value} {ps : List (List OpV)} (h : ProgVals w lim vals ps) (hm : Mild w w' lim) : ProgVals w' lim vals ps :=
  ⟨h.1, fun j hj => by obtain ⟨A, c, h1, h2⟩ := h.2 j hj; exact ⟨A, c, h1, h2.mild hm⟩⟩
theorem ProgVals.more {w : World} {lim lim' : Nat} {vals : List Value} {ps : List (List OpV)} (h : ProgVals w lim vals ps) (hl : lim ≤ lim') : ProgVals w lim' vals ps :=
  ⟨h.1, fun j hj => by obtain ⟨A, c, h1, h2⟩ := h.2 j hj; exact ⟨A, c, h1, h2.more hl⟩⟩
theorem ProgVals.snoc {w : World} {lim : Nat} {vals : List Value} {ps : List (List OpV)} {A : Option Addr} {c : Nat} {xs : List OpV} (h : ProgVals w lim vals ps) (hx : OpsIn w lim A xs) : ProgVals w lim (vals ++ [.slice A xs.length c]) (ps ++ [xs]) := by
  refine ⟨by simp [h.1], fun j hj => ?_⟩
  rcases Nat.lt_or_ge j ps.length with hl | hl
  · obtain ⟨A', c', h1, h2⟩ := h.2 j hl
    have e : (ps ++ [xs]).getD j [] = ps.getD j [] := by simp [List.getD_eq_getElem?_getD, List.getElem?_append_left hl]
    rw [e]
    exact ⟨A', c', by rw [List.getElem?_append_left (by rw [h.1]; exact hl)]; exact h1, h2⟩
  · have hj' : j = ps.length := by simp at hj; omega
    subst hj'
    have e : (ps ++ [xs]).getD ps.length [] = xs := by simp [List.getD_eq_getElem?_getD]
    rw [e]
    exact ⟨A, c, by rw [← h.1]; simp, hx⟩

structure Bld (w : World) (B xb lim : Nat) (cfg : CfgV) (v8 v9 : Value) (ps : List (List OpV)) (ks : List Int) : Prop where
  t : ElemT w xb 28
  hB : B ≤ xb
  c0 : w.cell? ⟨xb, 0, none⟩ = some (.int .i64 cfg.slots)
  c1 : w.cell? ⟨xb, 1, none⟩ = some (.int .u64 cfg.gens)
  c2 : w.cell? ⟨xb, 2, none⟩ = some (.int .i64 cfg.clients)
  c3 : w.cell? ⟨xb, 3, none⟩ = some (.int .i64 cfg.readers)
  c4 : w.cell? ⟨xb, 4, none⟩ = some (.int .i64 cfg.queue)
  c5 : w.cell? ⟨xb, 5, none⟩ = some (.int .i64 cfg.batch)
  c6 : w.cell? ⟨xb, 6, none⟩ = some (.int .i64 cfg.feed)
  c7 : w.cell? ⟨xb, 7, none⟩ = some (.string cfg.text)
  c8 : w.cell? ⟨xb, 8, none⟩ = some v8
  c9 : w.cell? ⟨xb, 9, none⟩ = some v9
  progs : ∃ vals, w.ownsRow B 41 1 v8 ps.length vals ∧ ProgVals w lim vals ps
  picks : w.ownsRow B 3 1 v9 ks.length (ks.map (Value.int .i64))

theorem own_mild {w w' : World} {lim base : Nat} {e : TypeId} {size n : Nat} {v : Value} {xs : List Value} (h : w.ownsRow base e size v n xs) (he : e = 41 ∨ e = 3) (hm : Mild w w' lim) : w'.ownsRow base e size v n xs := by
  refine ⟨h.1, ?_⟩
  have ho := fun q => own_elem h (q := q)
  rcases h.2 with hl | ⟨g, cap, cur, rfl, h2, h3, h4⟩
  · exact .inl hl
  · refine .inr ⟨g, cap, cur, rfl, h2, ?_, h4⟩
    rw [hm.2.2.2.2 g e (ho g rfl) (by rcases he with rfl | rfl <;> simp) (by rcases he with rfl | rfl <;> intro h <;> cases h)]
    exact h3
theorem Bld.mild {w w' : World} {B xb lim : Nat} {cfg : CfgV} {v8 v9 : Value} {ps : List (List OpV)} {ks : List Int} (h : Bld w B xb lim cfg v8 v9 ps ks) (hm : Mild w w' lim) : Bld w' B xb lim cfg v8 v9 ps ks := by
  have hk := hm.2.2.2.2 xb 28 h.t (by simp) (by intro h; cases h)
  have hc : ∀ i, w'.cell? ⟨xb, i, none⟩ = w.cell? ⟨xb, i, none⟩ := fun i => World.cell?_of_block (a := ⟨xb, i, none⟩) hk
  obtain ⟨vals, p1, p2⟩ := h.progs
  exact ⟨h.t.keep hk, h.hB, (hc _).trans h.c0, (hc _).trans h.c1, (hc _).trans h.c2, (hc _).trans h.c3, (hc _).trans h.c4, (hc _).trans h.c5, (hc _).trans h.c6, (hc _).trans h.c7, (hc _).trans h.c8, (hc _).trans h.c9,
    ⟨vals, own_mild p1 (.inl rfl) hm, p2.mild hm⟩, own_mild h.picks (.inr rfl) hm⟩
theorem Bld.more {w : World} {B xb lim lim' : Nat} {cfg : CfgV} {v8 v9 : Value} {ps : List (List OpV)} {ks : List Int} (h : Bld w B xb lim cfg v8 v9 ps ks) (hl : lim ≤ lim') : Bld w B xb lim' cfg v8 v9 ps ks := by
  obtain ⟨vals, p1, p2⟩ := h.progs
  exact ⟨h.t, h.hB, h.c0, h.c1, h.c2, h.c3, h.c4, h.c5, h.c6, h.c7, h.c8, h.c9, ⟨vals, p1, p2.more hl⟩, h.picks⟩
end Go.Proofs.Ytcicememljlafaa
