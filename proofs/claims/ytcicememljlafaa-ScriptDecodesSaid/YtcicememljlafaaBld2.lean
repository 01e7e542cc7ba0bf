import Derived.Test.YtcicememljlafaaBld
namespace Go.Proofs.Ytcicememljlafaa
open Go.RowKit

theorem set_cell_at {w : World} {xb i : Nat} {u : Value} (v : Value) (h : w.cell? ⟨xb, i, none⟩ = some u) : (w.setCell ⟨xb, i, none⟩ v).cell? ⟨xb, i, none⟩ = some v := World.cell?_setCell_same _ _ _ h
theorem set_cell_ne {w : World} {xb i j : Nat} (v : Value) (h : i ≠ j) : (w.setCell ⟨xb, i, none⟩ v).cell? ⟨xb, j, none⟩ = w.cell? ⟨xb, j, none⟩ := World.cell?_setCell_other _ _ _ _ (by intro e; injection e; contradiction)
theorem set_grown (w : World) (xb i : Nat) (v : Value) : w.grownBy (w.setCell ⟨xb, i, none⟩ v) (some xb) := ⟨rfl, rfl, rfl, by simp, fun k _ hk => Below.heap_setCell _ _ _ _ (fun e => hk (by rw [e]))⟩
/-- A store into the script's struct keeps its rows. -/
theorem Bld.rows {w : World} {B xb lim : Nat} {cfg : CfgV} {v8 v9 : Value} {ps : List (List OpV)} {ks : List Int} (h : Bld w B xb lim cfg v8 v9 ps ks) (i : Nat) (v : Value) :
    (∃ vals, (w.setCell ⟨xb, i, none⟩ v).ownsRow B 41 1 v8 ps.length vals ∧ ProgVals (w.setCell ⟨xb, i, none⟩ v) lim vals ps) ∧ (w.setCell ⟨xb, i, none⟩ v).ownsRow B 3 1 v9 ks.length (ks.map (Value.int .i64)) := by
  obtain ⟨vals, p1, p2⟩ := h.progs
  have hg := set_grown w xb i v
  refine ⟨⟨vals, p1.kept hg ?_, p2.1, fun j hj => ?_⟩, h.picks.kept hg ?_⟩
  · by_cases e : v8.ownBlock = some xb
    · exact absurd rfl ((own_elem p1 e).ne h.t (by decide))
    · exact .inr e
  · obtain ⟨A, c, q1, q2⟩ := p2.2 j hj
    refine ⟨A, c, q1, fun hx => ?_⟩
    obtain ⟨b, o, e, hb, ht, hc⟩ := q2 hx
    have hk : (w.setCell ⟨xb, i, none⟩ v).heap[b]? = w.heap[b]? := Below.heap_setCell _ _ _ _ (ht.ne h.t (by decide))
    exact ⟨b, o, e, hb, ht.keep hk, fun j hj => (hc j hj).keep hk⟩
  · by_cases e : v9.ownBlock = some xb
    · exact absurd rfl ((own_elem h.picks e).ne h.t (by decide))
    · exact .inr e
theorem Bld.set0 {w : World} {B xb lim : Nat} {cfg : CfgV} {v8 v9 : Value} {ps : List (List OpV)} {ks : List Int} (h : Bld w B xb lim cfg v8 v9 ps ks) (x : Int) :
    Bld (w.setCell ⟨xb, 0, none⟩ (.int .i64 x)) B xb lim { cfg with slots := x } v8 v9 ps ks := by
  have hr := h.rows 0 (.int .i64 x)
  exact ⟨h.t.set _ _ rfl, h.hB, set_cell_at _ h.c0, (set_cell_ne _ (by decide)).trans h.c1, (set_cell_ne _ (by decide)).trans h.c2, (set_cell_ne _ (by decide)).trans h.c3, (set_cell_ne _ (by decide)).trans h.c4, (set_cell_ne _ (by decide)).trans h.c5, (set_cell_ne _ (by decide)).trans h.c6, (set_cell_ne _ (by decide)).trans h.c7, (set_cell_ne _ (by decide)).trans h.c8, (set_cell_ne _ (by decide)).trans h.c9, hr.1, hr.2⟩
theorem Bld.set1 {w : World} {B xb lim : Nat} {cfg : CfgV} {v8 v9 : Value} {ps : List (List OpV)} {ks : List Int} (h : Bld w B xb lim cfg v8 v9 ps ks) (x : Int) :
    Bld (w.setCell ⟨xb, 1, none⟩ (.int .u64 x)) B xb lim { cfg with gens := x } v8 v9 ps ks := by
  have hr := h.rows 1 (.int .u64 x)
  exact ⟨h.t.set _ _ rfl, h.hB, (set_cell_ne _ (by decide)).trans h.c0, set_cell_at _ h.c1, (set_cell_ne _ (by decide)).trans h.c2, (set_cell_ne _ (by decide)).trans h.c3, (set_cell_ne _ (by decide)).trans h.c4, (set_cell_ne _ (by decide)).trans h.c5, (set_cell_ne _ (by decide)).trans h.c6, (set_cell_ne _ (by decide)).trans h.c7, (set_cell_ne _ (by decide)).trans h.c8, (set_cell_ne _ (by decide)).trans h.c9, hr.1, hr.2⟩
theorem Bld.set2 {w : World} {B xb lim : Nat} {cfg : CfgV} {v8 v9 : Value} {ps : List (List OpV)} {ks : List Int} (h : Bld w B xb lim cfg v8 v9 ps ks) (x : Int) :
    Bld (w.setCell ⟨xb, 2, none⟩ (.int .i64 x)) B xb lim { cfg with clients := x } v8 v9 ps ks := by
  have hr := h.rows 2 (.int .i64 x)
  exact ⟨h.t.set _ _ rfl, h.hB, (set_cell_ne _ (by decide)).trans h.c0, (set_cell_ne _ (by decide)).trans h.c1, set_cell_at _ h.c2, (set_cell_ne _ (by decide)).trans h.c3, (set_cell_ne _ (by decide)).trans h.c4, (set_cell_ne _ (by decide)).trans h.c5, (set_cell_ne _ (by decide)).trans h.c6, (set_cell_ne _ (by decide)).trans h.c7, (set_cell_ne _ (by decide)).trans h.c8, (set_cell_ne _ (by decide)).trans h.c9, hr.1, hr.2⟩
theorem Bld.set3 {w : World} {B xb lim : Nat} {cfg : CfgV} {v8 v9 : Value} {ps : List (List OpV)} {ks : List Int} (h : Bld w B xb lim cfg v8 v9 ps ks) (x : Int) :
    Bld (w.setCell ⟨xb, 3, none⟩ (.int .i64 x)) B xb lim { cfg with readers := x } v8 v9 ps ks := by
  have hr := h.rows 3 (.int .i64 x)
  exact ⟨h.t.set _ _ rfl, h.hB, (set_cell_ne _ (by decide)).trans h.c0, (set_cell_ne _ (by decide)).trans h.c1, (set_cell_ne _ (by decide)).trans h.c2, set_cell_at _ h.c3, (set_cell_ne _ (by decide)).trans h.c4, (set_cell_ne _ (by decide)).trans h.c5, (set_cell_ne _ (by decide)).trans h.c6, (set_cell_ne _ (by decide)).trans h.c7, (set_cell_ne _ (by decide)).trans h.c8, (set_cell_ne _ (by decide)).trans h.c9, hr.1, hr.2⟩
theorem Bld.set4 {w : World} {B xb lim : Nat} {cfg : CfgV} {v8 v9 : Value} {ps : List (List OpV)} {ks : List Int} (h : Bld w B xb lim cfg v8 v9 ps ks) (x : Int) :
    Bld (w.setCell ⟨xb, 4, none⟩ (.int .i64 x)) B xb lim { cfg with queue := x } v8 v9 ps ks := by
  have hr := h.rows 4 (.int .i64 x)
  exact ⟨h.t.set _ _ rfl, h.hB, (set_cell_ne _ (by decide)).trans h.c0, (set_cell_ne _ (by decide)).trans h.c1, (set_cell_ne _ (by decide)).trans h.c2, (set_cell_ne _ (by decide)).trans h.c3, set_cell_at _ h.c4, (set_cell_ne _ (by decide)).trans h.c5, (set_cell_ne _ (by decide)).trans h.c6, (set_cell_ne _ (by decide)).trans h.c7, (set_cell_ne _ (by decide)).trans h.c8, (set_cell_ne _ (by decide)).trans h.c9, hr.1, hr.2⟩
theorem Bld.set5 {w : World} {B xb lim : Nat} {cfg : CfgV} {v8 v9 : Value} {ps : List (List OpV)} {ks : List Int} (h : Bld w B xb lim cfg v8 v9 ps ks) (x : Int) :
    Bld (w.setCell ⟨xb, 5, none⟩ (.int .i64 x)) B xb lim { cfg with batch := x } v8 v9 ps ks := by
  have hr := h.rows 5 (.int .i64 x)
  exact ⟨h.t.set _ _ rfl, h.hB, (set_cell_ne _ (by decide)).trans h.c0, (set_cell_ne _ (by decide)).trans h.c1, (set_cell_ne _ (by decide)).trans h.c2, (set_cell_ne _ (by decide)).trans h.c3, (set_cell_ne _ (by decide)).trans h.c4, set_cell_at _ h.c5, (set_cell_ne _ (by decide)).trans h.c6, (set_cell_ne _ (by decide)).trans h.c7, (set_cell_ne _ (by decide)).trans h.c8, (set_cell_ne _ (by decide)).trans h.c9, hr.1, hr.2⟩
theorem Bld.set6 {w : World} {B xb lim : Nat} {cfg : CfgV} {v8 v9 : Value} {ps : List (List OpV)} {ks : List Int} (h : Bld w B xb lim cfg v8 v9 ps ks) (x : Int) :
    Bld (w.setCell ⟨xb, 6, none⟩ (.int .i64 x)) B xb lim { cfg with feed := x } v8 v9 ps ks := by
  have hr := h.rows 6 (.int .i64 x)
  exact ⟨h.t.set _ _ rfl, h.hB, (set_cell_ne _ (by decide)).trans h.c0, (set_cell_ne _ (by decide)).trans h.c1, (set_cell_ne _ (by decide)).trans h.c2, (set_cell_ne _ (by decide)).trans h.c3, (set_cell_ne _ (by decide)).trans h.c4, (set_cell_ne _ (by decide)).trans h.c5, set_cell_at _ h.c6, (set_cell_ne _ (by decide)).trans h.c7, (set_cell_ne _ (by decide)).trans h.c8, (set_cell_ne _ (by decide)).trans h.c9, hr.1, hr.2⟩
theorem Bld.set7 {w : World} {B xb lim : Nat} {cfg : CfgV} {v8 v9 : Value} {ps : List (List OpV)} {ks : List Int} (h : Bld w B xb lim cfg v8 v9 ps ks) (x : ByteArray) :
    Bld (w.setCell ⟨xb, 7, none⟩ (.string x)) B xb lim { cfg with text := x } v8 v9 ps ks := by
  have hr := h.rows 7 (.string x)
  exact ⟨h.t.set _ _ rfl, h.hB, (set_cell_ne _ (by decide)).trans h.c0, (set_cell_ne _ (by decide)).trans h.c1, (set_cell_ne _ (by decide)).trans h.c2, (set_cell_ne _ (by decide)).trans h.c3, (set_cell_ne _ (by decide)).trans h.c4, (set_cell_ne _ (by decide)).trans h.c5, (set_cell_ne _ (by decide)).trans h.c6, set_cell_at _ h.c7, (set_cell_ne _ (by decide)).trans h.c8, (set_cell_ne _ (by decide)).trans h.c9, hr.1, hr.2⟩

/-- A finished program is appended: the row may have moved. -/
theorem Bld.push_prog {w w1 : World} {B xb lim lim' : Nat} {cfg : CfgV} {v8 v9 v1 : Value} {ps : List (List OpV)} {ks : List Int} {A : Option Addr} {c : Nat} {xs : List OpV} (h : Bld w B xb lim cfg v8 v9 ps ks) (hl : lim ≤ lim')
    (hx : OpsIn w lim' A xs) (vals : List Value) (hp : ProgVals w lim vals ps)
    (hown : w1.ownsRow B 41 1 v1 (ps.length + 1) (vals ++ [.slice A xs.length c])) (hg : w.grownBy w1 v8.ownBlock) (h8 : w.ownsRow B 41 1 v8 ps.length vals) :
    Bld (w1.setCell ⟨xb, 8, none⟩ v1) B xb lim' cfg v1 v9 (ps ++ [xs]) ks := by
  have hxb : some xb ≠ v8.ownBlock := fun e => absurd rfl ((own_elem h8 e.symm).ne h.t (by decide))
  have hk : w1.heap[xb]? = w.heap[xb]? := hg.block xb h.t.lt hxb
  have hc : ∀ i, w1.cell? ⟨xb, i, none⟩ = w.cell? ⟨xb, i, none⟩ := fun i => World.cell?_of_block (a := ⟨xb, i, none⟩) hk
  have hops : ∀ A xs l, OpsIn w l A xs → OpsIn (w1.setCell ⟨xb, 8, none⟩ v1) l A xs := by
    intro A xs l ho hpos
    obtain ⟨b, o, e, hb, ht, hcl⟩ := ho hpos
    have hkb : (w1.setCell ⟨xb, 8, none⟩ v1).heap[b]? = w.heap[b]? :=
      (Below.heap_setCell _ _ _ _ (ht.ne h.t (by decide))).trans (hg.block b ht.lt (fun e => absurd rfl (ht.ne (own_elem h8 e.symm) (by decide))))
    exact ⟨b, o, e, hb, ht.keep hkb, fun j hj => (hcl j hj).keep hkb⟩
  have hg2 := set_grown w1 xb 8 v1
  have ht1 : ElemT w1 xb 28 := h.t.keep hk
  refine ⟨ht1.set _ _ rfl, h.hB, (set_cell_ne _ (by decide)).trans ((hc _).trans h.c0), (set_cell_ne _ (by decide)).trans ((hc _).trans h.c1), (set_cell_ne _ (by decide)).trans ((hc _).trans h.c2), (set_cell_ne _ (by decide)).trans ((hc _).trans h.c3),
    (set_cell_ne _ (by decide)).trans ((hc _).trans h.c4), (set_cell_ne _ (by decide)).trans ((hc _).trans h.c5), (set_cell_ne _ (by decide)).trans ((hc _).trans h.c6), (set_cell_ne _ (by decide)).trans ((hc _).trans h.c7),
    set_cell_at _ ((hc _).trans h.c8), (set_cell_ne _ (by decide)).trans ((hc _).trans h.c9), ⟨vals ++ [.slice A xs.length c], ?_, ?_⟩, ?_⟩
  · rw [List.length_append]
    refine hown.kept hg2 ?_
    by_cases e : v1.ownBlock = some xb
    · exact absurd rfl ((own_elem hown e).ne ht1 (by decide))
    · exact .inr e
  · refine ProgVals.snoc (c := c) ⟨hp.1, fun j hj => ?_⟩ (hops _ _ _ hx)
    obtain ⟨A', c', q1, q2⟩ := hp.2 j hj
    exact ⟨A', c', q1, hops _ _ _ (q2.more hl)⟩
  · have h9 : v9.ownBlock = none ∨ v9.ownBlock ≠ v8.ownBlock := by
      by_cases e : v9.ownBlock = none
      · exact .inl e
      · right
        intro e2
        obtain ⟨q, hq⟩ := Option.ne_none_iff_exists'.1 e
        exact absurd rfl ((own_elem h.picks hq).ne (own_elem h8 (e2.symm.trans hq)) (by decide))
    refine (h.picks.kept hg h9).kept hg2 ?_
    by_cases e : v9.ownBlock = some xb
    · exact absurd rfl ((own_elem (h.picks.kept hg h9) e).ne ht1 (by decide))
    · exact .inr e

/-- A pick is appended. -/
theorem Bld.push_pick {w w1 : World} {B xb lim : Nat} {cfg : CfgV} {v8 v9 v1 : Value} {ps : List (List OpV)} {ks : List Int} {x : Int} (h : Bld w B xb lim cfg v8 v9 ps ks)
    (hown : w1.ownsRow B 3 1 v1 (ks.length + 1) (ks.map (Value.int .i64) ++ [.int .i64 x])) (hg : w.grownBy w1 v9.ownBlock) :
    Bld (w1.setCell ⟨xb, 9, none⟩ v1) B xb lim cfg v8 v1 ps (ks ++ [x]) := by
  have hxb : some xb ≠ v9.ownBlock := fun e => absurd rfl ((own_elem h.picks e.symm).ne h.t (by decide))
  have hk : w1.heap[xb]? = w.heap[xb]? := hg.block xb h.t.lt hxb
  have hc : ∀ i, w1.cell? ⟨xb, i, none⟩ = w.cell? ⟨xb, i, none⟩ := fun i => World.cell?_of_block (a := ⟨xb, i, none⟩) hk
  have hg2 := set_grown w1 xb 9 v1
  have ht1 : ElemT w1 xb 28 := h.t.keep hk
  obtain ⟨vals, p1, p2⟩ := h.progs
  refine ⟨ht1.set _ _ rfl, h.hB, (set_cell_ne _ (by decide)).trans ((hc _).trans h.c0), (set_cell_ne _ (by decide)).trans ((hc _).trans h.c1), (set_cell_ne _ (by decide)).trans ((hc _).trans h.c2), (set_cell_ne _ (by decide)).trans ((hc _).trans h.c3),
    (set_cell_ne _ (by decide)).trans ((hc _).trans h.c4), (set_cell_ne _ (by decide)).trans ((hc _).trans h.c5), (set_cell_ne _ (by decide)).trans ((hc _).trans h.c6), (set_cell_ne _ (by decide)).trans ((hc _).trans h.c7),
    (set_cell_ne _ (by decide)).trans ((hc _).trans h.c8), set_cell_at _ ((hc _).trans h.c9), ⟨vals, ?_, p2.1, fun j hj => ?_⟩, ?_⟩
  · have h8 : v8.ownBlock = none ∨ v8.ownBlock ≠ v9.ownBlock := by
      by_cases e : v8.ownBlock = none
      · exact .inl e
      · right
        intro e2
        obtain ⟨q, hq⟩ := Option.ne_none_iff_exists'.1 e
        exact absurd rfl ((own_elem p1 hq).ne (own_elem h.picks (e2.symm.trans hq)) (by decide))
    refine (p1.kept hg h8).kept hg2 ?_
    by_cases e : v8.ownBlock = some xb
    · exact absurd rfl ((own_elem (p1.kept hg h8) e).ne ht1 (by decide))
    · exact .inr e
  · obtain ⟨A, c, q1, q2⟩ := p2.2 j hj
    refine ⟨A, c, q1, fun hpos => ?_⟩
    obtain ⟨b, o, e, hb, ht, hcl⟩ := q2 hpos
    have hkb : (w1.setCell ⟨xb, 9, none⟩ v1).heap[b]? = w.heap[b]? :=
      (Below.heap_setCell _ _ _ _ (ht.ne h.t (by decide))).trans (hg.block b ht.lt (fun e => absurd rfl (ht.ne (own_elem h.picks e.symm) (by decide))))
    exact ⟨b, o, e, hb, ht.keep hkb, fun j hj => (hcl j hj).keep hkb⟩
  · rw [List.length_append, List.map_append]
    refine hown.kept hg2 ?_
    by_cases e : v1.ownBlock = some xb
    · exact absurd rfl ((own_elem hown e).ne ht1 (by decide))
    · exact .inr e

/-- What has been built, as a value. -/
theorem Bld.scr {w : World} {B xb lim : Nat} {cfg : CfgV} {v8 v9 : Value} {ps : List (List OpV)} {ks : List Int} (h : Bld w B xb lim cfg v8 v9 ps ks) :
    ScrAt w w.heap.size (scrVal cfg v8 v9) ⟨cfg, ps, ks⟩ := by
  obtain ⟨vals, p1, p2⟩ := h.progs
  obtain ⟨A8, c8, rfl⟩ := own_slice p1
  obtain ⟨A9, c9, rfl⟩ := own_slice h.picks
  have hI := Ints.of_own h.picks
  refine ⟨A8, c8, A9, c9, rfl, fun hpos => ?_, hI.2⟩
  obtain ⟨g, cap, hv, _, hlt⟩ := p1.form hpos
  have hA : A8 = some ⟨g, 0, none⟩ := by injection hv
  subst hA
  refine ⟨g, 0, rfl, hlt, fun j hj => ?_⟩
  obtain ⟨A, c, q1, q2⟩ := p2.2 j hj
  refine ⟨A, c, ?_, q2.at_⟩
  have := p1.cells (g := g) rfl j _ q1
  rw [← this]
  unfold Addr.add
  by_cases h0 : j = 0 <;> simp [h0]
end Go.Proofs.Ytcicememljlafaa
