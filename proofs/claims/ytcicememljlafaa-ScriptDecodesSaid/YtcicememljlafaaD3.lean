/- The states of a reading of a script, by the program. -/
import Derived.Test.YtcicememljlafaaD2
namespace Go.Proofs.Ytcicememljlafaa
open Go.RowKit
open Runes (bs bt)

structure ScSt (W0 W : World) (rb : Nat) (l : List Int) (lim : Nat) (cfg : CfgV) (v8 v9 : Value) (ps : List (List OpV)) (ks : List Int) : Prop where
  str : StrBox W rb 74 (bs l)
  res : W.heap[W0.heap.size]? = some zeroScr
  bld : Bld W W0.heap.size (W0.heap.size + 1) lim cfg v8 v9 ps ks
  gr : W0.grownBy W (some rb)
  hrb : rb < W0.heap.size
section
variable {W0 W W' : World} {rb lim : Nat} {l l' : List Int} {cfg : CfgV} {v8 v9 : Value} {ps : List (List OpV)} {ks : List Int}
theorem ScSt.lt (h : ScSt W0 W rb l lim cfg v8 v9 ps ks) : W0.heap.size + 1 < W.heap.size := h.bld.t.lt
theorem ScSt.next (h : ScSt W0 W rb l lim cfg v8 v9 ps ks) (hs : StrBox W' rb 74 (bs l')) (hg : W.grownBy W' (some rb)) : ScSt W0 W' rb l' lim cfg v8 v9 ps ks := by
  have h1 := h.hrb
  exact ⟨hs, (hg.block _ (heap_lt h.res) (by intro e; injection e; omega)).trans h.res, h.bld.mild (Mild.grown hg fun q e => by injection e with e; subst e; exact ⟨74, h.str.elem, .inl (by decide)⟩), grown_trans h.gr hg, h.hrb⟩
theorem ScSt.other (h : ScSt W0 W rb l lim cfg v8 v9 ps ks) (hm : Mild W W' lim) (hk : ∀ q, q < W0.heap.size + 1 → W'.heap[q]? = W.heap[q]?) : ScSt W0 W' rb l lim cfg v8 v9 ps ks := by
  have h1 := h.hrb
  exact ⟨h.str.grownN (hk rb (by omega)), (hk _ (by omega)).trans h.res, h.bld.mild hm, ⟨hm.1.trans h.gr.os, hm.2.1.trans h.gr.tape, hm.2.2.1.trans h.gr.output, Nat.le_trans h.gr.size hm.2.2.2.1, fun q hq hr => (hk q (by omega)).trans (h.gr.block q hq hr)⟩, h.hrb⟩
theorem ScSt.alloc (h : ScSt W0 W rb l lim cfg v8 v9 ps ks) (o : Obj) : ScSt W0 (W.alloc o) rb l lim cfg v8 v9 ps ks := by
  have := h.lt
  exact h.other (Mild.alloc _ _ _) fun q hq => Below.heap_alloc _ _ _ (by omega)
theorem ScSt.drewN (h : ScSt W0 W rb l lim cfg v8 v9 ps ks) (k : Nat) : ScSt W0 (W.drewN k) rb l lim cfg v8 v9 ps ks := h.other (Mild.drewN W k lim) fun _ _ => rfl
theorem ScSt.more {lim' : Nat} (h : ScSt W0 W rb l lim cfg v8 v9 ps ks) (hl : lim ≤ lim') : ScSt W0 W rb l lim' cfg v8 v9 ps ks := ⟨h.str, h.res, h.bld.more hl, h.gr, h.hrb⟩
theorem ScSt.fr (h : ScSt W0 W rb l lim cfg v8 v9 ps ks) (i : Nat) : W.frozen? ⟨W0.heap.size + 1, i, none⟩ = false := h.bld.t.frozen i
theorem ScSt.put {cfg' : CfgV} {v8' v9' : Value} {ps' : List (List OpV)} {ks' : List Int} (h : ScSt W0 W rb l lim cfg v8 v9 ps ks) (i : Nat) (v : Value) (hb : Bld (W.setCell ⟨W0.heap.size + 1, i, none⟩ v) W0.heap.size (W0.heap.size + 1) lim cfg' v8' v9' ps' ks') :
    ScSt W0 (W.setCell ⟨W0.heap.size + 1, i, none⟩ v) rb l lim cfg' v8' v9' ps' ks' := by
  have h1 := h.hrb
  have hk : ∀ q, q ≠ W0.heap.size + 1 → (W.setCell ⟨W0.heap.size + 1, i, none⟩ v).heap[q]? = W.heap[q]? := fun q hq => Below.heap_setCell _ _ _ _ hq
  exact ⟨h.str.grownN (hk rb (by omega)), (hk _ (by omega)).trans h.res, hb, ⟨h.gr.os, h.gr.tape, h.gr.output, by simpa using h.gr.size, fun q hq hr => (hk q (by omega)).trans (h.gr.block q hq hr)⟩, h.hrb⟩
end
theorem scst_start {W : World} {rb : Nat} {l : List Int} (h : StrBox W rb 74 (bs l)) : ScSt W ((W.alloc zeroScr).alloc zeroScr) rb l W.heap.size cfg0 (.slice none 0 0) (.slice none 0 0) [] [] := by
  have hlt := h.elem.lt
  have h1 : ((W.alloc zeroScr).alloc zeroScr).heap[W.heap.size]? = some zeroScr := (Below.heap_alloc _ _ _ (by simp)).trans (heap_alloc_new _ _)
  have h2 : ((W.alloc zeroScr).alloc zeroScr).heap[W.heap.size + 1]? = some zeroScr := heap_new _ (by simp)
  have hk : ∀ q, q < W.heap.size → ((W.alloc zeroScr).alloc zeroScr).heap[q]? = W.heap[q]? := fun q hq => (Below.heap_alloc _ _ _ (by simp; omega)).trans (Below.heap_alloc _ _ _ hq)
  have hc : ∀ i u, (#[.int .i64 0, .int .u64 0, .int .i64 0, .int .i64 0, .int .i64 0, .int .i64 0, .int .i64 0, .string ⟨#[]⟩, .slice none 0 0, .slice none 0 0] : Array Value)[i]? = some u → ((W.alloc zeroScr).alloc zeroScr).cell? ⟨W.heap.size + 1, i, none⟩ = some u := fun i u hu => by
    rw [cell_of_row _ _ i _ _ _ h2]; exact hu
  exact ⟨h.grownN (hk rb hlt), h1, ⟨⟨_, h2⟩, by omega, hc 0 _ rfl, hc 1 _ rfl, hc 2 _ rfl, hc 3 _ rfl, hc 4 _ rfl, hc 5 _ rfl, hc 6 _ rfl, hc 7 _ rfl, hc 8 _ rfl, hc 9 _ rfl, ⟨[], World.ownsRow_nil _ _ _ _, rfl, fun j hj => absurd hj (by simp)⟩, World.ownsRow_nil _ _ _ _⟩,
    ⟨rfl, rfl, rfl, by simp; omega, fun q hq _ => hk q hq⟩, hlt⟩
theorem prog_pushedS {W0 W w1 : World} {rb lim lim' n c : Nat} {A : Option Addr} {l : List Int} {cf : CfgV} {v8 v9 v1 : Value} {ps : List (List OpV)} {ks : List Int} {xs : List OpV} {O : Obj} {vals : List Value}
    (h : ScSt W0 W rb l lim cf v8 v9 ps ks) (hc : CurRow W lim' (.slice A n c) xs) (hl : lim ≤ W.heap.size) (h8 : W.ownsRow W0.heap.size 41 1 v8 ps.length vals) (hp : ProgVals W lim vals ps)
    (hown : w1.ownsRow W0.heap.size 41 1 v1 (ps.length + 1) (vals ++ [.slice A n c])) (hg : (W.alloc O).grownBy w1 v8.ownBlock) :
    w1.cell? ⟨W0.heap.size + 1, 8, none⟩ = some v8 ∧ w1.frozen? ⟨W0.heap.size + 1, 8, none⟩ = false ∧ ScSt W0 (w1.setCell ⟨W0.heap.size + 1, 8, none⟩ v1) rb l W.heap.size cf v1 v9 (ps ++ [xs]) ks := by
  obtain ⟨rfl, hx⟩ := opsIn_of_cur hc
  have ha := h.alloc O
  have h1 := h.hrb
  have h8a : (W.alloc O).ownsRow W0.heap.size 41 1 v8 ps.length vals := World.ownsRow.alloc h8 _
  have hne : ∀ {q : Nat} {t : TypeId}, ElemT (W.alloc O) q t → t ≠ 41 → w1.heap[q]? = (W.alloc O).heap[q]? := fun {q t} ht hn => hg.block q ht.lt (fun e => absurd rfl (ht.ne (own_elem h8a e.symm) hn))
  have hk0 := hne ha.str.elem (by decide)
  have hk1 : w1.heap[W0.heap.size]? = (W.alloc O).heap[W0.heap.size]? := hne (t := 28) ⟨_, ha.res⟩ (by decide)
  have hk2 := hne ha.bld.t (by decide)
  have hxa : OpsIn (W.alloc O) W.heap.size A xs := fun hpos => by
    obtain ⟨b, o, e, hb, ht, hcl⟩ := hx hpos
    have hkb : (W.alloc O).heap[b]? = W.heap[b]? := Below.heap_alloc _ _ _ ht.lt
    exact ⟨b, o, e, hb, ht.keep hkb, fun j hj => (hcl j hj).keep hkb⟩
  have hpa : ProgVals (W.alloc O) lim vals ps := hp.mild (Mild.alloc W O lim)
  have hb := Bld.push_prog ha.bld hl hxa vals hpa hown hg h8a
  refine ⟨(World.cell?_of_block (a := ⟨W0.heap.size + 1, 8, none⟩) hk2).trans ha.bld.c8, (ha.bld.t.keep hk2).frozen 8, ?_, ?_, hb, ?_, h1⟩
  · exact (ha.str.grownN hk0).grownN (Below.heap_setCell _ _ _ _ (by show rb ≠ W0.heap.size + 1; omega))
  · exact (Below.heap_setCell _ _ _ _ (by show W0.heap.size ≠ W0.heap.size + 1; omega)).trans (hk1.trans ha.res)
  · have hgs := hg.size
    refine ⟨hg.os.trans ha.gr.os, hg.tape.trans ha.gr.tape, hg.output.trans ha.gr.output, by simpa using Nat.le_trans ha.gr.size hgs, fun q hq hr => ?_⟩
    rw [Below.heap_setCell _ _ _ _ (by show q ≠ W0.heap.size + 1; omega), hg.block q (Nat.lt_of_lt_of_le hq ha.gr.size) (fun e => by have := (World.ownsRow.lt h8a q e.symm).1; omega)]
    exact ha.gr.block q hq hr
theorem pick_pushedS {W0 W w1 : World} {rb lim : Nat} {l : List Int} {cf : CfgV} {v8 v9 v1 : Value} {ps : List (List OpV)} {ks : List Int} {x : Int} {O : Obj} {k : Nat}
    (h : ScSt W0 W rb l lim cf v8 v9 ps ks) (hk : ks.length = k)
    (hown : w1.ownsRow W0.heap.size 3 1 v1 (k + 1) (ks.map (Value.int .i64) ++ [.int .i64 x])) (hg : (W.alloc O).grownBy w1 v9.ownBlock) :
    w1.cell? ⟨W0.heap.size + 1, 9, none⟩ = some v9 ∧ w1.frozen? ⟨W0.heap.size + 1, 9, none⟩ = false ∧ ScSt W0 (w1.setCell ⟨W0.heap.size + 1, 9, none⟩ v1) rb l lim cf v8 v1 ps (ks ++ [x]) := by
  subst hk
  have ha := h.alloc O
  have h1 := h.hrb
  have h9a := ha.bld.picks
  have hne : ∀ {q : Nat} {t : TypeId}, ElemT (W.alloc O) q t → t ≠ 3 → w1.heap[q]? = (W.alloc O).heap[q]? := fun {q t} ht hn => hg.block q ht.lt (fun e => absurd rfl (ht.ne (own_elem h9a e.symm) hn))
  have hk0 := hne ha.str.elem (by decide)
  have hk1 : w1.heap[W0.heap.size]? = (W.alloc O).heap[W0.heap.size]? := hne (t := 28) ⟨_, ha.res⟩ (by decide)
  have hk2 := hne ha.bld.t (by decide)
  have hb := Bld.push_pick ha.bld hown hg
  refine ⟨(World.cell?_of_block (a := ⟨W0.heap.size + 1, 9, none⟩) hk2).trans ha.bld.c9, (ha.bld.t.keep hk2).frozen 9, ?_, ?_, hb, ?_, h1⟩
  · exact (ha.str.grownN hk0).grownN (Below.heap_setCell _ _ _ _ (by show rb ≠ W0.heap.size + 1; omega))
  · exact (Below.heap_setCell _ _ _ _ (by show W0.heap.size ≠ W0.heap.size + 1; omega)).trans (hk1.trans ha.res)
  · have hgs := hg.size
    refine ⟨hg.os.trans ha.gr.os, hg.tape.trans ha.gr.tape, hg.output.trans ha.gr.output, by simpa using Nat.le_trans ha.gr.size hgs, fun q hq hr => ?_⟩
    rw [Below.heap_setCell _ _ _ _ (by show q ≠ W0.heap.size + 1; omega), hg.block q (Nat.lt_of_lt_of_le hq ha.gr.size) (fun e => by have := (World.ownsRow.lt h9a q e.symm).1; omega)]
    exact ha.gr.block q hq hr
theorem ops_pushedS {W0 W w1 : World} {rb lim : Nat} {l : List Int} {cf : CfgV} {v8 v9 v7 v1 : Value} {ps : List (List OpV)} {ks : List Int} {xs : List OpV} {o : OpV} {O : Obj}
    (h : ScSt W0 W rb l lim cf v8 v9 ps ks) (hc : CurRow W lim v7 xs) (hl : lim ≤ W.heap.size) (h4 : W0.heap.size + 1 < lim)
    (hown : w1.ownsRow lim 44 7 v1 (xs.length + 1) ((xs.flatMap opCells) ++ opCells o)) (hg : (W.alloc O).grownBy w1 v7.ownBlock) :
    ScSt W0 w1 rb l lim cf v8 v9 ps ks ∧ CurRow w1 lim v1 (xs ++ [o]) ∧ lim ≤ w1.heap.size := by
  have hca : CurRow (W.alloc O) lim v7 xs := World.ownsRow.alloc hc _
  have hs := hg.size
  refine ⟨(h.alloc O).other (Mild.grown hg fun q e => ⟨44, own_elem hca e, .inr ⟨rfl, (World.ownsRow.lt hca q e).1⟩⟩) fun q hq => hg.block q (by simp; omega) (fun e => ?_), ?_, by simp at hs; omega⟩
  · have := (World.ownsRow.lt hca q e.symm).1
    omega
  · show w1.ownsRow lim 44 7 v1 (xs ++ [o]).length ((xs ++ [o]).flatMap opCells)
    rw [List.length_append, List.flatMap_append, show [o].flatMap opCells = opCells o from by simp]
    exact hown

/-! ### Five numbers -/
def dFive : Nat → List Int → Option (List Int × List Int)
  | 0, l => some ([], l)
  | n + 1, l => (dFive n l).bind fun y => (dNum y.2 1).map fun z => (y.1 ++ [z.1], z.2)
def mkCfg (a b : Int) (ys : List Int) (t : ByteArray) : CfgV := ⟨a, b, ys.getD 0 0, ys.getD 1 0, ys.getD 2 0, ys.getD 3 0, ys.getD 4 0, t⟩
theorem dCfg_eq (l : List Int) : dCfg l = (dNum l 2).bind fun a => (dNum a.2 4).bind fun b => (dFive 5 b.2).bind fun y => (dText y.2).map fun t => (mkCfg a.1 b.1 y.1 t.1, t.2) := by
  unfold dCfg
  cases dNum l 2 with
  | none => rfl
  | some a =>
    simp only [Option.bind_some]
    cases dNum a.2 4 with
    | none => rfl
    | some b =>
      simp only [Option.bind_some, dFive]
      cases dNum b.2 1 with
      | none => rfl
      | some c =>
        simp only [Option.bind_some, Option.map_some]
        cases dNum c.2 1 with
        | none => rfl
        | some d =>
          simp only [Option.bind_some, Option.map_some]
          cases dNum d.2 1 with
          | none => rfl
          | some e =>
            simp only [Option.bind_some, Option.map_some]
            cases dNum e.2 1 with
            | none => rfl
            | some g =>
              simp only [Option.bind_some, Option.map_some]
              cases dNum g.2 1 with
              | none => rfl
              | some h => rfl
theorem dFive_len (n : Nat) : ∀ {l ys r : List Int}, dFive n l = some (ys, r) → ys.length = n := by
  induction n with
  | zero => intro l ys r h; simp only [dFive, Option.some.injEq, Prod.mk.injEq] at h; rw [← h.1]; rfl
  | succ n ih =>
    intro l ys r h
    simp only [dFive, Option.bind_eq_some_iff, Option.map_eq_some_iff] at h
    obtain ⟨⟨y, r1⟩, h1, ⟨z, r2⟩, h2, h3⟩ := h
    simp only [Prod.mk.injEq] at h3
    obtain ⟨rfl, rfl⟩ := h3
    simp [ih h1]
theorem dFive_none {n m : Nat} {l : List Int} (hn : n ≤ m) (h : dFive n l = none) : dFive m l = none := by
  induction m with
  | zero => obtain rfl : n = 0 := by omega
            exact h
  | succ m ih =>
    by_cases e : n = m + 1
    · subst e; exact h
    · simp only [dFive, ih (by omega), Option.bind_none]
theorem dOps_none {n m : Nat} {l : List Int} (hn : n ≤ m) (h : dOps n l = none) : dOps m l = none := by
  induction m with
  | zero => obtain rfl : n = 0 := by omega
            exact h
  | succ m ih =>
    by_cases e : n = m + 1
    · subst e; exact h
    · simp only [dOps, ih (by omega), Option.bind_none]
theorem dProgs_none {n m : Nat} {l : List Int} (hn : n ≤ m) (h : dProgs n l = none) : dProgs m l = none := by
  induction m with
  | zero => obtain rfl : n = 0 := by omega
            exact h
  | succ m ih =>
    by_cases e : n = m + 1
    · subst e; exact h
    · simp only [dProgs, ih (by omega), Option.bind_none]
end Go.Proofs.Ytcicememljlafaa
