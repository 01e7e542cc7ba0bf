/- The states of a reading of a script, by the reference. -/
import Derived.Test.YtcicememljlafaaF2
namespace Go.Proofs.Ytcicememljlafaa
open Go.RowKit
open Runes (bs bt)

/-! ### Steps of the plain law -/
section
variable {P : Prop} {l1 : List Int} {b : Bool} {γ : Type} {d : Option γ}
theorem step_num {k : Nat} {f : Int × List Int → Option γ} (h : P ∨ (b = false ∧ d = (dNum l1 k).bind f)) (hn : d = none → P) : P ∨ (rx l1 k b = false ∧ d = f (rv l1 k, rd l1 k)) := by
  rcases h with h | ⟨rfl, h⟩
  · exact .inl h
  · by_cases hk : k ≤ l1.length
    · refine .inr ⟨by unfold rx; rw [if_pos hk], ?_⟩
      rw [h]; unfold dNum rv rd; rw [if_pos hk, if_pos hk, if_pos hk]; rfl
    · exact .inl (hn (by rw [h]; unfold dNum; rw [if_neg hk]; rfl))
theorem step_text {f : ByteArray × List Int → Option γ} (h : P ∨ (b = false ∧ d = (dText l1).bind f)) (hn : d = none → P) : P ∨ (tx l1 b = false ∧ d = f (tv l1, td l1)) := by
  rcases h with h | ⟨rfl, h⟩
  · exact .inl h
  · cases ht : dText l1 with
    | none => exact .inl (hn (by rw [h, ht]; rfl))
    | some y =>
      obtain ⟨t, r⟩ := y
      obtain ⟨e1, e2, e3⟩ := dText_r ht false
      exact .inr ⟨e3, by rw [h, ht, e1, e2]; rfl⟩
theorem step_op {j : Nat} {r2 r3 : List Int} {xs : List OpV} (h : P ∨ (b = false ∧ dOps j r2 = some (xs, r3))) (hn : dOps (j + 1) r2 = none → P) :
    P ∨ ((opR r3 b).2.2 = false ∧ dOps (j + 1) r2 = some (xs ++ [(opR r3 b).1], (opR r3 b).2.1)) := by
  rcases h with h | ⟨rfl, h⟩
  · exact .inl h
  · have hd : dOps (j + 1) r2 = (dOp r3).map fun z => (xs ++ [z.1], z.2) := by simp only [dOps, h, Option.bind_some]
    cases ho : dOp r3 with
    | none => exact .inl (hn (by rw [hd, ho]; rfl))
    | some y =>
      obtain ⟨o, r⟩ := y
      rw [dOp_r ho false]
      exact .inr ⟨rfl, by rw [hd, ho]; rfl⟩
end
theorem dCfg_b (l : List Int) : dCfg l = (dNum l 2).bind fun a => (dNum a.2 4).bind fun b => (dNum b.2 1).bind fun c => (dNum c.2 1).bind fun d => (dNum d.2 1).bind fun e => (dNum e.2 1).bind fun g => (dNum g.2 1).bind fun h =>
    (dText h.2).bind fun t => some (⟨a.1, b.1, c.1, d.1, e.1, g.1, h.1, t.1⟩, t.2) := by
  unfold dCfg
  simp only [Option.map_eq_bind, Function.comp_def]
theorem dPicks_b (r : List Int) : dPicks r = (dNum r 2).bind fun y => dTake y.2 y.1.toNat := rfl
/-- The end of a reading. -/
theorem dec_not {l r : List Int} {x : ScrV} (hl : BL l) (h : dScr l = none ∨ dScr l = some (x, r)) (hb : r ≠ [] ∨ chkScr x ≠ 0 ∨ encScr x ≠ l) : ¬ ∃ s, ScrOk s ∧ ScrTy s ∧ encScr s = l := by
  rintro ⟨s, h1, h2, h3⟩
  obtain ⟨e1, e2⟩ := (dec_iff l hl s).2 ⟨h1, h2, h3⟩
  rcases h with h | h
  · rw [e1] at h; cases h
  · rw [e1] at h
    injection h with h
    injection h with ha hb'
    subst ha hb'
    rcases hb with hb | hb | hb
    · exact hb rfl
    · exact hb e2
    · exact hb h3
/-- Numbers of a script that is being read are in their bounds. -/
def OpsIn1 (xs : List OpV) : Prop := ∀ o ∈ xs, OpTy o ∧ 0 ≤ o.kind ∧ o.kind ≤ 255
theorem OpsIn1.snoc {xs : List OpV} {l : List Int} (h : OpsIn1 xs) (hl : BL l) (b : Bool) : OpsIn1 (xs ++ [(opR l b).1]) := by
  intro o ho
  rcases List.mem_append.1 ho with ho | ho
  · exact h o ho
  · simp at ho; subst ho
    exact ⟨(opR_in hl b).ty, (opR_in hl b).kd⟩
def ProgsIn1 (ps : List (List OpV)) : Prop := ∀ p ∈ ps, p.length ≤ 65536 ∧ OpsIn1 p
theorem ProgsIn1.snoc {ps : List (List OpV)} {xs : List OpV} (h : ProgsIn1 ps) (h1 : xs.length ≤ 65536) (h2 : OpsIn1 xs) : ProgsIn1 (ps ++ [xs]) := by
  intro p hp
  rcases List.mem_append.1 hp with hp | hp
  · exact h p hp
  · simp at hp; subst hp; exact ⟨h1, h2⟩

/-! ### In memory -/
structure RqSt (w0 W : World) (B : Nat) (l : List Int) (b : Bool) (lim : Nat) (cfg : CfgV) (v8 v9 : Value) (ps : List (List OpV)) (ks : List Int) : Prop where
  rr : RrSt w0 W B (bs l) lim cfg v8 v9 ps ks
  bad : W.cell? ⟨B + 1, 1, none⟩ = some (.bool b)
section
variable {w0 W W' w1 : World} {B lim : Nat} {l l' : List Int} {b b' : Bool} {cfg cf : CfgV} {v8 v9 v1 v7 : Value} {ps : List (List OpV)} {ks : List Int} {O : Obj}
theorem RqSt.box (h : RqSt w0 W B l b lim cfg v8 v9 ps ks) : RBox W (B + 1) l b := ⟨h.rr.str, h.bad⟩
theorem RqSt.next (h : RqSt w0 W B l b lim cfg v8 v9 ps ks) (hs : RBox W' (B + 1) l' b') (hg : W.grownBy W' (some (B + 1))) : RqSt w0 W' B l' b' lim cfg v8 v9 ps ks := ⟨h.rr.next hs.str hg, hs.bad⟩
theorem RqSt.other (h : RqSt w0 W B l b lim cfg v8 v9 ps ks) (hm : Mild W W' lim) (hk : ∀ q, q < B + 1 + 1 + 1 → W'.heap[q]? = W.heap[q]?) : RqSt w0 W' B l b lim cfg v8 v9 ps ks :=
  ⟨h.rr.other hm hk, (World.cell?_of_block (a := ⟨B + 1, 1, none⟩) (hk _ (by show B + 1 < _; omega))).trans h.bad⟩
theorem RqSt.alloc (h : RqSt w0 W B l b lim cfg v8 v9 ps ks) (o : Obj) : RqSt w0 (W.alloc o) B l b lim cfg v8 v9 ps ks := by
  have h3 := h.rr.lt2
  exact h.other (Mild.alloc _ _ _) fun q hq => Below.heap_alloc _ _ _ (by omega)
theorem RqSt.drew (h : RqSt w0 W B l b lim cfg v8 v9 ps ks) : RqSt w0 W.drew B l b lim cfg v8 v9 ps ks := h.other (Mild.drewN W 1 lim) fun _ _ => rfl
theorem RqSt.more {lim' : Nat} (h : RqSt w0 W B l b lim cfg v8 v9 ps ks) (hl : lim ≤ lim') : RqSt w0 W B l b lim' cfg v8 v9 ps ks := ⟨h.rr.more hl, h.bad⟩
theorem RqSt.put {cfg' : CfgV} {v8' v9' : Value} {ps' : List (List OpV)} {ks' : List Int} {i : Nat} {v : Value} (h : RqSt w0 W B l b lim cfg v8 v9 ps ks) (hb : RrSt w0 (W.setCell ⟨B + 1 + 1, i, none⟩ v) B (bs l) lim cfg' v8' v9' ps' ks') :
    RqSt w0 (W.setCell ⟨B + 1 + 1, i, none⟩ v) B l b lim cfg' v8' v9' ps' ks' :=
  ⟨hb, (World.cell?_of_block (a := ⟨B + 1, 1, none⟩) (Below.heap_setCell _ _ _ _ (by show B + 1 ≠ B + 1 + 1; omega))).trans h.bad⟩
theorem ops_pushedQ {xs : List OpV} {o : OpV} (h : RqSt w0 W B l b lim cf v8 v9 ps ks) (hc : CurRow W lim v7 xs) (hl : lim ≤ W.heap.size) (h4 : B + 1 + 1 + 1 ≤ lim)
    (hown : w1.ownsRow lim 44 7 v1 (xs.length + 1) ((xs.flatMap opCells) ++ opCells o)) (hg : (W.alloc O).grownBy w1 v7.ownBlock) :
    RqSt w0 w1 B l b lim cf v8 v9 ps ks ∧ CurRow w1 lim v1 (xs ++ [o]) ∧ lim ≤ w1.heap.size := by
  have hca : CurRow (W.alloc O) lim v7 xs := World.ownsRow.alloc hc _
  have hs := hg.size
  refine ⟨(h.alloc O).other (Mild.grown hg fun q e => ⟨44, own_elem hca e, .inr ⟨rfl, (World.ownsRow.lt hca q e).1⟩⟩) fun q hq => hg.block q (by simp; omega) (fun e => ?_), ?_, by simp at hs; omega⟩
  · have := (World.ownsRow.lt hca q e.symm).1
    omega
  · show w1.ownsRow lim 44 7 v1 (xs ++ [o]).length ((xs ++ [o]).flatMap opCells)
    rw [List.length_append, List.flatMap_append, show [o].flatMap opCells = opCells o from by simp]
    exact hown
theorem prog_pushedQ {lim' n c : Nat} {A : Option Addr} {xs : List OpV} {vals : List Value}
    (h : RqSt w0 W B l b lim cf v8 v9 ps ks) (hc : CurRow W lim' (.slice A n c) xs) (hl : lim ≤ W.heap.size) (h8 : W.ownsRow B 41 1 v8 ps.length vals) (hp : ProgVals W lim vals ps)
    (hown : w1.ownsRow B 41 1 v1 (ps.length + 1) (vals ++ [.slice A n c])) (hg : (W.alloc O).grownBy w1 v8.ownBlock) :
    w1.cell? ⟨B + 1 + 1, 8, none⟩ = some v8 ∧ w1.frozen? ⟨B + 1 + 1, 8, none⟩ = false ∧ RqSt w0 (w1.setCell ⟨B + 1 + 1, 8, none⟩ v1) B l b W.heap.size cf v1 v9 (ps ++ [xs]) ks := by
  obtain ⟨rfl, hx⟩ := opsIn_of_cur hc
  have ha := h.alloc O
  have h3 := h.rr.lt2
  have h8a : (W.alloc O).ownsRow B 41 1 v8 ps.length vals := World.ownsRow.alloc h8 _
  have hne : ∀ {q : Nat} {t : TypeId}, ElemT (W.alloc O) q t → t ≠ 41 → w1.heap[q]? = (W.alloc O).heap[q]? := fun {q t} ht hn => hg.block q ht.lt (fun e => absurd rfl (ht.ne (own_elem h8a e.symm) hn))
  have hk0 := hne ha.rr.str.elem (by decide)
  have hk1 : w1.heap[B]? = (W.alloc O).heap[B]? := hne (t := 28) ⟨_, ha.rr.res⟩ (by decide)
  have hk2 := hne ha.rr.bld.t (by decide)
  have hxa : OpsIn (W.alloc O) W.heap.size A xs := fun hpos => by
    obtain ⟨b, o, e, hb, ht, hcl⟩ := hx hpos
    have hkb : (W.alloc O).heap[b]? = W.heap[b]? := Below.heap_alloc _ _ _ ht.lt
    exact ⟨b, o, e, hb, ht.keep hkb, fun j hj => (hcl j hj).keep hkb⟩
  have hpa : ProgVals (W.alloc O) lim vals ps := hp.mild (Mild.alloc W O lim)
  have hb := Bld.push_prog ha.rr.bld hl hxa vals hpa hown hg h8a
  refine ⟨(World.cell?_of_block (a := ⟨B + 1 + 1, 8, none⟩) hk2).trans ha.rr.bld.c8, (ha.rr.bld.t.keep hk2).frozen 8, ⟨?_, ?_, hb, ?_⟩, ?_⟩
  · exact (ha.rr.str.grownN hk0).grownN (Below.heap_setCell _ _ _ _ (by show B + 1 ≠ B + 1 + 1; omega))
  · exact (Below.heap_setCell _ _ _ _ (by show B ≠ B + 1 + 1; omega)).trans (hk1.trans ha.rr.res)
  · refine (ha.rr.bel.trans ⟨hg.os, hg.tape, hg.output, hg.size, fun k hk => hg.block k (by simp; omega) (fun e => ?_)⟩).setCell (by show B ≤ B + 1 + 1; omega) _
    have := (World.ownsRow.lt h8a k e.symm).1
    omega
  · exact (World.cell?_of_block (a := ⟨B + 1, 1, none⟩) (Below.heap_setCell _ _ _ _ (by show B + 1 ≠ B + 1 + 1; omega))).trans ((World.cell?_of_block (a := ⟨B + 1, 1, none⟩) hk0).trans ha.bad)
theorem pick_pushedQ {x : Int} {k : Nat} (h : RqSt w0 W B l b lim cf v8 v9 ps ks) (hk : ks.length = k)
    (hown : w1.ownsRow B 3 1 v1 (k + 1) (ks.map (Value.int .i64) ++ [.int .i64 x])) (hg : (W.alloc O).grownBy w1 v9.ownBlock) :
    w1.cell? ⟨B + 1 + 1, 9, none⟩ = some v9 ∧ w1.frozen? ⟨B + 1 + 1, 9, none⟩ = false ∧ RqSt w0 (w1.setCell ⟨B + 1 + 1, 9, none⟩ v1) B l b lim cf v8 v1 ps (ks ++ [x]) := by
  subst hk
  have ha := h.alloc O
  have h3 := h.rr.lt2
  have h9a := ha.rr.bld.picks
  have hne : ∀ {q : Nat} {t : TypeId}, ElemT (W.alloc O) q t → t ≠ 3 → w1.heap[q]? = (W.alloc O).heap[q]? := fun {q t} ht hn => hg.block q ht.lt (fun e => absurd rfl (ht.ne (own_elem h9a e.symm) hn))
  have hk0 := hne ha.rr.str.elem (by decide)
  have hk1 : w1.heap[B]? = (W.alloc O).heap[B]? := hne (t := 28) ⟨_, ha.rr.res⟩ (by decide)
  have hk2 := hne ha.rr.bld.t (by decide)
  have hb := Bld.push_pick ha.rr.bld hown hg
  refine ⟨(World.cell?_of_block (a := ⟨B + 1 + 1, 9, none⟩) hk2).trans ha.rr.bld.c9, (ha.rr.bld.t.keep hk2).frozen 9, ⟨?_, ?_, hb, ?_⟩, ?_⟩
  · exact (ha.rr.str.grownN hk0).grownN (Below.heap_setCell _ _ _ _ (by show B + 1 ≠ B + 1 + 1; omega))
  · exact (Below.heap_setCell _ _ _ _ (by show B ≠ B + 1 + 1; omega)).trans (hk1.trans ha.rr.res)
  · refine (ha.rr.bel.trans ⟨hg.os, hg.tape, hg.output, hg.size, fun k hk => hg.block k (by simp; omega) (fun e => ?_)⟩).setCell (by show B ≤ B + 1 + 1; omega) _
    have := (World.ownsRow.lt h9a k e.symm).1
    omega
  · exact (World.cell?_of_block (a := ⟨B + 1, 1, none⟩) (Below.heap_setCell _ _ _ _ (by show B + 1 ≠ B + 1 + 1; omega))).trans ((World.cell?_of_block (a := ⟨B + 1, 1, none⟩) hk0).trans ha.bad)
end
theorem rqst_init (w : World) (l : List Int) :
    RqSt w (((w.alloc zeroScr).alloc (.cells #[.string (bs l), .bool false] 56)).alloc zeroScr) w.heap.size l false w.heap.size cfg0 (.slice none 0 0) (.slice none 0 0) [] [] := by
  refine ⟨rrst_init w (bs l), ?_⟩
  have h1 : (((w.alloc zeroScr).alloc (.cells #[.string (bs l), .bool false] 56)).alloc zeroScr).heap[w.heap.size + 1]? = some (.cells #[.string (bs l), .bool false] 56) := by
    repeat (first | (refine heap_new _ ?_; (simp; done)) | refine heap_old ?_)
  rw [cell_of_row _ _ 1 _ _ _ h1]; rfl
end Go.Proofs.Ytcicememljlafaa
