/- A script that came in, read: its numbers, its texts, its operations, its picks. -/
import Derived.Test.YtcicememljlafaaA4
import Derived.ProofKit
import Derived.Deep.Slices
namespace Go.Proofs.Ytcicememljlafaa
open Go.ChangeShapes Go.WideShapes Go.ChangeAt Go.RowKit Go.Deep

section
variable {H : Type} {enc : TypeId × Value → H} {w : World} {base : Nat} {spare : Nat → Bool} {held : Bool}

structure OpWf (x : OpV) : Prop where
  kind : (Lit.int .u8 x.kind).wf = true
  slot : (Lit.int .i64 x.slot).wf = true
  pos : (Lit.int .i64 x.pos).wf = true
  num : (Lit.int .i64 x.num).wf = true
  id : (Lit.int .u32 x.id).wf = true
  grav : (Lit.int .u8 x.grav).wf = true
  text : x.text.size ≤ maxLen
structure CfgWf (x : CfgV) : Prop where
  slots : (Lit.int .i64 x.slots).wf = true
  gens : (Lit.int .u64 x.gens).wf = true
  clients : (Lit.int .i64 x.clients).wf = true
  readers : (Lit.int .i64 x.readers).wf = true
  queue : (Lit.int .i64 x.queue).wf = true
  batch : (Lit.int .i64 x.batch).wf = true
  feed : (Lit.int .i64 x.feed).wf = true
  text : x.text.size ≤ maxLen
structure ScrWf (s : ScrV) : Prop where
  cfg : CfgWf s.cfg
  progs : s.progs.length ≤ maxLen
  lens : ∀ q ∈ s.progs, q.length ≤ maxLen
  ops : ∀ q ∈ s.progs, ∀ x ∈ q, OpWf x
  picks : s.picks.length ≤ maxLen
  nums : ∀ x ∈ s.picks, (Lit.int .i64 x).wf = true

theorem open_op {n : Nat} {cs : List Value} {x : DataW H × List MemPlace} (h : DataW.trod enc Try.prog w base spare held n 44 cs = some x) :
    ∃ o : OpV, cs = [.int .u8 o.kind, .int .i64 o.slot, .int .i64 o.pos, .int .i64 o.num, .int .u32 o.id, .int .u8 o.grav, .string o.text] ∧ OpWf o := by
  obtain ⟨xs, m, _, _, hl, hlen, hf⟩ := DataW.trod_struct Try.underlying44 h
  have hC : Try.prog.cellsOf 44 = 7 := by kernel_rfl
  rw [hC] at hl
  match cs, hl with
  | [c0, c1, c2, c3, c4, c5, c6], _ =>
    match xs, hlen with
    | [y0, y1, y2, y3, y4, y5, y6], _ =>
      have f0 := hf 0 _ rfl
      have f1 := hf 1 _ rfl
      have f2 := hf 2 _ rfl
      have f3 := hf 3 _ rfl
      have f4 := hf 4 _ rfl
      have f5 := hf 5 _ rfl
      have f6 := hf 6 _ rfl
      have k3 : Try.prog.cellsOf 3 = 1 := by kernel_rfl
      have k5 : Try.prog.cellsOf 5 = 1 := by kernel_rfl
      have k9 : Try.prog.cellsOf 9 = 1 := by kernel_rfl
      have k42 : Try.prog.cellsOf 42 = 1 := by kernel_rfl
      simp [k3, k5, k9, k42] at f0 f1 f2 f3 f4 f5 f6
      obtain ⟨a0, e0, _, w0⟩ := DataW.trod_int Try.underlying5 f0
      obtain ⟨a1, e1, _, w1⟩ := DataW.trod_int Try.underlying3 f1
      obtain ⟨a2, e2, _, w2⟩ := DataW.trod_int Try.underlying3 f2
      obtain ⟨a3, e3, _, w3⟩ := DataW.trod_int Try.underlying3 f3
      obtain ⟨a4, e4, _, w4⟩ := DataW.trod_int Try.underlying42 f4
      obtain ⟨a5, e5, _, w5⟩ := DataW.trod_int Try.underlying5 f5
      obtain ⟨a6, e6, _, w6⟩ := DataW.trod_string Try.underlying9 f6
      simp at e0 e1 e2 e3 e4 e5 e6
      subst e0 e1 e2 e3 e4 e5 e6
      exact ⟨⟨a0, a1, a2, a3, a4, a5, a6⟩, rfl, w0, w1, w2, w3, w4, w5, w6⟩

theorem open_cfg {n : Nat} {cs : List Value} {x : DataW H × List MemPlace} (h : DataW.trod enc Try.prog w base spare held n 24 cs = some x) :
    ∃ o : CfgV, cs = [.int .i64 o.slots, .int .u64 o.gens, .int .i64 o.clients, .int .i64 o.readers, .int .i64 o.queue, .int .i64 o.batch, .int .i64 o.feed, .string o.text] ∧ CfgWf o := by
  obtain ⟨xs, m, _, _, hl, hlen, hf⟩ := DataW.trod_struct Try.underlying24 h
  have hC : Try.prog.cellsOf 24 = 8 := by kernel_rfl
  rw [hC] at hl
  match cs, hl with
  | [c0, c1, c2, c3, c4, c5, c6, c7], _ =>
    match xs, hlen with
    | [y0, y1, y2, y3, y4, y5, y6, y7], _ =>
      have f0 := hf 0 _ rfl
      have f1 := hf 1 _ rfl
      have f2 := hf 2 _ rfl
      have f3 := hf 3 _ rfl
      have f4 := hf 4 _ rfl
      have f5 := hf 5 _ rfl
      have f6 := hf 6 _ rfl
      have f7 := hf 7 _ rfl
      have k3 : Try.prog.cellsOf 3 = 1 := by kernel_rfl
      have k22 : Try.prog.cellsOf 22 = 1 := by kernel_rfl
      have k9 : Try.prog.cellsOf 9 = 1 := by kernel_rfl
      simp [k3, k22, k9] at f0 f1 f2 f3 f4 f5 f6 f7
      obtain ⟨a0, e0, _, w0⟩ := DataW.trod_int Try.underlying3 f0
      obtain ⟨a1, e1, _, w1⟩ := DataW.trod_int Try.underlying22 f1
      obtain ⟨a2, e2, _, w2⟩ := DataW.trod_int Try.underlying3 f2
      obtain ⟨a3, e3, _, w3⟩ := DataW.trod_int Try.underlying3 f3
      obtain ⟨a4, e4, _, w4⟩ := DataW.trod_int Try.underlying3 f4
      obtain ⟨a5, e5, _, w5⟩ := DataW.trod_int Try.underlying3 f5
      obtain ⟨a6, e6, _, w6⟩ := DataW.trod_int Try.underlying3 f6
      obtain ⟨a7, e7, _, w7⟩ := DataW.trod_string Try.underlying9 f7
      simp at e0 e1 e2 e3 e4 e5 e6 e7
      subst e0 e1 e2 e3 e4 e5 e6 e7
      exact ⟨⟨a0, a1, a2, a3, a4, a5, a6, a7⟩, rfl, w0, w1, w2, w3, w4, w5, w6, w7⟩

theorem add_off {b o : Nat} {s : Option Nat} (i : Nat) (h : s = none) : (⟨b, o, s⟩ : Addr).add i = ⟨b, o + i, none⟩ := by
  subst h; unfold Addr.add; by_cases h0 : i = 0 <;> simp [h0]

theorem open_ops {n : Nat} {cs : List Value} {x : DataW H × List MemPlace} (h : DataW.trod enc Try.prog w base spare held n 41 cs = some x) :
    ∃ A c, ∃ xs : List OpV, cs = [.slice A xs.length c] ∧ OpsAt w w.heap.size A xs ∧ xs.length ≤ maxLen ∧ ∀ x ∈ xs, OpWf x := by
  rcases open_slice Try.underlying41 h with ⟨hcs, _⟩ | ⟨a, len, cap, m, k, D, Pl, hcs, hb, hl, hm, hmm, _, hi⟩
  · exact ⟨none, 0, [], hcs, OpsAt.nil_ _ _ _, Nat.zero_le _, by simp⟩
  · have hC : Try.prog.cellsOf 44 = 7 := by kernel_rfl
    rw [hC] at hi
    have hle : len ≤ m := by rw [hmm]; split <;> omega
    have hop : ∀ i, i < len → ∃ o : OpV, (∀ j u, ([.int .u8 o.kind, .int .i64 o.slot, .int .i64 o.pos, .int .i64 o.num, .int .u32 o.id, .int .u8 o.grav, .string o.text] : List Value)[j]? = some u → w.cell? (a.add (i * 7 + j)) = some u) ∧ OpWf o := by
      intro i hil
      obtain ⟨cs', hc, ht⟩ := hi i (by omega)
      obtain ⟨o, rfl, hw⟩ := open_op ht
      obtain ⟨_, hcl, hat⟩ := World.cells?_some hc
      refine ⟨o, fun j u hj => ?_, hw⟩
      have hj7 : j < 7 := by
        rcases Nat.lt_or_ge j 7 with h | h
        · exact h
        · rw [List.getElem?_eq_none (by simpa using h)] at hj; cases hj
      have := hat j hj7
      rw [← Go.Deep.add_add, this]; exact hj
    let F : Nat → OpV := fun i => if h : i < len then Classical.choose (hop i h) else noOp
    have hF : ∀ i (h : i < len), F i = Classical.choose (hop i h) := fun i h => by simp [F, h]
    refine ⟨some a, cap, (List.range len).map F, by rw [hcs]; simp, fun hpos => ?_, by simp; omega, ?_⟩
    · have hlen : 0 < len := by simpa using hpos
      obtain ⟨b, o, s⟩ := a
      have h00 := (Classical.choose_spec (hop 0 hlen)).1 0 _ rfl
      have hs : s = none := by simpa [Addr.add] using World.cell?_spot h00
      have hb' : b < w.heap.size := by
        rw [add_off _ hs] at h00
        exact World.block_lt_of_cell? w _ h00
      refine ⟨b, o, by rw [hs], hb', fun j hj => ?_⟩
      have hjl : j < len := by simpa using hj
      have e : ((List.range len).map F).getD j noOp = Classical.choose (hop j hjl) := by rw [← hF j hjl]; simp [List.getD_eq_getElem?_getD, hjl]
      rw [e]
      have hsp := (Classical.choose_spec (hop j hjl)).1
      have g : ∀ q u, ([.int .u8 (Classical.choose (hop j hjl)).kind, .int .i64 (Classical.choose (hop j hjl)).slot, .int .i64 (Classical.choose (hop j hjl)).pos, .int .i64 (Classical.choose (hop j hjl)).num, .int .u32 (Classical.choose (hop j hjl)).id, .int .u8 (Classical.choose (hop j hjl)).grav, .string (Classical.choose (hop j hjl)).text] : List Value)[q]? = some u → w.cell? ⟨b, o + (j * 7 + q), none⟩ = some u := by
        intro q u hq
        have := hsp q u hq
        rwa [add_off _ hs] at this
      exact ⟨g 0 _ rfl, g 1 _ rfl, g 2 _ rfl, g 3 _ rfl, g 4 _ rfl, g 5 _ rfl, g 6 _ rfl⟩
    · intro x hx
      simp only [List.mem_map, List.mem_range] at hx
      obtain ⟨i, hi, rfl⟩ := hx
      rw [hF i hi]
      exact (Classical.choose_spec (hop i hi)).2

theorem open_progs {n : Nat} {cs : List Value} {x : DataW H × List MemPlace} (h : DataW.trod enc Try.prog w base spare held n 25 cs = some x) :
    ∃ A c, ∃ ps : List (List OpV), cs = [.slice A ps.length c] ∧ ProgsAt w w.heap.size A ps ∧ ps.length ≤ maxLen ∧ (∀ q ∈ ps, q.length ≤ maxLen) ∧ ∀ q ∈ ps, ∀ x ∈ q, OpWf x := by
  rcases open_slice Try.underlying25 h with ⟨hcs, _⟩ | ⟨a, len, cap, m, k, D, Pl, hcs, hb, hl, hm, hmm, _, hi⟩
  · exact ⟨none, 0, [], hcs, ProgsAt.nil_ _ _ _, Nat.zero_le _, by simp, by simp⟩
  · have hC : Try.prog.cellsOf 41 = 1 := by kernel_rfl
    rw [hC] at hi
    have hle : len ≤ m := by rw [hmm]; split <;> omega
    have hop : ∀ i, i < len → ∃ xs : List OpV, (∃ A c, w.cell? (a.add i) = some (.slice A xs.length c) ∧ OpsAt w w.heap.size A xs) ∧ xs.length ≤ maxLen ∧ ∀ x ∈ xs, OpWf x := by
      intro i hil
      obtain ⟨cs', hc, ht⟩ := hi i (by omega)
      obtain ⟨A, c, xs, rfl, h1, h2, h3⟩ := open_ops ht
      obtain ⟨_, hcl, hat⟩ := World.cells?_some hc
      have := hat 0 (by omega)
      rw [Nat.mul_one, show (a.add i).add 0 = a.add i by simp [Addr.add]] at this
      exact ⟨xs, ⟨A, c, this, h1⟩, h2, h3⟩
    let F : Nat → List OpV := fun i => if h : i < len then Classical.choose (hop i h) else []
    have hF : ∀ i (h : i < len), F i = Classical.choose (hop i h) := fun i h => by simp [F, h]
    have hall : ∀ q ∈ (List.range len).map F, ∃ i, ∃ h : i < len, q = Classical.choose (hop i h) := by
      intro q hq
      simp only [List.mem_map, List.mem_range] at hq
      obtain ⟨i, hi, rfl⟩ := hq
      exact ⟨i, hi, hF i hi⟩
    refine ⟨some a, cap, (List.range len).map F, by rw [hcs]; simp, fun hpos => ?_, by simp; omega, ?_, ?_⟩
    · have hlen : 0 < len := by simpa using hpos
      obtain ⟨b, o, s⟩ := a
      obtain ⟨A0, c0, h00, _⟩ := (Classical.choose_spec (hop 0 hlen)).1
      have hs : s = none := by simpa [Addr.add] using World.cell?_spot h00
      have hb' : b < w.heap.size := by
        exact World.block_lt_of_cell? w ⟨b, o + 0, none⟩ ((congrArg w.cell? (add_off (b := b) (o := o) 0 hs)).symm.trans h00)
      refine ⟨b, o, by rw [hs], hb', fun j hj => ?_⟩
      have hjl : j < len := by simpa using hj
      have e : ((List.range len).map F).getD j [] = Classical.choose (hop j hjl) := by rw [← hF j hjl]; simp [List.getD_eq_getElem?_getD, hjl]
      rw [e]
      obtain ⟨A, c, hc, ho⟩ := (Classical.choose_spec (hop j hjl)).1
      exact ⟨A, c, (congrArg w.cell? (add_off (b := b) (o := o) j hs)).symm.trans hc, ho⟩
    · intro q hq
      obtain ⟨i, hi, rfl⟩ := hall q hq
      exact (Classical.choose_spec (hop i hi)).2.1
    · intro q hq
      obtain ⟨i, hi, rfl⟩ := hall q hq
      exact (Classical.choose_spec (hop i hi)).2.2

theorem open_picks {n : Nat} {cs : List Value} {x : DataW H × List MemPlace} (h : DataW.trod enc Try.prog w base spare held n 26 cs = some x) :
    ∃ A c, ∃ xs : List Int, cs = [.slice A xs.length c] ∧ Ints w w.heap.size A xs ∧ xs.length ≤ maxLen ∧ ∀ x ∈ xs, (Lit.int .i64 x).wf = true := by
  rcases open_ints Try.underlying26 Try.underlying3 (by kernel_rfl) h with ⟨hcs, _⟩ | ⟨x, l, c, zs, hcs, _, hl, hm, hz, _, hcell, hwz⟩
  · exact ⟨none, 0, [], hcs, Ints.nil_ _ _ _, Nat.zero_le _, by simp⟩
  · have hz2 : l ≤ zs.length := by rw [hz]; split <;> omega
    refine ⟨some x, c, zs.take l, by rw [hcs, List.length_take, Nat.min_eq_left (by omega)], fun hpos => ?_, by rw [List.length_take]; omega, fun y hy => hwz y (List.mem_of_mem_take hy)⟩
    have h0 : 0 < zs.length := by rw [List.length_take] at hpos; omega
    obtain ⟨b, o, spot⟩ := x
    have hc0 := hcell 0 h0
    have hs : spot = none := by simpa [Addr.add] using World.cell?_spot hc0
    refine ⟨b, o, by rw [hs], World.block_lt_of_cell? w ⟨b, o + 0, none⟩ ((congrArg w.cell? (add_off (b := b) (o := o) 0 hs)).symm.trans hc0), fun j hj => ?_⟩
    have hj' : j < zs.length ∧ j < l := by rw [List.length_take] at hj; omega
    have := hcell j hj'.1
    rw [add_off _ hs] at this
    rw [this]
    simp [List.getD_eq_getElem?_getD, hj'.2]

/-- A script by value, read. -/
theorem open_script {r : Reach} {b0 : Nat} {v : Value} {d : DataW H} {p : List MemPlace} (hv : Value.okWide Try.prog w r b0 28 v) (h : DataW.Trod enc Try.prog w base spare held 28 v d p) :
    ∃ s : ScrV, ScrAt w w.heap.size v s ∧ ScrWf s := by
  obtain ⟨cs, rfl, hsz⟩ := okWide_struct Try.underlying28 hv
  obtain ⟨fuel, hf⟩ := h
  obtain ⟨xs, m, _, _, hl, hlen, hfl⟩ := DataW.trod_struct Try.underlying28 hf
  have hC : Try.prog.cellsOf 28 = 10 := by kernel_rfl
  rw [hC] at hsz hl
  obtain ⟨l⟩ := cs
  match l, hsz with
  | [c0, c1, c2, c3, c4, c5, c6, c7, c8, c9], _ =>
    match xs, hlen with
    | [y0, y1, y2], _ =>
      have f0 := hfl 0 _ rfl
      have f1 := hfl 1 _ rfl
      have f2 := hfl 2 _ rfl
      have k24 : Try.prog.cellsOf 24 = 8 := by kernel_rfl
      have k25 : Try.prog.cellsOf 25 = 1 := by kernel_rfl
      have k26 : Try.prog.cellsOf 26 = 1 := by kernel_rfl
      simp [k24, k25, k26, Value.cells] at f0 f1 f2
      obtain ⟨o, e0, w0⟩ := open_cfg f0
      obtain ⟨A1, n1, ps, e1, p1, p2, p3, p4⟩ := open_progs f1
      obtain ⟨A2, n2, ks, e2, q1, q2, q3⟩ := open_picks f2
      simp at e0 e1 e2
      obtain ⟨rfl, rfl, rfl, rfl, rfl, rfl, rfl, rfl⟩ := e0
      subst e1 e2
      exact ⟨⟨o, ps, ks⟩, ⟨A1, n1, A2, n2, rfl, p1, q1⟩, w0, p2, p3, p4, q2, q3⟩
end
end Go.Proofs.Ytcicememljlafaa
