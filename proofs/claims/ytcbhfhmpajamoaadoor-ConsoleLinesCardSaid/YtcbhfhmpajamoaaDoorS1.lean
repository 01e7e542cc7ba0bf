/- A call that came in, read. -/
import Derived.Test.YtcbhfhmpajamoaaDoorR9
import Derived.ProofKit
import Derived.Deep.Slices
namespace Go.Proofs.YtcbhfhmpajamoaaDoor
open Go.ChangeShapes Go.WideShapes Go.ChangeAt Go.RowKit Go.Deep
set_option maxRecDepth 100000

section
variable {H : Type} {enc : TypeId × Value → H} {w : World} {base : Nat} {spare : Nat → Bool} {held : Bool}

abbrev wfI (k : IntKind) (x : Int) : Prop := (Lit.int k x).wf = true
theorem open_op {n : Nat} {cs : List Value} {x : DataW H × List MemPlace} (h : DataW.trod enc Tryd.prog w base spare held n 24 cs = some x) :
    ∃ o : OpV, cs = [.int .u8 o.kind, .int .i64 o.slot, .int .i64 o.pos, .int .i64 o.num, .int .u32 o.id, .int .u8 o.grav, .string o.text] ∧ wfI .u8 o.kind ∧ wfI .u32 o.id ∧ wfI .u8 o.grav := by
  obtain ⟨xs, m, _, _, hl, hlen, hf⟩ := DataW.trod_struct Tryd.underlying24 h
  have hC : Tryd.prog.cellsOf 24 = 7 := by kernel_rfl
  rw [hC] at hl
  match cs, hl with
  | [c0, c1, c2, c3, c4, c5, c6], _ =>
    match xs, hlen with
    | [y0, y1, y2, y3, y4, y5, y6], _ =>
      have f0 := hf 0 _ rfl
      have f1 := hf 1 _ rfl
      have f2 := hf 2 _ rfl
      have f3 := hf 3 _ rfl
      have f4 := hf 4 _ rfl
      have f5 := hf 5 _ rfl
      have f6 := hf 6 _ rfl
      have k3 : Tryd.prog.cellsOf 3 = 1 := by kernel_rfl
      have k5 : Tryd.prog.cellsOf 5 = 1 := by kernel_rfl
      have k9 : Tryd.prog.cellsOf 9 = 1 := by kernel_rfl
      have k22 : Tryd.prog.cellsOf 22 = 1 := by kernel_rfl
      simp [k3, k5, k9, k22] at f0 f1 f2 f3 f4 f5 f6
      obtain ⟨a0, e0, _, w0⟩ := DataW.trod_int Tryd.underlying5 f0
      obtain ⟨a1, e1, _, w1⟩ := DataW.trod_int Tryd.underlying3 f1
      obtain ⟨a2, e2, _, w2⟩ := DataW.trod_int Tryd.underlying3 f2
      obtain ⟨a3, e3, _, w3⟩ := DataW.trod_int Tryd.underlying3 f3
      obtain ⟨a4, e4, _, w4⟩ := DataW.trod_int Tryd.underlying22 f4
      obtain ⟨a5, e5, _, w5⟩ := DataW.trod_int Tryd.underlying5 f5
      obtain ⟨a6, e6, _, w6⟩ := DataW.trod_string Tryd.underlying9 f6
      simp at e0 e1 e2 e3 e4 e5 e6
      subst e0 e1 e2 e3 e4 e5 e6
      exact ⟨⟨a0, a1, a2, a3, a4, a5, a6⟩, rfl, w0, w4, w5⟩
theorem open_piece {n : Nat} {cs : List Value} {x : DataW H × List MemPlace} (h : DataW.trod enc Tryd.prog w base spare held n 36 cs = some x) :
    ∃ o : PieceV, cs = [.int .u8 o.kind, .int .i64 o.n, .string o.text] := by
  obtain ⟨xs, m, _, _, hl, hlen, hf⟩ := DataW.trod_struct Tryd.underlying36 h
  have hC : Tryd.prog.cellsOf 36 = 3 := by kernel_rfl
  rw [hC] at hl
  match cs, hl with
  | [c0, c1, c2], _ =>
    match xs, hlen with
    | [y0, y1, y2], _ =>
      have f0 := hf 0 _ rfl
      have f1 := hf 1 _ rfl
      have f2 := hf 2 _ rfl
      have k3 : Tryd.prog.cellsOf 3 = 1 := by kernel_rfl
      have k5 : Tryd.prog.cellsOf 5 = 1 := by kernel_rfl
      have k9 : Tryd.prog.cellsOf 9 = 1 := by kernel_rfl
      simp [k3, k5, k9] at f0 f1 f2
      obtain ⟨a0, e0, _, w0⟩ := DataW.trod_int Tryd.underlying5 f0
      obtain ⟨a1, e1, _, w1⟩ := DataW.trod_int Tryd.underlying3 f1
      obtain ⟨a2, e2, _, w2⟩ := DataW.trod_string Tryd.underlying9 f2
      simp at e0 e1 e2
      subst e0 e1 e2
      exact ⟨⟨a0, a1, a2⟩, rfl⟩
theorem open_measure {n : Nat} {cs : List Value} {x : DataW H × List MemPlace} (h : DataW.trod enc Tryd.prog w base spare held n 27 cs = some x) :
    ∃ a b c : Int, cs = [.int .i64 a, .int .i64 b, .int .i64 c] := by
  obtain ⟨xs, m, _, _, hl, hlen, hf⟩ := DataW.trod_struct Tryd.underlying27 h
  have hC : Tryd.prog.cellsOf 27 = 3 := by kernel_rfl
  rw [hC] at hl
  match cs, hl with
  | [c0, c1, c2], _ =>
    match xs, hlen with
    | [y0, y1, y2], _ =>
      have f0 := hf 0 _ rfl
      have f1 := hf 1 _ rfl
      have f2 := hf 2 _ rfl
      have k3 : Tryd.prog.cellsOf 3 = 1 := by kernel_rfl
      simp [k3] at f0 f1 f2
      obtain ⟨a0, e0, _, w0⟩ := DataW.trod_int Tryd.underlying3 f0
      obtain ⟨a1, e1, _, w1⟩ := DataW.trod_int Tryd.underlying3 f1
      obtain ⟨a2, e2, _, w2⟩ := DataW.trod_int Tryd.underlying3 f2
      simp at e0 e1 e2
      subst e0 e1 e2
      exact ⟨a0, a1, a2, rfl⟩
theorem add_off {b o : Nat} {s : Option Nat} (i : Nat) (h : s = none) : (⟨b, o, s⟩ : Addr).add i = ⟨b, o + i, none⟩ := by
  subst h; unfold Addr.add; by_cases h0 : i = 0 <;> simp [h0]
theorem open_pieces {n : Nat} {cs : List Value} {x : DataW H × List MemPlace} (h : DataW.trod enc Tryd.prog w base spare held n 28 cs = some x) :
    ∃ A c, ∃ xs : List PieceV, cs = [.slice A xs.length c] ∧ PiecesAt w w.heap.size A xs := by
  rcases open_slice Tryd.underlying28 h with ⟨hcs, _⟩ | ⟨a, len, cap, m, k, D, Pl, hcs, hb, hl, hm, hmm, _, hi⟩
  · exact ⟨none, 0, [], hcs, fun h => absurd h (by simp)⟩
  · have hC : Tryd.prog.cellsOf 36 = 3 := by kernel_rfl
    rw [hC] at hi
    have hle : len ≤ m := by rw [hmm]; split <;> omega
    have hop : ∀ i, i < len → ∃ o : PieceV, ∀ j u, ([.int .u8 o.kind, .int .i64 o.n, .string o.text] : List Value)[j]? = some u → w.cell? (a.add (i * 3 + j)) = some u := by
      intro i hil
      obtain ⟨cs', hc, ht⟩ := hi i (by omega)
      obtain ⟨o, rfl⟩ := open_piece ht
      obtain ⟨_, hcl, hat⟩ := World.cells?_some hc
      refine ⟨o, fun j u hj => ?_⟩
      have hj7 : j < 3 := by
        rcases Nat.lt_or_ge j 3 with h | h
        · exact h
        · rw [List.getElem?_eq_none (by simpa using h)] at hj; cases hj
      have := hat j hj7
      rw [← Go.Deep.add_add, this]; exact hj
    let F : Nat → PieceV := fun i => if h : i < len then Classical.choose (hop i h) else noPiece
    have hF : ∀ i (h : i < len), F i = Classical.choose (hop i h) := fun i h => by simp [F, h]
    refine ⟨some a, cap, (List.range len).map F, by rw [hcs]; simp, fun hpos => ?_⟩
    have hlen : 0 < len := by simpa using hpos
    obtain ⟨b, o, s⟩ := a
    have h00 := (Classical.choose_spec (hop 0 hlen)) 0 _ rfl
    have hs : s = none := by simpa [Addr.add] using World.cell?_spot h00
    have hb' : b < w.heap.size := by
      rw [add_off _ hs] at h00
      exact World.block_lt_of_cell? w _ h00
    refine ⟨b, o, by rw [hs], hb', fun j hj => ?_⟩
    have hjl : j < len := by simpa using hj
    have e : ((List.range len).map F).getD j noPiece = Classical.choose (hop j hjl) := by rw [← hF j hjl]; simp [List.getD_eq_getElem?_getD, hjl]
    rw [e]
    have hsp := Classical.choose_spec (hop j hjl)
    have g : ∀ q u, ([.int .u8 (Classical.choose (hop j hjl)).kind, .int .i64 (Classical.choose (hop j hjl)).n, .string (Classical.choose (hop j hjl)).text] : List Value)[q]? = some u → w.cell? ⟨b, o + (j * 3 + q), none⟩ = some u := by
      intro q u hq
      have := hsp q u hq
      rwa [add_off _ hs] at this
    exact ⟨g 0 _ rfl, g 1 _ rfl, g 2 _ rfl⟩
theorem open_item {n : Nat} {cs : List Value} {x : DataW H × List MemPlace} (h : DataW.trod enc Tryd.prog w base spare held n 30 cs = some x) :
    ∃ a b c : Int, ∃ A k, ∃ ps : List PieceV, cs = [.int .u8 a, .int .i64 b, .int .i64 c, .slice A ps.length k] ∧ wfI .u8 a ∧ PiecesAt w w.heap.size A ps := by
  obtain ⟨xs, m, _, _, hl, hlen, hf⟩ := DataW.trod_struct Tryd.underlying30 h
  have hC : Tryd.prog.cellsOf 30 = 4 := by kernel_rfl
  rw [hC] at hl
  match cs, hl with
  | [c0, c1, c2, c3], _ =>
    match xs, hlen with
    | [y0, y1, y2, y3], _ =>
      have f0 := hf 0 _ rfl
      have f1 := hf 1 _ rfl
      have f2 := hf 2 _ rfl
      have f3 := hf 3 _ rfl
      have k3 : Tryd.prog.cellsOf 3 = 1 := by kernel_rfl
      have k5 : Tryd.prog.cellsOf 5 = 1 := by kernel_rfl
      have k28 : Tryd.prog.cellsOf 28 = 1 := by kernel_rfl
      simp [k3, k5, k28] at f0 f1 f2 f3
      obtain ⟨a0, e0, _, w0⟩ := DataW.trod_int Tryd.underlying5 f0
      obtain ⟨a1, e1, _, w1⟩ := DataW.trod_int Tryd.underlying3 f1
      obtain ⟨a2, e2, _, w2⟩ := DataW.trod_int Tryd.underlying3 f2
      obtain ⟨A, c, ps, e3, hp⟩ := open_pieces f3
      simp at e0 e1 e2 e3
      subst e0 e1 e2 e3
      exact ⟨a0, a1, a2, A, c, ps, rfl, w0, hp⟩
theorem open_result {n : Nat} {cs : List Value} {x : DataW H × List MemPlace} (h : DataW.trod enc Tryd.prog w base spare held n 32 cs = some x) :
    ∃ r : ResV, ∃ A c, ∃ ps : List PieceV, cs = (resCells r A ps.length c).toList ∧ wfI .i64 r.err ∧ wfI .u8 r.grav ∧ wfI .u8 r.ik ∧ PiecesAt w w.heap.size A ps := by
  obtain ⟨xs, m, _, _, hl, hlen, hf⟩ := DataW.trod_struct Tryd.underlying32 h
  have hC : Tryd.prog.cellsOf 32 = 13 := by kernel_rfl
  rw [hC] at hl
  match cs, hl with
  | [c0, c1, c2, c3, c4, c5, c6, c7, c8, c9, c10, c11, c12], _ =>
    match xs, hlen with
    | [y0, y1, y2, y3, y4, y5, y6, y7], _ =>
      have f0 := hf 0 _ rfl
      have f1 := hf 1 _ rfl
      have f2 := hf 2 _ rfl
      have f3 := hf 3 _ rfl
      have f4 := hf 4 _ rfl
      have f5 := hf 5 _ rfl
      have f6 := hf 6 _ rfl
      have f7 := hf 7 _ rfl
      have k3 : Tryd.prog.cellsOf 3 = 1 := by kernel_rfl
      have k5 : Tryd.prog.cellsOf 5 = 1 := by kernel_rfl
      have k9 : Tryd.prog.cellsOf 9 = 1 := by kernel_rfl
      have k25 : Tryd.prog.cellsOf 25 = 1 := by kernel_rfl
      have k27 : Tryd.prog.cellsOf 27 = 3 := by kernel_rfl
      have k30 : Tryd.prog.cellsOf 30 = 4 := by kernel_rfl
      simp [k3, k5, k9, k25, k27, k30] at f0 f1 f2 f3 f4 f5 f6 f7
      obtain ⟨a0, e0, _, w0⟩ := DataW.trod_int Tryd.underlying25 f0
      obtain ⟨a1, e1, _, w1⟩ := DataW.trod_int Tryd.underlying3 f1
      obtain ⟨a2, e2, _, w2⟩ := DataW.trod_int Tryd.underlying3 f2
      obtain ⟨a3, e3, _, w3⟩ := DataW.trod_int Tryd.underlying3 f3
      obtain ⟨a4, e4, _, w4⟩ := DataW.trod_int Tryd.underlying5 f4
      obtain ⟨a5, e5, _, w5⟩ := DataW.trod_string Tryd.underlying9 f5
      obtain ⟨m0, m1, m2, e6⟩ := open_measure f6
      obtain ⟨i0, i1, i2, A, c, ps, e7, w7, hp⟩ := open_item f7
      simp at e0 e1 e2 e3 e4 e5 e6 e7
      obtain ⟨rfl, rfl, rfl⟩ := e6
      obtain ⟨rfl, rfl, rfl, rfl⟩ := e7
      subst e0 e1 e2 e3 e4 e5
      exact ⟨⟨a0, a1, a2, a3, a4, a5, m0, m1, m2, i0, i1, i2⟩, A, c, ps, rfl, w0, w4, w7, hp⟩
/-- A call by value, read. -/
theorem open_call {r : Reach} {b0 : Nat} {v : Value} {d : DataW H} {p : List MemPlace} (hv : Value.okWide Tryd.prog w r b0 34 v) (h : DataW.Trod enc Tryd.prog w base spare held 34 v d p) :
    ∃ k o r A c, ∃ ps : List PieceV, v = .agg (callCells k o r A ps.length c) ∧ OpTy o ∧ ResTy r ∧ PiecesAt w w.heap.size A ps := by
  obtain ⟨cs, rfl, hsz⟩ := okWide_struct Tryd.underlying34 hv
  obtain ⟨fuel, hf⟩ := h
  obtain ⟨xs, m, _, _, hl, hlen, hfl⟩ := DataW.trod_struct Tryd.underlying34 hf
  have hC : Tryd.prog.cellsOf 34 = 27 := by kernel_rfl
  rw [hC] at hsz hl
  obtain ⟨l⟩ := cs
  match l, hsz with
  | [c0, c1, c2, c3, c4, c5, c6, c7, c8, c9, c10, c11, c12, c13, c14, c15, c16, c17, c18, c19, c20, c21, c22, c23, c24, c25, c26], _ =>
    match xs, hlen with
    | [y0, y1, y2, y3, y4, y5, y6, y7, y8], _ =>
      have f0 := hfl 0 _ rfl
      have f1 := hfl 1 _ rfl
      have f2 := hfl 2 _ rfl
      have f3 := hfl 3 _ rfl
      have f4 := hfl 4 _ rfl
      have f5 := hfl 5 _ rfl
      have f6 := hfl 6 _ rfl
      have f7 := hfl 7 _ rfl
      have f8 := hfl 8 _ rfl
      have k3 : Tryd.prog.cellsOf 3 = 1 := by kernel_rfl
      have k24 : Tryd.prog.cellsOf 24 = 7 := by kernel_rfl
      have k32 : Tryd.prog.cellsOf 32 = 13 := by kernel_rfl
      simp [k3, k24, k32, Value.cells] at f0 f1 f2 f3 f4 f5 f6 f7 f8
      obtain ⟨a0, e0, _, _⟩ := DataW.trod_int Tryd.underlying3 f0
      obtain ⟨a1, e1, _, _⟩ := DataW.trod_int Tryd.underlying3 f1
      obtain ⟨a3, e3, _, _⟩ := DataW.trod_int Tryd.underlying3 f3
      obtain ⟨a4, e4, _, _⟩ := DataW.trod_int Tryd.underlying3 f4
      obtain ⟨a5, e5, _, _⟩ := DataW.trod_int Tryd.underlying3 f5
      obtain ⟨a6, e6, _, _⟩ := DataW.trod_int Tryd.underlying3 f6
      obtain ⟨a7, e7, _, _⟩ := DataW.trod_int Tryd.underlying3 f7
      obtain ⟨o, e2, w0, w4, w5⟩ := open_op f2
      obtain ⟨r, A, c, ps, e8, v0, v1, v2, hp⟩ := open_result f8
      simp at e0 e1 e2 e3 e4 e5 e6 e7 e8
      obtain ⟨rfl, rfl, rfl, rfl, rfl, rfl, rfl⟩ := e2
      obtain ⟨rfl, rfl, rfl, rfl, rfl, rfl, rfl, rfl, rfl, rfl, rfl, rfl, rfl⟩ := e8
      subst e0 e1 e3 e4 e5 e6 e7
      refine ⟨⟨a0, a1, a3, a4, a5, a6, a7⟩, o, r, A, c, ps, rfl, ⟨?_, ?_, ?_⟩, ⟨?_, ?_, ?_⟩, hp⟩
      · have h1 : IntKind.u8.min ≤ o.kind ∧ o.kind ≤ IntKind.u8.max := by simpa [wfI, Lit.wf] using w0
        exact h1
      · have h1 : IntKind.u32.min ≤ o.id ∧ o.id ≤ IntKind.u32.max := by simpa [wfI, Lit.wf] using w4
        exact h1
      · have h1 : IntKind.u8.min ≤ o.grav ∧ o.grav ≤ IntKind.u8.max := by simpa [wfI, Lit.wf] using w5
        exact h1
      · have h1 : IntKind.i64.min ≤ r.err ∧ r.err ≤ IntKind.i64.max := by simpa [wfI, Lit.wf] using v0
        exact h1
      · have h1 : IntKind.u8.min ≤ r.grav ∧ r.grav ≤ IntKind.u8.max := by simpa [wfI, Lit.wf] using v1
        exact ⟨h1.1, Int.lt_add_one_of_le h1.2⟩
      · have h1 : IntKind.u8.min ≤ r.ik ∧ r.ik ≤ IntKind.u8.max := by simpa [wfI, Lit.wf] using v2
        exact ⟨h1.1, Int.lt_add_one_of_le h1.2⟩
end
end Go.Proofs.YtcbhfhmpajamoaaDoor
