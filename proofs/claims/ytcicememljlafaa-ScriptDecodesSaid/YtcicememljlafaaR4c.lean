/- The states of a reading: an operation begins; an operation ends; a program ends. -/
import Derived.Test.YtcicememljlafaaR4b
namespace Go.Proofs.Ytcicememljlafaa
open Go.RowKit

abbrev opObj (k : Int) : Obj := .cells #[.int .u8 k, .int .i64 0, .int .i64 0, .int .i64 0, .int .u32 0, .int .u8 0, .string ⟨#[]⟩] 44
theorem fst_init {w0 W W' : World} {B lim : Nat} {s : ByteArray} {cf : CfgV} {v8 v9 v7 : Value} {ps : List (List OpV)} {ks : List Int} {k : Int} {xs : List OpV} {A : Option Addr} {fs : List Int}
    (h : RdSt w0 W B s lim cf v8 v9 ps ks) (hc : CurRow W lim v7 xs) (hl : lim ≤ W.heap.size) (h4 : B + 1 + 1 + 1 + 1 ≤ lim) (hu : U8s W' A fs) (hg : (W.alloc (opObj k)).grownBy W' none) :
    FSt w0 W' B s lim cf v8 v9 ps ks W.heap.size (op0 k) v7 xs A fs := by
  have hn : (W.alloc (opObj k)).heap[W.heap.size]? = some (opObj k) := heap_alloc_new W _
  have hn' : W'.heap[W.heap.size]? = some (opObj k) := (hg.block _ (by simp) (by simp)).trans hn
  have hm : Mild W W' lim := ⟨hg.os, hg.tape, hg.output, Nat.le_trans (by simp) hg.size, fun q t ht _ _ => (hg.block q (by have := ht.lt; simp; omega) (by simp)).trans (Below.heap_alloc _ _ _ ht.lt)⟩
  have hgW : W.grownBy W' none := ⟨hg.os, hg.tape, hg.output, Nat.le_trans (by simp) hg.size, fun q hq _ => (hg.block q (by simp; omega) (by simp)).trans (Below.heap_alloc _ _ _ hq)⟩
  have h3 := h.lt3
  refine ⟨h.other hm fun q hq => hgW.block q (by omega) (by simp), ⟨⟨_, hn'⟩, ?_⟩, hl, hc.kept hgW (fun q e => by cases e), ?_, hu, h4⟩
  · have g : ∀ i u, (#[.int .u8 k, .int .i64 0, .int .i64 0, .int .i64 0, .int .u32 0, .int .u8 0, .string ⟨#[]⟩] : Array Value)[i]? = some u → W'.cell? ⟨W.heap.size, i, none⟩ = some u := fun i u hu => by
      rw [cell_of_row _ _ i _ _ _ hn']; exact hu
    exact ⟨g 0 _ rfl, by rw [Nat.zero_add]; exact g 1 _ rfl, by rw [Nat.zero_add]; exact g 2 _ rfl, by rw [Nat.zero_add]; exact g 3 _ rfl, by rw [Nat.zero_add]; exact g 4 _ rfl, by rw [Nat.zero_add]; exact g 5 _ rfl, by rw [Nat.zero_add]; exact g 6 _ rfl⟩
  · intro e
    have := (World.ownsRow.lt hc _ e).2
    omega

theorem take_succ_getD (fs : List Int) (q : Nat) (h : q < fs.length) : fs.take (q + 1) = fs.take q ++ [fs.getD q 0] := by
  rw [List.take_succ_eq_append_getElem h]
  simp [List.getD_eq_getElem?_getD, h]
theorem foldF_take (fs : List Int) (q : Nat) (h : q < fs.length) (x : OpV × ByteArray) : foldF (fs.take (q + 1)) x = stepF (fs.getD q 0) (foldF (fs.take q) x) := by
  rw [take_succ_getD fs q h, foldF_snoc]
theorem getD_mem_bd (k : Int) (q : Nat) (h : q < (fieldsOf k).length) : 0 ≤ (fieldsOf k).getD q 0 ∧ (fieldsOf k).getD q 0 ≤ 5 := by
  have hb := (fieldsOf_bd k).2 ((fieldsOf k).getD q 0) (by simp [List.getD_eq_getElem?_getD, h])
  exact hb

def opCells (o : OpV) : List Value := [.int .u8 o.kind, .int .i64 o.slot, .int .i64 o.pos, .int .i64 o.num, .int .u32 o.id, .int .u8 o.grav, .string o.text]
theorem op_info : (Try.prog.info? 44).map (fun i => (i.zero, i.size, i.bytes)) = some (some (.agg #[.int .u8 0, .int .i64 0, .int .i64 0, .int .i64 0, .int .u32 0, .int .u8 0, .string ⟨#[]⟩]), 7, 56) := by kernel_rfl
theorem slice_info : (Try.prog.info? 41).map (fun i => (i.zero, i.size, i.bytes)) = some (some (.slice none 0 0), 1, 24) := by kernel_rfl
theorem news_op (W : World) (o : OpV) (t : TypeId) : ∀ j u, (opCells o)[j]? = some u → (W.alloc (.cells #[.int .u8 o.kind, .int .i64 o.slot, .int .i64 o.pos, .int .i64 o.num, .int .u32 o.id, .int .u8 o.grav, .string o.text] t)).cell? ((⟨W.heap.size, 0, none⟩ : Addr).add j) = some u := by
  intro j u hj
  have e : (⟨W.heap.size, 0, none⟩ : Addr).add j = ⟨W.heap.size, j, none⟩ := by unfold Addr.add; by_cases h0 : j = 0 <;> simp [h0]
  rw [e, World.cell?_alloc_at _ _ _ _ rfl]
  simpa [opCells] using hj
theorem one_op (o : OpV) : ∀ u ∈ opCells o, u.oneCell' = true := by
  intro u hu
  simp only [opCells, List.mem_cons, List.not_mem_nil, or_false] at hu
  rcases hu with rfl | rfl | rfl | rfl | rfl | rfl | rfl <;> rfl
theorem cur_flat (xs : List OpV) : (xs.flatMap fun o => [Value.int .u8 o.kind, .int .i64 o.slot, .int .i64 o.pos, .int .i64 o.num, .int .u32 o.id, .int .u8 o.grav, .string o.text]) = xs.flatMap opCells := rfl
end Go.Proofs.Ytcicememljlafaa
