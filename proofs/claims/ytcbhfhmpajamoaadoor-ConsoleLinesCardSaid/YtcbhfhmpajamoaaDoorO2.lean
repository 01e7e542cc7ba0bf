/- A map from runes to strings that is being laid: insert, look-up. -/
import Derived.Test.YtcbhfhmpajamoaaDoorO1
import Derived.MapKept
namespace Go.Proofs.YtcbhfhmpajamoaaDoor
open Go.RowKit

theorem und54 : Tryd.prog.underlying 54 = some (.map 21 9) := Tryd.underlying54
theorem und21 : Tryd.prog.underlying 21 = some (.int .i32) := Tryd.underlying21
theorem key32 (x : Int) : MapKept.IsKey (.int .i32) (.int .i32 x) := by simp [MapKept.IsKey]
theorem findNow_none {x : Int} (es : List MapEntry) (h : ∀ e ∈ es, ∃ y, e.key = .int .i32 y ∧ y ≠ x) : Instr.findNow (.int .i32) (.int .i32 x) es 0 = some none := by
  rcases MapKept.findNow_spec (key32 x) es 0 (fun e he => by obtain ⟨y, hy, _⟩ := h e he; rw [hy]; exact key32 y) with ⟨h1, _⟩ | ⟨j, e, _, h2, h3⟩
  · exact h1
  · obtain ⟨y, hy, hne⟩ := h e (List.mem_of_getElem? h2)
    rw [hy] at h3; cases h3; exact absurd rfl hne
theorem findNow_some {x : Int} {V : Int → ByteArray} (es : List MapEntry) (h : ∀ e ∈ es, ∃ y, e.key = .int .i32 y ∧ e.val = .string (V y)) (h' : ∃ e ∈ es, e.key = .int .i32 x) :
    ∃ j, Instr.findNow (.int .i32) (.int .i32 x) es 0 = some (some (j, .string (V x))) := by
  rcases MapKept.findNow_spec (key32 x) es 0 (fun e he => by obtain ⟨y, hy, _⟩ := h e he; rw [hy]; exact key32 y) with ⟨_, h2⟩ | ⟨j, e, h1, h2, h3⟩
  · obtain ⟨e, he, hk⟩ := h'
    exact absurd hk (h2 e he)
  · obtain ⟨y, hy, hv⟩ := h e (List.mem_of_getElem? h2)
    rw [hy] at h3; cases h3
    exact ⟨_, by rw [h1, hv]⟩
/-- What a map holds whose keys so far are those of ins. -/
def MapSt (w : World) (b : Nat) (ins : Int → Bool) (V : Int → ByteArray) : Prop :=
  ∃ es clk, w.heap[b]? = some (.map es clk) ∧ (∀ e ∈ es.toList, ∃ y, e.key = .int .i32 y ∧ e.val = .string (V y) ∧ ins y = true) ∧ ∀ y, ins y = true → ∃ e ∈ es.toList, e.key = .int .i32 y
theorem MapSt.lt {w : World} {b : Nat} {ins : Int → Bool} {V : Int → ByteArray} (h : MapSt w b ins V) : b < w.heap.size := by
  obtain ⟨es, clk, hb, _⟩ := h; exact heap_lt hb
theorem MapSt.keep {w w' : World} {b : Nat} {ins : Int → Bool} {V : Int → ByteArray} (h : MapSt w b ins V) (hk : w'.heap[b]? = w.heap[b]?) : MapSt w' b ins V := by
  obtain ⟨es, clk, hb, h1, h2⟩ := h; exact ⟨es, clk, hk.trans hb, h1, h2⟩
theorem MapSt.below {w w' : World} {b : Nat} {ins : Int → Bool} {V : Int → ByteArray} (h : MapSt w b ins V) (hk : Below w.heap.size w w') : MapSt w' b ins V := h.keep (hk.block b h.lt)
theorem MapSt.congr {w : World} {b : Nat} {ins ins' : Int → Bool} {V : Int → ByteArray} (h : MapSt w b ins V) (e : ∀ y, ins' y = ins y) : MapSt w b ins' V := by
  have : ins' = ins := funext e
  rw [this]; exact h
theorem MapSt.new (w : World) (ins : Int → Bool) (V : Int → ByteArray) (h : ∀ y, ins y = false) : MapSt (w.alloc (.map #[] 0)) w.heap.size ins V :=
  ⟨#[], 0, heap_alloc_new _ _, (by simp), fun y hy => by rw [h y] at hy; cases hy⟩
theorem run_insert {w : World} {b : Nat} {ins : Int → Bool} {V : Int → ByteArray} (h : MapSt w b ins V) (x : Int) (hx : ins x = false) (B : Nat) (hB : B ≤ b) :
    ∃ w', (Instr.mapUpdate 54 (.map (some b)) (.int .i32 x) (.string (V x))).run Tryd.prog w = .ok () w' ∧ Below B w w' ∧ w'.heap.size = w.heap.size ∧ (∀ q, q ≠ b → w'.heap[q]? = w.heap[q]?) ∧ MapSt w' b (fun y => y == x || ins y) V := by
  obtain ⟨es, clk, hb, h1, h2⟩ := h
  have hf := findNow_none (x := x) es.toList (fun z hz => by
    obtain ⟨y, hy, _, hi⟩ := h1 z hz
    exact ⟨y, hy, fun hxy => by rw [hxy, hx] at hi; cases hi⟩)
  refine ⟨{ w with heap := w.heap.setIfInBounds b (.map (es.push { key := .int .i32 x, val := .string (V x), born := clk }) (clk + 1)) }, ?_, ?_, by simp, ?_, ?_⟩
  · simp [Instr.mapUpdate, run_underlying und54, MapKept.run_getObj_map hb, MapKept.run_checkKey und21 (key32 x), MapKept.run_findKey und21 hf, MapKept.run_setObj_map _ hb, Result.andThen]
  · exact ⟨rfl, rfl, rfl, by simp, fun q hq => by simp [Array.getElem?_setIfInBounds]; intro hh; omega⟩
  · intro q hq
    simp only [Array.getElem?_setIfInBounds]
    rw [if_neg (fun hh => hq hh.symm)]
  · refine ⟨_, _, by simp [Array.getElem?_setIfInBounds, heap_lt hb]; exact ⟨rfl, rfl⟩, ?_, ?_⟩
    · intro z hz
      rw [Array.toList_push, List.mem_append] at hz
      rcases hz with hz | hz
      · obtain ⟨y, hy, hv, hi⟩ := h1 z hz
        exact ⟨y, hy, hv, by simp [hi]⟩
      · simp only [List.mem_singleton] at hz
        subst hz
        exact ⟨x, rfl, rfl, by simp⟩
    · intro y hy
      rw [Array.toList_push]
      by_cases e : y = x
      · subst e
        exact ⟨_, List.mem_append.2 (.inr (by simp; rfl)), rfl⟩
      · have hi : ins y = true := by simpa [e] using hy
        obtain ⟨z, hz, hk⟩ := h2 y hi
        exact ⟨z, List.mem_append.2 (.inl hz), hk⟩
theorem run_look {w : World} {b : Nat} {ins : Int → Bool} {V : Int → ByteArray} (h : MapSt w b ins V) (x : Int) (hx : ins x = true) :
    (Instr.lookup 54 (.map (some b)) (.int .i32 x) false).run Tryd.prog w = .ok (.string (V x)) w := by
  obtain ⟨es, clk, hb, h1, h2⟩ := h
  obtain ⟨j, hf⟩ := findNow_some (x := x) (V := V) es.toList (fun z hz => by
    obtain ⟨y, hy, hv, _⟩ := h1 z hz
    exact ⟨y, hy, hv⟩) (h2 x hx)
  simp [Instr.lookup, run_underlying und54, MapKept.run_getObj_map hb, MapKept.run_checkKey und21 (key32 x), MapKept.run_findKey und21 hf, Result.andThen]
end Go.Proofs.YtcbhfhmpajamoaaDoor
