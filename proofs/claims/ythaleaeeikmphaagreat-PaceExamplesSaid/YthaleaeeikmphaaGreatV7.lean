/- The boxes of Bound. -/
import Derived.Test.YthaleaeeikmphaaGreatV6
import Derived.Test.YthaleaeeikmphaaGreatV5
namespace Go.Proofs.YthaleaeeikmphaaGreat
open Go.RowKit
theorem heap_new {w : World} {q : Nat} (o : Obj) (h : q = w.heap.size) : (w.alloc o).heap[q]? = some o := by subst h; exact heap_alloc_new w o
theorem heap_old {w : World} {q : Nat} {x o : Obj} (h : w.heap[q]? = some x) : (w.alloc o).heap[q]? = some x := by
  have hlt : q < w.heap.size := by
    rcases Nat.lt_or_ge q w.heap.size with hlt | hge
    · exact hlt
    · rw [Array.getElem?_eq_none hge] at h; cases h
  rw [Below.heap_alloc _ _ _ hlt]; exact h
/-- The boxes of a configuration and of an operation, at b and b + 1. -/
structure Boxes (w : World) (b : Nat) (c0 c1 c2 c3 c4 c5 c6 : Int) (c7 : ByteArray) (o0 o1 o2 o3 o4 o5 : Int) (o6 : ByteArray) : Prop where
  hc : w.heap[b]? = some (Obj.cells #[.int .i64 c0, .int .u64 c1, .int .i64 c2, .int .i64 c3, .int .i64 c4, .int .i64 c5, .int .i64 c6, .string c7] 24)
  ho : w.heap[b + 1]? = some (Obj.cells #[.int .u8 o0, .int .i64 o1, .int .i64 o2, .int .i64 o3, .int .u32 o4, .int .u8 o5, .string o6] 27)
section
variable {w w' : World} {b : Nat}
theorem boxes_new (w : World) (c0 c1 c2 c3 c4 c5 c6 : Int) (c7 : ByteArray) (o0 o1 o2 o3 o4 o5 : Int) (o6 : ByteArray) : Boxes ((w.alloc (Obj.cells #[.int .i64 c0, .int .u64 c1, .int .i64 c2, .int .i64 c3, .int .i64 c4, .int .i64 c5, .int .i64 c6, .string c7] 24)).alloc (Obj.cells #[.int .u8 o0, .int .i64 o1, .int .i64 o2, .int .i64 o3, .int .u32 o4, .int .u8 o5, .string o6] 27)) w.heap.size c0 c1 c2 c3 c4 c5 c6 c7 o0 o1 o2 o3 o4 o5 o6 := ⟨heap_old (heap_new _ rfl), heap_new _ (by simp)⟩
variable {c0 c1 c2 c3 c4 c5 c6 o0 o1 o2 o3 o4 o5 : Int} {c7 o6 : ByteArray}
theorem Boxes.below (h : Boxes w b c0 c1 c2 c3 c4 c5 c6 c7 o0 o1 o2 o3 o4 o5 o6) {B : Nat} (hb : Below B w w') (hB : b + 1 < B) : Boxes w' b c0 c1 c2 c3 c4 c5 c6 c7 o0 o1 o2 o3 o4 o5 o6 := ⟨(hb.block b (by omega)).trans h.hc, (hb.block (b + 1) hB).trans h.ho⟩
theorem Boxes.pc0 (h : Boxes w b c0 c1 c2 c3 c4 c5 c6 c7 o0 o1 o2 o3 o4 o5 o6) : w.cell? ⟨b, 0, none⟩ = some (.int .i64 c0) := by unfold World.cell?; rw [h.hc]; rfl
theorem Boxes.pc1 (h : Boxes w b c0 c1 c2 c3 c4 c5 c6 c7 o0 o1 o2 o3 o4 o5 o6) : w.cell? ⟨b, 1, none⟩ = some (.int .u64 c1) := by unfold World.cell?; rw [h.hc]; rfl
theorem Boxes.pc2 (h : Boxes w b c0 c1 c2 c3 c4 c5 c6 c7 o0 o1 o2 o3 o4 o5 o6) : w.cell? ⟨b, 2, none⟩ = some (.int .i64 c2) := by unfold World.cell?; rw [h.hc]; rfl
theorem Boxes.pc3 (h : Boxes w b c0 c1 c2 c3 c4 c5 c6 c7 o0 o1 o2 o3 o4 o5 o6) : w.cell? ⟨b, 3, none⟩ = some (.int .i64 c3) := by unfold World.cell?; rw [h.hc]; rfl
theorem Boxes.pc4 (h : Boxes w b c0 c1 c2 c3 c4 c5 c6 c7 o0 o1 o2 o3 o4 o5 o6) : w.cell? ⟨b, 4, none⟩ = some (.int .i64 c4) := by unfold World.cell?; rw [h.hc]; rfl
theorem Boxes.pc5 (h : Boxes w b c0 c1 c2 c3 c4 c5 c6 c7 o0 o1 o2 o3 o4 o5 o6) : w.cell? ⟨b, 5, none⟩ = some (.int .i64 c5) := by unfold World.cell?; rw [h.hc]; rfl
theorem Boxes.pc6 (h : Boxes w b c0 c1 c2 c3 c4 c5 c6 c7 o0 o1 o2 o3 o4 o5 o6) : w.cell? ⟨b, 6, none⟩ = some (.int .i64 c6) := by unfold World.cell?; rw [h.hc]; rfl
theorem Boxes.pc7 (h : Boxes w b c0 c1 c2 c3 c4 c5 c6 c7 o0 o1 o2 o3 o4 o5 o6) : w.cell? ⟨b, 7, none⟩ = some (.string c7) := by unfold World.cell?; rw [h.hc]; rfl
theorem Boxes.po0 (h : Boxes w b c0 c1 c2 c3 c4 c5 c6 c7 o0 o1 o2 o3 o4 o5 o6) : w.cell? ⟨b + 1, 0, none⟩ = some (.int .u8 o0) := by unfold World.cell?; rw [h.ho]; rfl
theorem Boxes.po1 (h : Boxes w b c0 c1 c2 c3 c4 c5 c6 c7 o0 o1 o2 o3 o4 o5 o6) : w.cell? ⟨b + 1, 1, none⟩ = some (.int .i64 o1) := by unfold World.cell?; rw [h.ho]; rfl
theorem Boxes.po2 (h : Boxes w b c0 c1 c2 c3 c4 c5 c6 c7 o0 o1 o2 o3 o4 o5 o6) : w.cell? ⟨b + 1, 2, none⟩ = some (.int .i64 o2) := by unfold World.cell?; rw [h.ho]; rfl
theorem Boxes.po3 (h : Boxes w b c0 c1 c2 c3 c4 c5 c6 c7 o0 o1 o2 o3 o4 o5 o6) : w.cell? ⟨b + 1, 3, none⟩ = some (.int .i64 o3) := by unfold World.cell?; rw [h.ho]; rfl
theorem Boxes.po4 (h : Boxes w b c0 c1 c2 c3 c4 c5 c6 c7 o0 o1 o2 o3 o4 o5 o6) : w.cell? ⟨b + 1, 4, none⟩ = some (.int .u32 o4) := by unfold World.cell?; rw [h.ho]; rfl
theorem Boxes.po5 (h : Boxes w b c0 c1 c2 c3 c4 c5 c6 c7 o0 o1 o2 o3 o4 o5 o6) : w.cell? ⟨b + 1, 5, none⟩ = some (.int .u8 o5) := by unfold World.cell?; rw [h.ho]; rfl
theorem Boxes.po6 (h : Boxes w b c0 c1 c2 c3 c4 c5 c6 c7 o0 o1 o2 o3 o4 o5 o6) : w.cell? ⟨b + 1, 6, none⟩ = some (.string o6) := by unfold World.cell?; rw [h.ho]; rfl
end
end Go.Proofs.YthaleaeeikmphaaGreat
