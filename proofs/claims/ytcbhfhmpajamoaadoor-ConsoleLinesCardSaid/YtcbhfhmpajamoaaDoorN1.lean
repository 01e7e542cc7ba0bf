/- Ported: the fields of a kind of operation. -/
import Derived.Test.YtcbhfhmpajamoaaDoorK5
import Derived.Deep.DeepCutAuto
namespace Go.Proofs.YtcbhfhmpajamoaaDoor
open Go.RowKit

def ElemT (w : World) (q : Nat) (t : TypeId) : Prop := ∃ cs, w.heap[q]? = some (.cells cs t (0, 0))
theorem ElemT.lt {w : World} {q : Nat} {t : TypeId} (h : ElemT w q t) : q < w.heap.size := by
  obtain ⟨cs, h⟩ := h
  rcases Nat.lt_or_ge q w.heap.size with hlt | hge
  · exact hlt
  · rw [Array.getElem?_eq_none hge] at h; cases h
theorem ElemT.ne {w : World} {q q' : Nat} {t t' : TypeId} (h : ElemT w q t) (h' : ElemT w q' t') (hne : t ≠ t') : q ≠ q' := by
  rintro rfl
  obtain ⟨cs, h⟩ := h
  obtain ⟨cs', h'⟩ := h'
  rw [h] at h'
  injection h' with h'
  injection h' with _ e
  exact hne e
theorem ElemT.keep {w w' : World} {q : Nat} {t : TypeId} (h : ElemT w q t) (hk : w'.heap[q]? = w.heap[q]?) : ElemT w' q t := by
  obtain ⟨cs, h⟩ := h
  exact ⟨cs, hk.trans h⟩
theorem ElemT.set {w : World} {q : Nat} {t : TypeId} (h : ElemT w q t) (p : Addr) (v : Value) (hp : p.spot = none) : ElemT (w.setCell p v) q t := by
  by_cases e : q = p.block
  · obtain ⟨cs, h⟩ := h
    subst e
    exact ⟨cs.setIfInBounds p.off v, by simp [World.setCell, Array.getElem?_modify, h, hp]⟩
  · exact h.keep (Below.heap_setCell _ _ _ _ e)
theorem ElemT.frozen {w : World} {q : Nat} {t : TypeId} (h : ElemT w q t) (o : Nat) : w.frozen? ⟨q, o, none⟩ = false := by
  obtain ⟨cs, h⟩ := h
  simp [World.frozen?, h]
def fieldsOf (k : Int) : List Int :=
  if k = 1 then [1, 5] else if k = 2 then [1, 2] else if k = 3 then [1, 3, 4] else if k = 4 then [3] else if k = 5 then [] else if k = 6 then [0] else if k = 7 then [0, 1, 2] else if k = 8 then [0, 2] else if k = 9 then [0, 2] else if k = 10 then [0, 3]
  else if k = 11 then [0, 1] else if k = 12 then [0, 2] else if k = 13 then [0] else []
/-- One field of an operation is read. -/
def FB (l : List Int) : Prop := l.length ≤ 3 ∧ ∀ f ∈ l, 0 ≤ f ∧ f ≤ 5
theorem FB.ite {c : Prop} [Decidable c] {a b : List Int} (ha : FB a) (hb : FB b) : FB (if c then a else b) := by split <;> assumption
theorem fieldsOf_bd (k : Int) : FB (fieldsOf k) := by
  unfold fieldsOf
  repeat (refine FB.ite (by unfold FB; decide) ?_)
  unfold FB; decide

/-- A slice of small numbers. -/
def U8s (w : World) (A : Option Addr) (xs : List Int) : Prop :=
  0 < xs.length → ∃ b o, A = some ⟨b, o, none⟩ ∧ ElemT w b 103 ∧ ∀ j, j < xs.length → w.cell? ⟨b, o + j, none⟩ = some (.int .u8 (xs.getD j 0))
def FieldsRes (k : Int) (w : World) (e : Ending) (w' : World) : Prop :=
  ∃ A c, e = .returned (.slice A (fieldsOf k).length c) ∧ U8s w' A (fieldsOf k) ∧ w.grownBy w' none
theorem grown_alloc {w w' : World} {row : Option Nat} (h : w.grownBy w' row) (o : Obj) : w.grownBy (w'.alloc o) row :=
  ⟨h.os, h.tape, h.output, Nat.le_trans h.size (by simp), fun q hq hr => (Below.heap_alloc _ _ _ (Nat.lt_of_lt_of_le hq h.size)).trans (h.block q hq hr)⟩
theorem heap_new {w : World} {q : Nat} (o : Obj) (h : q = w.heap.size) : (w.alloc o).heap[q]? = some o := by subst h; exact heap_alloc_new w o
theorem heap_old {w : World} {q : Nat} {x o : Obj} (h : w.heap[q]? = some x) : (w.alloc o).heap[q]? = some x := by
  have hlt : q < w.heap.size := by
    rcases Nat.lt_or_ge q w.heap.size with hlt | hge
    · exact hlt
    · rw [Array.getElem?_eq_none hge] at h; cases h
  rw [Below.heap_alloc _ _ _ hlt]; exact h
theorem u8s_of {w : World} {b : Nat} {xs : List Int} (h : w.heap[b]? = some (.cells (xs.map (Value.int .u8)).toArray 103 (0, 0))) : U8s w (some ⟨b, 0, none⟩) xs := fun _ => by
  refine ⟨b, 0, rfl, ⟨_, h⟩, fun j hj => ?_⟩
  simp [World.cell?, h, hj]

/-- The table of the fields, in memory. -/
abbrev tabW (w : World) : World := ((((((((((((((((w.alloc (.cells #[.int .u8 1, .int .u8 5] 103)).alloc (.cells #[.int .u8 1, .int .u8 2] 103)).alloc (.cells #[.int .u8 1, .int .u8 3, .int .u8 4] 103)).alloc (.cells #[.int .u8 3] 103)).alloc (.cells #[] 103)).alloc (.cells #[.int .u8 0] 103)).alloc (.cells #[.int .u8 0, .int .u8 1, .int .u8 2] 103)).alloc (.cells #[.int .u8 0, .int .u8 2] 103)).alloc (.cells #[.int .u8 0, .int .u8 2] 103)).alloc (.cells #[.int .u8 0, .int .u8 3] 103)).alloc (.cells #[.int .u8 0, .int .u8 1] 103)).alloc (.cells #[.int .u8 0, .int .u8 2] 103)).alloc (.cells #[.int .u8 0] 103)).alloc (.cells #[] 103)).alloc (.cells #[] 103)).alloc (.cells #[] 103)).alloc (.cells #[.slice (some ⟨w.heap.size, 0, none⟩) 2 2, .slice (some ⟨w.heap.size + 1, 0, none⟩) 2 2, .slice (some ⟨w.heap.size + 1 + 1, 0, none⟩) 3 3, .slice (some ⟨w.heap.size + 1 + 1 + 1, 0, none⟩) 1 1, .slice (some ⟨w.heap.size + 1 + 1 + 1 + 1, 0, none⟩) 0 0, .slice (some ⟨w.heap.size + 1 + 1 + 1 + 1 + 1, 0, none⟩) 1 1, .slice (some ⟨w.heap.size + 1 + 1 + 1 + 1 + 1 + 1, 0, none⟩) 3 3, .slice (some ⟨w.heap.size + 1 + 1 + 1 + 1 + 1 + 1 + 1, 0, none⟩) 2 2, .slice (some ⟨w.heap.size + 1 + 1 + 1 + 1 + 1 + 1 + 1 + 1, 0, none⟩) 2 2, .slice (some ⟨w.heap.size + 1 + 1 + 1 + 1 + 1 + 1 + 1 + 1 + 1, 0, none⟩) 2 2, .slice (some ⟨w.heap.size + 1 + 1 + 1 + 1 + 1 + 1 + 1 + 1 + 1 + 1, 0, none⟩) 2 2, .slice (some ⟨w.heap.size + 1 + 1 + 1 + 1 + 1 + 1 + 1 + 1 + 1 + 1 + 1, 0, none⟩) 2 2, .slice (some ⟨w.heap.size + 1 + 1 + 1 + 1 + 1 + 1 + 1 + 1 + 1 + 1 + 1 + 1, 0, none⟩) 1 1, .slice (some ⟨w.heap.size + 1 + 1 + 1 + 1 + 1 + 1 + 1 + 1 + 1 + 1 + 1 + 1 + 1, 0, none⟩) 0 0, .slice (some ⟨w.heap.size + 1 + 1 + 1 + 1 + 1 + 1 + 1 + 1 + 1 + 1 + 1 + 1 + 1 + 1, 0, none⟩) 0 0, .slice (some ⟨w.heap.size + 1 + 1 + 1 + 1 + 1 + 1 + 1 + 1 + 1 + 1 + 1 + 1 + 1 + 1 + 1, 0, none⟩) 0 0] 120)
def TabRes (w : World) (v : Value) (wx : World) : Prop :=
  ∃ g, v = .pointer (some ⟨g, 0, none⟩) ∧ w.grownBy wx none ∧ ∀ k : Int, 1 ≤ k → k ≤ 16 → ∃ A c, wx.cell? ⟨g, k.toNat - 1, none⟩ = some (.slice A (fieldsOf k).length c) ∧ U8s wx A (fieldsOf k)
set_option maxRecDepth 100000 in
theorem tab_ok (w : World) : TabRes w (.pointer (some ⟨w.heap.size + 1 + 1 + 1 + 1 + 1 + 1 + 1 + 1 + 1 + 1 + 1 + 1 + 1 + 1 + 1 + 1, 0, none⟩)) (tabW w) := by
  refine ⟨_, rfl, ?_, fun k h1 h2 => ?_⟩
  · repeat (refine grown_alloc ?_ _)
    exact World.grownBy.refl _ _
  · have hc : ∀ i u, (#[.slice (some ⟨w.heap.size, 0, none⟩) 2 2, .slice (some ⟨w.heap.size + 1, 0, none⟩) 2 2, .slice (some ⟨w.heap.size + 1 + 1, 0, none⟩) 3 3, .slice (some ⟨w.heap.size + 1 + 1 + 1, 0, none⟩) 1 1, .slice (some ⟨w.heap.size + 1 + 1 + 1 + 1, 0, none⟩) 0 0, .slice (some ⟨w.heap.size + 1 + 1 + 1 + 1 + 1, 0, none⟩) 1 1, .slice (some ⟨w.heap.size + 1 + 1 + 1 + 1 + 1 + 1, 0, none⟩) 3 3, .slice (some ⟨w.heap.size + 1 + 1 + 1 + 1 + 1 + 1 + 1, 0, none⟩) 2 2, .slice (some ⟨w.heap.size + 1 + 1 + 1 + 1 + 1 + 1 + 1 + 1, 0, none⟩) 2 2, .slice (some ⟨w.heap.size + 1 + 1 + 1 + 1 + 1 + 1 + 1 + 1 + 1, 0, none⟩) 2 2, .slice (some ⟨w.heap.size + 1 + 1 + 1 + 1 + 1 + 1 + 1 + 1 + 1 + 1, 0, none⟩) 2 2, .slice (some ⟨w.heap.size + 1 + 1 + 1 + 1 + 1 + 1 + 1 + 1 + 1 + 1 + 1, 0, none⟩) 2 2, .slice (some ⟨w.heap.size + 1 + 1 + 1 + 1 + 1 + 1 + 1 + 1 + 1 + 1 + 1 + 1, 0, none⟩) 1 1, .slice (some ⟨w.heap.size + 1 + 1 + 1 + 1 + 1 + 1 + 1 + 1 + 1 + 1 + 1 + 1 + 1, 0, none⟩) 0 0, .slice (some ⟨w.heap.size + 1 + 1 + 1 + 1 + 1 + 1 + 1 + 1 + 1 + 1 + 1 + 1 + 1 + 1, 0, none⟩) 0 0, .slice (some ⟨w.heap.size + 1 + 1 + 1 + 1 + 1 + 1 + 1 + 1 + 1 + 1 + 1 + 1 + 1 + 1 + 1, 0, none⟩) 0 0] : Array Value)[i]? = some u → (tabW w).cell? ⟨w.heap.size + 1 + 1 + 1 + 1 + 1 + 1 + 1 + 1 + 1 + 1 + 1 + 1 + 1 + 1 + 1 + 1, i, none⟩ = some u := by
      intro i u hu
      rw [World.cell?_alloc_at _ _ _ _ (by simp)]
      exact hu
    have hk : k = 1 ∨ k = 2 ∨ k = 3 ∨ k = 4 ∨ k = 5 ∨ k = 6 ∨ k = 7 ∨ k = 8 ∨ k = 9 ∨ k = 10 ∨ k = 11 ∨ k = 12 ∨ k = 13 ∨ k = 14 ∨ k = 15 ∨ k = 16 := by omega
    rcases hk with rfl | rfl | rfl | rfl | rfl | rfl | rfl | rfl | rfl | rfl | rfl | rfl | rfl | rfl | rfl | rfl
    · refine ⟨_, _, hc 0 _ rfl, ?_⟩
      refine u8s_of (xs := [1, 5]) ?_
      repeat (first | (refine heap_new _ ?_; (simp; done)) | refine heap_old ?_)
    · refine ⟨_, _, hc 1 _ rfl, ?_⟩
      refine u8s_of (xs := [1, 2]) ?_
      repeat (first | (refine heap_new _ ?_; (simp; done)) | refine heap_old ?_)
    · refine ⟨_, _, hc 2 _ rfl, ?_⟩
      refine u8s_of (xs := [1, 3, 4]) ?_
      repeat (first | (refine heap_new _ ?_; (simp; done)) | refine heap_old ?_)
    · refine ⟨_, _, hc 3 _ rfl, ?_⟩
      refine u8s_of (xs := [3]) ?_
      repeat (first | (refine heap_new _ ?_; (simp; done)) | refine heap_old ?_)
    · refine ⟨_, _, hc 4 _ rfl, ?_⟩
      exact fun h => absurd h (by decide)
    · refine ⟨_, _, hc 5 _ rfl, ?_⟩
      refine u8s_of (xs := [0]) ?_
      repeat (first | (refine heap_new _ ?_; (simp; done)) | refine heap_old ?_)
    · refine ⟨_, _, hc 6 _ rfl, ?_⟩
      refine u8s_of (xs := [0, 1, 2]) ?_
      repeat (first | (refine heap_new _ ?_; (simp; done)) | refine heap_old ?_)
    · refine ⟨_, _, hc 7 _ rfl, ?_⟩
      refine u8s_of (xs := [0, 2]) ?_
      repeat (first | (refine heap_new _ ?_; (simp; done)) | refine heap_old ?_)
    · refine ⟨_, _, hc 8 _ rfl, ?_⟩
      refine u8s_of (xs := [0, 2]) ?_
      repeat (first | (refine heap_new _ ?_; (simp; done)) | refine heap_old ?_)
    · refine ⟨_, _, hc 9 _ rfl, ?_⟩
      refine u8s_of (xs := [0, 3]) ?_
      repeat (first | (refine heap_new _ ?_; (simp; done)) | refine heap_old ?_)
    · refine ⟨_, _, hc 10 _ rfl, ?_⟩
      refine u8s_of (xs := [0, 1]) ?_
      repeat (first | (refine heap_new _ ?_; (simp; done)) | refine heap_old ?_)
    · refine ⟨_, _, hc 11 _ rfl, ?_⟩
      refine u8s_of (xs := [0, 2]) ?_
      repeat (first | (refine heap_new _ ?_; (simp; done)) | refine heap_old ?_)
    · refine ⟨_, _, hc 12 _ rfl, ?_⟩
      refine u8s_of (xs := [0]) ?_
      repeat (first | (refine heap_new _ ?_; (simp; done)) | refine heap_old ?_)
    · refine ⟨_, _, hc 13 _ rfl, ?_⟩
      exact fun h => absurd h (by decide)
    · refine ⟨_, _, hc 14 _ rfl, ?_⟩
      exact fun h => absurd h (by decide)
    · refine ⟨_, _, hc 15 _ rfl, ?_⟩
      exact fun h => absurd h (by decide)

set_option maxHeartbeats 800000 in
set_option maxRecDepth 100000 in
theorem fieldsFn (k : Int) (w : World) (h1 : 1 ≤ k) (h2 : k ≤ 16) : Calls Tryd.prog 49 #[.int .u8 k] w (FieldsRes k w) := by
  go_enter Tryd.func49, Tryd.ntmps49
  go_upto_region 1 with fail
  go_cut [3] (fun s3 wx => TabRes w s3 wx)
  case first =>
    go_wp2_with fail
    go_meet
    exact tab_ok w
  case rest =>
    obtain ⟨g, rfl, hg, ht⟩ := hcut
    obtain ⟨A, c, hcell, hu⟩ := ht k h1 h2
    have HU := Lib.hid hu
    have HG := Lib.hid hg
    clear hu hg ht
    have HL := Lib.hid (rfl : (fieldsOf k).length = (fieldsOf k).length)
    generalize hl : (fieldsOf k).length = n at hcell
    have HN := Lib.hid hl
    clear hl HL
    have hk0 : 0 ≤ k - 1 := by omega
    have hk1 : k - 1 < 16 := by omega
    go_wp2
    go_ret
    exact ⟨A, c, by rw [HN.out]; rfl, HU.out, HG.out⟩
end Go.Proofs.YtcbhfhmpajamoaaDoor
