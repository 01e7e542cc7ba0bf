import Derived.Test.YtcicememljlafaaA5
import Derived.Deep.RegionHeld3
namespace Go.Proofs.Ytcicememljlafaa
open Go.RowKit
/- ScriptEqual, out of what its callees return. -/
theorem boxS_step (ca cb : CfgV) (pa ka pb kb : Value) (w W w3 : World) (h : Hid (Below w.heap.size w W) ∧ w.heap.size + 1 < W.heap.size ∧ W.cell? ⟨w.heap.size, 0, none⟩ = some (.int .i64 ca.slots) ∧ W.cell? ⟨w.heap.size, 1, none⟩ = some (.int .u64 ca.gens) ∧ W.cell? ⟨w.heap.size, 2, none⟩ = some (.int .i64 ca.clients) ∧ W.cell? ⟨w.heap.size, 3, none⟩ = some (.int .i64 ca.readers) ∧ W.cell? ⟨w.heap.size, 4, none⟩ = some (.int .i64 ca.queue) ∧ W.cell? ⟨w.heap.size, 5, none⟩ = some (.int .i64 ca.batch) ∧ W.cell? ⟨w.heap.size, 6, none⟩ = some (.int .i64 ca.feed) ∧ W.cell? ⟨w.heap.size, 7, none⟩ = some (.string ca.text) ∧ W.cell? ⟨w.heap.size, 8, none⟩ = some (pa) ∧ W.cell? ⟨w.heap.size, 9, none⟩ = some (ka) ∧ W.cell? ⟨w.heap.size + 1, 0, none⟩ = some (.int .i64 cb.slots) ∧ W.cell? ⟨w.heap.size + 1, 1, none⟩ = some (.int .u64 cb.gens) ∧ W.cell? ⟨w.heap.size + 1, 2, none⟩ = some (.int .i64 cb.clients) ∧ W.cell? ⟨w.heap.size + 1, 3, none⟩ = some (.int .i64 cb.readers) ∧ W.cell? ⟨w.heap.size + 1, 4, none⟩ = some (.int .i64 cb.queue) ∧ W.cell? ⟨w.heap.size + 1, 5, none⟩ = some (.int .i64 cb.batch) ∧ W.cell? ⟨w.heap.size + 1, 6, none⟩ = some (.int .i64 cb.feed) ∧ W.cell? ⟨w.heap.size + 1, 7, none⟩ = some (.string cb.text) ∧ W.cell? ⟨w.heap.size + 1, 8, none⟩ = some (pb) ∧ W.cell? ⟨w.heap.size + 1, 9, none⟩ = some (kb)) (hg : Below W.heap.size W w3) :
    Hid (Below w.heap.size w w3) ∧ w.heap.size + 1 < w3.heap.size ∧ w3.cell? ⟨w.heap.size, 0, none⟩ = some (.int .i64 ca.slots) ∧ w3.cell? ⟨w.heap.size, 1, none⟩ = some (.int .u64 ca.gens) ∧ w3.cell? ⟨w.heap.size, 2, none⟩ = some (.int .i64 ca.clients) ∧ w3.cell? ⟨w.heap.size, 3, none⟩ = some (.int .i64 ca.readers) ∧ w3.cell? ⟨w.heap.size, 4, none⟩ = some (.int .i64 ca.queue) ∧ w3.cell? ⟨w.heap.size, 5, none⟩ = some (.int .i64 ca.batch) ∧ w3.cell? ⟨w.heap.size, 6, none⟩ = some (.int .i64 ca.feed) ∧ w3.cell? ⟨w.heap.size, 7, none⟩ = some (.string ca.text) ∧ w3.cell? ⟨w.heap.size, 8, none⟩ = some (pa) ∧ w3.cell? ⟨w.heap.size, 9, none⟩ = some (ka) ∧ w3.cell? ⟨w.heap.size + 1, 0, none⟩ = some (.int .i64 cb.slots) ∧ w3.cell? ⟨w.heap.size + 1, 1, none⟩ = some (.int .u64 cb.gens) ∧ w3.cell? ⟨w.heap.size + 1, 2, none⟩ = some (.int .i64 cb.clients) ∧ w3.cell? ⟨w.heap.size + 1, 3, none⟩ = some (.int .i64 cb.readers) ∧ w3.cell? ⟨w.heap.size + 1, 4, none⟩ = some (.int .i64 cb.queue) ∧ w3.cell? ⟨w.heap.size + 1, 5, none⟩ = some (.int .i64 cb.batch) ∧ w3.cell? ⟨w.heap.size + 1, 6, none⟩ = some (.int .i64 cb.feed) ∧ w3.cell? ⟨w.heap.size + 1, 7, none⟩ = some (.string cb.text) ∧ w3.cell? ⟨w.heap.size + 1, 8, none⟩ = some (pb) ∧ w3.cell? ⟨w.heap.size + 1, 9, none⟩ = some (kb) := by
  obtain ⟨hb, hz, x0, x1, x2, x3, x4, x5, x6, x7, x8, x9, x10, x11, x12, x13, x14, x15, x16, x17, x18, x19⟩ := h
  have hs := hg.size
  have h1 : ∀ j, w3.cell? ⟨w.heap.size, j, none⟩ = W.cell? ⟨w.heap.size, j, none⟩ := fun j => hg.cell (p := ⟨w.heap.size, j, none⟩) (by show w.heap.size < W.heap.size; omega)
  have h2 : ∀ j, w3.cell? ⟨w.heap.size + 1, j, none⟩ = W.cell? ⟨w.heap.size + 1, j, none⟩ := fun j => hg.cell (p := ⟨w.heap.size + 1, j, none⟩) (by show w.heap.size + 1 < W.heap.size; omega)
  exact ⟨hb.out.trans (hg.mono (by omega)), by omega, (h1 _).trans x0, (h1 _).trans x1, (h1 _).trans x2, (h1 _).trans x3, (h1 _).trans x4, (h1 _).trans x5, (h1 _).trans x6, (h1 _).trans x7, (h1 _).trans x8, (h1 _).trans x9, (h2 _).trans x10, (h2 _).trans x11, (h2 _).trans x12, (h2 _).trans x13, (h2 _).trans x14, (h2 _).trans x15, (h2 _).trans x16, (h2 _).trans x17, (h2 _).trans x18, (h2 _).trans x19⟩

def SmallQ (w : World) (e : Ending) (w' : World) : Prop := ∃ b, e = .returned (.bool b) ∧ Below w.heap.size w w'

set_option maxHeartbeats 4000000 in
set_option maxRecDepth 100000 in
theorem scriptEqual_big (ca cb : CfgV) (pa ka pb kb : Value) (w : World) (q : Bool)
    (H1 : Hid (∀ W, Below w.heap.size w W → Calls Try.prog 10 #[scrVal ca pa ka, scrVal cb pb kb] W (BoolBelow q W)))
    (H2 : Hid (∀ W, Below w.heap.size w W → Calls Try.prog 11 #[scrVal ca pa ka, scrVal cb pb kb] W (BoolBelow q W)))
    (H3 : Hid (∀ W, Below w.heap.size w W → Calls Try.prog 10 #[scrVal ca pa ka, scrVal ca pa ka] W (BoolBelow true W)))
    (H4 : Hid (∀ W, Below w.heap.size w W → Calls Try.prog 10 #[scrVal cb pb kb, scrVal ca pa ka] W (BoolBelow q W)))
    (Hs1 : Hid (∀ W, Below w.heap.size w W → Calls Try.prog 9 #[scrVal ca pa ka] W (SmallQ W)))
    (Hs2 : Hid (∀ W, Below w.heap.size w W → Calls Try.prog 9 #[scrVal cb pb kb] W (SmallQ W)))
    : Calls Try.prog 3 #[scrVal ca pa ka, scrVal cb pb kb] w (BoolBelow true w) := by
  have hqq : (q == q) = true := by simp
  have HB := Lib.hid (fun (o o' : Obj) => ((Below.refl _ w).alloc (Nat.le_refl _) o).alloc (by simp) o')
  go_enter Try.func3, Try.ntmps3
  go_wp2_with fail
  refine (Hs1.out _ (HB.out _ _)).mono ?_
  rintro e w1 ⟨bb, rfl, hb1⟩
  cases bb
  · have HB1 := Lib.hid ((HB.out _ _).trans (hb1.mono (by simp; omega)))
    go_wp2
    go_ret
    exact ⟨rfl, HB1.out⟩
  have a0 : w1.cell? ⟨w.heap.size + 1, 0, none⟩ = some (.int .i64 cb.slots) := (hb1.cell (p := ⟨w.heap.size + 1, 0, none⟩) (by simp)).trans (by go_simp)
  have a1 : w1.cell? ⟨w.heap.size + 1, 1, none⟩ = some (.int .u64 cb.gens) := (hb1.cell (p := ⟨w.heap.size + 1, 1, none⟩) (by simp)).trans (by go_simp)
  have a2 : w1.cell? ⟨w.heap.size + 1, 2, none⟩ = some (.int .i64 cb.clients) := (hb1.cell (p := ⟨w.heap.size + 1, 2, none⟩) (by simp)).trans (by go_simp)
  have a3 : w1.cell? ⟨w.heap.size + 1, 3, none⟩ = some (.int .i64 cb.readers) := (hb1.cell (p := ⟨w.heap.size + 1, 3, none⟩) (by simp)).trans (by go_simp)
  have a4 : w1.cell? ⟨w.heap.size + 1, 4, none⟩ = some (.int .i64 cb.queue) := (hb1.cell (p := ⟨w.heap.size + 1, 4, none⟩) (by simp)).trans (by go_simp)
  have a5 : w1.cell? ⟨w.heap.size + 1, 5, none⟩ = some (.int .i64 cb.batch) := (hb1.cell (p := ⟨w.heap.size + 1, 5, none⟩) (by simp)).trans (by go_simp)
  have a6 : w1.cell? ⟨w.heap.size + 1, 6, none⟩ = some (.int .i64 cb.feed) := (hb1.cell (p := ⟨w.heap.size + 1, 6, none⟩) (by simp)).trans (by go_simp)
  have a7 : w1.cell? ⟨w.heap.size + 1, 7, none⟩ = some (.string cb.text) := (hb1.cell (p := ⟨w.heap.size + 1, 7, none⟩) (by simp)).trans (by go_simp)
  have a8 : w1.cell? ⟨w.heap.size + 1, 8, none⟩ = some (pb) := (hb1.cell (p := ⟨w.heap.size + 1, 8, none⟩) (by simp)).trans (by go_simp)
  have a9 : w1.cell? ⟨w.heap.size + 1, 9, none⟩ = some (kb) := (hb1.cell (p := ⟨w.heap.size + 1, 9, none⟩) (by simp)).trans (by go_simp)
  have c0 : w1.cell? ⟨w.heap.size, 0, none⟩ = some (.int .i64 ca.slots) := (hb1.cell (p := ⟨w.heap.size, 0, none⟩) (by simp; omega)).trans (by go_simp)
  have c1 : w1.cell? ⟨w.heap.size, 1, none⟩ = some (.int .u64 ca.gens) := (hb1.cell (p := ⟨w.heap.size, 1, none⟩) (by simp; omega)).trans (by go_simp)
  have c2 : w1.cell? ⟨w.heap.size, 2, none⟩ = some (.int .i64 ca.clients) := (hb1.cell (p := ⟨w.heap.size, 2, none⟩) (by simp; omega)).trans (by go_simp)
  have c3 : w1.cell? ⟨w.heap.size, 3, none⟩ = some (.int .i64 ca.readers) := (hb1.cell (p := ⟨w.heap.size, 3, none⟩) (by simp; omega)).trans (by go_simp)
  have c4 : w1.cell? ⟨w.heap.size, 4, none⟩ = some (.int .i64 ca.queue) := (hb1.cell (p := ⟨w.heap.size, 4, none⟩) (by simp; omega)).trans (by go_simp)
  have c5 : w1.cell? ⟨w.heap.size, 5, none⟩ = some (.int .i64 ca.batch) := (hb1.cell (p := ⟨w.heap.size, 5, none⟩) (by simp; omega)).trans (by go_simp)
  have c6 : w1.cell? ⟨w.heap.size, 6, none⟩ = some (.int .i64 ca.feed) := (hb1.cell (p := ⟨w.heap.size, 6, none⟩) (by simp; omega)).trans (by go_simp)
  have c7 : w1.cell? ⟨w.heap.size, 7, none⟩ = some (.string ca.text) := (hb1.cell (p := ⟨w.heap.size, 7, none⟩) (by simp; omega)).trans (by go_simp)
  have c8 : w1.cell? ⟨w.heap.size, 8, none⟩ = some (pa) := (hb1.cell (p := ⟨w.heap.size, 8, none⟩) (by simp; omega)).trans (by go_simp)
  have c9 : w1.cell? ⟨w.heap.size, 9, none⟩ = some (ka) := (hb1.cell (p := ⟨w.heap.size, 9, none⟩) (by simp; omega)).trans (by go_simp)
  have hz1 : w.heap.size + 1 < w1.heap.size := by have := hb1.size; simp at this; omega
  have HB1 := Lib.hid ((HB.out _ _).trans (hb1.mono (by simp; omega)))
  clear hb1 HB
  go_wp2_with fail
  refine (Hs2.out _ HB1.out).mono ?_
  rintro e w2 ⟨bb, rfl, hb2⟩
  cases bb
  · have HB2 := Lib.hid (HB1.out.trans (hb2.mono (by omega)))
    go_wp2
    go_ret
    exact ⟨rfl, HB2.out⟩
  have a0 : w2.cell? ⟨w.heap.size + 1, 0, none⟩ = some (.int .i64 cb.slots) := (hb2.cell (p := ⟨w.heap.size + 1, 0, none⟩) (by show w.heap.size + 1 < w1.heap.size; omega)).trans a0
  have a1 : w2.cell? ⟨w.heap.size + 1, 1, none⟩ = some (.int .u64 cb.gens) := (hb2.cell (p := ⟨w.heap.size + 1, 1, none⟩) (by show w.heap.size + 1 < w1.heap.size; omega)).trans a1
  have a2 : w2.cell? ⟨w.heap.size + 1, 2, none⟩ = some (.int .i64 cb.clients) := (hb2.cell (p := ⟨w.heap.size + 1, 2, none⟩) (by show w.heap.size + 1 < w1.heap.size; omega)).trans a2
  have a3 : w2.cell? ⟨w.heap.size + 1, 3, none⟩ = some (.int .i64 cb.readers) := (hb2.cell (p := ⟨w.heap.size + 1, 3, none⟩) (by show w.heap.size + 1 < w1.heap.size; omega)).trans a3
  have a4 : w2.cell? ⟨w.heap.size + 1, 4, none⟩ = some (.int .i64 cb.queue) := (hb2.cell (p := ⟨w.heap.size + 1, 4, none⟩) (by show w.heap.size + 1 < w1.heap.size; omega)).trans a4
  have a5 : w2.cell? ⟨w.heap.size + 1, 5, none⟩ = some (.int .i64 cb.batch) := (hb2.cell (p := ⟨w.heap.size + 1, 5, none⟩) (by show w.heap.size + 1 < w1.heap.size; omega)).trans a5
  have a6 : w2.cell? ⟨w.heap.size + 1, 6, none⟩ = some (.int .i64 cb.feed) := (hb2.cell (p := ⟨w.heap.size + 1, 6, none⟩) (by show w.heap.size + 1 < w1.heap.size; omega)).trans a6
  have a7 : w2.cell? ⟨w.heap.size + 1, 7, none⟩ = some (.string cb.text) := (hb2.cell (p := ⟨w.heap.size + 1, 7, none⟩) (by show w.heap.size + 1 < w1.heap.size; omega)).trans a7
  have a8 : w2.cell? ⟨w.heap.size + 1, 8, none⟩ = some (pb) := (hb2.cell (p := ⟨w.heap.size + 1, 8, none⟩) (by show w.heap.size + 1 < w1.heap.size; omega)).trans a8
  have a9 : w2.cell? ⟨w.heap.size + 1, 9, none⟩ = some (kb) := (hb2.cell (p := ⟨w.heap.size + 1, 9, none⟩) (by show w.heap.size + 1 < w1.heap.size; omega)).trans a9
  have c0 : w2.cell? ⟨w.heap.size, 0, none⟩ = some (.int .i64 ca.slots) := (hb2.cell (p := ⟨w.heap.size, 0, none⟩) (by show w.heap.size < w1.heap.size; omega)).trans c0
  have c1 : w2.cell? ⟨w.heap.size, 1, none⟩ = some (.int .u64 ca.gens) := (hb2.cell (p := ⟨w.heap.size, 1, none⟩) (by show w.heap.size < w1.heap.size; omega)).trans c1
  have c2 : w2.cell? ⟨w.heap.size, 2, none⟩ = some (.int .i64 ca.clients) := (hb2.cell (p := ⟨w.heap.size, 2, none⟩) (by show w.heap.size < w1.heap.size; omega)).trans c2
  have c3 : w2.cell? ⟨w.heap.size, 3, none⟩ = some (.int .i64 ca.readers) := (hb2.cell (p := ⟨w.heap.size, 3, none⟩) (by show w.heap.size < w1.heap.size; omega)).trans c3
  have c4 : w2.cell? ⟨w.heap.size, 4, none⟩ = some (.int .i64 ca.queue) := (hb2.cell (p := ⟨w.heap.size, 4, none⟩) (by show w.heap.size < w1.heap.size; omega)).trans c4
  have c5 : w2.cell? ⟨w.heap.size, 5, none⟩ = some (.int .i64 ca.batch) := (hb2.cell (p := ⟨w.heap.size, 5, none⟩) (by show w.heap.size < w1.heap.size; omega)).trans c5
  have c6 : w2.cell? ⟨w.heap.size, 6, none⟩ = some (.int .i64 ca.feed) := (hb2.cell (p := ⟨w.heap.size, 6, none⟩) (by show w.heap.size < w1.heap.size; omega)).trans c6
  have c7 : w2.cell? ⟨w.heap.size, 7, none⟩ = some (.string ca.text) := (hb2.cell (p := ⟨w.heap.size, 7, none⟩) (by show w.heap.size < w1.heap.size; omega)).trans c7
  have c8 : w2.cell? ⟨w.heap.size, 8, none⟩ = some (pa) := (hb2.cell (p := ⟨w.heap.size, 8, none⟩) (by show w.heap.size < w1.heap.size; omega)).trans c8
  have c9 : w2.cell? ⟨w.heap.size, 9, none⟩ = some (ka) := (hb2.cell (p := ⟨w.heap.size, 9, none⟩) (by show w.heap.size < w1.heap.size; omega)).trans c9
  have hz2 : w.heap.size + 1 < w2.heap.size := by have := hb2.size; omega
  have HB2 := Lib.hid (HB1.out.trans (hb2.mono (by omega)))
  clear hb2 HB1 hz1
  go_wp2
  go_region_held3 (fun w' => Hid (Below w.heap.size w w') ∧ w.heap.size + 1 < w'.heap.size ∧ w'.cell? ⟨w.heap.size, 0, none⟩ = some (.int .i64 ca.slots) ∧ w'.cell? ⟨w.heap.size, 1, none⟩ = some (.int .u64 ca.gens) ∧ w'.cell? ⟨w.heap.size, 2, none⟩ = some (.int .i64 ca.clients) ∧ w'.cell? ⟨w.heap.size, 3, none⟩ = some (.int .i64 ca.readers) ∧ w'.cell? ⟨w.heap.size, 4, none⟩ = some (.int .i64 ca.queue) ∧ w'.cell? ⟨w.heap.size, 5, none⟩ = some (.int .i64 ca.batch) ∧ w'.cell? ⟨w.heap.size, 6, none⟩ = some (.int .i64 ca.feed) ∧ w'.cell? ⟨w.heap.size, 7, none⟩ = some (.string ca.text) ∧ w'.cell? ⟨w.heap.size, 8, none⟩ = some (pa) ∧ w'.cell? ⟨w.heap.size, 9, none⟩ = some (ka) ∧ w'.cell? ⟨w.heap.size + 1, 0, none⟩ = some (.int .i64 cb.slots) ∧ w'.cell? ⟨w.heap.size + 1, 1, none⟩ = some (.int .u64 cb.gens) ∧ w'.cell? ⟨w.heap.size + 1, 2, none⟩ = some (.int .i64 cb.clients) ∧ w'.cell? ⟨w.heap.size + 1, 3, none⟩ = some (.int .i64 cb.readers) ∧ w'.cell? ⟨w.heap.size + 1, 4, none⟩ = some (.int .i64 cb.queue) ∧ w'.cell? ⟨w.heap.size + 1, 5, none⟩ = some (.int .i64 cb.batch) ∧ w'.cell? ⟨w.heap.size + 1, 6, none⟩ = some (.int .i64 cb.feed) ∧ w'.cell? ⟨w.heap.size + 1, 7, none⟩ = some (.string cb.text) ∧ w'.cell? ⟨w.heap.size + 1, 8, none⟩ = some (pb) ∧ w'.cell? ⟨w.heap.size + 1, 9, none⟩ = some (kb))
    (first
      | exact ⟨HB2.out.drew, hz2, c0, c1, c2, c3, c4, c5, c6, c7, c8, c9, a0, a1, a2, a3, a4, a5, a6, a7, a8, a9⟩
      | (refine boxS_step ca cb pa ka pb kb w _ _ ?_ hgrow; refine ⟨?_, ?_, ?_, ?_, ?_, ?_, ?_, ?_, ?_, ?_, ?_, ?_, ?_, ?_, ?_, ?_, ?_, ?_, ?_, ?_, ?_, ?_⟩ <;> (first | assumption | go_keep)))
    (first
      | (go_at_call 11; refine (H2.out _ (by first | exact HB2.out.drew | (go_split_ands; exact Hid.out (by assumption)))).mono ?_; rintro e w3 ⟨rfl, hgrow⟩)
      | (go_at_call 10; (first | (with_reducible refine (H1.out _ ?c1).mono ?_; (case c1 => first | exact HB2.out.drew | (go_split_ands; exact Hid.out (by assumption)))) | (with_reducible refine (H3.out _ ?c2).mono ?_; (case c2 => first | exact HB2.out.drew | (go_split_ands; exact Hid.out (by assumption)))) | (with_reducible refine (H4.out _ ?c3).mono ?_; (case c3 => first | exact HB2.out.drew | (go_split_ands; exact Hid.out (by assumption))))); rintro e w3 ⟨rfl, hgrow⟩))
  go_wp2
  go_ret
  go_split_ands
  exact ⟨rfl, Hid.out (by assumption)⟩

end Go.Proofs.Ytcicememljlafaa
