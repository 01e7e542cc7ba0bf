/- Walks: Decode, by the program. -/
import Derived.Test.YtcicememljlafaaD5
import Derived.Test.YtcicememljlafaaE4
import Derived.Recover
import Derived.Defers
namespace Go.Proofs.Ytcicememljlafaa
open Go.RowKit
open Runes (bs bt)

def decErr (l : List Int) : Int := if 65536 < l.length then 5 else 4
def DecodeRes (l : List Int) (w : World) (e : Ending) (w' : World) : Prop :=
  Below w.heap.size w w' ∧
  ((∃ s v, ScrOk s ∧ ScrTy s ∧ encScr s = l ∧ e = .returned (.tuple #[v, .int .i64 0]) ∧ ScrAt w' w'.heap.size v s) ∨
   ((¬ ∃ s, ScrOk s ∧ ScrTy s ∧ encScr s = l) ∧ e = .returned (.tuple #[scrVal cfg0 (.slice none 0 0) (.slice none 0 0), .int .i64 (decErr l)])))
theorem res18 {ts : Array Value} {A Q : Nat} {c : CfgV} {p k : Value} {e : Int} {W : World} (h2 : ts[2]? = some (.pointer (some ⟨A, 0, none⟩))) (h3 : ts[3]? = some (.pointer (some ⟨Q, 0, none⟩)))
    (hA : W.heap[A]? = some (scrBox c p k)) (hQ : W.cell? ⟨Q, 0, none⟩ = some (.int .i64 e)) : (results Try.f18 ts).run Try.prog W = .ok (.tuple #[scrVal c p k, .int .i64 e]) W := by
  obtain ⟨c0, c1, c2, c3, c4, c5, c6, c7, c8, c9⟩ := box_cell hA
  simp [results, Try.results18, go_sem, h2, h3, c0, c1, c2, c3, c4, c5, c6, c7, c8, c9, hQ, scrVal]
set_option maxHeartbeats 1000000 in
set_option maxRecDepth 100000 in
theorem dec_long (l : List Int) (w : World) (hm : ¬ l.length ≤ 65536) (hs : l.length ≤ 9223372036854775807) : Calls Try.prog 18 #[.string (bs l)] w (DecodeRes l w) := by
  have hmf : ∀ (fn : Fn) (first cap : Array Value) (w : World), (Instr.makeFunc fn first cap).run Try.prog w = .ok (.func fn first cap) w := fun _ _ _ _ => rfl
  have hb : (w.alloc zeroScr).heap[w.heap.size]? = some zeroScr := heap_alloc_new _ _
  have hsz : ((bs l).size : Int) = (l.length : Int) := by rw [bs_size]
  have hd : decide ((65536 : Int) < ((bs l).size : Int)) = true := by rw [hsz]; simp; omega
  go_enter_defers Try.func18, Try.ntmps18
  go_wp2
  refine ⟨_, res18 (A := w.heap.size) (Q := w.heap.size + 1) (c := cfg0) (p := .slice none 0 0) (k := .slice none 0 0) (e := 5) rfl rfl ?_ ?_, ?_, .inr ⟨?_, ?_⟩⟩
  · exact (Below.heap_alloc _ _ _ (by simp)).trans hb
  · simp [go_sem]
  · exact ((Below.refl _ _).alloc (Nat.le_refl _) _).alloc (by simp) _
  · rintro ⟨s, h1, h2, h3⟩
    have := h1.size
    rw [h3] at this
    exact hm this
  · unfold decErr; rw [if_pos (by omega)]
/-- The world in which the script is read. -/
structure DecW (w W : World) (l : List Int) : Prop where
  a : W.heap[w.heap.size]? = some zeroScr
  q : W.heap[w.heap.size + 1]? = some (.cells #[.int .i64 0] 33)
  s : StrBox W (w.heap.size + 1 + 1) 74 (bs l)
  b : Below w.heap.size w W
theorem decW_start (w : World) (l : List Int) : DecW w (((w.alloc zeroScr).alloc (.cells #[.int .i64 0] 33)).alloc (.cells #[.string (bs l)] 74)) l := by
  have h2 : (((w.alloc zeroScr).alloc (.cells #[.int .i64 0] 33)).alloc (.cells #[.string (bs l)] 74)).heap[w.heap.size + 1 + 1]? = some (.cells #[.string (bs l)] 74) := heap_new _ (by simp)
  refine ⟨?_, ?_, ⟨by rw [cell_of_row _ _ 0 _ _ _ h2]; rfl, ⟨_, h2⟩⟩, (((Below.refl _ _).alloc (Nat.le_refl _) _).alloc (by simp) _).alloc (by simp; omega) _⟩
  · exact (Below.heap_alloc _ _ _ (by simp; omega)).trans ((Below.heap_alloc _ _ _ (by simp)).trans (heap_alloc_new _ _))
  · exact (Below.heap_alloc _ _ _ (by simp)).trans (heap_new _ (by simp))
set_option maxHeartbeats 1000000 in
set_option maxRecDepth 100000 in
theorem dec_form (l : List Int) (w : World) (hm : l.length ≤ 65536) (hl : BL l) (hn : dScr l = none) : Calls Try.prog 18 #[.string (bs l)] w (DecodeRes l w) := by
  have hmf : ∀ (fn : Fn) (first cap : Array Value) (w : World), (Instr.makeFunc fn first cap).run Try.prog w = .ok (.func fn first cap) w := fun _ _ _ _ => rfl
  have hd : decide ((65536 : Int) < ((bs l).size : Int)) = false := by rw [bs_size]; simp; omega
  have HW := Lib.hid (decW_start w l)
  have HM := Lib.hid (And.intro hm (And.intro hl hn))
  clear hm hl hn
  go_enter_defers Try.func18, Try.ntmps18
  go_upto_region 5 with fail
  generalize ((w.alloc zeroScr).alloc (.cells #[.int .i64 0] 33)).alloc (.cells #[.string (bs l)] 74) = W1 at *
  have HR := Lib.hid (readScrFn (w.heap.size + 1 + 1) l W1 HW.out.s HM.out.2.1 HM.out.1)
  go_wp2_with fail
  refine HR.out.mono ?_
  rintro e w1 h1
  unfold ScrDec at h1
  rw [HM.out.2.2] at h1
  obtain ⟨rfl, hg⟩ := h1
  go_wp2
  have hA : w1.heap[w.heap.size]? = some zeroScr := (hg.block _ (heap_lt HW.out.a) (by intro e; injection e; omega)).trans HW.out.a
  have hQ : w1.heap[w.heap.size + 1]? = some (.cells #[.int .i64 0] 33) := (hg.block _ (heap_lt HW.out.q) (by intro e; injection e; omega)).trans HW.out.q
  have hB : Below w.heap.size w w1 := HW.out.b.grown hg HW.out.b.size (by intro k e; injection e; omega)
  have hQ1 : w1.cell? ⟨w.heap.size + 1, 0, none⟩ = some (.int .i64 0) := by rw [cell_of_row _ _ 0 _ _ _ hQ]; rfl
  have hQ2 : w1.frozen? ⟨w.heap.size + 1, 0, none⟩ = false := (show ElemT w1 (w.heap.size + 1) 33 from ⟨_, hQ⟩).frozen 0
  unfold bodyPostD
  refine leaves_cons (f := 44) (args := #[.pointer (some ⟨w.heap.size, 0, none⟩), .pointer (some ⟨w.heap.size + 1, 0, none⟩)]) (by simp) (by simp [go_sem]) ?_
  refine (catch_form w.heap.size (w.heap.size + 1) [] w1 hA hQ1 hQ2 (by omega)).mono ?_
  rintro e u' w'' ⟨rfl, rfl, rfl⟩
  refine ⟨_, res18 (A := w.heap.size) (Q := w.heap.size + 1) (c := cfg0) (p := .slice none 0 0) (k := .slice none 0 0) (e := 4) rfl rfl ((heap_setCell_other _ _ _ _ (by simp)).trans hA) (World.cell?_setCell_same _ _ _ hQ1), hB.setCell (by simp) _, .inr ⟨?_, ?_⟩⟩
  · rintro ⟨s, y1, y2, y3⟩
    have := (dec_iff l HM.out.2.1 s).2 ⟨y1, y2, y3⟩
    rw [HM.out.2.2] at this
    cases this.1
  · unfold decErr; rw [if_neg (by have := HM.out.1; omega)]
def scrSet (W : World) (A : Nat) (c : CfgV) (p k : Value) : World := ((((((((((W.setCell ⟨A, 0, none⟩ (.int .i64 c.slots)).setCell ⟨A, 1, none⟩ (.int .u64 c.gens)).setCell ⟨A, 2, none⟩ (.int .i64 c.clients)).setCell ⟨A, 3, none⟩ (.int .i64 c.readers)).setCell ⟨A, 4, none⟩ (.int .i64 c.queue)).setCell ⟨A, 5, none⟩ (.int .i64 c.batch)).setCell ⟨A, 6, none⟩ (.int .i64 c.feed)).setCell ⟨A, 7, none⟩ (.string c.text)).setCell ⟨A, 8, none⟩ p).setCell ⟨A, 9, none⟩ k)
theorem scrSet_a {W : World} {A : Nat} {c c0 : CfgV} {p k p0 k0 : Value} (h : W.heap[A]? = some (scrBox c0 p0 k0)) : (scrSet W A c p k).heap[A]? = some (scrBox c p k) := by
  unfold scrSet
  simp [World.setCell, Array.getElem?_modify, h]
theorem scrSet_o {W : World} {A i : Nat} (c : CfgV) (p k : Value) (h : i ≠ A) : (scrSet W A c p k).heap[i]? = W.heap[i]? := by
  unfold scrSet
  have hk : ∀ (W : World) (j : Nat) (v : Value), (W.setCell ⟨A, j, none⟩ v).heap[i]? = W.heap[i]? := fun W j v => Below.heap_setCell _ _ _ _ h
  simp only [hk]
theorem scrSet_b {w W : World} {A : Nat} (c : CfgV) (p k : Value) (h : Below w.heap.size w W) (hA : w.heap.size ≤ A) : Below w.heap.size w (scrSet W A c p k) := by
  unfold scrSet
  exact ((((((((((h.setCell hA _).setCell hA _).setCell hA _).setCell hA _).setCell hA _).setCell hA _).setCell hA _).setCell hA _).setCell hA _).setCell hA _)
theorem scrSet_s {W : World} {A : Nat} (c : CfgV) (p k : Value) : (scrSet W A c p k).heap.size = W.heap.size := by
  unfold scrSet World.setCell; simp
theorem scrSet_g (W : World) (A : Nat) (c : CfgV) (p k : Value) : W.grownBy (scrSet W A c p k) (some A) := by
  unfold scrSet
  iterate 9 with_reducible refine grown_trans ?_ (set_grown _ _ _ _)
  with_reducible exact set_grown _ _ _ _
/-- The world in which the script that was read is checked. -/
structure DecW2 (w W : World) (s : ScrV) (v8 v9 : Value) (r : List Int) : Prop where
  a : W.heap[w.heap.size]? = some (scrBox s.cfg v8 v9)
  q : W.heap[w.heap.size + 1]? = some (.cells #[.int .i64 0] 33)
  str : W.cell? ⟨w.heap.size + 1 + 1, 0, none⟩ = some (.string (bs r))
  b : Below w.heap.size w W
  scr : ∃ A8 x8 A9 x9, v8 = .slice A8 s.progs.length x8 ∧ v9 = .slice A9 s.picks.length x9 ∧ ProgsAt W W.heap.size A8 s.progs ∧ Ints W W.heap.size A9 s.picks
theorem decW2_mk {w w1 W1 : World} {s : ScrV} {v8 v9 : Value} {r : List Int} {c0 : CfgV} {p0 k0 : Value} {lim : Nat} (hA : w1.heap[w.heap.size]? = some (scrBox c0 p0 k0)) (hQ : w1.heap[w.heap.size + 1]? = some (.cells #[.int .i64 0] 33))
    (hB : Below w.heap.size w w1) (hs : StrBox w1 (w.heap.size + 1 + 1) 74 (bs r)) (hv : Bld w1 W1.heap.size (W1.heap.size + 1) lim s.cfg v8 v9 s.progs s.picks) (hlt : w.heap.size < W1.heap.size) :
    DecW2 w (scrSet w1 w.heap.size s.cfg v8 v9) s v8 v9 r := by
  have hb : ∀ k, k ≠ w.heap.size → (scrSet w1 w.heap.size s.cfg v8 v9).heap[k]? = w1.heap[k]? := fun k hk => scrSet_o _ _ _ hk
  have hg := scrSet_g w1 w.heap.size s.cfg v8 v9
  refine ⟨scrSet_a hA, (hb (w.heap.size + 1) (by omega)).trans hQ, (World.cell?_of_block (a := ⟨w.heap.size + 1 + 1, 0, none⟩) (hb (w.heap.size + 1 + 1) (by omega))).trans hs.cell, scrSet_b _ _ _ hB (Nat.le_refl _), ?_⟩
  obtain ⟨Ap, cp, Ak, ck, e, hP, hK⟩ := (hv.but (q := w.heap.size) ⟨_, hA⟩ (show w.heap.size ≠ W1.heap.size + 1 by omega) hg).scr
  injection e with e
  injection e with e
  injection e with _ e; injection e with _ e; injection e with _ e; injection e with _ e; injection e with _ e; injection e with _ e; injection e with _ e; injection e with _ e; injection e with e8 e; injection e with e9 e
  exact ⟨Ap, cp, Ak, ck, e8, e9, hP, hK⟩
theorem leave_idle {R : Ending → World → Prop} {ts : Array Value} {A Q : Nat} {c : CfgV} {p k : Value} {e : Int} {W : World} (h2 : ts[2]? = some (.pointer (some ⟨A, 0, none⟩))) (h3 : ts[3]? = some (.pointer (some ⟨Q, 0, none⟩)))
    (hA : W.heap[A]? = some (scrBox c p k)) (hQ : W.cell? ⟨Q, 0, none⟩ = some (.int .i64 e)) (hR : R (.returned (.tuple #[scrVal c p k, .int .i64 e])) W) :
    bodyPostD Try.prog Try.f18 R Exit.ret { tmps := ts, defers := [{ target := .fn (.func 44) #[.pointer (some ⟨A, 0, none⟩), .pointer (some ⟨Q, 0, none⟩)], args := #[] }] } W := by
  unfold bodyPostD
  refine leaves_cons (f := 44) (args := #[.pointer (some ⟨A, 0, none⟩), .pointer (some ⟨Q, 0, none⟩)]) (by simp) (by simp [go_sem]) ?_
  refine (catch_idle ⟨A, 0, none⟩ ⟨Q, 0, none⟩ W).mono ?_
  rintro e' u' w'' ⟨rfl, rfl, rfl⟩
  exact ⟨_, res18 h2 h3 hA hQ, hR⟩
set_option maxHeartbeats 1000000 in
set_option maxRecDepth 100000 in
theorem dec_yes (l r : List Int) (s : ScrV) (w : World) (hz : ScrSz s) (hm : l.length ≤ 65536) (hl : BL l) (hn : dScr l = some (s, r)) : Calls Try.prog 18 #[.string (bs l)] w (DecodeRes l w) := by
  have hmf : ∀ (fn : Fn) (first cap : Array Value) (w : World), (Instr.makeFunc fn first cap).run Try.prog w = .ok (.func fn first cap) w := fun _ _ _ _ => rfl
  have hd : decide ((65536 : Int) < ((bs l).size : Int)) = false := by rw [bs_size]; simp; omega
  have HW := Lib.hid (decW_start w l)
  have HM := Lib.hid (And.intro hm (And.intro hl hn))
  clear hm hl hn
  go_enter_defers Try.func18, Try.ntmps18
  go_upto_region 5 with fail
  generalize ((w.alloc zeroScr).alloc (.cells #[.int .i64 0] 33)).alloc (.cells #[.string (bs l)] 74) = W1 at *
  have HR := Lib.hid (readScrFn (w.heap.size + 1 + 1) l W1 HW.out.s HM.out.2.1 HM.out.1)
  go_wp2_with fail
  refine HR.out.mono ?_
  rintro e w1 h1
  unfold ScrDec at h1
  rw [HM.out.2.2] at h1
  obtain ⟨lim, v8, v9, rfl, hv, hs, hg⟩ := h1
  obtain ⟨vals, p1, p2⟩ := hv.progs
  obtain ⟨A8, x8, rfl⟩ := own_slice p1
  obtain ⟨A9, x9, rfl⟩ := own_slice hv.picks
  clear p1 p2
  have hA : w1.heap[w.heap.size]? = some (scrBox cfg0 (.slice none 0 0) (.slice none 0 0)) := (hg.block _ (heap_lt HW.out.a) (by intro e; injection e; omega)).trans HW.out.a
  have hQ : w1.heap[w.heap.size + 1]? = some (.cells #[.int .i64 0] 33) := (hg.block _ (heap_lt HW.out.q) (by intro e; injection e; omega)).trans HW.out.q
  have hB : Below w.heap.size w w1 := HW.out.b.grown hg HW.out.b.size (by intro k e; injection e; omega)
  have hE : ElemT w1 w.heap.size 28 := ⟨_, hA⟩
  have hlt : w.heap.size < W1.heap.size := heap_lt HW.out.a
  obtain ⟨c0, c1, c2, c3, c4, c5, c6, c7, c8, c9⟩ := box_cell hA
  have z0 : w1.frozen? ⟨w.heap.size, 0, none⟩ = false := hE.frozen 0
  have z1 : w1.frozen? ⟨w.heap.size, 1, none⟩ = false := hE.frozen 1
  have z2 : w1.frozen? ⟨w.heap.size, 2, none⟩ = false := hE.frozen 2
  have z3 : w1.frozen? ⟨w.heap.size, 3, none⟩ = false := hE.frozen 3
  have z4 : w1.frozen? ⟨w.heap.size, 4, none⟩ = false := hE.frozen 4
  have z5 : w1.frozen? ⟨w.heap.size, 5, none⟩ = false := hE.frozen 5
  have z6 : w1.frozen? ⟨w.heap.size, 6, none⟩ = false := hE.frozen 6
  have z7 : w1.frozen? ⟨w.heap.size, 7, none⟩ = false := hE.frozen 7
  have z8 : w1.frozen? ⟨w.heap.size, 8, none⟩ = false := hE.frozen 8
  have z9 : w1.frozen? ⟨w.heap.size, 9, none⟩ = false := hE.frozen 9
  have HF : Hid (DecW2 w (scrSet w1 w.heap.size s.cfg (.slice A8 s.progs.length x8) (.slice A9 s.picks.length x9)) s (.slice A8 s.progs.length x8) (.slice A9 s.picks.length x9) r) := decW2_mk hA hQ hB hs hv hlt
  clear hA hQ hB hE hv hs hg hlt HW
  go_upto_region 6 with fail
  rw [show ((((((((((w1.setCell ⟨w.heap.size, 0, none⟩ (Value.int .i64 s.cfg.slots)).setCell ⟨w.heap.size, 1, none⟩ (Value.int .u64 s.cfg.gens)).setCell ⟨w.heap.size, 2, none⟩ (Value.int .i64 s.cfg.clients)).setCell ⟨w.heap.size, 3, none⟩ (Value.int .i64 s.cfg.readers)).setCell ⟨w.heap.size, 4, none⟩ (Value.int .i64 s.cfg.queue)).setCell ⟨w.heap.size, 5, none⟩ (Value.int .i64 s.cfg.batch)).setCell ⟨w.heap.size, 6, none⟩ (Value.int .i64 s.cfg.feed)).setCell ⟨w.heap.size, 7, none⟩ (Value.string s.cfg.text)).setCell ⟨w.heap.size, 8, none⟩ (.slice A8 s.progs.length x8)).setCell ⟨w.heap.size, 9, none⟩ (.slice A9 s.picks.length x9)) = scrSet w1 w.heap.size s.cfg (.slice A8 s.progs.length x8) (.slice A9 s.picks.length x9) from rfl]
  clear c0 c1 c2 c3 c4 c5 c6 c7 c8 c9 z0 z1 z2 z3 z4 z5 z6 z7 z8 z9
  generalize scrSet w1 w.heap.size s.cfg (.slice A8 s.progs.length x8) (.slice A9 s.picks.length x9) = W2 at *
  obtain ⟨Ap, cp, Ak, ck, hv8, hv9, hP, hK⟩ := HF.out.scr
  injection hv8 with e1 _ e2
  injection hv9 with e3 _ e4
  subst e1 e2 e3 e4
  have HPK := Lib.hid (And.intro hP hK)
  clear hP hK
  have hs := HF.out.str
  have hQ1 : W2.cell? ⟨w.heap.size + 1, 0, none⟩ = some (.int .i64 0) := by rw [cell_of_row _ _ 0 _ _ _ HF.out.q]; rfl
  have hQ2 : W2.frozen? ⟨w.heap.size + 1, 0, none⟩ = false := (show ElemT W2 (w.heap.size + 1) 33 from ⟨_, HF.out.q⟩).frozen 0
  obtain ⟨c0, c1, c2, c3, c4, c5, c6, c7, c8, c9⟩ := box_cell HF.out.a
  have z0 : W2.frozen? ⟨w.heap.size, 0, none⟩ = false := (show ElemT W2 w.heap.size 28 from ⟨_, HF.out.a⟩).frozen 0
  have z1 : W2.frozen? ⟨w.heap.size, 1, none⟩ = false := (show ElemT W2 w.heap.size 28 from ⟨_, HF.out.a⟩).frozen 1
  have z2 : W2.frozen? ⟨w.heap.size, 2, none⟩ = false := (show ElemT W2 w.heap.size 28 from ⟨_, HF.out.a⟩).frozen 2
  have z3 : W2.frozen? ⟨w.heap.size, 3, none⟩ = false := (show ElemT W2 w.heap.size 28 from ⟨_, HF.out.a⟩).frozen 3
  have z4 : W2.frozen? ⟨w.heap.size, 4, none⟩ = false := (show ElemT W2 w.heap.size 28 from ⟨_, HF.out.a⟩).frozen 4
  have z5 : W2.frozen? ⟨w.heap.size, 5, none⟩ = false := (show ElemT W2 w.heap.size 28 from ⟨_, HF.out.a⟩).frozen 5
  have z6 : W2.frozen? ⟨w.heap.size, 6, none⟩ = false := (show ElemT W2 w.heap.size 28 from ⟨_, HF.out.a⟩).frozen 6
  have z7 : W2.frozen? ⟨w.heap.size, 7, none⟩ = false := (show ElemT W2 w.heap.size 28 from ⟨_, HF.out.a⟩).frozen 7
  have z8 : W2.frozen? ⟨w.heap.size, 8, none⟩ = false := (show ElemT W2 w.heap.size 28 from ⟨_, HF.out.a⟩).frozen 8
  have z9 : W2.frozen? ⟨w.heap.size, 9, none⟩ = false := (show ElemT W2 w.heap.size 28 from ⟨_, HF.out.a⟩).frozen 9
  have hne : w.heap.size ≠ w.heap.size + 1 := by omega
  by_cases hr : r = []
  case neg =>
    have hbr : (bs r).toList.isEmpty = false := by
      revert hr
      cases r with
      | nil => intro h; exact absurd rfl h
      | cons x y => intro _; simp [bs]
    go_wp2
    rw [show ((((((((((W2.setCell ⟨w.heap.size, 0, none⟩ (.int .i64 0)).setCell ⟨w.heap.size, 1, none⟩ (.int .u64 0)).setCell ⟨w.heap.size, 2, none⟩ (.int .i64 0)).setCell ⟨w.heap.size, 3, none⟩ (.int .i64 0)).setCell ⟨w.heap.size, 4, none⟩ (.int .i64 0)).setCell ⟨w.heap.size, 5, none⟩ (.int .i64 0)).setCell ⟨w.heap.size, 6, none⟩ (.int .i64 0)).setCell ⟨w.heap.size, 7, none⟩ (.string ⟨#[]⟩)).setCell ⟨w.heap.size, 8, none⟩ (.slice none 0 0)).setCell ⟨w.heap.size, 9, none⟩ (.slice none 0 0)) = scrSet W2 w.heap.size cfg0 (.slice none 0 0) (.slice none 0 0) from rfl]
    refine leave_idle rfl rfl ((heap_setCell_other _ _ _ _ hne).trans (scrSet_a HF.out.a)) (World.cell?_setCell_same (u := .int .i64 0) _ _ _ ((World.cell?_of_block (a := ⟨w.heap.size + 1, 0, none⟩) (scrSet_o _ _ _ (by simp))).trans hQ1)) ⟨?_, .inr ⟨?_, ?_⟩⟩
    · exact (scrSet_b _ _ _ HF.out.b (Nat.le_refl _)).setCell (by simp) _
    · rintro ⟨s', y1, y2, y3⟩
      have := (dec_iff l HM.out.2.1 s').2 ⟨y1, y2, y3⟩
      rw [HM.out.2.2] at this
      obtain ⟨h1, _⟩ := this
      injection h1 with h1
      injection h1 with _ h1
      exact hr h1
    · unfold decErr; rw [if_neg (by have := HM.out.1; omega)]
  case pos =>
    subst hr
    have hbr : (bs []).toList.isEmpty = true := by decide +kernel
    have HCk := Lib.hid (scriptCheck s A8 A9 x8 x9 W2 hz HPK.out.1 HPK.out.2)
    go_wp2_with fail
    refine HCk.out.mono ?_
    rintro e w2 ⟨rfl, hw⟩
    have gA : w2.heap[w.heap.size]? = some (scrBox s.cfg (.slice A8 s.progs.length x8) (.slice A9 s.picks.length x9)) := (hw.block _ (heap_lt HF.out.a)).trans HF.out.a
    have gQ : w2.heap[w.heap.size + 1]? = some (.cells #[.int .i64 0] 33) := (hw.block _ (heap_lt HF.out.q)).trans HF.out.q
    have gB : Below w.heap.size w w2 := HF.out.b.trans (hw.mono HF.out.b.size)
    have gS : ScrAt w2 w2.heap.size (scrVal s.cfg (.slice A8 s.progs.length x8) (.slice A9 s.picks.length x9)) s := ⟨A8, x8, A9, x9, rfl, HPK.out.1.below hw hw.size, HPK.out.2.below hw hw.size⟩
    clear hw hs hQ1 hQ2 c0 c1 c2 c3 c4 c5 c6 c7 c8 c9 z0 z1 z2 z3 z4 z5 z6 z7 z8 z9 HCk HPK HF HR
    have hQ1 : w2.cell? ⟨w.heap.size + 1, 0, none⟩ = some (.int .i64 0) := by rw [cell_of_row _ _ 0 _ _ _ gQ]; rfl
    have hQ2 : w2.frozen? ⟨w.heap.size + 1, 0, none⟩ = false := (show ElemT w2 (w.heap.size + 1) 33 from ⟨_, gQ⟩).frozen 0
    obtain ⟨c0, c1, c2, c3, c4, c5, c6, c7, c8, c9⟩ := box_cell gA
    have z0 : w2.frozen? ⟨w.heap.size, 0, none⟩ = false := (show ElemT w2 w.heap.size 28 from ⟨_, gA⟩).frozen 0
    have z1 : w2.frozen? ⟨w.heap.size, 1, none⟩ = false := (show ElemT w2 w.heap.size 28 from ⟨_, gA⟩).frozen 1
    have z2 : w2.frozen? ⟨w.heap.size, 2, none⟩ = false := (show ElemT w2 w.heap.size 28 from ⟨_, gA⟩).frozen 2
    have z3 : w2.frozen? ⟨w.heap.size, 3, none⟩ = false := (show ElemT w2 w.heap.size 28 from ⟨_, gA⟩).frozen 3
    have z4 : w2.frozen? ⟨w.heap.size, 4, none⟩ = false := (show ElemT w2 w.heap.size 28 from ⟨_, gA⟩).frozen 4
    have z5 : w2.frozen? ⟨w.heap.size, 5, none⟩ = false := (show ElemT w2 w.heap.size 28 from ⟨_, gA⟩).frozen 5
    have z6 : w2.frozen? ⟨w.heap.size, 6, none⟩ = false := (show ElemT w2 w.heap.size 28 from ⟨_, gA⟩).frozen 6
    have z7 : w2.frozen? ⟨w.heap.size, 7, none⟩ = false := (show ElemT w2 w.heap.size 28 from ⟨_, gA⟩).frozen 7
    have z8 : w2.frozen? ⟨w.heap.size, 8, none⟩ = false := (show ElemT w2 w.heap.size 28 from ⟨_, gA⟩).frozen 8
    have z9 : w2.frozen? ⟨w.heap.size, 9, none⟩ = false := (show ElemT w2 w.heap.size 28 from ⟨_, gA⟩).frozen 9
    have HG := Lib.hid (And.intro gA (And.intro gQ (And.intro gB gS)))
    clear gA gQ gB gS
    by_cases hk : chkScr s = 0
    case neg =>
      have HN : Hid (¬ ∃ s', ScrOk s' ∧ ScrTy s' ∧ encScr s' = l) := by
        rintro ⟨s', y1, y2, y3⟩
        have h3 := (dec_iff l HM.out.2.1 s').2 ⟨y1, y2, y3⟩
        have h4 := h3.1
        rw [HM.out.2.2] at h4
        injection h4 with h4
        injection h4 with h4 _
        rw [← h4] at h3
        exact hk h3.2
      generalize chkScr s = kk at *
      have hkk : (kk != 0) = true := by simpa using hk
      clear hk
      go_wp2
      rw [show ((((((((((w2.setCell ⟨w.heap.size, 0, none⟩ (.int .i64 0)).setCell ⟨w.heap.size, 1, none⟩ (.int .u64 0)).setCell ⟨w.heap.size, 2, none⟩ (.int .i64 0)).setCell ⟨w.heap.size, 3, none⟩ (.int .i64 0)).setCell ⟨w.heap.size, 4, none⟩ (.int .i64 0)).setCell ⟨w.heap.size, 5, none⟩ (.int .i64 0)).setCell ⟨w.heap.size, 6, none⟩ (.int .i64 0)).setCell ⟨w.heap.size, 7, none⟩ (.string ⟨#[]⟩)).setCell ⟨w.heap.size, 8, none⟩ (.slice none 0 0)).setCell ⟨w.heap.size, 9, none⟩ (.slice none 0 0)) = scrSet w2 w.heap.size cfg0 (.slice none 0 0) (.slice none 0 0) from rfl]
      refine leave_idle rfl rfl ((heap_setCell_other _ _ _ _ hne).trans (scrSet_a HG.out.1)) (World.cell?_setCell_same (u := .int .i64 0) _ _ _ ((World.cell?_of_block (a := ⟨w.heap.size + 1, 0, none⟩) (scrSet_o _ _ _ (by simp))).trans hQ1)) ⟨?_, .inr ⟨?_, ?_⟩⟩
      · exact (scrSet_b _ _ _ HG.out.2.2.1 (Nat.le_refl _)).setCell (by simp) _
      · exact HN.out
      · unfold decErr; rw [if_neg (by have := HM.out.1; omega)]
    case pos =>
      rw [hk]
      have HK := Lib.hid hk
      clear hk
      go_wp2
      have gA := HG.out.1
      have gQ := HG.out.2.1
      rw [set_same gA (i := 0) (v := .int .i64 s.cfg.slots) rfl, set_same gA (i := 1) (v := .int .u64 s.cfg.gens) rfl, set_same gA (i := 2) (v := .int .i64 s.cfg.clients) rfl, set_same gA (i := 3) (v := .int .i64 s.cfg.readers) rfl, set_same gA (i := 4) (v := .int .i64 s.cfg.queue) rfl, set_same gA (i := 5) (v := .int .i64 s.cfg.batch) rfl, set_same gA (i := 6) (v := .int .i64 s.cfg.feed) rfl, set_same gA (i := 7) (v := .string s.cfg.text) rfl, set_same gA (i := 8) (v := .slice A8 s.progs.length x8) rfl, set_same gA (i := 9) (v := .slice A9 s.picks.length x9) rfl, set_same gQ (i := 0) (v := .int .i64 0) rfl]
      refine leave_idle rfl rfl gA hQ1 ⟨HG.out.2.2.1, .inl ⟨s, _, ?_, ?_, ?_, rfl, HG.out.2.2.2⟩⟩
      · exact ((dec_iff l HM.out.2.1 s).1 ⟨HM.out.2.2, HK.out⟩).1
      · exact ((dec_iff l HM.out.2.1 s).1 ⟨HM.out.2.2, HK.out⟩).2.1
      · exact ((dec_iff l HM.out.2.1 s).1 ⟨HM.out.2.2, HK.out⟩).2.2
end Go.Proofs.Ytcicememljlafaa
