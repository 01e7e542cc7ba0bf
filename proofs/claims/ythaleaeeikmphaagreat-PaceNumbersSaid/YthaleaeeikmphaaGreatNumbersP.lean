/-
  The law PaceNumbers holds: for every input it returns true, and each argument reads afterwards as it read before. No condition of ours.
-/
import Derived.Test.YthaleaeeikmphaaGreatV9
import Derived.Test.YthaleaeeikmphaaGreatAw15
import Derived.Test.YthaleaeeikmphaaGreatPnC
import Derived.Test.YthaleaeeikmphaaGreatRows
import Derived.WalkKit
import Derived.ProofKit
import Derived.OpenShut
import Derived.ShutString
import Derived.ChangeOld
import Derived.Below
import Derived.Lib.SmallJoins
namespace Go.Proofs.YthaleaeeikmphaaGreat
open Go.RowKit
open Pace (InR readI readV readE)
theorem boxes3 (w : World) (c0 c1 c2 c3 c4 c5 c6 : Int) (c7 : ByteArray) (o0 o1 o2 o3 o4 o5 : Int) (o6 : ByteArray) (h n : Int) :
    Boxes (((w.alloc (Obj.cells #[.int .i64 c0, .int .u64 c1, .int .i64 c2, .int .i64 c3, .int .i64 c4, .int .i64 c5, .int .i64 c6, .string c7] 24)).alloc (Obj.cells #[.int .u8 o0, .int .i64 o1, .int .i64 o2, .int .i64 o3, .int .u32 o4, .int .u8 o5, .string o6] 27)).alloc (Obj.cells #[.int .i64 h, .int .i64 n] 28)) w.heap.size c0 c1 c2 c3 c4 c5 c6 c7 o0 o1 o2 o3 o4 o5 o6 ∧ Below w.heap.size w (((w.alloc (Obj.cells #[.int .i64 c0, .int .u64 c1, .int .i64 c2, .int .i64 c3, .int .i64 c4, .int .i64 c5, .int .i64 c6, .string c7] 24)).alloc (Obj.cells #[.int .u8 o0, .int .i64 o1, .int .i64 o2, .int .i64 o3, .int .u32 o4, .int .u8 o5, .string o6] 27)).alloc (Obj.cells #[.int .i64 h, .int .i64 n] 28)) ∧ w.heap.size + 1 < ((((w.alloc (Obj.cells #[.int .i64 c0, .int .u64 c1, .int .i64 c2, .int .i64 c3, .int .i64 c4, .int .i64 c5, .int .i64 c6, .string c7] 24)).alloc (Obj.cells #[.int .u8 o0, .int .i64 o1, .int .i64 o2, .int .i64 o3, .int .u32 o4, .int .u8 o5, .string o6] 27)).alloc (Obj.cells #[.int .i64 h, .int .i64 n] 28))).heap.size :=
  ⟨⟨heap_old (heap_old (heap_new _ rfl)), heap_old (heap_new _ (by simp))⟩, (below_two w _ _).alloc (by first | (simp; done) | (simp; omega)) _, by first | (simp; done) | (simp; omega)⟩
theorem pair3 (w : World) (c0 c1 c2 c3 c4 c5 c6 : Int) (c7 : ByteArray) (o0 o1 o2 o3 o4 o5 : Int) (o6 : ByteArray) (h n : Int) : ((((w.alloc (Obj.cells #[.int .i64 c0, .int .u64 c1, .int .i64 c2, .int .i64 c3, .int .i64 c4, .int .i64 c5, .int .i64 c6, .string c7] 24)).alloc (Obj.cells #[.int .u8 o0, .int .i64 o1, .int .i64 o2, .int .i64 o3, .int .u32 o4, .int .u8 o5, .string o6] 27)).alloc (Obj.cells #[.int .i64 h, .int .i64 n] 28))).heap[w.heap.size + 1 + 1]? = some (Obj.cells #[.int .i64 h, .int .i64 n] 28) := heap_new _ (by simp)
theorem pair_cells {w : World} {b : Nat} {h n : Int} (hb : w.heap[b]? = some (Obj.cells #[.int .i64 h, .int .i64 n] 28)) : w.cell? ⟨b, 0, none⟩ = some (.int .i64 h) ∧ w.cell? ⟨b, 1, none⟩ = some (.int .i64 n) := by
  constructor
  · unfold World.cell?; rw [hb]; rfl
  · unfold World.cell?; rw [hb]; rfl
set_option maxHeartbeats 0 in
set_option maxRecDepth 100000 in
theorem paceNumbers_walk (c0 c1 c2 c3 c4 c5 c6 : Int) (c7 : ByteArray) (o0 o1 o2 o3 o4 o5 : Int) (o6 : ByteArray) (h n : Int) (w : World) (hm : c7.size ≤ 9223372036854775807) (k0 : 0 ≤ o0) (k1 : o0 ≤ 255)
    (hh0 : -9223372036854775808 ≤ h) (hh1 : h ≤ 9223372036854775807) (hn0 : -9223372036854775808 ≤ n) (hn1 : n ≤ 9223372036854775807) :
    Calls Tryz.prog 3 #[cfgVal ⟨c0, c1, c2, c3, c4, c5, c6, c7⟩, opVal ⟨o0, o1, o2, o3, o4, o5, o6⟩, .agg #[.int .i64 h, .int .i64 n]] w fun e w' => e = .returned (.bool true) ∧ Below w.heap.size w w' := by
  have H1 := Lib.hid (fun W : World => readAny h n W hh0 hh1 hn0 hn1)
  have H2 := Lib.hid (fun W : World => readAnyRef h n W hh0 hh1 hn0 hn1)
  have HA := Lib.hid (fun W : World => Closed.aw.walk W)
  generalize readV h n = a at *
  generalize readE h n = b at *
  have ea : (a == a) = true := by simp
  have eb : (b == b) = true := by simp
  by_cases hs : c7.size ≤ 80
  · have hsi : (c7.size : Int) ≤ 80 := by omega
    have H3 := Lib.hid (fun W : World => boundFn c0 c1 c2 c3 c4 c5 c6 c7 o0 o1 o2 o3 o4 o5 o6 h W hm k0 k1)
    have H4 := Lib.hid (fun W : World => boundRef c0 c1 c2 c3 c4 c5 c6 c7 o0 o1 o2 o3 o4 o5 o6 h W hm k0 k1)
    have HT0 := Lib.hid (boxes3 w c0 c1 c2 c3 c4 c5 c6 c7 o0 o1 o2 o3 o4 o5 o6 h n)
    have HP0 := Lib.hid (pair3 w c0 c1 c2 c3 c4 c5 c6 c7 o0 o1 o2 o3 o4 o5 o6 h n)
    unfold BoundRes at H3 H4
    generalize boundV ⟨c0, c1, c2, c3, c4, c5, c6, c7⟩ o0 o3 h = x at *
    generalize boundE ⟨c0, c1, c2, c3, c4, c5, c6, c7⟩ o0 h = y at *
    have ex : (x == x) = true := by simp
    have ey : (y == y) = true := by simp
    go_enter Tryz.func3, Tryz.ntmps3
    go_wp2_with (first
      | ((with_reducible refine (H1.out _).mono ?_); rintro e w' ⟨rfl, rfl⟩)
      | ((with_reducible refine (H2.out _).mono ?_); rintro e w' ⟨rfl, rfl⟩)
      | ((with_reducible refine (H3.out _).mono ?_); rintro e w1 ⟨rfl, hb1⟩; have HT1 := Lib.hid (boxes_go HT0.out.1 HT0.out.2.1 HT0.out.2.2 hb1); have q1c0 := HT1.out.1.pc0; have q1c1 := HT1.out.1.pc1; have q1c2 := HT1.out.1.pc2; have q1c3 := HT1.out.1.pc3; have q1c4 := HT1.out.1.pc4; have q1c5 := HT1.out.1.pc5; have q1c6 := HT1.out.1.pc6; have q1c7 := HT1.out.1.pc7; have q1o0 := HT1.out.1.po0; have q1o1 := HT1.out.1.po1; have q1o2 := HT1.out.1.po2; have q1o3 := HT1.out.1.po3; have q1o4 := HT1.out.1.po4; have q1o5 := HT1.out.1.po5; have q1o6 := HT1.out.1.po6; have hp1 := pair_cells ((hb1.block (w.heap.size + 1 + 1) (by simp)).trans HP0.out); have hp1a := hp1.1; have hp1b := hp1.2)
      | ((with_reducible refine (H4.out _).mono ?_); rintro e w2 ⟨rfl, hb2⟩; have HT2 := Lib.hid (boxes_go HT1.out.1 HT1.out.2.1 HT1.out.2.2 hb2))
      | ((with_reducible refine (HA.out _).mono ?_); rintro e w3 ⟨rfl, hb3⟩))
    go_ret
    exact ⟨rfl, below_then HT2.out.2.1 (by have := HT2.out.2.2; omega) hb3⟩
  · have hsi : ¬ (c7.size : Int) ≤ 80 := by omega
    have hsi2 : (80 : Int) < (c7.size : Int) := by omega
    have hm2 : (c7.extract 0 80).size ≤ 9223372036854775807 := by simp; omega
    have H3 := Lib.hid (fun W : World => boundFn c0 c1 c2 c3 c4 c5 c6 (c7.extract 0 80) o0 o1 o2 o3 o4 o5 o6 h W hm2 k0 k1)
    have H4 := Lib.hid (fun W : World => boundRef c0 c1 c2 c3 c4 c5 c6 (c7.extract 0 80) o0 o1 o2 o3 o4 o5 o6 h W hm2 k0 k1)
    have HT0 := Lib.hid (boxes3 w c0 c1 c2 c3 c4 c5 c6 (c7.extract 0 80) o0 o1 o2 o3 o4 o5 o6 h n)
    have HP0 := Lib.hid (pair3 w c0 c1 c2 c3 c4 c5 c6 (c7.extract 0 80) o0 o1 o2 o3 o4 o5 o6 h n)
    unfold BoundRes at H3 H4
    generalize boundV ⟨c0, c1, c2, c3, c4, c5, c6, c7.extract 0 80⟩ o0 o3 h = x at *
    generalize boundE ⟨c0, c1, c2, c3, c4, c5, c6, c7.extract 0 80⟩ o0 h = y at *
    have ex : (x == x) = true := by simp
    have ey : (y == y) = true := by simp
    go_enter Tryz.func3, Tryz.ntmps3
    go_wp2_with (first
      | ((with_reducible refine (H1.out _).mono ?_); rintro e w' ⟨rfl, rfl⟩)
      | ((with_reducible refine (H2.out _).mono ?_); rintro e w' ⟨rfl, rfl⟩)
      | ((with_reducible refine (H3.out _).mono ?_); rintro e w1 ⟨rfl, hb1⟩; have HT1 := Lib.hid (boxes_go HT0.out.1 HT0.out.2.1 HT0.out.2.2 hb1); have q1c0 := HT1.out.1.pc0; have q1c1 := HT1.out.1.pc1; have q1c2 := HT1.out.1.pc2; have q1c3 := HT1.out.1.pc3; have q1c4 := HT1.out.1.pc4; have q1c5 := HT1.out.1.pc5; have q1c6 := HT1.out.1.pc6; have q1c7 := HT1.out.1.pc7; have q1o0 := HT1.out.1.po0; have q1o1 := HT1.out.1.po1; have q1o2 := HT1.out.1.po2; have q1o3 := HT1.out.1.po3; have q1o4 := HT1.out.1.po4; have q1o5 := HT1.out.1.po5; have q1o6 := HT1.out.1.po6; have hp1 := pair_cells ((hb1.block (w.heap.size + 1 + 1) (by simp)).trans HP0.out); have hp1a := hp1.1; have hp1b := hp1.2)
      | ((with_reducible refine (H4.out _).mono ?_); rintro e w2 ⟨rfl, hb2⟩; have HT2 := Lib.hid (boxes_go HT1.out.1 HT1.out.2.1 HT1.out.2.2 hb2))
      | ((with_reducible refine (HA.out _).mono ?_); rintro e w3 ⟨rfl, hb3⟩))
    go_ret
    exact ⟨rfl, below_then HT2.out.2.1 (by have := HT2.out.2.2; omega) hb3⟩

section
open Go.ChangeShapes Go.WideShapes Go.ChangeAt
variable {H : Type} {enc : TypeId × Value → H} {w : World} {base b0 : Nat} {spare : Nat → Bool} {held : Bool} {r : Reach} {v : Value} {d : DataW H} {p : List MemPlace}
theorem k3 : Tryz.prog.cellsOf 3 = 1 := by kernel_rfl
theorem k5 : Tryz.prog.cellsOf 5 = 1 := by kernel_rfl
theorem k9 : Tryz.prog.cellsOf 9 = 1 := by kernel_rfl
theorem k22 : Tryz.prog.cellsOf 22 = 1 := by kernel_rfl
theorem k25 : Tryz.prog.cellsOf 25 = 1 := by kernel_rfl
theorem okWide_array {P : Program} {t e : TypeId} {n : Nat} (ht : P.underlying t = some (.array n e)) (h : Value.okWide P w r b0 t v) : ∃ cs, v = .agg cs ∧ cs.size = P.cellsOf t := by
  simp only [Value.okWide, ht] at h
  obtain ⟨cs, h1, h2, _⟩ := h
  exact ⟨cs, h1, h2⟩
set_option maxRecDepth 100000 in
theorem open_op (hv : Value.okWide Tryz.prog w r b0 27 v) (h : DataW.Trod enc Tryz.prog w base spare held 27 v d p) :
    ∃ a0 a1 a2 a3 a4 a5 a6, v = opVal ⟨a0, a1, a2, a3, a4, a5, a6⟩ ∧ 0 ≤ a0 ∧ a0 ≤ 255 := by
  obtain ⟨cs, rfl, hsz⟩ := okWide_struct Tryz.underlying27 hv
  obtain ⟨fuel, hf⟩ := h
  obtain ⟨xs, m, _, _, hl, hlen, hfl⟩ := DataW.trod_struct Tryz.underlying27 hf
  have hC : Tryz.prog.cellsOf 27 = 7 := by kernel_rfl
  rw [hC] at hsz hl
  obtain ⟨l⟩ := cs
  match l, hsz with
  | [c0, c1, c2, c3, c4, c5, c6], _ =>
    match xs, hlen with
    | [y0, y1, y2, y3, y4, y5, y6], _ =>
      have f0 := hfl 0 _ rfl
      have f1 := hfl 1 _ rfl
      have f2 := hfl 2 _ rfl
      have f3 := hfl 3 _ rfl
      have f4 := hfl 4 _ rfl
      have f5 := hfl 5 _ rfl
      have f6 := hfl 6 _ rfl
      simp [k3, k5, k9, k25, Value.cells] at f0 f1 f2 f3 f4 f5 f6
      obtain ⟨a0, e0, _, w0⟩ := DataW.trod_int Tryz.underlying5 f0
      obtain ⟨a1, e1, _, w1⟩ := DataW.trod_int Tryz.underlying3 f1
      obtain ⟨a2, e2, _, w2⟩ := DataW.trod_int Tryz.underlying3 f2
      obtain ⟨a3, e3, _, w3⟩ := DataW.trod_int Tryz.underlying3 f3
      obtain ⟨a4, e4, _, w4⟩ := DataW.trod_int Tryz.underlying25 f4
      obtain ⟨a5, e5, _, w5⟩ := DataW.trod_int Tryz.underlying5 f5
      obtain ⟨a6, e6, _, w6⟩ := DataW.trod_string Tryz.underlying9 f6
      simp at e0 e1 e2 e3 e4 e5 e6
      subst e0 e1 e2 e3 e4 e5 e6
      exact ⟨a0, a1, a2, a3, a4, a5, a6, rfl, (bounds_u8 w0).1, (bounds_u8 w0).2⟩
set_option maxRecDepth 100000 in
theorem open_cfg (hv : Value.okWide Tryz.prog w r b0 24 v) (h : DataW.Trod enc Tryz.prog w base spare held 24 v d p) :
    ∃ a0 a1 a2 a3 a4 a5 a6 a7, v = cfgVal ⟨a0, a1, a2, a3, a4, a5, a6, a7⟩ ∧ a7.size ≤ 9223372036854775807 := by
  obtain ⟨cs, rfl, hsz⟩ := okWide_struct Tryz.underlying24 hv
  obtain ⟨fuel, hf⟩ := h
  obtain ⟨xs, m, _, _, hl, hlen, hfl⟩ := DataW.trod_struct Tryz.underlying24 hf
  have hC : Tryz.prog.cellsOf 24 = 8 := by kernel_rfl
  rw [hC] at hsz hl
  obtain ⟨l⟩ := cs
  match l, hsz with
  | [c0, c1, c2, c3, c4, c5, c6, c7], _ =>
    match xs, hlen with
    | [y0, y1, y2, y3, y4, y5, y6, y7], _ =>
      have f0 := hfl 0 _ rfl
      have f1 := hfl 1 _ rfl
      have f2 := hfl 2 _ rfl
      have f3 := hfl 3 _ rfl
      have f4 := hfl 4 _ rfl
      have f5 := hfl 5 _ rfl
      have f6 := hfl 6 _ rfl
      have f7 := hfl 7 _ rfl
      simp [k3, k22, k9, Value.cells] at f0 f1 f2 f3 f4 f5 f6 f7
      obtain ⟨a0, e0, _, w0⟩ := DataW.trod_int Tryz.underlying3 f0
      obtain ⟨a1, e1, _, w1⟩ := DataW.trod_int Tryz.underlying22 f1
      obtain ⟨a2, e2, _, w2⟩ := DataW.trod_int Tryz.underlying3 f2
      obtain ⟨a3, e3, _, w3⟩ := DataW.trod_int Tryz.underlying3 f3
      obtain ⟨a4, e4, _, w4⟩ := DataW.trod_int Tryz.underlying3 f4
      obtain ⟨a5, e5, _, w5⟩ := DataW.trod_int Tryz.underlying3 f5
      obtain ⟨a6, e6, _, w6⟩ := DataW.trod_int Tryz.underlying3 f6
      obtain ⟨a7, e7, _, w7⟩ := DataW.trod_string Tryz.underlying9 f7
      simp at e0 e1 e2 e3 e4 e5 e6 e7
      subst e0 e1 e2 e3 e4 e5 e6 e7
      exact ⟨a0, a1, a2, a3, a4, a5, a6, a7, rfl, by unfold maxLen at w7; omega⟩
set_option maxRecDepth 100000 in
theorem open_pair (hv : Value.okWide Tryz.prog w r b0 28 v) (h : DataW.Trod enc Tryz.prog w base spare held 28 v d p) :
    ∃ a0 a1, v = .agg #[.int .i64 a0, .int .i64 a1] ∧ (Lit.int .i64 a0).wf = true ∧ (Lit.int .i64 a1).wf = true := by
  obtain ⟨cs, rfl, hsz⟩ := okWide_array Tryz.underlying28 hv
  obtain ⟨fuel, hf⟩ := h
  obtain ⟨xs, m, _, _, hl, hlen, hfl⟩ := DataW.trod_array Tryz.underlying28 hf
  have hC : Tryz.prog.cellsOf 28 = 2 := by kernel_rfl
  rw [hC] at hsz hl
  obtain ⟨l⟩ := cs
  match l, hsz with
  | [c0, c1], _ =>
    match xs, hlen with
    | [y0, y1], _ =>
      have f0 := hfl 0 (by omega)
      have f1 := hfl 1 (by omega)
      simp [k3, Value.cells] at f0 f1
      obtain ⟨a0, e0, _, w0⟩ := DataW.trod_int Tryz.underlying3 f0
      obtain ⟨a1, e1, _, w1⟩ := DataW.trod_int Tryz.underlying3 f1
      simp at e0 e1
      subst e0 e1
      exact ⟨a0, a1, rfl, w0, w1⟩
end
end Go.Proofs.YthaleaeeikmphaaGreat
namespace Go.Proofs.YthaleaeeikmphaaGreat.paceNumbers
open Go.ChangeShapes Go.WideShapes Go.ChangeAt Go.RowKit Go.Joins
open Go.ChangeMaps (open_string shut_string)
set_option linter.unusedVariables false

theorem own : ownKnob Tryz.prog.godebug = none := by kernel_rfl
theorem laidOut : laidOutB Tryz.prog = true := Closed.pn.b1

set_option maxRecDepth 100000 in
theorem lifted (os : Os) (started : os.Started) (H : Type) (enc : TypeId × Value → H) :
    ReturnsInHanded {} Tryz.checked os 3 .any (Rows.paceNumbersSpec.pre6 enc Tryz.prog Tryz.f3 Rows.paceNumbersRow.domain false) (Rows.paceNumbersSpec.post enc Tryz.prog Tryz.f3 false true false false) := by
  refine returnsInHanded_of_change (C := Tryz.checked) own started (by kernel_rfl) Tryz.func3
    (ChangeSpec.witness6 (enc := enc) (C := Tryz.checked) false ⟨#[], #[.agg #[.int .i64 0, .int .u64 0, .int .i64 0, .int .i64 0, .int .i64 0, .int .i64 0, .int .i64 0, .string ByteArray.empty], .agg #[.int .u8 0, .int .i64 0, .int .i64 0, .int .i64 0, .int .u32 0, .int .u8 0, .string ByteArray.empty], .agg #[.int .i64 0, .int .i64 0]], []⟩ 8 (by kernel_rfl) (by kernel_rfl) (by kernel_rfl) (by kernel_rfl)) ?_
  intro W base args ds gs before hval0 hW hcnd _
  have hval : ∀ (j : Nat) t v, Tryz.f3.params[j]? = some t → args[j]? = some v → Value.okWide Tryz.prog W .any base t v := hval0
  have hW' := hW
  obtain ⟨p, q, hA0, hV, rfl, hfz, hnd⟩ := hW
  have hA : DataW.TrodAll enc Tryz.prog W 0 (fun _ => true) true Tryz.f3.params.toList args.toList ds p := hA0
  rw [Tryz.params3] at hA hval
  obtain ⟨v0, vs0, d0, ds0, p0, q0, hargs, rfl, rfl, h0, r0⟩ := trodAll_cons hA
  obtain ⟨v1, vs1, d1, ds1, p1, q1, rfl, rfl, rfl, h1, r1⟩ := trodAll_cons r0
  obtain ⟨v2, vs2, d2, ds2, p2, q2, rfl, rfl, rfl, h2, r2⟩ := trodAll_cons r1
  obtain ⟨rfl, rfl, rfl⟩ := trodAll_nil r2
  obtain rfl : args = #[v0, v1, v2] := by cases args; simp_all
  obtain ⟨rfl, rfl⟩ := trodVars_none hV
  have k0 := h0
  have lt0 : ∀ x ∈ p0, x.block < W.heap.size := by obtain ⟨m, hm⟩ := k0; exact DataW.trod_lt m _ _ _ hm
  have k1 := h1
  have lt1 : ∀ x ∈ p1, x.block < W.heap.size := by obtain ⟨m, hm⟩ := k1; exact DataW.trod_lt m _ _ _ hm
  have k2 := h2
  have lt2 : ∀ x ∈ p2, x.block < W.heap.size := by obtain ⟨m, hm⟩ := k2; exact DataW.trod_lt m _ _ _ hm
  obtain ⟨a0, a1, a2, a3, a4, a5, a6, a7, rfl, wc⟩ := open_cfg (hval 0 24 v0 rfl rfl) h0
  obtain ⟨e0, e1, e2, e3, e4, e5, e6, rfl, wo0, wo1⟩ := open_op (hval 1 27 v1 rfl rfl) h1
  obtain ⟨g0, g1, rfl, wg0, wg1⟩ := open_pair (hval 2 28 v2 rfl rfl) h2
  clear hA0 hval0
  refine (paceNumbers_walk a0 a1 a2 a3 a4 a5 a6 a7 e0 e1 e2 e3 e4 e5 e6 g0 g1 W wc wo0 wo1 (bounds_i64 wg0).1 (bounds_i64 wg0).2 (bounds_i64 wg1).1 (bounds_i64 wg1).2).mono fun e W' ⟨he, bel⟩ => ?_
  subst he
  exact ⟨_, rfl, _, _, _, [], _, [], hW', trodAll_mk1 (shut_bool Tryz.underlying4 _), (trodAll_cons_mk (Below.trod laidOut (by kernel_rfl) (of_decide_eq_true (by kernel_rfl)) k0 bel lt0) (trodAll_cons_mk (Below.trod laidOut (by kernel_rfl) (of_decide_eq_true (by kernel_rfl)) k1 bel lt1) (trodAll_cons_mk (Below.trod laidOut (by kernel_rfl) (of_decide_eq_true (by kernel_rfl)) k2 bel lt2) trodAll_mk0))), rfl, bel.frame _, fun h => by cases h⟩

theorem over : Rows.paceNumbersRow.holds Tryz.pinned (OpenSpec.ofChange Rows.paceNumbersSpec) :=
  OpenClaim.holds_of_wide 3 Tryz.f3 rfl rfl rfl rfl rfl rfl rfl ⟨rfl, rfl, rfl, rfl, rfl⟩ rfl rfl rfl rfl rfl Closed.pn.named Tryz.func3 Closed.pn.facts
    Closed.pn.inst Closed.pn.wrap
    (fun os started H enc _ => lifted os started H enc)

theorem proved : Rows.PaceNumbersSaid :=
  over
#print axioms proved
end Go.Proofs.YthaleaeeikmphaaGreat.paceNumbers
