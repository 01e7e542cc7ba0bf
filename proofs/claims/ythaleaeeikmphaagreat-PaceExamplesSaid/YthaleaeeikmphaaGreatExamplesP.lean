/-
  The law PaceExamples holds: for every input it returns true, and each argument reads afterwards as it read before. No condition of ours.
-/
import Derived.Test.YthaleaeeikmphaaGreatV9
import Derived.Test.YthaleaeeikmphaaGreatAw15
import Derived.Deep.RegionHeld3
import Derived.Test.YthaleaeeikmphaaGreatPxC
import Derived.Test.YthaleaeeikmphaaGreatRows
import Derived.WalkKit
import Derived.ProofKit
import Derived.OpenShut
import Derived.ShutString
import Derived.ChangeOld
import Derived.Below
namespace Go.Proofs.YthaleaeeikmphaaGreat
open Go.RowKit
open Pace (InR readI readV readE)
set_option maxHeartbeats 0 in
set_option maxRecDepth 100000 in
theorem numbersFn (c0 c1 c2 c3 c4 c5 c6 : Int) (c7 : ByteArray) (o0 o1 o2 o3 o4 o5 : Int) (o6 : ByteArray) (h n : Int) (w : World) (hm : c7.size ≤ 9223372036854775807) (k0 : 0 ≤ o0) (k1 : o0 ≤ 255)
    (hh0 : -9223372036854775808 ≤ h) (hh1 : h ≤ 9223372036854775807) (hn0 : -9223372036854775808 ≤ n) (hn1 : n ≤ 9223372036854775807) :
    Calls Tryz.prog 12 #[cfgVal ⟨c0, c1, c2, c3, c4, c5, c6, c7⟩, opVal ⟨o0, o1, o2, o3, o4, o5, o6⟩, .int .i64 h, .int .i64 n] w fun e w' => e = .returned (.bool true) ∧ Below w.heap.size w w' := by
  have H1 := Lib.hid (fun W : World => readAny h n W hh0 hh1 hn0 hn1)
  have H2 := Lib.hid (fun W : World => readAnyRef h n W hh0 hh1 hn0 hn1)
  have H3 := Lib.hid (fun W : World => boundFn c0 c1 c2 c3 c4 c5 c6 c7 o0 o1 o2 o3 o4 o5 o6 h W hm k0 k1)
  have H4 := Lib.hid (fun W : World => boundRef c0 c1 c2 c3 c4 c5 c6 c7 o0 o1 o2 o3 o4 o5 o6 h W hm k0 k1)
  have HT0 := Lib.hid (boxes_start w c0 c1 c2 c3 c4 c5 c6 c7 o0 o1 o2 o3 o4 o5 o6)
  unfold BoundRes at H3 H4
  generalize readV h n = a at *
  generalize readE h n = b at *
  generalize boundV ⟨c0, c1, c2, c3, c4, c5, c6, c7⟩ o0 o3 h = x at *
  generalize boundE ⟨c0, c1, c2, c3, c4, c5, c6, c7⟩ o0 h = y at *
  have ea : (a == a) = true := by simp
  have eb : (b == b) = true := by simp
  have ex : (x == x) = true := by simp
  have ey : (y == y) = true := by simp
  go_enter Tryz.func12, Tryz.ntmps12
  go_wp2_with (first
    | ((with_reducible refine (H1.out _).mono ?_); rintro e w' ⟨rfl, rfl⟩)
    | ((with_reducible refine (H2.out _).mono ?_); rintro e w' ⟨rfl, rfl⟩)
    | ((with_reducible refine (H3.out _).mono ?_); rintro e w1 ⟨rfl, hb1⟩; have HT1 := Lib.hid (boxes_go HT0.out.1 HT0.out.2.1 HT0.out.2.2 hb1); have q1c0 := HT1.out.1.pc0; have q1c1 := HT1.out.1.pc1; have q1c2 := HT1.out.1.pc2; have q1c3 := HT1.out.1.pc3; have q1c4 := HT1.out.1.pc4; have q1c5 := HT1.out.1.pc5; have q1c6 := HT1.out.1.pc6; have q1c7 := HT1.out.1.pc7; have q1o0 := HT1.out.1.po0; have q1o1 := HT1.out.1.po1; have q1o2 := HT1.out.1.po2; have q1o3 := HT1.out.1.po3; have q1o4 := HT1.out.1.po4; have q1o5 := HT1.out.1.po5; have q1o6 := HT1.out.1.po6)
    | ((with_reducible refine (H4.out _).mono ?_); rintro e w2 ⟨rfl, hb2⟩; have HT2 := Lib.hid (boxes_go HT1.out.1 HT1.out.2.1 HT1.out.2.2 hb2)))
  go_ret
  exact ⟨rfl, HT2.out.2.1⟩
end Go.Proofs.YthaleaeeikmphaaGreat
namespace Go.Proofs.YthaleaeeikmphaaGreat
open Go.RowKit
abbrev ab : ByteArray := ⟨#[97, 98]⟩
theorem configFn (w : World) : Calls Tryz.prog 11 #[] w fun e w' => e = .returned (cfgVal ⟨64, 9, 1, 1, 1, 1, 2, ab⟩) ∧ Below w.heap.size w w' := by
  have HB := Lib.hid (below_box w)
  go_enter Tryz.func11, Tryz.ntmps11
  go_wp2
  exact bodyPost_ret (v := cfgVal ⟨64, 9, 1, 1, 1, 1, 2, ab⟩) (by simp [results, Tryz.results11, go_sem]) rfl ⟨rfl, HB.out _⟩
def endI (i : Nat) : Int := ([-9223372036854775808, -1, 0, 1, 2, 3, 9, 10, 15, 16, 17, 18, 65535, 65536, 65537, 9223372036854775807] : List Int).getD i 0
abbrev endsObj : Obj := .cells #[.int .i64 (-9223372036854775808), .int .i64 (-1), .int .i64 0, .int .i64 1, .int .i64 2, .int .i64 3, .int .i64 9, .int .i64 10, .int .i64 15, .int .i64 16, .int .i64 17, .int .i64 18, .int .i64 65535, .int .i64 65536, .int .i64 65537, .int .i64 9223372036854775807] 3
abbrev badObj : Obj := .cells #[.int .i64 64, .int .u64 9, .int .i64 1, .int .i64 1, .int .i64 1, .int .i64 1, .int .i64 65, .string ab] 24
structure XSt (w W : World) (eb bb : Nat) : Prop where
  er : W.heap[eb]? = some endsObj
  bad : W.heap[bb]? = some badObj
  bel : Below w.heap.size w W
theorem heap_lt {W : World} {q : Nat} {x : Obj} (h : W.heap[q]? = some x) : q < W.heap.size := by
  rcases Nat.lt_or_ge q W.heap.size with hlt | hge
  · exact hlt
  · rw [Array.getElem?_eq_none hge] at h; cases h
theorem XSt.below {w W W' : World} {eb bb : Nat} (h : XSt w W eb bb) (hb : Below W.heap.size W W') : XSt w W' eb bb :=
  ⟨(hb.block eb (heap_lt h.er)).trans h.er, (hb.block bb (heap_lt h.bad)).trans h.bad, below_then h.bel h.bel.size hb⟩
theorem XSt.cell {w W : World} {eb bb : Nat} (h : XSt w W eb bb) (i : Nat) (hi : i < 16) : W.cell? ⟨eb, i, none⟩ = some (.int .i64 (endI i)) := by
  unfold World.cell?; rw [h.er]
  match i, hi with
  | 0, _ | 1, _ | 2, _ | 3, _ | 4, _ | 5, _ | 6, _ | 7, _ | 8, _ | 9, _ | 10, _ | 11, _ | 12, _ | 13, _ | 14, _ | 15, _ => rfl
  | i + 16, hi => exact absurd hi (by omega)
theorem endI_bd (i : Nat) (hi : i < 16) : -9223372036854775808 ≤ endI i ∧ endI i ≤ 9223372036854775807 := by
  match i, hi with
  | 0, _ | 1, _ | 2, _ | 3, _ | 4, _ | 5, _ | 6, _ | 7, _ | 8, _ | 9, _ | 10, _ | 11, _ | 12, _ | 13, _ | 14, _ | 15, _ => decide
  | i + 16, hi => exact absurd hi (by omega)
theorem XSt.badc {w W : World} {eb bb : Nat} (h : XSt w W eb bb) : W.cell? ⟨bb, 0, none⟩ = some (.int .i64 64) ∧ W.cell? ⟨bb, 1, none⟩ = some (.int .u64 9) ∧ W.cell? ⟨bb, 2, none⟩ = some (.int .i64 1) ∧ W.cell? ⟨bb, 3, none⟩ = some (.int .i64 1) ∧
    W.cell? ⟨bb, 4, none⟩ = some (.int .i64 1) ∧ W.cell? ⟨bb, 5, none⟩ = some (.int .i64 1) ∧ W.cell? ⟨bb, 6, none⟩ = some (.int .i64 65) ∧ W.cell? ⟨bb, 7, none⟩ = some (.string ab) := by
  refine ⟨?_, ?_, ?_, ?_, ?_, ?_, ?_, ?_⟩ <;> (unfold World.cell?; rw [h.bad]; rfl)
theorem nilErr1 (w : World) : Calls Tryz.prog 13 #[.pointer none] w fun e w' => e = .returned (.tuple #[.int .i64 0, .int .i64 1]) ∧ w = w' := by
  go_enter Tryz.func13, Tryz.ntmps13
  go_wp2
  go_ret2
  exact ⟨rfl, rfl⟩
theorem nilErr2 (w : World) : Calls Tryz.prog 14 #[.pointer none] w fun e w' => e = .returned (.tuple #[.int .i64 0, .int .i64 1]) ∧ w = w' := by
  go_enter Tryz.func14, Tryz.ntmps14
  go_wp2
  go_ret2
  exact ⟨rfl, rfl⟩
theorem nilErr3 (w : World) : Calls Tryz.prog 15 #[.pointer none] w fun e w' => e = .returned (.tuple #[.int .i64 0, .int .i64 0, .int .i64 1]) ∧ w = w' := by
  go_enter Tryz.func15, Tryz.ntmps15
  go_wp2
  exact bodyPost_ret (v := .tuple #[.int .i64 0, .int .i64 0, .int .i64 1]) (by simp [results, Tryz.results15, go_sem]) rfl ⟨rfl, rfl⟩
theorem xs_start {w w1 : World} (hb : Below (w.alloc endsObj).heap.size (w.alloc endsObj) w1) :
    XSt w (w1.alloc badObj) w.heap.size w1.heap.size := by
  have hs := hb.size
  simp only [World.size_alloc] at hs
  refine ⟨?_, heap_alloc_new _ _, ?_⟩
  · rw [Below.heap_alloc _ _ _ (by omega), hb.block _ (by simp)]
    exact heap_alloc_new _ _
  · exact ((below_then (below_box w _) (by simp) hb).alloc (by omega) _)
theorem xs_step {w W w3 : World} {eb bb k j : Nat} (ek ej : Int) (h : Hid (XSt w W eb bb) ∧ W.cell? ⟨eb, k, none⟩ = some (.int .i64 ek) ∧ W.cell? ⟨eb, j, none⟩ = some (.int .i64 ej)) (hg : Below W.heap.size W w3) :
    Hid (XSt w w3 eb bb) ∧ w3.cell? ⟨eb, k, none⟩ = some (.int .i64 ek) ∧ w3.cell? ⟨eb, j, none⟩ = some (.int .i64 ej) := by
  obtain ⟨h1, h2, h3⟩ := h
  exact ⟨h1.out.below hg, (hg.cell (p := ⟨eb, k, none⟩) (heap_lt h1.out.er)).trans h2, (hg.cell (p := ⟨eb, j, none⟩) (heap_lt h1.out.er)).trans h3⟩
theorem xs_step2 {w W w3 : World} {eb bb k : Nat} (ek : Int) (h : Hid (XSt w W eb bb) ∧ W.cell? ⟨eb, k, none⟩ = some (.int .i64 ek) ∧ W.cell? ⟨bb, 0, none⟩ = some (.int .i64 64) ∧ W.cell? ⟨bb, 1, none⟩ = some (.int .u64 9) ∧ W.cell? ⟨bb, 2, none⟩ = some (.int .i64 1) ∧ W.cell? ⟨bb, 3, none⟩ = some (.int .i64 1) ∧
    W.cell? ⟨bb, 4, none⟩ = some (.int .i64 1) ∧ W.cell? ⟨bb, 5, none⟩ = some (.int .i64 1) ∧ W.cell? ⟨bb, 6, none⟩ = some (.int .i64 65) ∧ W.cell? ⟨bb, 7, none⟩ = some (.string ab)) (hg : Below W.heap.size W w3) :
    Hid (XSt w w3 eb bb) ∧ w3.cell? ⟨eb, k, none⟩ = some (.int .i64 ek) ∧ w3.cell? ⟨bb, 0, none⟩ = some (.int .i64 64) ∧ w3.cell? ⟨bb, 1, none⟩ = some (.int .u64 9) ∧ w3.cell? ⟨bb, 2, none⟩ = some (.int .i64 1) ∧ w3.cell? ⟨bb, 3, none⟩ = some (.int .i64 1) ∧
    w3.cell? ⟨bb, 4, none⟩ = some (.int .i64 1) ∧ w3.cell? ⟨bb, 5, none⟩ = some (.int .i64 1) ∧ w3.cell? ⟨bb, 6, none⟩ = some (.int .i64 65) ∧ w3.cell? ⟨bb, 7, none⟩ = some (.string ab) := by
  obtain ⟨h1, h2, _⟩ := h
  exact ⟨h1.out.below hg, (hg.cell (p := ⟨eb, k, none⟩) (heap_lt h1.out.er)).trans h2, (h1.out.below hg).badc⟩
set_option maxHeartbeats 0 in
set_option maxRecDepth 100000 in
theorem paceExamples_walk (w : World) : Calls Tryz.prog 4 #[] w fun e w' => e = .returned (.bool true) ∧ Below w.heap.size w w' := by
  have HC := Lib.hid configFn
  have HA := Lib.hid (fun W : World => Closed.aw.walk W)
  have H1 := Lib.hid nilErr1
  have H2 := Lib.hid nilErr2
  have H3 := Lib.hid nilErr3
  have HN := Lib.hid (fun (k : Int) (k0 : 0 ≤ k) (k1 : k ≤ 255) (i j : Nat) (hi : i < 16) (hj : j < 16) (W : World) => numbersFn 64 9 1 1 1 1 2 ab k 0 0 (endI j) 0 0 ByteArray.empty (endI i) (endI j) W (by decide) k0 k1 (endI_bd i hi).1 (endI_bd i hi).2 (endI_bd j hj).1 (endI_bd j hj).2)
  have HM := Lib.hid (fun (i : Nat) (hi : i < 16) (W : World) => numbersFn 64 9 1 1 1 1 65 ab 6 0 0 0 0 0 ByteArray.empty (endI i) 0 W (by decide) (by omega) (by omega) (endI_bd i hi).1 (endI_bd i hi).2 (by omega) (by omega))
  go_enter Tryz.func4, Tryz.ntmps4
  go_wp2_with fail
  refine (HC.out _).mono ?_
  rintro e w1 ⟨rfl, hb⟩
  have HX := Lib.hid (xs_start hb)
  clear hb
  go_wp2_with fail
  generalize w1.heap.size = bb at *
  generalize w1.alloc badObj = W at *
  have heb : w.heap.size = w.heap.size := rfl
  generalize hE : w.heap.size = eb at *
  have HE := Lib.hid hE
  clear hE heb
  go_loopw [3] (fun i wr => ∃ k : Nat, k ≤ 16 ∧ i = .int .i64 k ∧ Hid (XSt w wr eb bb)) (fun i _ => 16 - (intOf i).toNat)
  case atStart => exact ⟨0, Nat.zero_le _, rfl, HX.out⟩
  case round =>
    obtain ⟨k, hk, rfl, HX⟩ := hrel
    by_cases hlt : k < 16
    · have hki : (k : Int) < 16 := by omega
      go_wp2_with fail
      go_loopw [4] (fun i wr => ∃ j : Nat, j ≤ 16 ∧ i = .int .i64 j ∧ Hid (XSt w wr eb bb)) (fun i _ => 16 - (intOf i).toNat)
      case atStart => exact ⟨0, Nat.zero_le _, rfl, HX.out⟩
      case round =>
        obtain ⟨j, hj, rfl, HX⟩ := hrel
        by_cases hjl : j < 16
        · have hji : (j : Int) < 16 := by omega
          go_wp2_with fail
          go_loopw [5] (fun i wr => ∃ q : Nat, q ≤ 18 ∧ i = .int .u8 q ∧ Hid (XSt w wr eb bb)) (fun i _ => 18 - (intOf i).toNat)
          case atStart => exact ⟨0, Nat.zero_le _, rfl, HX.out⟩
          case round =>
            obtain ⟨q, hq, rfl, HX⟩ := hrel
            by_cases hql : q < 18
            · have hqi : (q : Int) ≤ 17 := by omega
              have HNq := Lib.hid (HN.out q (by omega) (by omega) k j hlt hjl)
              have ci := HX.out.cell k hlt
              have cj := HX.out.cell j hjl
              generalize endI k = ek at *
              generalize endI j = ej at *
              go_wp2_with fail
              go_region_held3 (fun w' => Hid (XSt w w' eb bb) ∧ w'.cell? ⟨eb, k, none⟩ = some (.int .i64 ek) ∧ w'.cell? ⟨eb, j, none⟩ = some (.int .i64 ej))
                (first
                  | exact ⟨⟨HX.out.er, HX.out.bad, HX.out.bel.drew⟩, ci, cj⟩
                  | (refine xs_step _ _ ?_ hgrow; refine ⟨?_, ?_, ?_⟩ <;> (first | assumption | go_keep)))
                (first
                  | (go_at_call 11; refine (HC.out _).mono ?_; rintro e w3 ⟨rfl, hgrow⟩)
                  | (go_at_call 12; refine (HNq.out _).mono ?_; rintro e w3 ⟨rfl, hgrow⟩))
              go_split_ands
              clear ci cj HX HNq
              go_wp2_with fail
              go_roundw
              case rel => exact ⟨q + 1, by omega, by go_num, by assumption⟩
              case measure => simp [intOf]; omega
            · obtain rfl : q = 18 := by omega
              go_wp2_with fail
              go_roundw
              case rel => exact ⟨j + 1, by omega, by go_num, HX.out⟩
              case measure => simp [intOf]; omega
        · obtain rfl : j = 16 := by omega
          have HMk := Lib.hid (HM.out k hlt)
          have ci := HX.out.cell k hlt
          obtain ⟨d0, d1, d2, d3, d4, d5, d6, d7⟩ := HX.out.badc
          generalize endI k = ek at *
          go_wp2_with fail
          go_region_held3 (fun w' => Hid (XSt w w' eb bb) ∧ w'.cell? ⟨eb, k, none⟩ = some (.int .i64 ek) ∧ w'.cell? ⟨bb, 0, none⟩ = some (.int .i64 64) ∧ w'.cell? ⟨bb, 1, none⟩ = some (.int .u64 9) ∧ w'.cell? ⟨bb, 2, none⟩ = some (.int .i64 1) ∧ w'.cell? ⟨bb, 3, none⟩ = some (.int .i64 1) ∧
              w'.cell? ⟨bb, 4, none⟩ = some (.int .i64 1) ∧ w'.cell? ⟨bb, 5, none⟩ = some (.int .i64 1) ∧ w'.cell? ⟨bb, 6, none⟩ = some (.int .i64 65) ∧ w'.cell? ⟨bb, 7, none⟩ = some (.string ab))
            (first
              | exact ⟨⟨HX.out.er, HX.out.bad, HX.out.bel.drew⟩, ci, d0, d1, d2, d3, d4, d5, d6, d7⟩
              | (refine xs_step2 _ ?_ hgrow; refine ⟨?_, ?_, ?_, ?_, ?_, ?_, ?_, ?_, ?_, ?_⟩ <;> (first | assumption | go_keep)))
            (first
              | (go_at_call 12; refine (HMk.out _).mono ?_; rintro e w3 ⟨rfl, hgrow⟩))
          go_split_ands
          clear ci HX HMk
          go_wp2_with fail
          go_roundw
          case rel => exact ⟨k + 1, by omega, by go_num, by assumption⟩
          case measure => simp [intOf]; omega
    · obtain rfl : k = 16 := by omega
      go_wp2_with (first
        | (go_at_call 13; refine (H1.out _).mono ?_; rintro e w' ⟨rfl, rfl⟩)
        | (go_at_call 14; refine (H2.out _).mono ?_; rintro e w' ⟨rfl, rfl⟩)
        | (go_at_call 15; refine (H3.out _).mono ?_; rintro e w' ⟨rfl, rfl⟩)
        | (go_at_call 10; refine (HA.out _).mono ?_; rintro e w3 ⟨rfl, hb3⟩))
      go_ret
      exact ⟨rfl, below_then HX.out.bel HX.out.bel.size hb3⟩
end Go.Proofs.YthaleaeeikmphaaGreat
namespace Go.Proofs.YthaleaeeikmphaaGreat.paceExamples
open Go.ChangeShapes Go.WideShapes Go.ChangeAt Go.RowKit
open Go.ChangeMaps (open_string shut_string)
set_option linter.unusedVariables false

theorem own : ownKnob Tryz.prog.godebug = none := by kernel_rfl

theorem walk  (w : World) :
    Calls Tryz.prog 4 #[] w fun e w' => e = .returned (.bool true) ∧ Below w.heap.size w w' := by
  exact paceExamples_walk w

set_option maxRecDepth 100000 in
theorem lifted (os : Os) (started : os.Started) (H : Type) (enc : TypeId × Value → H) :
    ReturnsInHanded {} Tryz.checked os 4 .any (Rows.paceExamplesSpec.pre6 enc Tryz.prog Tryz.f4 Rows.paceExamplesRow.domain false) (Rows.paceExamplesSpec.post enc Tryz.prog Tryz.f4 false true false false) := by
  refine returnsInHanded_of_change (C := Tryz.checked) own started (by kernel_rfl) Tryz.func4
    (ChangeSpec.witness6 (enc := enc) (C := Tryz.checked) false ⟨#[], #[], []⟩ 8 (by kernel_rfl) (by kernel_rfl) (by kernel_rfl) (by kernel_rfl)) ?_
  intro W base args ds gs before hval0 hW hcnd _
  have hval : ∀ (j : Nat) t v, Tryz.f4.params[j]? = some t → args[j]? = some v → Value.okWide Tryz.prog W .any base t v := hval0
  have hW' := hW
  obtain ⟨p, q, hA0, hV, rfl, hfz, hnd⟩ := hW
  have hA : DataW.TrodAll enc Tryz.prog W 0 (fun _ => true) true Tryz.f4.params.toList args.toList ds p := hA0
  rw [Tryz.params4] at hA hval
  obtain ⟨rfl, rfl, rfl⟩ := trodAll_none hA
  obtain ⟨rfl, rfl⟩ := trodVars_none hV
  clear hA0 hval0
  refine (walk  W).mono fun e W' ⟨he, hg⟩ => ?_
  subst he
  exact ⟨_, rfl, _, _, _, [], _, [], hW', trodAll_mk1 (shut_bool Tryz.underlying4 _), rfl, rfl, hg.frame _, fun h => by cases h⟩

theorem over : Rows.paceExamplesRow.holds Tryz.pinned (OpenSpec.ofChange Rows.paceExamplesSpec) :=
  OpenClaim.holds_of_wide 4 Tryz.f4 rfl rfl rfl rfl rfl rfl rfl ⟨rfl, rfl, rfl, rfl, rfl⟩ rfl rfl rfl rfl rfl Closed.px.named Tryz.func4 Closed.px.facts
    Closed.px.inst Closed.px.wrap
    (fun os started H enc _ => lifted os started H enc)

theorem proved : Rows.PaceExamplesSaid :=
  over
#print axioms proved
end Go.Proofs.YthaleaeeikmphaaGreat.paceExamples
