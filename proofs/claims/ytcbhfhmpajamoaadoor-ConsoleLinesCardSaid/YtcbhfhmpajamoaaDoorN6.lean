/- Walks: script.Check of a script of one operation; text.plain. -/
import Derived.Test.YtcbhfhmpajamoaaDoorN5
namespace Go.Proofs.YtcbhfhmpajamoaaDoor
open Go.RowKit

theorem validEmpty (w : World) : Calls Tryd.prog 48 #[.string ByteArray.empty] w (fun e w' => e = .returned (.bool true) ∧ w' = w) := by
  go_enter Tryd.func48, Tryd.ntmps48
  go_wp2
  go_loopw [0] (fun s wr => s = .string ByteArray.empty ∧ wr = w) (fun _ _ => 0)
  case atStart => exact ⟨rfl, rfl⟩
  case round =>
    obtain ⟨rfl, rfl⟩ := hrel
    go_wp2
    go_ret
    exact ⟨rfl, rfl⟩
def cfg1 : CfgV := ⟨1, 1, 1, 0, 1, 1, 1, ByteArray.empty⟩
theorem storeCheck1 (w : World) : Calls Tryd.prog 38 #[.agg #[.int .i64 1, .int .u64 1, .int .i64 1, .int .i64 0, .int .i64 1, .int .i64 1, .int .i64 1, .string ByteArray.empty]] w (fun e w' => e = .returned (.int .i64 0) ∧ Below w.heap.size w w') := by
  have HB := Lib.hid (below_box w)
  go_enter Tryd.func38, Tryd.ntmps38
  go_wp2_with (first | (go_at_call 48; refine (validEmpty _).mono ?_; rintro e w' ⟨rfl, rfl⟩) | go_in)
  go_ret
  exact ⟨rfl, HB.out _⟩
abbrev scrBox1 (pv : Value) : Obj := .cells #[.int .i64 1, .int .u64 1, .int .i64 1, .int .i64 0, .int .i64 1, .int .i64 1, .int .i64 1, .string ByteArray.empty, pv, .slice none 0 0] 73
theorem box_cell1 {w : World} {b : Nat} {p : Value} (h : w.heap[b]? = some (scrBox1 p)) :
    w.cell? ⟨b, 0, none⟩ = some (.int .i64 1) ∧ w.cell? ⟨b, 1, none⟩ = some (.int .u64 1) ∧ w.cell? ⟨b, 2, none⟩ = some (.int .i64 1) ∧ w.cell? ⟨b, 3, none⟩ = some (.int .i64 0) ∧ w.cell? ⟨b, 4, none⟩ = some (.int .i64 1) ∧
    w.cell? ⟨b, 5, none⟩ = some (.int .i64 1) ∧ w.cell? ⟨b, 6, none⟩ = some (.int .i64 1) ∧ w.cell? ⟨b, 7, none⟩ = some (.string ByteArray.empty) ∧ w.cell? ⟨b, 8, none⟩ = some p ∧ w.cell? ⟨b, 9, none⟩ = some (.slice none 0 0) := by
  refine ⟨?_, ?_, ?_, ?_, ?_, ?_, ?_, ?_, ?_, ?_⟩ <;> (unfold World.cell?; rw [h]; rfl)
theorem length1 (o : OpV) (Ap : Option Addr) (w : World) (hP : ProgsAt w w.heap.size Ap [[o]]) (hp : PlainOp o) :
    Calls Tryd.prog 40 #[.agg #[.int .i64 1, .int .u64 1, .int .i64 1, .int .i64 0, .int .i64 1, .int .i64 1, .int .i64 1, .string ByteArray.empty, .slice Ap 1 1, .slice none 0 0]] w
      (fun e w' => ∃ n : Int, e = .returned (.int .i64 n) ∧ n ≤ 65536 ∧ Below w.heap.size w w') := by
  have hb : ∀ p ∈ [[o]], p.length ≤ 256 ∧ ∀ q ∈ p, PlainOp q := by
    intro p hm
    simp only [List.mem_singleton] at hm
    subst hm
    exact ⟨by simp, fun q hq => by simp only [List.mem_singleton] at hq; subst hq; exact hp⟩
  refine (lengthP cfg1 [[o]] [] Ap none 1 0 w hP (by simp) hb (by simp [cfg1]) (by simp)).mono ?_
  rintro e w' ⟨rfl, hw⟩
  refine ⟨_, rfl, ?_, hw⟩
  have h1 := encOps_len_le [o] (fun q hq => by simp only [List.mem_singleton] at hq; subst hq; exact hp)
  have h2 : (encProgs [[o]]).length = 2 + (encOps [o]).length := by simp [encProgs, encProg, num_len]
  have h3 : ([o] : List OpV).length = 1 := rfl
  have h4 : (cfg1.text.size : Int) = 0 := rfl
  have h5 : ((([] : List Int).length : Nat) : Int) = 0 := rfl
  rw [h2, h4, h5]
  rw [h3] at h1
  omega
set_option maxHeartbeats 0 in
set_option maxRecDepth 100000 in
theorem check1 (o : OpV) (pb ob : Nat) (w : World) (hk : 0 ≤ o.kind) (hpb : pb < w.heap.size) (hob : ob < w.heap.size) (hP : w.cell? ⟨pb, 0, none⟩ = some (.slice (some ⟨ob, 0, none⟩) 1 1)) (hO : OpAt w ob 0 o) :
    Calls Tryd.prog 27 #[.agg #[.int .i64 1, .int .u64 1, .int .i64 1, .int .i64 0, .int .i64 1, .int .i64 1, .int .i64 1, .string ByteArray.empty, .slice (some ⟨pb, 0, none⟩) 1 1, .slice none 0 0]] w
      (fun e w' => e = .returned (.int .i64 (if plainB o then 0 else 2)) ∧ Below w.heap.size w w') := by
  have HB := Lib.hid (below_box w (scrBox1 (.slice (some ⟨pb, 0, none⟩) 1 1)))
  have HN := Lib.hid (heap_alloc_new w (scrBox1 (.slice (some ⟨pb, 0, none⟩) 1 1)))
  have HPA : Hid (ProgsAt w w.heap.size (some ⟨pb, 0, none⟩) [[o]]) := by
    intro _
    refine ⟨pb, 0, rfl, hpb, fun j hj => ?_⟩
    simp only [List.length_cons, List.length_nil] at hj
    obtain rfl : j = 0 := by omega
    refine ⟨some ⟨ob, 0, none⟩, 1, hP, fun _ => ⟨ob, 0, rfl, hob, fun j hj => ?_⟩⟩
    simp only [List.getD_cons_zero, List.length_cons, List.length_nil] at hj
    obtain rfl : j = 0 := by omega
    exact hO
  have HPF := Lib.hid (fun W : World => plainFn o W hk)
  have HL := Lib.hid (fun (W : World) hP hp => length1 o (some ⟨pb, 0, none⟩) W hP hp)
  have HP := Lib.hid hP
  have HO := Lib.hid hO
  generalize hR : (if plainB o then (0 : Int) else 2) = R at *
  have HR0 : Hid (PlainOp o → R = 0) := fun h => by rw [← hR, plainB_yes h]; rfl
  have HR2 : Hid (¬ PlainOp o → R = 2) := fun h => by rw [← hR, plainB_no h]; rfl
  clear hR
  have h00 : ((0 : Int) != 0) = false := by decide
  have h11 : ((1 : Int) != 1) = false := by decide
  clear hP hO
  obtain ⟨x0, x1, x2, x3, x4, x5, x6⟩ := o
  go_enter Tryd.func27, Tryd.ntmps27
  go_wp2_with fail
  refine (storeCheck1 _).mono ?_
  rintro e' w1 ⟨rfl, hb⟩
  have HB1 := Lib.hid (below_then HB.out (by simp) hb)
  have HN1 := Lib.hid ((hb.block w.heap.size (by simp)).trans HN.out)
  obtain ⟨q0, q1, q2, q3, q4, q5, q6, q7, q8, q9⟩ := box_cell1 HN1.out
  clear hb HN HB q0 q1 q3 q4 q5 q6 q7
  go_wp2_with fail
  clear q2 q8 q9
  go_loopw [26] (fun i wr => ∃ k : Nat, k ≤ 1 ∧ i = .int .i64 k ∧ Hid (k = 1 → PlainOp ⟨x0, x1, x2, x3, x4, x5, x6⟩) ∧ Hid (wr.heap[w.heap.size]? = some (scrBox1 (.slice (some ⟨pb, 0, none⟩) 1 1))) ∧ Hid (Below w.heap.size w wr)) (fun i _ => 1 - (intOf i).toNat)
  case atStart => exact ⟨0, Nat.zero_le _, rfl, (fun h => absurd h (by decide)), HN1.out, HB1.out⟩
  case round =>
    obtain ⟨k, hk, rfl, HE, HX, HW⟩ := hrel
    clear HN1 HB1
    by_cases hlt : k < 1
    · have hki : (k : Int) < 1 := by omega
      have hx : wr.cell? ⟨pb, k, none⟩ = some (.slice (some ⟨ob, 0, none⟩) 1 1) := by
        obtain rfl : k = 0 := by omega
        exact (HW.out.cell (p := ⟨pb, 0, none⟩) hpb).trans HP.out
      go_wp2_with fail
      go_loopw [35] (fun i wr => ∃ j : Nat, j ≤ 1 ∧ i = .int .i64 j ∧ Hid (j = 1 → PlainOp ⟨x0, x1, x2, x3, x4, x5, x6⟩) ∧ Hid (wr.heap[w.heap.size]? = some (scrBox1 (.slice (some ⟨pb, 0, none⟩) 1 1))) ∧ Hid (Below w.heap.size w wr)) (fun i _ => 1 - (intOf i).toNat)
      case atStart => exact ⟨0, Nat.zero_le _, rfl, (fun h => absurd h (by decide)), HX.out, HW.out⟩
      case round =>
        obtain ⟨j, hj, rfl, HQ, HX', HW'⟩ := hrel
        clear HX HW
        by_cases hjl : j < 1
        · have hji : (j : Int) < 1 := by omega
          have hop : OpAt wr ob (j * 7) ⟨x0, x1, x2, x3, x4, x5, x6⟩ := by
            obtain rfl : j = 0 := by omega
            exact HO.out.keep (HW'.out.block ob hob)
          obtain ⟨m0, m1, m2, m3, m4, m5, m6⟩ := hop
          dsimp only at m0 m1 m2 m3 m4 m5 m6
          have HWA := Lib.hid (HW'.out.alloc HW'.out.size (.cells #[.int .u8 x0, .int .i64 x1, .int .i64 x2, .int .i64 x3, .int .u32 x4, .int .u8 x5, .string x6] 24))
          have hlt0 : w.heap.size < wr.heap.size := heap_lt HX'.out
          have HXA := Lib.hid ((Below.heap_alloc wr (.cells #[.int .u8 x0, .int .i64 x1, .int .i64 x2, .int .i64 x3, .int .u32 x4, .int .u8 x5, .string x6] 24) _ hlt0).trans HX'.out)
          by_cases hpl : PlainOp ⟨x0, x1, x2, x3, x4, x5, x6⟩
          · have HPL := Lib.hid hpl
            rw [plainB_yes hpl] at HPF
            clear hpl
            go_wp2_with fail
            refine (HPF.out _).mono ?_
            rintro e wp ⟨rfl, hbp⟩
            have HX2 := Lib.hid ((hbp.block _ (by simp; omega)).trans HXA.out)
            have HW2 := Lib.hid (below_then HWA.out HWA.out.size hbp)
            clear hbp HPF
            go_wp2_with fail
            go_roundw
            case rel => exact ⟨j + 1, by omega, by go_num, fun _ => HPL.out, HX2.out, HW2.out⟩
            case measure => simp [intOf]; omega
          · have HR := Lib.hid (HR2.out hpl)
            rw [plainB_no hpl] at HPF
            clear hpl
            go_wp2_with fail
            refine (HPF.out _).mono ?_
            rintro e wp ⟨rfl, hbp⟩
            have HW2 := Lib.hid (below_then HWA.out HWA.out.size hbp)
            clear hbp HPF
            go_wp2_with fail
            go_ret
            exact ⟨by rw [HR.out]; rfl, HW2.out⟩
        · obtain rfl : j = 1 := by omega
          have HQ1 := Lib.hid (HQ.out rfl)
          go_wp2_with fail
          go_roundw
          case rel => exact ⟨k + 1, by omega, by go_num, fun _ => HQ1.out, HX'.out, HW'.out⟩
          case measure => simp [intOf]; omega
    · obtain rfl : k = 1 := by omega
      have HPL := Lib.hid (HE.out rfl)
      obtain ⟨q0, q1, q2, q3, q4, q5, q6, q7, q8, q9⟩ := box_cell1 HX.out
      have HLL := Lib.hid (HL.out wr (HPA.out.below HW.out HW.out.size) HPL.out)
      have HR := Lib.hid (HR0.out HPL.out)
      clear HL
      go_wp2_with fail
      go_loopw [51] (fun i W => i = .int .i64 0 ∧ Hid (W = wr)) (fun _ _ => 0)
      case atStart => exact ⟨rfl, rfl⟩
      case round =>
        rename_i wr2 _
        obtain ⟨rfl, HWW⟩ := hrel
        obtain rfl := HWW.out
        go_wp2_with fail
        refine HLL.out.mono ?_
        rintro e wp ⟨n, rfl, hn, hbp⟩
        have hn' : ¬ 65536 < n := by omega
        have HW2 := Lib.hid (below_then HW.out HW.out.size hbp)
        clear hbp HLL
        go_wp2_with fail
        go_ret
        exact ⟨by rw [HR.out]; rfl, HW2.out⟩
theorem opAt_at (w : World) (q : Nat) (hq : q = w.heap.size) (x0 x1 x2 x3 x4 x5 : Int) (x6 : ByteArray) : OpAt (w.alloc (.cells #[.int .u8 x0, .int .i64 x1, .int .i64 x2, .int .i64 x3, .int .u32 x4, .int .u8 x5, .string x6] 24)) q 0 ⟨x0, x1, x2, x3, x4, x5, x6⟩ := by
  subst hq; exact opAt_new w x0 x1 x2 x3 x4 x5 x6
set_option maxRecDepth 100000 in
theorem textPlain (o : OpV) (w : World) (hk : 0 ≤ o.kind) : Calls Tryd.prog 12 #[opVal o] w (BoolBelow (plainB o) w) := by
  have HC := Lib.hid (fun (pb ob : Nat) (W : World) h1 h2 h3 h4 => check1 o pb ob W hk h1 h2 h3 h4)
  generalize plainB o = R at *
  obtain ⟨x0, x1, x2, x3, x4, x5, x6⟩ := o
  go_enter Tryd.func12, Tryd.ntmps12
  go_wp2_with fail
  go_at_call 27
  refine (HC.out (w.heap.size + 1 + 1 + 1) (w.heap.size + 1 + 1) _ ?h1 ?h2 ?h3 ?h4).mono ?_
  case h1 => simp
  case h2 => simp
  case h3 => rw [World.cell?_alloc_at _ _ _ _ (by simp)]; rfl
  case h4 =>
    refine OpAt.keep (w := World.alloc (World.alloc (World.alloc w _) _) _) ?_ (Below.heap_alloc _ _ _ (by simp))
    exact opAt_at _ _ (by simp) x0 x1 x2 x3 x4 x5 x6
  rintro e w' ⟨rfl, hb⟩
  have HB : Hid (Below w.heap.size w w') := below_then ((((below_box w _).alloc (by simp) _).alloc (by simp; omega) _).alloc (by simp; omega) _) (by simp; omega) hb
  clear hb HC
  cases R
  · go_wp2_with fail
    go_ret
    exact ⟨rfl, HB.out⟩
  · go_wp2_with fail
    go_ret
    exact ⟨rfl, HB.out⟩
end Go.Proofs.YtcbhfhmpajamoaaDoor
