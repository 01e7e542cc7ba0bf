/- Walks: the length of an operation, by the reference. -/
import Derived.Test.YtcicememljlafaaE5
namespace Go.Proofs.Ytcicememljlafaa
open Go.RowKit

def six : List Int := [0, 1, 2, 3, 4, 5]
theorem six_getD (k : Nat) (hk : k < 6) : six.getD k 0 = k := by
  match k, hk with
  | 0, _ | 1, _ | 2, _ | 3, _ | 4, _ | 5, _ => rfl
  | k + 6, hk => exact absurd hk (by omega)
def usedTo (k : Int) (i : Nat) : List Int := (six.take i).filter (useB k)
theorem usedTo_succ (k : Int) (i : Nat) (hi : i < 6) : usedTo k (i + 1) = if useB k i then usedTo k i ++ [(i : Int)] else usedTo k i := by
  have hl : i < six.length := hi
  unfold usedTo
  rw [take_snoc 0 six i hl, List.filter_append, six_getD i hi]
  cases h : useB k (i : Int) <;> simp [h]
theorem usedTo_six (k : Int) (h0 : 0 ≤ k) (h1 : k ≤ 255) : usedTo k 6 = fieldsOf k := by
  by_cases hk : 1 ≤ k ∧ k ≤ 16
  · have hk' : k = 1 ∨ k = 2 ∨ k = 3 ∨ k = 4 ∨ k = 5 ∨ k = 6 ∨ k = 7 ∨ k = 8 ∨ k = 9 ∨ k = 10 ∨ k = 11 ∨ k = 12 ∨ k = 13 ∨ k = 14 ∨ k = 15 ∨ k = 16 := by omega
    rcases hk' with rfl | rfl | rfl | rfl | rfl | rfl | rfl | rfl | rfl | rfl | rfl | rfl | rfl | rfl | rfl | rfl <;> decide
  · have e : fieldsOf k = [] := by
      unfold fieldsOf
      simp [show ¬ k = 1 by omega, show ¬ k = 2 by omega, show ¬ k = 3 by omega, show ¬ k = 4 by omega, show ¬ k = 5 by omega, show ¬ k = 6 by omega, show ¬ k = 7 by omega, show ¬ k = 8 by omega, show ¬ k = 9 by omega, show ¬ k = 10 by omega, show ¬ k = 11 by omega, show ¬ k = 12 by omega, show ¬ k = 13 by omega]
    unfold usedTo useB
    rw [e]; rfl
theorem usesVal_cell (k : Int) (i : Nat) (hi : i < 6) : (#[.bool (useB k 0), .bool (useB k 1), .bool (useB k 2), .bool (useB k 3), .bool (useB k 4), .bool (useB k 5)] : Array Value)[i]? = some (.bool (useB k i)) := by
  match i, hi with
  | 0, _ | 1, _ | 2, _ | 3, _ | 4, _ | 5, _ => rfl
  | k + 6, hk => exact absurd hk (by omega)
theorem encFs_snoc (o : OpV) (fs : List Int) (f : Int) : encFs o (fs ++ [f]) = encFs o fs ++ encF o f := by simp [encFs]
theorem usedTo_len (o : OpV) (i : Nat) (hi : i < 6) : ((encFs o (usedTo o.kind (i + 1))).length : Int) = (encFs o (usedTo o.kind i)).length + (if useB o.kind i then szF o i else 0) := by
  rw [usedTo_succ _ _ hi]
  cases h : useB o.kind (i : Int)
  · simp
  · simp [encFs_snoc, szF_len]
theorem usedTo_le (o : OpV) (ht : o.text.size ≤ 256) (i : Nat) (hi : i ≤ 6) : ((encFs o (usedTo o.kind i)).length : Int) ≤ 6 * 258 := by
  have h1 := encFs_len_le ht (usedTo o.kind i)
  have h2 : (usedTo o.kind i).length ≤ i := by
    unfold usedTo
    have := List.length_filter_le (useB o.kind) (six.take i)
    have h3 : (six.take i).length ≤ i := by simp; omega
    omega
  have : (usedTo o.kind i).length * 258 ≤ 6 * 258 := Nat.mul_le_mul_right _ (by omega)
  omega
abbrev usesArr (k : Int) : Array Value := #[.bool (useB k 0), .bool (useB k 1), .bool (useB k 2), .bool (useB k 3), .bool (useB k 4), .bool (useB k 5)]
abbrev sizesArr (o : OpV) : Array Value := #[.int .i64 1, .int .i64 2, .int .i64 2, .int .i64 4, .int .i64 1, .int .i64 (2 + o.text.size)]
theorem sizes_cell (o : OpV) (i : Nat) (hi : i < 6) : (sizesArr o)[i]? = some (.int .i64 (szF o i)) := by
  match i, hi with
  | 0, _ | 1, _ | 2, _ | 3, _ | 4, _ | 5, _ => rfl
  | k + 6, hk => exact absurd hk (by omega)
theorem heap_lt {W : World} {q : Nat} {x : Obj} (h : W.heap[q]? = some x) : q < W.heap.size := by
  rcases Nat.lt_or_ge q W.heap.size with hlt | hge
  · exact hlt
  · rw [Array.getElem?_eq_none hge] at h; cases h

set_option maxHeartbeats 0 in
theorem lenRef (x0 x1 x2 x3 x4 x5 : Int) (x6 : ByteArray) (w : World) (h0 : 0 ≤ x0) (h1 : x0 ≤ 255) (ht : x6.size ≤ 256) :
    Calls Try.prog 43 #[opVal ⟨x0, x1, x2, x3, x4, x5, x6⟩] w (fun e w' => e = .returned (.int .i64 (encOp ⟨x0, x1, x2, x3, x4, x5, x6⟩).length) ∧ Below w.heap.size w w') := by
  have HU := Lib.hid (fun W : World => usesFn x0 W h0 h1)
  unfold UsesRes usesVal at HU
  have HL := Lib.hid (usedTo_len ⟨x0, x1, x2, x3, x4, x5, x6⟩)
  have HM := Lib.hid (usedTo_le ⟨x0, x1, x2, x3, x4, x5, x6⟩ ht)
  have HC := Lib.hid (usesVal_cell x0)
  have HS6 := Lib.hid (sizes_cell ⟨x0, x1, x2, x3, x4, x5, x6⟩)
  have HSB := Lib.hid (fun f => szF_bd (o := ⟨x0, x1, x2, x3, x4, x5, x6⟩) ht f)
  have HR : Hid ((encOp ⟨x0, x1, x2, x3, x4, x5, x6⟩).length = 1 + (encFs ⟨x0, x1, x2, x3, x4, x5, x6⟩ (usedTo x0 6)).length) := by
    show _ = _
    rw [usedTo_six x0 h0 h1]; simp [encOp, num_len]
  have hts : (x6.size : Int) ≤ 256 := by omega
  go_enter Try.func43, Try.ntmps43
  go_wp2_with fail
  refine (HU.out _).mono ?_
  rintro e w1 ⟨rfl, hg⟩
  have HS := Lib.hid (usst_start x0 x1 x2 x3 x4 x5 x6 (usesArr x0) hg)
  have hs1 := hg.size
  simp only [World.size_alloc] at hs1
  go_upto_region 3 with fail
  clear hg HU
  have HUB : Hid (∀ o : Obj, ((w1.alloc (.cells (usesArr x0) 57)).alloc o).heap[w1.heap.size]? = some (.cells (usesArr x0) 57)) := fun o => (Below.heap_alloc _ _ _ (by simp)).trans HS.out.us
  generalize hW : w1.alloc (Obj.cells (usesArr x0) 57) = W at *
  generalize w1.heap.size = ub at *
  obtain ⟨m0, m1, m2, m3, m4, m5, m6⟩ := HS.out.cells
  have HSZ := Lib.hid (heap_alloc_new W (.cells (sizesArr ⟨x0, x1, x2, x3, x4, x5, x6⟩) 88))
  have HBW := Lib.hid (HS.out.bel.alloc HS.out.bel.size (.cells (sizesArr ⟨x0, x1, x2, x3, x4, x5, x6⟩) 88))
  clear hW
  go_wp2_with fail
  generalize W.heap.size = sb at *
  have hub : Hid ((W.alloc (.cells (sizesArr ⟨x0, x1, x2, x3, x4, x5, x6⟩) 88)).heap[ub]? = some (.cells (usesArr x0) 57)) := HUB.out _
  generalize hWW : W.alloc (.cells (sizesArr ⟨x0, x1, x2, x3, x4, x5, x6⟩) 88) = WW at *
  clear hWW HUB
  go_loopw [4, 6] (fun nv i wr => ∃ (k : Nat) (v : Int), k ≤ 6 ∧ i = .int .i64 k ∧ nv = .int .i64 v ∧ 0 ≤ v ∧ v ≤ 1 + 6 * 258 ∧ Hid (v = 1 + (encFs ⟨x0, x1, x2, x3, x4, x5, x6⟩ (usedTo x0 k)).length) ∧ Hid (wr = WW)) (fun _ i _ => 6 - (intOf i).toNat)
  case atStart => exact ⟨0, _, by omega, rfl, rfl, by omega, by omega, by show _ = _; simp [usedTo, encFs], rfl⟩
  case round =>
    obtain ⟨k, v, hk, rfl, rfl, v0, v1, HV, HW⟩ := hrel
    have hwr := HW.out
    subst hwr
    by_cases hlt : k < 6
    · have hki : (k : Int) < 6 := by omega
      have cu : wr.cell? ⟨ub, k, none⟩ = some (.bool (useB x0 k)) := by unfold World.cell?; rw [hub.out]; exact HC.out k hlt
      have cs : wr.cell? ⟨sb, k, none⟩ = some (.int .i64 (szF ⟨x0, x1, x2, x3, x4, x5, x6⟩ k)) := by unfold World.cell?; rw [HSZ.out]; exact HS6.out k hlt
      have HLk := Lib.hid (HL.out k hlt)
      have HMk := Lib.hid (HM.out (k + 1) (by omega))
      have hz := HSB.out k
      generalize szF ⟨x0, x1, x2, x3, x4, x5, x6⟩ k = z at *
      generalize useB x0 k = u at *
      cases u
      · go_wp2_with fail
        go_roundw
        case rel => exact ⟨k + 1, v, by omega, by go_num, rfl, v0, v1, by have h1 := HLk.out; have h2 := HV.out; show _ = _; rw [if_neg (by simp)] at h1; omega, Lib.hid trivial⟩
        case measure => simp [intOf]; omega
      · have hv2 : v + z ≤ 1 + 6 * 258 := by have h1 := HLk.out; have h2 := HV.out; have h3 := HMk.out; rw [if_pos rfl] at h1; omega
        go_wp2_with fail
        go_roundw
        case rel => exact ⟨k + 1, v + z, by omega, by go_num, rfl, by omega, hv2, by have h1 := HLk.out; have h2 := HV.out; show _ = _; rw [if_pos rfl] at h1; omega, Lib.hid trivial⟩
        case measure => simp [intOf]; omega
    · obtain rfl : k = 6 := by omega
      go_wp2_with fail
      go_ret
      exact ⟨ret_int (by have h1 := HV.out; have h2 := HR.out; omega), HBW.out⟩
end Go.Proofs.Ytcicememljlafaa
