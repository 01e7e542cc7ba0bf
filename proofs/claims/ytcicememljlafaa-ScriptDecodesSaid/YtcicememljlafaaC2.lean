/- Walks: the check of a configuration. -/
import Derived.Test.YtcicememljlafaaC1
import Derived.Below
import Derived.BigRegion
namespace Go.Proofs.Ytcicememljlafaa
open Go.RowKit
/-- In the limits of the document. -/
def CfgIn (c : CfgV) : Prop :=
  ((1 ≤ c.slots ∧ c.slots ≤ 16384) ∧ (1 ≤ c.gens ∧ c.gens ≤ 4294967295)) ∧ ((0 ≤ c.clients ∧ c.clients ≤ 8) ∧ (0 ≤ c.readers ∧ c.readers ≤ 8)) ∧ ((1 ≤ c.queue ∧ c.queue ≤ 64) ∧ (1 ≤ c.batch ∧ c.batch ≤ 16) ∧ (1 ≤ c.feed ∧ c.feed ≤ 64))
noncomputable def cfgErr (c : CfgV) : Int := open Classical in if CfgIn c then if 65536 < c.text.size then 5 else if Runes.valid c.text then 0 else 11 else 2

theorem withinFn (n a b : Int) (w : World) : Calls Try.prog 49 #[.int .i64 n, .int .i64 a, .int .i64 b] w fun e w' => e = .returned (.bool (decide (a ≤ n ∧ n ≤ b))) ∧ w = w' := by
  by_cases h : a ≤ n
  · by_cases h2 : n ≤ b
    · rw [decide_eq_true ⟨h, h2⟩]
      go_enter Try.func49, Try.ntmps49
      go_wp2
      go_ret
      exact ⟨rfl, rfl⟩
    · rw [decide_eq_false (show ¬ (a ≤ n ∧ n ≤ b) by omega)]
      go_enter Try.func49, Try.ntmps49
      go_wp2
      go_ret
      exact ⟨rfl, rfl⟩
  · rw [decide_eq_false (show ¬ (a ≤ n ∧ n ≤ b) by omega)]
    go_enter Try.func49, Try.ntmps49
    go_wp2
    go_ret
    exact ⟨rfl, rfl⟩
theorem within_split {n a b : Int} {w : World} {Q : Ending → World → Prop} (h1 : a ≤ n → n ≤ b → Q (.returned (.bool true)) w) (h2 : ¬ (a ≤ n ∧ n ≤ b) → Q (.returned (.bool false)) w) :
    Calls Try.prog 49 #[.int .i64 n, .int .i64 a, .int .i64 b] w Q := by
  refine (withinFn n a b w).mono fun e w' h => ?_
  obtain ⟨he, hw⟩ := h
  subst he; subst hw
  by_cases h : a ≤ n ∧ n ≤ b
  · rw [decide_eq_true h]; exact h1 h.1 h.2
  · rw [decide_eq_false h]; exact h2 h

def CheckRes (k : Int) (w : World) (e : Ending) (w' : World) : Prop := e = .returned (.int .i64 k) ∧ Below w.heap.size w w'
section
variable {c : CfgV} {w w' : World}
theorem check_out (h : ¬ CfgIn c) (hw : Below w.heap.size w w') : CheckRes (cfgErr c) w (.returned (.int .i64 2)) w' := ⟨by unfold cfgErr; rw [if_neg h], hw⟩
theorem check_long (h : CfgIn c) (hl : 65536 < c.text.size) (hw : Below w.heap.size w w') : CheckRes (cfgErr c) w (.returned (.int .i64 5)) w' := ⟨by unfold cfgErr; rw [if_pos h, if_pos hl], hw⟩
theorem check_ok (h : CfgIn c) (hl : ¬ 65536 < c.text.size) (hv : Runes.valid c.text = true) (hw : Below w.heap.size w w') : CheckRes (cfgErr c) w (.returned (.int .i64 0)) w' := ⟨by unfold cfgErr; rw [if_pos h, if_neg hl, if_pos hv], hw⟩
theorem check_utf (h : CfgIn c) (hl : ¬ 65536 < c.text.size) (hv : Runes.valid c.text = false) (hw : Below w.heap.size w w') : CheckRes (cfgErr c) w (.returned (.int .i64 11)) w' := ⟨by unfold cfgErr; rw [if_pos h, if_neg hl, if_neg (by simp [hv])], hw⟩
end
theorem below_box (w : World) (o : Obj) : Below w.heap.size w (w.alloc o) := (Below.refl _ _).alloc (Nat.le_refl _) o

theorem checkFn (x0 x1 x2 x3 x4 x5 x6 : Int) (x7 : ByteArray) (w : World) (hm : x7.size ≤ 9223372036854775807) :
    Calls Try.prog 38 #[cfgVal ⟨x0, x1, x2, x3, x4, x5, x6, x7⟩] w (CheckRes (cfgErr ⟨x0, x1, x2, x3, x4, x5, x6, x7⟩) w) := by
  have HV := Lib.hid (validFn x7 (Runes.valid x7))
  have hsp := Runes.valid_spec x7
  have HS := Lib.hid hsp
  clear hsp
  have HB := Lib.hid (below_box w)
  generalize hvx : Runes.valid x7 = vx at *
  have HX := Lib.hid hvx
  clear hvx
  go_enter Try.func38, Try.ntmps38
  go_wp2_with (first | ((with_reducible refine within_split ?_ ?_) <;> intros) | ((with_reducible refine (HV.out _ (by omega) HS.out).mono ?_); rintro e w' ⟨rfl, k, rfl⟩))
  all_goals go_ret
  all_goals first
    | exact check_out (by show ¬ (((1 ≤ x0 ∧ x0 ≤ 16384) ∧ (1 ≤ x1 ∧ x1 ≤ 4294967295)) ∧ ((0 ≤ x2 ∧ x2 ≤ 8) ∧ (0 ≤ x3 ∧ x3 ≤ 8)) ∧ ((1 ≤ x4 ∧ x4 ≤ 64) ∧ (1 ≤ x5 ∧ x5 ≤ 16) ∧ (1 ≤ x6 ∧ x6 ≤ 64))); omega) (HB.out _)
    | (have hin : CfgIn ⟨x0, x1, x2, x3, x4, x5, x6, x7⟩ := by show ((1 ≤ x0 ∧ x0 ≤ 16384) ∧ (1 ≤ x1 ∧ x1 ≤ 4294967295)) ∧ ((0 ≤ x2 ∧ x2 ≤ 8) ∧ (0 ≤ x3 ∧ x3 ≤ 8)) ∧ ((1 ≤ x4 ∧ x4 ≤ 64) ∧ (1 ≤ x5 ∧ x5 ≤ 16) ∧ (1 ≤ x6 ∧ x6 ≤ 64)); omega
       first
       | exact check_long hin (by show 65536 < x7.size; omega) (HB.out _)
       | (have hle : ¬ 65536 < x7.size := by omega
          first
          | exact check_ok hin hle (HX.out.trans (by cases vx <;> simp_all)) (below_drewN (HB.out _) _)
          | exact check_utf hin hle (HX.out.trans (by cases vx <;> simp_all)) (below_drewN (HB.out _) _)))
end Go.Proofs.Ytcicememljlafaa
