/- The closures of pace.bounds. -/
import Derived.Test.YthaleaeeikmphaaGreatV4c
namespace Go.Proofs.YthaleaeeikmphaaGreat
open Go.RowKit
open Pace (InR readI readV readE)
structure OpV where
  kind : Int
  slot : Int
  pos : Int
  num : Int
  id : Int
  grav : Int
  text : ByteArray
abbrev opVal (o : OpV) : Value := .agg #[.int .u8 o.kind, .int .i64 o.slot, .int .i64 o.pos, .int .i64 o.num, .int .u32 o.id, .int .u8 o.grav, .string o.text]
def clamp (n : Int) : Int := if n < 0 then 0 else if 65536 < n then 65536 else n
/-- The bound of an operation of that kind. -/
def boundI (k num feed h : Int) : Int := if k = 5 then 4 else if k = 14 then 3 else if k = 15 then 4 * feed + 9 else if k = 8 ∨ k = 9 then h + 1 else if k = 7 ∨ k = 12 then readI h (clamp num) else 1
noncomputable def boundE (c : CfgV) (k h : Int) : Int := if cfgErr c ≠ 0 then cfgErr c else if ¬ (5 ≤ k ∧ k ≤ 16) then 2 else if ¬ (0 ≤ h ∧ h ≤ 16) then 3 else 0
noncomputable def boundV (c : CfgV) (k num h : Int) : Int := if boundE c k h ≠ 0 then 0 else boundI k num c.feed h
theorem clamp_bd (n : Int) : 0 ≤ clamp n ∧ clamp n ≤ 65536 := by unfold clamp; (repeat' split) <;> omega

section
variable (c0 c1 c2 c3 c4 c5 c6 : Int) (c7 : ByteArray) (o0 o1 o2 o3 o4 o5 : Int) (o6 : ByteArray)
theorem below_two (w : World) (a b : Obj) : Below w.heap.size w ((w.alloc a).alloc b) := ((Below.refl _ _).alloc (Nat.le_refl _) a).alloc (by simp) b
theorem f36Fn (h n : Int) (b : Nat) (w : World) (hc : ∀ x y : Obj, ((w.alloc x).alloc y).cell? ⟨b, 0, none⟩ = some (.int .i64 n)) :
    Calls Tryz.prog 36 #[cfgVal ⟨c0, c1, c2, c3, c4, c5, c6, c7⟩, opVal ⟨o0, o1, o2, o3, o4, o5, o6⟩, .int .i64 h, .pointer (some ⟨b, 0, none⟩)] w (CheckRes n w) := by
  have hc' := hc (.cells #[.int .i64 c0, .int .u64 c1, .int .i64 c2, .int .i64 c3, .int .i64 c4, .int .i64 c5, .int .i64 c6, .string c7] 24)
    (.cells #[.int .u8 o0, .int .i64 o1, .int .i64 o2, .int .i64 o3, .int .u32 o4, .int .u8 o5, .string o6] 27)
  have HB := Lib.hid (below_two w)
  clear hc
  go_enter Tryz.func36, Tryz.ntmps36
  go_wp2
  go_ret
  exact ⟨rfl, HB.out _ _⟩
theorem f37Fn (h : Int) (w : World) (h0 : 0 ≤ h) (h1 : h ≤ 16) :
    Calls Tryz.prog 37 #[cfgVal ⟨c0, c1, c2, c3, c4, c5, c6, c7⟩, opVal ⟨o0, o1, o2, o3, o4, o5, o6⟩, .int .i64 h] w (CheckRes (h + 1) w) := by
  have HB := Lib.hid (below_two w)
  go_enter Tryz.func37, Tryz.ntmps37
  go_wp2
  go_ret
  exact ⟨rfl, HB.out _ _⟩
theorem f38Fn (h : Int) (w : World) (h0 : 0 ≤ h) (h1 : h ≤ 16) :
    Calls Tryz.prog 38 #[cfgVal ⟨c0, c1, c2, c3, c4, c5, c6, c7⟩, opVal ⟨o0, o1, o2, o3, o4, o5, o6⟩, .int .i64 h] w (CheckRes (readI h (clamp o3)) w) := by
  have HB := Lib.hid (below_two w)
  have hb := clamp_bd o3
  have hr := fun W : World => readFn h (clamp o3) W ⟨⟨h0, h1⟩, hb.1, hb.2⟩
  have HR := Lib.hid hr
  clear hr hb
  generalize readI h (clamp o3) = v at *
  by_cases a : o3 < 0
  · have e : clamp o3 = 0 := by unfold clamp; rw [if_pos a]
    rw [e] at HR
    clear e
    go_enter Tryz.func38, Tryz.ntmps38
    go_wp2_with ((with_reducible refine (HR.out _).mono ?_); rintro e w' ⟨rfl, rfl⟩)
    go_ret
    exact ⟨rfl, HB.out _ _⟩
  · by_cases b : 65536 < o3
    · have e : clamp o3 = 65536 := by unfold clamp; rw [if_neg a, if_pos b]
      rw [e] at HR
      clear e
      go_enter Tryz.func38, Tryz.ntmps38
      go_wp2_with ((with_reducible refine (HR.out _).mono ?_); rintro e w' ⟨rfl, rfl⟩)
      go_ret
      exact ⟨rfl, HB.out _ _⟩
    · have e : clamp o3 = o3 := by unfold clamp; rw [if_neg a, if_neg b]
      rw [e] at HR
      clear e
      go_enter Tryz.func38, Tryz.ntmps38
      go_wp2_with ((with_reducible refine (HR.out _).mono ?_); rintro e w' ⟨rfl, rfl⟩)
      go_ret
      exact ⟨rfl, HB.out _ _⟩
theorem f39Fn (h : Int) (w : World) (h0 : 1 ≤ c6) (h1 : c6 ≤ 64) :
    Calls Tryz.prog 39 #[cfgVal ⟨c0, c1, c2, c3, c4, c5, c6, c7⟩, opVal ⟨o0, o1, o2, o3, o4, o5, o6⟩, .int .i64 h] w (CheckRes (4 * c6 + 9) w) := by
  have HB := Lib.hid (below_two w)
  go_enter Tryz.func39, Tryz.ntmps39
  go_wp2
  go_ret
  exact ⟨rfl, HB.out _ _⟩
end
end Go.Proofs.YthaleaeeikmphaaGreat
