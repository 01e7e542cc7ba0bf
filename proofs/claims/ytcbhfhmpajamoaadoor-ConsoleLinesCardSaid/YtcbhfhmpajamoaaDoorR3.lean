/- Walk: text.empty. -/
import Derived.Test.YtcbhfhmpajamoaaDoorK5
import Derived.Test.YtcbhfhmpajamoaaDoorN2
namespace Go.Proofs.YtcbhfhmpajamoaaDoor
open Go.RowKit

structure ResV where
  err : Int
  rev : Int
  slot : Int
  pos : Int
  grav : Int
  text : ByteArray
  mb : Int
  mr : Int
  ml : Int
  ik : Int
  ifr : Int
  ito : Int
abbrev resCells (r : ResV) (A : Option Addr) (n c : Nat) : Array Value := #[.int .i64 r.err, .int .i64 r.rev, .int .i64 r.slot, .int .i64 r.pos, .int .u8 r.grav, .string r.text, .int .i64 r.mb, .int .i64 r.mr, .int .i64 r.ml, .int .u8 r.ik, .int .i64 r.ifr, .int .i64 r.ito, .slice A n c]
def emptyR (r : ResV) (n : Nat) : Prop := r.rev = 0 ∧ r.slot = 0 ∧ r.pos = 0 ∧ r.grav = 0 ∧ r.text.size = 0 ∧ (r.mb = 0 ∧ r.mr = 0 ∧ r.ml = 0) ∧ r.ik = 0 ∧ r.ifr = 0 ∧ r.ito = 0 ∧ n = 0
instance (r : ResV) (n : Nat) : Decidable (emptyR r n) := by unfold emptyR; infer_instance
theorem toList_nil (s : ByteArray) : s.toList = [] ↔ s.size = 0 := by rw [← List.isEmpty_iff, toList_empty]; simp
set_option maxHeartbeats 0 in
set_option maxRecDepth 100000 in
theorem emptyFn (r : ResV) (A : Option Addr) (n c : Nat) (w : World) : Calls Tryd.prog 18 #[.agg (resCells r A n c)] w (BoolBelow (decide (emptyR r n)) w) := by
  have HB : Hid (∀ o1 o2, Below w.heap.size w ((w.alloc o1).alloc o2)) := fun o1 o2 => (below_box w o1).alloc (by simp) o2
  have HR : Hid (∀ b : Bool, (b = true ↔ emptyR r n) → Ending.returned (.bool b) = .returned (.bool (decide (emptyR r n)))) := fun b h => by
    have : b = decide (emptyR r n) := by
      by_cases he : emptyR r n
      · simp [he, h.2 he]
      · have : ¬ b = true := fun hh => he (h.1 hh)
        simp [he, this]
    rw [this]
  generalize decide (emptyR r n) = E at *
  unfold emptyR at HR
  obtain ⟨e, x1, x2, x3, x4, x5, x6, x7, x8, x9, x10, x11⟩ := r
  dsimp only at HR
  go_enter Tryd.func18, Tryd.ntmps18
  go_wp2
  all_goals
    go_ret
    refine ⟨HR.out _ ?_, HB.out _ _⟩
    first
      | (simp_all [toList_empty]; done)
      | (simp only [toList_nil] at *; simp_all; done)
end Go.Proofs.YtcbhfhmpajamoaaDoor
