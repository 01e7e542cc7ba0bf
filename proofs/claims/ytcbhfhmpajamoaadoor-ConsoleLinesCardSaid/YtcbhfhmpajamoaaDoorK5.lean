/- Walks: the words of the kinds of operations. -/
import Derived.Test.YtcbhfhmpajamoaaDoorK4
import Derived.Deep.Cut
namespace Go.Proofs.YtcbhfhmpajamoaaDoor
open Go.RowKit

def nameL (k : Int) : List Int :=
  if k = 1 then [105, 110, 115, 101, 114, 116]
  else if k = 2 then [100, 101, 108, 101, 116, 101]
  else if k = 3 then [115, 101, 116]
  else if k = 4 then [100, 114, 111, 112]
  else if k = 5 then [97, 99, 113, 117, 105, 114, 101]
  else if k = 6 then [108, 101, 110]
  else if k = 7 then [114, 101, 97, 100]
  else if k = 8 then [114, 117, 110, 101]
  else if k = 9 then [108, 105, 110, 101]
  else if k = 10 then [109, 97, 114, 107]
  else if k = 11 then [115, 101, 101, 107]
  else if k = 12 then [110, 101, 120, 116]
  else if k = 13 then [114, 101, 108, 101, 97, 115, 101]
  else if k = 14 then [115, 117, 98, 115, 99, 114, 105, 98, 101]
  else if k = 15 then [114, 101, 99, 101, 105, 118, 101]
  else if k = 16 then [99, 108, 111, 115, 101] else []
def lettersL (k : Int) : List Int :=
  if k = 1 then [97, 116]
  else if k = 2 then [97, 110]
  else if k = 3 then [105, 97, 103]
  else if k = 4 then [105]
  else if k = 5 then []
  else if k = 6 then [115]
  else if k = 7 then [115, 97, 110]
  else if k = 8 then [115, 110]
  else if k = 9 then [115, 110]
  else if k = 10 then [115, 105]
  else if k = 11 then [115, 97]
  else if k = 12 then [115, 110]
  else if k = 13 then [115]
  else if k = 14 then []
  else if k = 15 then []
  else if k = 16 then [] else []
def CutRes (k : Int) (w : World) (e : Ending) (w' : World) : Prop := e = .returned (.tuple #[.string (bs (nameL k)), .string (bs (lettersL k)), .bool true]) ∧ ∃ n, w' = w.drewN n
theorem cut28 (s : ByteArray) (i : Nat) (w : World) (hi : Lib.indexByte s.data.toList 32 = i) (hs : i < s.size) (hb : s.size ≤ 100) :
    Calls Tryd.prog 28 #[.string s, .string ⟨#[32]⟩] w (fun e w' => e = .returned (.tuple #[.string (s.extract 0 i), .string (s.extract (i + 1) s.size), .bool true]) ∧ ∃ n, w' = w.drewN n) := by
  have HI := Lib.hid (Tryd.stringslite_Index_one s 32 w)
  rw [hi] at HI
  have h1 : (i : Int) ≤ (s.size : Int) := by omega
  have h2 : (i : Int) + 1 ≤ (s.size : Int) := by omega
  go_enter Tryd.func28, Tryd.ntmps28
  go_wp2_with fail
  refine HI.out.mono ?_
  rintro e w1 ⟨rfl, rfl⟩
  go_wp2_with fail
  have h3 : ((i : Int) + 1).toNat = i + 1 := by omega
  have h4 : wrap64 ((i : Int) + 1) = (i : Int) + 1 := by unfold wrap64; omega
  go_quiet (fail)
  go_wp2_with fail
  go_ret3
  exact ⟨rfl, _, rfl⟩
theorem widx1 (w : World) : (Instr.index 74 (.agg #[.string ⟨#[105, 110, 115, 101, 114, 116, 32, 97, 116]⟩, .string ⟨#[100, 101, 108, 101, 116, 101, 32, 97, 110]⟩, .string ⟨#[115, 101, 116, 32, 105, 97, 103]⟩, .string ⟨#[100, 114, 111, 112, 32, 105]⟩, .string ⟨#[97, 99, 113, 117, 105, 114, 101, 32]⟩, .string ⟨#[108, 101, 110, 32, 115]⟩, .string ⟨#[114, 101, 97, 100, 32, 115, 97, 110]⟩, .string ⟨#[114, 117, 110, 101, 32, 115, 110]⟩, .string ⟨#[108, 105, 110, 101, 32, 115, 110]⟩, .string ⟨#[109, 97, 114, 107, 32, 115, 105]⟩, .string ⟨#[115, 101, 101, 107, 32, 115, 97]⟩, .string ⟨#[110, 101, 120, 116, 32, 115, 110]⟩, .string ⟨#[114, 101, 108, 101, 97, 115, 101, 32, 115]⟩, .string ⟨#[115, 117, 98, 115, 99, 114, 105, 98, 101, 32]⟩, .string ⟨#[114, 101, 99, 101, 105, 118, 101, 32]⟩, .string ⟨#[99, 108, 111, 115, 101, 32]⟩]) (.int .u8 0)).run Tryd.prog w = .ok (.string ⟨#[105, 110, 115, 101, 114, 116, 32, 97, 116]⟩) w := by kernel_rfl
theorem words1 (w : World) : Calls Tryd.prog 14 #[.int .u8 1] w (fun e w' => e = .returned (.string ⟨#[105, 110, 115, 101, 114, 116, 32, 97, 116]⟩) ∧ w' = w) := by
  have hw := widx1
  go_enter Tryd.func14, Tryd.ntmps14
  go_wp2
  go_ret
  exact ⟨rfl, rfl⟩
theorem widx2 (w : World) : (Instr.index 74 (.agg #[.string ⟨#[105, 110, 115, 101, 114, 116, 32, 97, 116]⟩, .string ⟨#[100, 101, 108, 101, 116, 101, 32, 97, 110]⟩, .string ⟨#[115, 101, 116, 32, 105, 97, 103]⟩, .string ⟨#[100, 114, 111, 112, 32, 105]⟩, .string ⟨#[97, 99, 113, 117, 105, 114, 101, 32]⟩, .string ⟨#[108, 101, 110, 32, 115]⟩, .string ⟨#[114, 101, 97, 100, 32, 115, 97, 110]⟩, .string ⟨#[114, 117, 110, 101, 32, 115, 110]⟩, .string ⟨#[108, 105, 110, 101, 32, 115, 110]⟩, .string ⟨#[109, 97, 114, 107, 32, 115, 105]⟩, .string ⟨#[115, 101, 101, 107, 32, 115, 97]⟩, .string ⟨#[110, 101, 120, 116, 32, 115, 110]⟩, .string ⟨#[114, 101, 108, 101, 97, 115, 101, 32, 115]⟩, .string ⟨#[115, 117, 98, 115, 99, 114, 105, 98, 101, 32]⟩, .string ⟨#[114, 101, 99, 101, 105, 118, 101, 32]⟩, .string ⟨#[99, 108, 111, 115, 101, 32]⟩]) (.int .u8 1)).run Tryd.prog w = .ok (.string ⟨#[100, 101, 108, 101, 116, 101, 32, 97, 110]⟩) w := by kernel_rfl
theorem words2 (w : World) : Calls Tryd.prog 14 #[.int .u8 2] w (fun e w' => e = .returned (.string ⟨#[100, 101, 108, 101, 116, 101, 32, 97, 110]⟩) ∧ w' = w) := by
  have hw := widx2
  go_enter Tryd.func14, Tryd.ntmps14
  go_wp2
  go_ret
  exact ⟨rfl, rfl⟩
theorem widx3 (w : World) : (Instr.index 74 (.agg #[.string ⟨#[105, 110, 115, 101, 114, 116, 32, 97, 116]⟩, .string ⟨#[100, 101, 108, 101, 116, 101, 32, 97, 110]⟩, .string ⟨#[115, 101, 116, 32, 105, 97, 103]⟩, .string ⟨#[100, 114, 111, 112, 32, 105]⟩, .string ⟨#[97, 99, 113, 117, 105, 114, 101, 32]⟩, .string ⟨#[108, 101, 110, 32, 115]⟩, .string ⟨#[114, 101, 97, 100, 32, 115, 97, 110]⟩, .string ⟨#[114, 117, 110, 101, 32, 115, 110]⟩, .string ⟨#[108, 105, 110, 101, 32, 115, 110]⟩, .string ⟨#[109, 97, 114, 107, 32, 115, 105]⟩, .string ⟨#[115, 101, 101, 107, 32, 115, 97]⟩, .string ⟨#[110, 101, 120, 116, 32, 115, 110]⟩, .string ⟨#[114, 101, 108, 101, 97, 115, 101, 32, 115]⟩, .string ⟨#[115, 117, 98, 115, 99, 114, 105, 98, 101, 32]⟩, .string ⟨#[114, 101, 99, 101, 105, 118, 101, 32]⟩, .string ⟨#[99, 108, 111, 115, 101, 32]⟩]) (.int .u8 2)).run Tryd.prog w = .ok (.string ⟨#[115, 101, 116, 32, 105, 97, 103]⟩) w := by kernel_rfl
theorem words3 (w : World) : Calls Tryd.prog 14 #[.int .u8 3] w (fun e w' => e = .returned (.string ⟨#[115, 101, 116, 32, 105, 97, 103]⟩) ∧ w' = w) := by
  have hw := widx3
  go_enter Tryd.func14, Tryd.ntmps14
  go_wp2
  go_ret
  exact ⟨rfl, rfl⟩
theorem widx4 (w : World) : (Instr.index 74 (.agg #[.string ⟨#[105, 110, 115, 101, 114, 116, 32, 97, 116]⟩, .string ⟨#[100, 101, 108, 101, 116, 101, 32, 97, 110]⟩, .string ⟨#[115, 101, 116, 32, 105, 97, 103]⟩, .string ⟨#[100, 114, 111, 112, 32, 105]⟩, .string ⟨#[97, 99, 113, 117, 105, 114, 101, 32]⟩, .string ⟨#[108, 101, 110, 32, 115]⟩, .string ⟨#[114, 101, 97, 100, 32, 115, 97, 110]⟩, .string ⟨#[114, 117, 110, 101, 32, 115, 110]⟩, .string ⟨#[108, 105, 110, 101, 32, 115, 110]⟩, .string ⟨#[109, 97, 114, 107, 32, 115, 105]⟩, .string ⟨#[115, 101, 101, 107, 32, 115, 97]⟩, .string ⟨#[110, 101, 120, 116, 32, 115, 110]⟩, .string ⟨#[114, 101, 108, 101, 97, 115, 101, 32, 115]⟩, .string ⟨#[115, 117, 98, 115, 99, 114, 105, 98, 101, 32]⟩, .string ⟨#[114, 101, 99, 101, 105, 118, 101, 32]⟩, .string ⟨#[99, 108, 111, 115, 101, 32]⟩]) (.int .u8 3)).run Tryd.prog w = .ok (.string ⟨#[100, 114, 111, 112, 32, 105]⟩) w := by kernel_rfl
theorem words4 (w : World) : Calls Tryd.prog 14 #[.int .u8 4] w (fun e w' => e = .returned (.string ⟨#[100, 114, 111, 112, 32, 105]⟩) ∧ w' = w) := by
  have hw := widx4
  go_enter Tryd.func14, Tryd.ntmps14
  go_wp2
  go_ret
  exact ⟨rfl, rfl⟩
theorem widx5 (w : World) : (Instr.index 74 (.agg #[.string ⟨#[105, 110, 115, 101, 114, 116, 32, 97, 116]⟩, .string ⟨#[100, 101, 108, 101, 116, 101, 32, 97, 110]⟩, .string ⟨#[115, 101, 116, 32, 105, 97, 103]⟩, .string ⟨#[100, 114, 111, 112, 32, 105]⟩, .string ⟨#[97, 99, 113, 117, 105, 114, 101, 32]⟩, .string ⟨#[108, 101, 110, 32, 115]⟩, .string ⟨#[114, 101, 97, 100, 32, 115, 97, 110]⟩, .string ⟨#[114, 117, 110, 101, 32, 115, 110]⟩, .string ⟨#[108, 105, 110, 101, 32, 115, 110]⟩, .string ⟨#[109, 97, 114, 107, 32, 115, 105]⟩, .string ⟨#[115, 101, 101, 107, 32, 115, 97]⟩, .string ⟨#[110, 101, 120, 116, 32, 115, 110]⟩, .string ⟨#[114, 101, 108, 101, 97, 115, 101, 32, 115]⟩, .string ⟨#[115, 117, 98, 115, 99, 114, 105, 98, 101, 32]⟩, .string ⟨#[114, 101, 99, 101, 105, 118, 101, 32]⟩, .string ⟨#[99, 108, 111, 115, 101, 32]⟩]) (.int .u8 4)).run Tryd.prog w = .ok (.string ⟨#[97, 99, 113, 117, 105, 114, 101, 32]⟩) w := by kernel_rfl
theorem words5 (w : World) : Calls Tryd.prog 14 #[.int .u8 5] w (fun e w' => e = .returned (.string ⟨#[97, 99, 113, 117, 105, 114, 101, 32]⟩) ∧ w' = w) := by
  have hw := widx5
  go_enter Tryd.func14, Tryd.ntmps14
  go_wp2
  go_ret
  exact ⟨rfl, rfl⟩
theorem widx6 (w : World) : (Instr.index 74 (.agg #[.string ⟨#[105, 110, 115, 101, 114, 116, 32, 97, 116]⟩, .string ⟨#[100, 101, 108, 101, 116, 101, 32, 97, 110]⟩, .string ⟨#[115, 101, 116, 32, 105, 97, 103]⟩, .string ⟨#[100, 114, 111, 112, 32, 105]⟩, .string ⟨#[97, 99, 113, 117, 105, 114, 101, 32]⟩, .string ⟨#[108, 101, 110, 32, 115]⟩, .string ⟨#[114, 101, 97, 100, 32, 115, 97, 110]⟩, .string ⟨#[114, 117, 110, 101, 32, 115, 110]⟩, .string ⟨#[108, 105, 110, 101, 32, 115, 110]⟩, .string ⟨#[109, 97, 114, 107, 32, 115, 105]⟩, .string ⟨#[115, 101, 101, 107, 32, 115, 97]⟩, .string ⟨#[110, 101, 120, 116, 32, 115, 110]⟩, .string ⟨#[114, 101, 108, 101, 97, 115, 101, 32, 115]⟩, .string ⟨#[115, 117, 98, 115, 99, 114, 105, 98, 101, 32]⟩, .string ⟨#[114, 101, 99, 101, 105, 118, 101, 32]⟩, .string ⟨#[99, 108, 111, 115, 101, 32]⟩]) (.int .u8 5)).run Tryd.prog w = .ok (.string ⟨#[108, 101, 110, 32, 115]⟩) w := by kernel_rfl
theorem words6 (w : World) : Calls Tryd.prog 14 #[.int .u8 6] w (fun e w' => e = .returned (.string ⟨#[108, 101, 110, 32, 115]⟩) ∧ w' = w) := by
  have hw := widx6
  go_enter Tryd.func14, Tryd.ntmps14
  go_wp2
  go_ret
  exact ⟨rfl, rfl⟩
theorem widx7 (w : World) : (Instr.index 74 (.agg #[.string ⟨#[105, 110, 115, 101, 114, 116, 32, 97, 116]⟩, .string ⟨#[100, 101, 108, 101, 116, 101, 32, 97, 110]⟩, .string ⟨#[115, 101, 116, 32, 105, 97, 103]⟩, .string ⟨#[100, 114, 111, 112, 32, 105]⟩, .string ⟨#[97, 99, 113, 117, 105, 114, 101, 32]⟩, .string ⟨#[108, 101, 110, 32, 115]⟩, .string ⟨#[114, 101, 97, 100, 32, 115, 97, 110]⟩, .string ⟨#[114, 117, 110, 101, 32, 115, 110]⟩, .string ⟨#[108, 105, 110, 101, 32, 115, 110]⟩, .string ⟨#[109, 97, 114, 107, 32, 115, 105]⟩, .string ⟨#[115, 101, 101, 107, 32, 115, 97]⟩, .string ⟨#[110, 101, 120, 116, 32, 115, 110]⟩, .string ⟨#[114, 101, 108, 101, 97, 115, 101, 32, 115]⟩, .string ⟨#[115, 117, 98, 115, 99, 114, 105, 98, 101, 32]⟩, .string ⟨#[114, 101, 99, 101, 105, 118, 101, 32]⟩, .string ⟨#[99, 108, 111, 115, 101, 32]⟩]) (.int .u8 6)).run Tryd.prog w = .ok (.string ⟨#[114, 101, 97, 100, 32, 115, 97, 110]⟩) w := by kernel_rfl
theorem words7 (w : World) : Calls Tryd.prog 14 #[.int .u8 7] w (fun e w' => e = .returned (.string ⟨#[114, 101, 97, 100, 32, 115, 97, 110]⟩) ∧ w' = w) := by
  have hw := widx7
  go_enter Tryd.func14, Tryd.ntmps14
  go_wp2
  go_ret
  exact ⟨rfl, rfl⟩
theorem widx8 (w : World) : (Instr.index 74 (.agg #[.string ⟨#[105, 110, 115, 101, 114, 116, 32, 97, 116]⟩, .string ⟨#[100, 101, 108, 101, 116, 101, 32, 97, 110]⟩, .string ⟨#[115, 101, 116, 32, 105, 97, 103]⟩, .string ⟨#[100, 114, 111, 112, 32, 105]⟩, .string ⟨#[97, 99, 113, 117, 105, 114, 101, 32]⟩, .string ⟨#[108, 101, 110, 32, 115]⟩, .string ⟨#[114, 101, 97, 100, 32, 115, 97, 110]⟩, .string ⟨#[114, 117, 110, 101, 32, 115, 110]⟩, .string ⟨#[108, 105, 110, 101, 32, 115, 110]⟩, .string ⟨#[109, 97, 114, 107, 32, 115, 105]⟩, .string ⟨#[115, 101, 101, 107, 32, 115, 97]⟩, .string ⟨#[110, 101, 120, 116, 32, 115, 110]⟩, .string ⟨#[114, 101, 108, 101, 97, 115, 101, 32, 115]⟩, .string ⟨#[115, 117, 98, 115, 99, 114, 105, 98, 101, 32]⟩, .string ⟨#[114, 101, 99, 101, 105, 118, 101, 32]⟩, .string ⟨#[99, 108, 111, 115, 101, 32]⟩]) (.int .u8 7)).run Tryd.prog w = .ok (.string ⟨#[114, 117, 110, 101, 32, 115, 110]⟩) w := by kernel_rfl
theorem words8 (w : World) : Calls Tryd.prog 14 #[.int .u8 8] w (fun e w' => e = .returned (.string ⟨#[114, 117, 110, 101, 32, 115, 110]⟩) ∧ w' = w) := by
  have hw := widx8
  go_enter Tryd.func14, Tryd.ntmps14
  go_wp2
  go_ret
  exact ⟨rfl, rfl⟩
theorem widx9 (w : World) : (Instr.index 74 (.agg #[.string ⟨#[105, 110, 115, 101, 114, 116, 32, 97, 116]⟩, .string ⟨#[100, 101, 108, 101, 116, 101, 32, 97, 110]⟩, .string ⟨#[115, 101, 116, 32, 105, 97, 103]⟩, .string ⟨#[100, 114, 111, 112, 32, 105]⟩, .string ⟨#[97, 99, 113, 117, 105, 114, 101, 32]⟩, .string ⟨#[108, 101, 110, 32, 115]⟩, .string ⟨#[114, 101, 97, 100, 32, 115, 97, 110]⟩, .string ⟨#[114, 117, 110, 101, 32, 115, 110]⟩, .string ⟨#[108, 105, 110, 101, 32, 115, 110]⟩, .string ⟨#[109, 97, 114, 107, 32, 115, 105]⟩, .string ⟨#[115, 101, 101, 107, 32, 115, 97]⟩, .string ⟨#[110, 101, 120, 116, 32, 115, 110]⟩, .string ⟨#[114, 101, 108, 101, 97, 115, 101, 32, 115]⟩, .string ⟨#[115, 117, 98, 115, 99, 114, 105, 98, 101, 32]⟩, .string ⟨#[114, 101, 99, 101, 105, 118, 101, 32]⟩, .string ⟨#[99, 108, 111, 115, 101, 32]⟩]) (.int .u8 8)).run Tryd.prog w = .ok (.string ⟨#[108, 105, 110, 101, 32, 115, 110]⟩) w := by kernel_rfl
theorem words9 (w : World) : Calls Tryd.prog 14 #[.int .u8 9] w (fun e w' => e = .returned (.string ⟨#[108, 105, 110, 101, 32, 115, 110]⟩) ∧ w' = w) := by
  have hw := widx9
  go_enter Tryd.func14, Tryd.ntmps14
  go_wp2
  go_ret
  exact ⟨rfl, rfl⟩
theorem widx10 (w : World) : (Instr.index 74 (.agg #[.string ⟨#[105, 110, 115, 101, 114, 116, 32, 97, 116]⟩, .string ⟨#[100, 101, 108, 101, 116, 101, 32, 97, 110]⟩, .string ⟨#[115, 101, 116, 32, 105, 97, 103]⟩, .string ⟨#[100, 114, 111, 112, 32, 105]⟩, .string ⟨#[97, 99, 113, 117, 105, 114, 101, 32]⟩, .string ⟨#[108, 101, 110, 32, 115]⟩, .string ⟨#[114, 101, 97, 100, 32, 115, 97, 110]⟩, .string ⟨#[114, 117, 110, 101, 32, 115, 110]⟩, .string ⟨#[108, 105, 110, 101, 32, 115, 110]⟩, .string ⟨#[109, 97, 114, 107, 32, 115, 105]⟩, .string ⟨#[115, 101, 101, 107, 32, 115, 97]⟩, .string ⟨#[110, 101, 120, 116, 32, 115, 110]⟩, .string ⟨#[114, 101, 108, 101, 97, 115, 101, 32, 115]⟩, .string ⟨#[115, 117, 98, 115, 99, 114, 105, 98, 101, 32]⟩, .string ⟨#[114, 101, 99, 101, 105, 118, 101, 32]⟩, .string ⟨#[99, 108, 111, 115, 101, 32]⟩]) (.int .u8 9)).run Tryd.prog w = .ok (.string ⟨#[109, 97, 114, 107, 32, 115, 105]⟩) w := by kernel_rfl
theorem words10 (w : World) : Calls Tryd.prog 14 #[.int .u8 10] w (fun e w' => e = .returned (.string ⟨#[109, 97, 114, 107, 32, 115, 105]⟩) ∧ w' = w) := by
  have hw := widx10
  go_enter Tryd.func14, Tryd.ntmps14
  go_wp2
  go_ret
  exact ⟨rfl, rfl⟩
theorem widx11 (w : World) : (Instr.index 74 (.agg #[.string ⟨#[105, 110, 115, 101, 114, 116, 32, 97, 116]⟩, .string ⟨#[100, 101, 108, 101, 116, 101, 32, 97, 110]⟩, .string ⟨#[115, 101, 116, 32, 105, 97, 103]⟩, .string ⟨#[100, 114, 111, 112, 32, 105]⟩, .string ⟨#[97, 99, 113, 117, 105, 114, 101, 32]⟩, .string ⟨#[108, 101, 110, 32, 115]⟩, .string ⟨#[114, 101, 97, 100, 32, 115, 97, 110]⟩, .string ⟨#[114, 117, 110, 101, 32, 115, 110]⟩, .string ⟨#[108, 105, 110, 101, 32, 115, 110]⟩, .string ⟨#[109, 97, 114, 107, 32, 115, 105]⟩, .string ⟨#[115, 101, 101, 107, 32, 115, 97]⟩, .string ⟨#[110, 101, 120, 116, 32, 115, 110]⟩, .string ⟨#[114, 101, 108, 101, 97, 115, 101, 32, 115]⟩, .string ⟨#[115, 117, 98, 115, 99, 114, 105, 98, 101, 32]⟩, .string ⟨#[114, 101, 99, 101, 105, 118, 101, 32]⟩, .string ⟨#[99, 108, 111, 115, 101, 32]⟩]) (.int .u8 10)).run Tryd.prog w = .ok (.string ⟨#[115, 101, 101, 107, 32, 115, 97]⟩) w := by kernel_rfl
theorem words11 (w : World) : Calls Tryd.prog 14 #[.int .u8 11] w (fun e w' => e = .returned (.string ⟨#[115, 101, 101, 107, 32, 115, 97]⟩) ∧ w' = w) := by
  have hw := widx11
  go_enter Tryd.func14, Tryd.ntmps14
  go_wp2
  go_ret
  exact ⟨rfl, rfl⟩
theorem widx12 (w : World) : (Instr.index 74 (.agg #[.string ⟨#[105, 110, 115, 101, 114, 116, 32, 97, 116]⟩, .string ⟨#[100, 101, 108, 101, 116, 101, 32, 97, 110]⟩, .string ⟨#[115, 101, 116, 32, 105, 97, 103]⟩, .string ⟨#[100, 114, 111, 112, 32, 105]⟩, .string ⟨#[97, 99, 113, 117, 105, 114, 101, 32]⟩, .string ⟨#[108, 101, 110, 32, 115]⟩, .string ⟨#[114, 101, 97, 100, 32, 115, 97, 110]⟩, .string ⟨#[114, 117, 110, 101, 32, 115, 110]⟩, .string ⟨#[108, 105, 110, 101, 32, 115, 110]⟩, .string ⟨#[109, 97, 114, 107, 32, 115, 105]⟩, .string ⟨#[115, 101, 101, 107, 32, 115, 97]⟩, .string ⟨#[110, 101, 120, 116, 32, 115, 110]⟩, .string ⟨#[114, 101, 108, 101, 97, 115, 101, 32, 115]⟩, .string ⟨#[115, 117, 98, 115, 99, 114, 105, 98, 101, 32]⟩, .string ⟨#[114, 101, 99, 101, 105, 118, 101, 32]⟩, .string ⟨#[99, 108, 111, 115, 101, 32]⟩]) (.int .u8 11)).run Tryd.prog w = .ok (.string ⟨#[110, 101, 120, 116, 32, 115, 110]⟩) w := by kernel_rfl
theorem words12 (w : World) : Calls Tryd.prog 14 #[.int .u8 12] w (fun e w' => e = .returned (.string ⟨#[110, 101, 120, 116, 32, 115, 110]⟩) ∧ w' = w) := by
  have hw := widx12
  go_enter Tryd.func14, Tryd.ntmps14
  go_wp2
  go_ret
  exact ⟨rfl, rfl⟩
theorem widx13 (w : World) : (Instr.index 74 (.agg #[.string ⟨#[105, 110, 115, 101, 114, 116, 32, 97, 116]⟩, .string ⟨#[100, 101, 108, 101, 116, 101, 32, 97, 110]⟩, .string ⟨#[115, 101, 116, 32, 105, 97, 103]⟩, .string ⟨#[100, 114, 111, 112, 32, 105]⟩, .string ⟨#[97, 99, 113, 117, 105, 114, 101, 32]⟩, .string ⟨#[108, 101, 110, 32, 115]⟩, .string ⟨#[114, 101, 97, 100, 32, 115, 97, 110]⟩, .string ⟨#[114, 117, 110, 101, 32, 115, 110]⟩, .string ⟨#[108, 105, 110, 101, 32, 115, 110]⟩, .string ⟨#[109, 97, 114, 107, 32, 115, 105]⟩, .string ⟨#[115, 101, 101, 107, 32, 115, 97]⟩, .string ⟨#[110, 101, 120, 116, 32, 115, 110]⟩, .string ⟨#[114, 101, 108, 101, 97, 115, 101, 32, 115]⟩, .string ⟨#[115, 117, 98, 115, 99, 114, 105, 98, 101, 32]⟩, .string ⟨#[114, 101, 99, 101, 105, 118, 101, 32]⟩, .string ⟨#[99, 108, 111, 115, 101, 32]⟩]) (.int .u8 12)).run Tryd.prog w = .ok (.string ⟨#[114, 101, 108, 101, 97, 115, 101, 32, 115]⟩) w := by kernel_rfl
theorem words13 (w : World) : Calls Tryd.prog 14 #[.int .u8 13] w (fun e w' => e = .returned (.string ⟨#[114, 101, 108, 101, 97, 115, 101, 32, 115]⟩) ∧ w' = w) := by
  have hw := widx13
  go_enter Tryd.func14, Tryd.ntmps14
  go_wp2
  go_ret
  exact ⟨rfl, rfl⟩
theorem widx14 (w : World) : (Instr.index 74 (.agg #[.string ⟨#[105, 110, 115, 101, 114, 116, 32, 97, 116]⟩, .string ⟨#[100, 101, 108, 101, 116, 101, 32, 97, 110]⟩, .string ⟨#[115, 101, 116, 32, 105, 97, 103]⟩, .string ⟨#[100, 114, 111, 112, 32, 105]⟩, .string ⟨#[97, 99, 113, 117, 105, 114, 101, 32]⟩, .string ⟨#[108, 101, 110, 32, 115]⟩, .string ⟨#[114, 101, 97, 100, 32, 115, 97, 110]⟩, .string ⟨#[114, 117, 110, 101, 32, 115, 110]⟩, .string ⟨#[108, 105, 110, 101, 32, 115, 110]⟩, .string ⟨#[109, 97, 114, 107, 32, 115, 105]⟩, .string ⟨#[115, 101, 101, 107, 32, 115, 97]⟩, .string ⟨#[110, 101, 120, 116, 32, 115, 110]⟩, .string ⟨#[114, 101, 108, 101, 97, 115, 101, 32, 115]⟩, .string ⟨#[115, 117, 98, 115, 99, 114, 105, 98, 101, 32]⟩, .string ⟨#[114, 101, 99, 101, 105, 118, 101, 32]⟩, .string ⟨#[99, 108, 111, 115, 101, 32]⟩]) (.int .u8 13)).run Tryd.prog w = .ok (.string ⟨#[115, 117, 98, 115, 99, 114, 105, 98, 101, 32]⟩) w := by kernel_rfl
theorem words14 (w : World) : Calls Tryd.prog 14 #[.int .u8 14] w (fun e w' => e = .returned (.string ⟨#[115, 117, 98, 115, 99, 114, 105, 98, 101, 32]⟩) ∧ w' = w) := by
  have hw := widx14
  go_enter Tryd.func14, Tryd.ntmps14
  go_wp2
  go_ret
  exact ⟨rfl, rfl⟩
theorem widx15 (w : World) : (Instr.index 74 (.agg #[.string ⟨#[105, 110, 115, 101, 114, 116, 32, 97, 116]⟩, .string ⟨#[100, 101, 108, 101, 116, 101, 32, 97, 110]⟩, .string ⟨#[115, 101, 116, 32, 105, 97, 103]⟩, .string ⟨#[100, 114, 111, 112, 32, 105]⟩, .string ⟨#[97, 99, 113, 117, 105, 114, 101, 32]⟩, .string ⟨#[108, 101, 110, 32, 115]⟩, .string ⟨#[114, 101, 97, 100, 32, 115, 97, 110]⟩, .string ⟨#[114, 117, 110, 101, 32, 115, 110]⟩, .string ⟨#[108, 105, 110, 101, 32, 115, 110]⟩, .string ⟨#[109, 97, 114, 107, 32, 115, 105]⟩, .string ⟨#[115, 101, 101, 107, 32, 115, 97]⟩, .string ⟨#[110, 101, 120, 116, 32, 115, 110]⟩, .string ⟨#[114, 101, 108, 101, 97, 115, 101, 32, 115]⟩, .string ⟨#[115, 117, 98, 115, 99, 114, 105, 98, 101, 32]⟩, .string ⟨#[114, 101, 99, 101, 105, 118, 101, 32]⟩, .string ⟨#[99, 108, 111, 115, 101, 32]⟩]) (.int .u8 14)).run Tryd.prog w = .ok (.string ⟨#[114, 101, 99, 101, 105, 118, 101, 32]⟩) w := by kernel_rfl
theorem words15 (w : World) : Calls Tryd.prog 14 #[.int .u8 15] w (fun e w' => e = .returned (.string ⟨#[114, 101, 99, 101, 105, 118, 101, 32]⟩) ∧ w' = w) := by
  have hw := widx15
  go_enter Tryd.func14, Tryd.ntmps14
  go_wp2
  go_ret
  exact ⟨rfl, rfl⟩
theorem widx16 (w : World) : (Instr.index 74 (.agg #[.string ⟨#[105, 110, 115, 101, 114, 116, 32, 97, 116]⟩, .string ⟨#[100, 101, 108, 101, 116, 101, 32, 97, 110]⟩, .string ⟨#[115, 101, 116, 32, 105, 97, 103]⟩, .string ⟨#[100, 114, 111, 112, 32, 105]⟩, .string ⟨#[97, 99, 113, 117, 105, 114, 101, 32]⟩, .string ⟨#[108, 101, 110, 32, 115]⟩, .string ⟨#[114, 101, 97, 100, 32, 115, 97, 110]⟩, .string ⟨#[114, 117, 110, 101, 32, 115, 110]⟩, .string ⟨#[108, 105, 110, 101, 32, 115, 110]⟩, .string ⟨#[109, 97, 114, 107, 32, 115, 105]⟩, .string ⟨#[115, 101, 101, 107, 32, 115, 97]⟩, .string ⟨#[110, 101, 120, 116, 32, 115, 110]⟩, .string ⟨#[114, 101, 108, 101, 97, 115, 101, 32, 115]⟩, .string ⟨#[115, 117, 98, 115, 99, 114, 105, 98, 101, 32]⟩, .string ⟨#[114, 101, 99, 101, 105, 118, 101, 32]⟩, .string ⟨#[99, 108, 111, 115, 101, 32]⟩]) (.int .u8 15)).run Tryd.prog w = .ok (.string ⟨#[99, 108, 111, 115, 101, 32]⟩) w := by kernel_rfl
theorem words16 (w : World) : Calls Tryd.prog 14 #[.int .u8 16] w (fun e w' => e = .returned (.string ⟨#[99, 108, 111, 115, 101, 32]⟩) ∧ w' = w) := by
  have hw := widx16
  go_enter Tryd.func14, Tryd.ntmps14
  go_wp2
  go_ret
  exact ⟨rfl, rfl⟩
theorem cut1 (w : World) : Calls Tryd.prog 13 #[.string ⟨#[105, 110, 115, 101, 114, 116, 32, 97, 116]⟩, .string ⟨#[32]⟩] w (CutRes 1 w) := by
  have H := Lib.hid (fun W : World => cut28 ⟨#[105, 110, 115, 101, 114, 116, 32, 97, 116]⟩ 6 W (by decide) (by decide) (by decide))
  have e1 : (⟨#[105, 110, 115, 101, 114, 116, 32, 97, 116]⟩ : ByteArray).extract 0 6 = bs (nameL 1) := by decide +kernel
  have e2 : (⟨#[105, 110, 115, 101, 114, 116, 32, 97, 116]⟩ : ByteArray).extract (6 + 1) (⟨#[105, 110, 115, 101, 114, 116, 32, 97, 116]⟩ : ByteArray).size = bs (lettersL 1) := by decide +kernel
  rw [e1, e2] at H
  go_enter Tryd.func13, Tryd.ntmps13
  go_wp2_with fail
  refine (H.out _).mono ?_
  rintro e w1 ⟨rfl, hn⟩
  go_wp2_with fail
  go_ret3
  exact ⟨rfl, hn⟩
theorem cut2 (w : World) : Calls Tryd.prog 13 #[.string ⟨#[100, 101, 108, 101, 116, 101, 32, 97, 110]⟩, .string ⟨#[32]⟩] w (CutRes 2 w) := by
  have H := Lib.hid (fun W : World => cut28 ⟨#[100, 101, 108, 101, 116, 101, 32, 97, 110]⟩ 6 W (by decide) (by decide) (by decide))
  have e1 : (⟨#[100, 101, 108, 101, 116, 101, 32, 97, 110]⟩ : ByteArray).extract 0 6 = bs (nameL 2) := by decide +kernel
  have e2 : (⟨#[100, 101, 108, 101, 116, 101, 32, 97, 110]⟩ : ByteArray).extract (6 + 1) (⟨#[100, 101, 108, 101, 116, 101, 32, 97, 110]⟩ : ByteArray).size = bs (lettersL 2) := by decide +kernel
  rw [e1, e2] at H
  go_enter Tryd.func13, Tryd.ntmps13
  go_wp2_with fail
  refine (H.out _).mono ?_
  rintro e w1 ⟨rfl, hn⟩
  go_wp2_with fail
  go_ret3
  exact ⟨rfl, hn⟩
theorem cut3 (w : World) : Calls Tryd.prog 13 #[.string ⟨#[115, 101, 116, 32, 105, 97, 103]⟩, .string ⟨#[32]⟩] w (CutRes 3 w) := by
  have H := Lib.hid (fun W : World => cut28 ⟨#[115, 101, 116, 32, 105, 97, 103]⟩ 3 W (by decide) (by decide) (by decide))
  have e1 : (⟨#[115, 101, 116, 32, 105, 97, 103]⟩ : ByteArray).extract 0 3 = bs (nameL 3) := by decide +kernel
  have e2 : (⟨#[115, 101, 116, 32, 105, 97, 103]⟩ : ByteArray).extract (3 + 1) (⟨#[115, 101, 116, 32, 105, 97, 103]⟩ : ByteArray).size = bs (lettersL 3) := by decide +kernel
  rw [e1, e2] at H
  go_enter Tryd.func13, Tryd.ntmps13
  go_wp2_with fail
  refine (H.out _).mono ?_
  rintro e w1 ⟨rfl, hn⟩
  go_wp2_with fail
  go_ret3
  exact ⟨rfl, hn⟩
theorem cut4 (w : World) : Calls Tryd.prog 13 #[.string ⟨#[100, 114, 111, 112, 32, 105]⟩, .string ⟨#[32]⟩] w (CutRes 4 w) := by
  have H := Lib.hid (fun W : World => cut28 ⟨#[100, 114, 111, 112, 32, 105]⟩ 4 W (by decide) (by decide) (by decide))
  have e1 : (⟨#[100, 114, 111, 112, 32, 105]⟩ : ByteArray).extract 0 4 = bs (nameL 4) := by decide +kernel
  have e2 : (⟨#[100, 114, 111, 112, 32, 105]⟩ : ByteArray).extract (4 + 1) (⟨#[100, 114, 111, 112, 32, 105]⟩ : ByteArray).size = bs (lettersL 4) := by decide +kernel
  rw [e1, e2] at H
  go_enter Tryd.func13, Tryd.ntmps13
  go_wp2_with fail
  refine (H.out _).mono ?_
  rintro e w1 ⟨rfl, hn⟩
  go_wp2_with fail
  go_ret3
  exact ⟨rfl, hn⟩
theorem cut5 (w : World) : Calls Tryd.prog 13 #[.string ⟨#[97, 99, 113, 117, 105, 114, 101, 32]⟩, .string ⟨#[32]⟩] w (CutRes 5 w) := by
  have H := Lib.hid (fun W : World => cut28 ⟨#[97, 99, 113, 117, 105, 114, 101, 32]⟩ 7 W (by decide) (by decide) (by decide))
  have e1 : (⟨#[97, 99, 113, 117, 105, 114, 101, 32]⟩ : ByteArray).extract 0 7 = bs (nameL 5) := by decide +kernel
  have e2 : (⟨#[97, 99, 113, 117, 105, 114, 101, 32]⟩ : ByteArray).extract (7 + 1) (⟨#[97, 99, 113, 117, 105, 114, 101, 32]⟩ : ByteArray).size = bs (lettersL 5) := by decide +kernel
  rw [e1, e2] at H
  go_enter Tryd.func13, Tryd.ntmps13
  go_wp2_with fail
  refine (H.out _).mono ?_
  rintro e w1 ⟨rfl, hn⟩
  go_wp2_with fail
  go_ret3
  exact ⟨rfl, hn⟩
theorem cut6 (w : World) : Calls Tryd.prog 13 #[.string ⟨#[108, 101, 110, 32, 115]⟩, .string ⟨#[32]⟩] w (CutRes 6 w) := by
  have H := Lib.hid (fun W : World => cut28 ⟨#[108, 101, 110, 32, 115]⟩ 3 W (by decide) (by decide) (by decide))
  have e1 : (⟨#[108, 101, 110, 32, 115]⟩ : ByteArray).extract 0 3 = bs (nameL 6) := by decide +kernel
  have e2 : (⟨#[108, 101, 110, 32, 115]⟩ : ByteArray).extract (3 + 1) (⟨#[108, 101, 110, 32, 115]⟩ : ByteArray).size = bs (lettersL 6) := by decide +kernel
  rw [e1, e2] at H
  go_enter Tryd.func13, Tryd.ntmps13
  go_wp2_with fail
  refine (H.out _).mono ?_
  rintro e w1 ⟨rfl, hn⟩
  go_wp2_with fail
  go_ret3
  exact ⟨rfl, hn⟩
theorem cut7 (w : World) : Calls Tryd.prog 13 #[.string ⟨#[114, 101, 97, 100, 32, 115, 97, 110]⟩, .string ⟨#[32]⟩] w (CutRes 7 w) := by
  have H := Lib.hid (fun W : World => cut28 ⟨#[114, 101, 97, 100, 32, 115, 97, 110]⟩ 4 W (by decide) (by decide) (by decide))
  have e1 : (⟨#[114, 101, 97, 100, 32, 115, 97, 110]⟩ : ByteArray).extract 0 4 = bs (nameL 7) := by decide +kernel
  have e2 : (⟨#[114, 101, 97, 100, 32, 115, 97, 110]⟩ : ByteArray).extract (4 + 1) (⟨#[114, 101, 97, 100, 32, 115, 97, 110]⟩ : ByteArray).size = bs (lettersL 7) := by decide +kernel
  rw [e1, e2] at H
  go_enter Tryd.func13, Tryd.ntmps13
  go_wp2_with fail
  refine (H.out _).mono ?_
  rintro e w1 ⟨rfl, hn⟩
  go_wp2_with fail
  go_ret3
  exact ⟨rfl, hn⟩
theorem cut8 (w : World) : Calls Tryd.prog 13 #[.string ⟨#[114, 117, 110, 101, 32, 115, 110]⟩, .string ⟨#[32]⟩] w (CutRes 8 w) := by
  have H := Lib.hid (fun W : World => cut28 ⟨#[114, 117, 110, 101, 32, 115, 110]⟩ 4 W (by decide) (by decide) (by decide))
  have e1 : (⟨#[114, 117, 110, 101, 32, 115, 110]⟩ : ByteArray).extract 0 4 = bs (nameL 8) := by decide +kernel
  have e2 : (⟨#[114, 117, 110, 101, 32, 115, 110]⟩ : ByteArray).extract (4 + 1) (⟨#[114, 117, 110, 101, 32, 115, 110]⟩ : ByteArray).size = bs (lettersL 8) := by decide +kernel
  rw [e1, e2] at H
  go_enter Tryd.func13, Tryd.ntmps13
  go_wp2_with fail
  refine (H.out _).mono ?_
  rintro e w1 ⟨rfl, hn⟩
  go_wp2_with fail
  go_ret3
  exact ⟨rfl, hn⟩
theorem cut9 (w : World) : Calls Tryd.prog 13 #[.string ⟨#[108, 105, 110, 101, 32, 115, 110]⟩, .string ⟨#[32]⟩] w (CutRes 9 w) := by
  have H := Lib.hid (fun W : World => cut28 ⟨#[108, 105, 110, 101, 32, 115, 110]⟩ 4 W (by decide) (by decide) (by decide))
  have e1 : (⟨#[108, 105, 110, 101, 32, 115, 110]⟩ : ByteArray).extract 0 4 = bs (nameL 9) := by decide +kernel
  have e2 : (⟨#[108, 105, 110, 101, 32, 115, 110]⟩ : ByteArray).extract (4 + 1) (⟨#[108, 105, 110, 101, 32, 115, 110]⟩ : ByteArray).size = bs (lettersL 9) := by decide +kernel
  rw [e1, e2] at H
  go_enter Tryd.func13, Tryd.ntmps13
  go_wp2_with fail
  refine (H.out _).mono ?_
  rintro e w1 ⟨rfl, hn⟩
  go_wp2_with fail
  go_ret3
  exact ⟨rfl, hn⟩
theorem cut10 (w : World) : Calls Tryd.prog 13 #[.string ⟨#[109, 97, 114, 107, 32, 115, 105]⟩, .string ⟨#[32]⟩] w (CutRes 10 w) := by
  have H := Lib.hid (fun W : World => cut28 ⟨#[109, 97, 114, 107, 32, 115, 105]⟩ 4 W (by decide) (by decide) (by decide))
  have e1 : (⟨#[109, 97, 114, 107, 32, 115, 105]⟩ : ByteArray).extract 0 4 = bs (nameL 10) := by decide +kernel
  have e2 : (⟨#[109, 97, 114, 107, 32, 115, 105]⟩ : ByteArray).extract (4 + 1) (⟨#[109, 97, 114, 107, 32, 115, 105]⟩ : ByteArray).size = bs (lettersL 10) := by decide +kernel
  rw [e1, e2] at H
  go_enter Tryd.func13, Tryd.ntmps13
  go_wp2_with fail
  refine (H.out _).mono ?_
  rintro e w1 ⟨rfl, hn⟩
  go_wp2_with fail
  go_ret3
  exact ⟨rfl, hn⟩
theorem cut11 (w : World) : Calls Tryd.prog 13 #[.string ⟨#[115, 101, 101, 107, 32, 115, 97]⟩, .string ⟨#[32]⟩] w (CutRes 11 w) := by
  have H := Lib.hid (fun W : World => cut28 ⟨#[115, 101, 101, 107, 32, 115, 97]⟩ 4 W (by decide) (by decide) (by decide))
  have e1 : (⟨#[115, 101, 101, 107, 32, 115, 97]⟩ : ByteArray).extract 0 4 = bs (nameL 11) := by decide +kernel
  have e2 : (⟨#[115, 101, 101, 107, 32, 115, 97]⟩ : ByteArray).extract (4 + 1) (⟨#[115, 101, 101, 107, 32, 115, 97]⟩ : ByteArray).size = bs (lettersL 11) := by decide +kernel
  rw [e1, e2] at H
  go_enter Tryd.func13, Tryd.ntmps13
  go_wp2_with fail
  refine (H.out _).mono ?_
  rintro e w1 ⟨rfl, hn⟩
  go_wp2_with fail
  go_ret3
  exact ⟨rfl, hn⟩
theorem cut12 (w : World) : Calls Tryd.prog 13 #[.string ⟨#[110, 101, 120, 116, 32, 115, 110]⟩, .string ⟨#[32]⟩] w (CutRes 12 w) := by
  have H := Lib.hid (fun W : World => cut28 ⟨#[110, 101, 120, 116, 32, 115, 110]⟩ 4 W (by decide) (by decide) (by decide))
  have e1 : (⟨#[110, 101, 120, 116, 32, 115, 110]⟩ : ByteArray).extract 0 4 = bs (nameL 12) := by decide +kernel
  have e2 : (⟨#[110, 101, 120, 116, 32, 115, 110]⟩ : ByteArray).extract (4 + 1) (⟨#[110, 101, 120, 116, 32, 115, 110]⟩ : ByteArray).size = bs (lettersL 12) := by decide +kernel
  rw [e1, e2] at H
  go_enter Tryd.func13, Tryd.ntmps13
  go_wp2_with fail
  refine (H.out _).mono ?_
  rintro e w1 ⟨rfl, hn⟩
  go_wp2_with fail
  go_ret3
  exact ⟨rfl, hn⟩
theorem cut13 (w : World) : Calls Tryd.prog 13 #[.string ⟨#[114, 101, 108, 101, 97, 115, 101, 32, 115]⟩, .string ⟨#[32]⟩] w (CutRes 13 w) := by
  have H := Lib.hid (fun W : World => cut28 ⟨#[114, 101, 108, 101, 97, 115, 101, 32, 115]⟩ 7 W (by decide) (by decide) (by decide))
  have e1 : (⟨#[114, 101, 108, 101, 97, 115, 101, 32, 115]⟩ : ByteArray).extract 0 7 = bs (nameL 13) := by decide +kernel
  have e2 : (⟨#[114, 101, 108, 101, 97, 115, 101, 32, 115]⟩ : ByteArray).extract (7 + 1) (⟨#[114, 101, 108, 101, 97, 115, 101, 32, 115]⟩ : ByteArray).size = bs (lettersL 13) := by decide +kernel
  rw [e1, e2] at H
  go_enter Tryd.func13, Tryd.ntmps13
  go_wp2_with fail
  refine (H.out _).mono ?_
  rintro e w1 ⟨rfl, hn⟩
  go_wp2_with fail
  go_ret3
  exact ⟨rfl, hn⟩
theorem cut14 (w : World) : Calls Tryd.prog 13 #[.string ⟨#[115, 117, 98, 115, 99, 114, 105, 98, 101, 32]⟩, .string ⟨#[32]⟩] w (CutRes 14 w) := by
  have H := Lib.hid (fun W : World => cut28 ⟨#[115, 117, 98, 115, 99, 114, 105, 98, 101, 32]⟩ 9 W (by decide) (by decide) (by decide))
  have e1 : (⟨#[115, 117, 98, 115, 99, 114, 105, 98, 101, 32]⟩ : ByteArray).extract 0 9 = bs (nameL 14) := by decide +kernel
  have e2 : (⟨#[115, 117, 98, 115, 99, 114, 105, 98, 101, 32]⟩ : ByteArray).extract (9 + 1) (⟨#[115, 117, 98, 115, 99, 114, 105, 98, 101, 32]⟩ : ByteArray).size = bs (lettersL 14) := by decide +kernel
  rw [e1, e2] at H
  go_enter Tryd.func13, Tryd.ntmps13
  go_wp2_with fail
  refine (H.out _).mono ?_
  rintro e w1 ⟨rfl, hn⟩
  go_wp2_with fail
  go_ret3
  exact ⟨rfl, hn⟩
theorem cut15 (w : World) : Calls Tryd.prog 13 #[.string ⟨#[114, 101, 99, 101, 105, 118, 101, 32]⟩, .string ⟨#[32]⟩] w (CutRes 15 w) := by
  have H := Lib.hid (fun W : World => cut28 ⟨#[114, 101, 99, 101, 105, 118, 101, 32]⟩ 7 W (by decide) (by decide) (by decide))
  have e1 : (⟨#[114, 101, 99, 101, 105, 118, 101, 32]⟩ : ByteArray).extract 0 7 = bs (nameL 15) := by decide +kernel
  have e2 : (⟨#[114, 101, 99, 101, 105, 118, 101, 32]⟩ : ByteArray).extract (7 + 1) (⟨#[114, 101, 99, 101, 105, 118, 101, 32]⟩ : ByteArray).size = bs (lettersL 15) := by decide +kernel
  rw [e1, e2] at H
  go_enter Tryd.func13, Tryd.ntmps13
  go_wp2_with fail
  refine (H.out _).mono ?_
  rintro e w1 ⟨rfl, hn⟩
  go_wp2_with fail
  go_ret3
  exact ⟨rfl, hn⟩
theorem cut16 (w : World) : Calls Tryd.prog 13 #[.string ⟨#[99, 108, 111, 115, 101, 32]⟩, .string ⟨#[32]⟩] w (CutRes 16 w) := by
  have H := Lib.hid (fun W : World => cut28 ⟨#[99, 108, 111, 115, 101, 32]⟩ 5 W (by decide) (by decide) (by decide))
  have e1 : (⟨#[99, 108, 111, 115, 101, 32]⟩ : ByteArray).extract 0 5 = bs (nameL 16) := by decide +kernel
  have e2 : (⟨#[99, 108, 111, 115, 101, 32]⟩ : ByteArray).extract (5 + 1) (⟨#[99, 108, 111, 115, 101, 32]⟩ : ByteArray).size = bs (lettersL 16) := by decide +kernel
  rw [e1, e2] at H
  go_enter Tryd.func13, Tryd.ntmps13
  go_wp2_with fail
  refine (H.out _).mono ?_
  rintro e w1 ⟨rfl, hn⟩
  go_wp2_with fail
  go_ret3
  exact ⟨rfl, hn⟩
def wordS (k : Int) : ByteArray := bs (nameL k ++ 32 :: lettersL k)
theorem kind_cases {k : Int} (h1 : 1 ≤ k) (h2 : k ≤ 16) : k = 1 ∨ k = 2 ∨ k = 3 ∨ k = 4 ∨ k = 5 ∨ k = 6 ∨ k = 7 ∨ k = 8 ∨ k = 9 ∨ k = 10 ∨ k = 11 ∨ k = 12 ∨ k = 13 ∨ k = 14 ∨ k = 15 ∨ k = 16 := by omega
theorem wordsFn (k : Int) (h1 : 1 ≤ k) (h2 : k ≤ 16) (w : World) : Calls Tryd.prog 14 #[.int .u8 k] w (fun e w' => e = .returned (.string (wordS k)) ∧ w' = w) := by
  rcases kind_cases h1 h2 with rfl | rfl | rfl | rfl | rfl | rfl | rfl | rfl | rfl | rfl | rfl | rfl | rfl | rfl | rfl | rfl
  · have e : wordS 1 = ⟨#[105, 110, 115, 101, 114, 116, 32, 97, 116]⟩ := by decide +kernel
    rw [e]; exact words1 w
  · have e : wordS 2 = ⟨#[100, 101, 108, 101, 116, 101, 32, 97, 110]⟩ := by decide +kernel
    rw [e]; exact words2 w
  · have e : wordS 3 = ⟨#[115, 101, 116, 32, 105, 97, 103]⟩ := by decide +kernel
    rw [e]; exact words3 w
  · have e : wordS 4 = ⟨#[100, 114, 111, 112, 32, 105]⟩ := by decide +kernel
    rw [e]; exact words4 w
  · have e : wordS 5 = ⟨#[97, 99, 113, 117, 105, 114, 101, 32]⟩ := by decide +kernel
    rw [e]; exact words5 w
  · have e : wordS 6 = ⟨#[108, 101, 110, 32, 115]⟩ := by decide +kernel
    rw [e]; exact words6 w
  · have e : wordS 7 = ⟨#[114, 101, 97, 100, 32, 115, 97, 110]⟩ := by decide +kernel
    rw [e]; exact words7 w
  · have e : wordS 8 = ⟨#[114, 117, 110, 101, 32, 115, 110]⟩ := by decide +kernel
    rw [e]; exact words8 w
  · have e : wordS 9 = ⟨#[108, 105, 110, 101, 32, 115, 110]⟩ := by decide +kernel
    rw [e]; exact words9 w
  · have e : wordS 10 = ⟨#[109, 97, 114, 107, 32, 115, 105]⟩ := by decide +kernel
    rw [e]; exact words10 w
  · have e : wordS 11 = ⟨#[115, 101, 101, 107, 32, 115, 97]⟩ := by decide +kernel
    rw [e]; exact words11 w
  · have e : wordS 12 = ⟨#[110, 101, 120, 116, 32, 115, 110]⟩ := by decide +kernel
    rw [e]; exact words12 w
  · have e : wordS 13 = ⟨#[114, 101, 108, 101, 97, 115, 101, 32, 115]⟩ := by decide +kernel
    rw [e]; exact words13 w
  · have e : wordS 14 = ⟨#[115, 117, 98, 115, 99, 114, 105, 98, 101, 32]⟩ := by decide +kernel
    rw [e]; exact words14 w
  · have e : wordS 15 = ⟨#[114, 101, 99, 101, 105, 118, 101, 32]⟩ := by decide +kernel
    rw [e]; exact words15 w
  · have e : wordS 16 = ⟨#[99, 108, 111, 115, 101, 32]⟩ := by decide +kernel
    rw [e]; exact words16 w
theorem cutFn (k : Int) (h1 : 1 ≤ k) (h2 : k ≤ 16) (w : World) : Calls Tryd.prog 13 #[.string (wordS k), .string ⟨#[32]⟩] w (CutRes k w) := by
  rcases kind_cases h1 h2 with rfl | rfl | rfl | rfl | rfl | rfl | rfl | rfl | rfl | rfl | rfl | rfl | rfl | rfl | rfl | rfl
  · have e : wordS 1 = ⟨#[105, 110, 115, 101, 114, 116, 32, 97, 116]⟩ := by decide +kernel
    rw [e]; exact cut1 w
  · have e : wordS 2 = ⟨#[100, 101, 108, 101, 116, 101, 32, 97, 110]⟩ := by decide +kernel
    rw [e]; exact cut2 w
  · have e : wordS 3 = ⟨#[115, 101, 116, 32, 105, 97, 103]⟩ := by decide +kernel
    rw [e]; exact cut3 w
  · have e : wordS 4 = ⟨#[100, 114, 111, 112, 32, 105]⟩ := by decide +kernel
    rw [e]; exact cut4 w
  · have e : wordS 5 = ⟨#[97, 99, 113, 117, 105, 114, 101, 32]⟩ := by decide +kernel
    rw [e]; exact cut5 w
  · have e : wordS 6 = ⟨#[108, 101, 110, 32, 115]⟩ := by decide +kernel
    rw [e]; exact cut6 w
  · have e : wordS 7 = ⟨#[114, 101, 97, 100, 32, 115, 97, 110]⟩ := by decide +kernel
    rw [e]; exact cut7 w
  · have e : wordS 8 = ⟨#[114, 117, 110, 101, 32, 115, 110]⟩ := by decide +kernel
    rw [e]; exact cut8 w
  · have e : wordS 9 = ⟨#[108, 105, 110, 101, 32, 115, 110]⟩ := by decide +kernel
    rw [e]; exact cut9 w
  · have e : wordS 10 = ⟨#[109, 97, 114, 107, 32, 115, 105]⟩ := by decide +kernel
    rw [e]; exact cut10 w
  · have e : wordS 11 = ⟨#[115, 101, 101, 107, 32, 115, 97]⟩ := by decide +kernel
    rw [e]; exact cut11 w
  · have e : wordS 12 = ⟨#[110, 101, 120, 116, 32, 115, 110]⟩ := by decide +kernel
    rw [e]; exact cut12 w
  · have e : wordS 13 = ⟨#[114, 101, 108, 101, 97, 115, 101, 32, 115]⟩ := by decide +kernel
    rw [e]; exact cut13 w
  · have e : wordS 14 = ⟨#[115, 117, 98, 115, 99, 114, 105, 98, 101, 32]⟩ := by decide +kernel
    rw [e]; exact cut14 w
  · have e : wordS 15 = ⟨#[114, 101, 99, 101, 105, 118, 101, 32]⟩ := by decide +kernel
    rw [e]; exact cut15 w
  · have e : wordS 16 = ⟨#[99, 108, 111, 115, 101, 32]⟩ := by decide +kernel
    rw [e]; exact cut16 w
abbrev wordsObj : Obj := .cells #[.string ⟨#[]⟩, .string ⟨#[105, 110, 115, 101, 114, 116]⟩, .string ⟨#[100, 101, 108, 101, 116, 101]⟩, .string ⟨#[115, 101, 116]⟩, .string ⟨#[100, 114, 111, 112]⟩, .string ⟨#[97, 99, 113, 117, 105, 114, 101]⟩, .string ⟨#[108, 101, 110]⟩, .string ⟨#[114, 101, 97, 100]⟩, .string ⟨#[114, 117, 110, 101]⟩, .string ⟨#[108, 105, 110, 101]⟩, .string ⟨#[109, 97, 114, 107]⟩, .string ⟨#[115, 101, 101, 107]⟩, .string ⟨#[110, 101, 120, 116]⟩, .string ⟨#[114, 101, 108, 101, 97, 115, 101]⟩, .string ⟨#[115, 117, 98, 115, 99, 114, 105, 98, 101]⟩, .string ⟨#[114, 101, 99, 101, 105, 118, 101]⟩, .string ⟨#[99, 108, 111, 115, 101]⟩] 88
theorem word_cell (w : World) (k : Int) (h1 : 1 ≤ k) (h2 : k ≤ 16) : (w.alloc wordsObj).cell? ⟨w.heap.size, k.toNat, none⟩ = some (.string (bs (nameL k))) := by
  rw [cell_of_row _ _ _ _ _ _ (heap_alloc_new w wordsObj)]
  rcases kind_cases h1 h2 with rfl | rfl | rfl | rfl | rfl | rfl | rfl | rfl | rfl | rfl | rfl | rfl | rfl | rfl | rfl | rfl
  · rfl
  · rfl
  · rfl
  · rfl
  · rfl
  · rfl
  · rfl
  · rfl
  · rfl
  · rfl
  · rfl
  · rfl
  · rfl
  · rfl
  · rfl
  · rfl
set_option maxHeartbeats 0 in
theorem wordFn (k : Int) (h1 : 1 ≤ k) (h2 : k ≤ 16) (w : World) : Calls Tryd.prog 22 #[.int .u8 k] w (StrRes (nameL k) w) := by
  have HC := Lib.hid (word_cell w k h1 h2)
  have HB := Lib.hid (below_box w wordsObj)
  go_enter Tryd.func22, Tryd.ntmps22
  go_upto_region 2 with fail
  generalize w.alloc wordsObj = W at *
  have hc := HC.out
  obtain ⟨n, rfl⟩ : ∃ n : Nat, k = n := ⟨k.toNat, by omega⟩
  have hn : (n : Int) < 17 := by omega
  rw [Int.toNat_natCast] at hc
  go_wp2_with fail
  go_ret
  exact ⟨rfl, HB.out⟩
end Go.Proofs.YtcbhfhmpajamoaaDoor
