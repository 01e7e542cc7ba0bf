/- The functions that no text has, and what is proved of the program once. -/
import Derived.Test.YthaleaeeikmphaaGreatProg
import Derived.Test.YthaleaeeikmphaaGreatEv21
namespace Go.Proofs.YthaleaeeikmphaaGreat.Closed
open Go.Ab Go.Ab.Cut Go.RowKit
set_option maxRecDepth 1000000
noncomputable def xt : XTab := fun f => match Nat.beq f 220 with
  | true => some (.u64, .aload)
  | false => match Nat.beq f 367 with
    | true => some (.u64, .aswap)
    | false => match Nat.beq f 249 with
      | true => some (.u64, .astore)
      | false => match Nat.beq f 320 with
        | true => some (.u64, .acas)
        | false => match Nat.beq f 417 with
          | true => some (.u64, .same)
          | false => none
theorem xOk : XOk Tryz.prog xt := by
  intro f k x h
  unfold xt at h
  split at h
  · rename_i hb; cases h; rw [Nat.eq_of_beq_eq_true hb]; exact ⟨(Tryz.prog.funcs[220]?).getD default, by kernel_rfl, by kernel_rfl, by kernel_rfl, by kernel_rfl, by kernel_rfl⟩
  · split at h
    · rename_i hb; cases h; rw [Nat.eq_of_beq_eq_true hb]; exact ⟨(Tryz.prog.funcs[367]?).getD default, by kernel_rfl, by kernel_rfl, by kernel_rfl, by kernel_rfl, by kernel_rfl⟩
    · split at h
      · rename_i hb; cases h; rw [Nat.eq_of_beq_eq_true hb]; exact ⟨(Tryz.prog.funcs[249]?).getD default, by kernel_rfl, by kernel_rfl, by kernel_rfl, by kernel_rfl, by kernel_rfl⟩
      · split at h
        · rename_i hb; cases h; rw [Nat.eq_of_beq_eq_true hb]; exact ⟨(Tryz.prog.funcs[320]?).getD default, by kernel_rfl, by kernel_rfl, by kernel_rfl, by kernel_rfl, by kernel_rfl⟩
        · split at h
          · rename_i hb; cases h; rw [Nat.eq_of_beq_eq_true hb]; exact ⟨(Tryz.prog.funcs[417]?).getD default, by kernel_rfl, by kernel_rfl, by kernel_rfl, by kernel_rfl, by kernel_rfl⟩
          · cases h
theorem types : typesOk Tryz.prog = true := by kernel_rfl
theorem mixed : Tryz.prog.follows .mixedOrders = true := by kernel_rfl
noncomputable def rg (f : Nat) (p : List Nat) : ICode := codeAt Tryz.prog xt f p
end Go.Proofs.YthaleaeeikmphaaGreat.Closed
