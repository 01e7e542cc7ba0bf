/- The functions that no text has, and what is proved of the program once. -/
import Derived.Test.YtbjadgggpkbjmaaGreatProg
import Derived.Test.YtbjadgggpkbjmaaGreatEv22
namespace Go.Proofs.YtbjadgggpkbjmaaGreat.Closed
open Go.Ab Go.Ab.Cut Go.RowKit
set_option maxRecDepth 1000000
noncomputable def xt : XTab := fun f => match Nat.beq f 190 with
  | true => some (.u64, .aload)
  | false => match Nat.beq f 319 with
    | true => some (.u64, .aswap)
    | false => match Nat.beq f 211 with
      | true => some (.u64, .astore)
      | false => match Nat.beq f 276 with
        | true => some (.u64, .acas)
        | false => match Nat.beq f 368 with
          | true => some (.u64, .same)
          | false => none
theorem xOk : XOk Tryz.prog xt := by
  intro f k x h
  unfold xt at h
  split at h
  · rename_i hb; cases h; rw [Nat.eq_of_beq_eq_true hb]; exact ⟨(Tryz.prog.funcs[190]?).getD default, by kernel_rfl, by kernel_rfl, by kernel_rfl, by kernel_rfl, by kernel_rfl⟩
  · split at h
    · rename_i hb; cases h; rw [Nat.eq_of_beq_eq_true hb]; exact ⟨(Tryz.prog.funcs[319]?).getD default, by kernel_rfl, by kernel_rfl, by kernel_rfl, by kernel_rfl, by kernel_rfl⟩
    · split at h
      · rename_i hb; cases h; rw [Nat.eq_of_beq_eq_true hb]; exact ⟨(Tryz.prog.funcs[211]?).getD default, by kernel_rfl, by kernel_rfl, by kernel_rfl, by kernel_rfl, by kernel_rfl⟩
      · split at h
        · rename_i hb; cases h; rw [Nat.eq_of_beq_eq_true hb]; exact ⟨(Tryz.prog.funcs[276]?).getD default, by kernel_rfl, by kernel_rfl, by kernel_rfl, by kernel_rfl, by kernel_rfl⟩
        · split at h
          · rename_i hb; cases h; rw [Nat.eq_of_beq_eq_true hb]; exact ⟨(Tryz.prog.funcs[368]?).getD default, by kernel_rfl, by kernel_rfl, by kernel_rfl, by kernel_rfl, by kernel_rfl⟩
          · cases h
theorem types : typesOk Tryz.prog = true := by kernel_rfl
theorem mixed : Tryz.prog.follows .mixedOrders = true := by kernel_rfl
noncomputable def rg (f : Nat) (p : List Nat) : ICode := codeAt Tryz.prog xt f p
end Go.Proofs.YtbjadgggpkbjmaaGreat.Closed
