/- The functions that no text has, and what is proved of the program once. -/
import Derived.Test.YtmhgicpjeeegcaaGreatProg
import Derived.Test.YtmhgicpjeeegcaaGreatEv21
namespace Go.Proofs.YtmhgicpjeeegcaaGreat.Closed
open Go.Ab Go.Ab.Cut Go.RowKit
set_option maxRecDepth 1000000
noncomputable def xt : XTab := fun f => match Nat.beq f 218 with
  | true => some (.u64, .aload)
  | false => match Nat.beq f 219 with
    | true => some (.u64, .aswap)
    | false => match Nat.beq f 227 with
      | true => some (.u64, .astore)
      | false => match Nat.beq f 252 with
        | true => some (.u64, .acas)
        | false => match Nat.beq f 388 with
          | true => some (.u64, .same)
          | false => none
theorem xOk : XOk Tryz.prog xt := by
  intro f k x h
  unfold xt at h
  split at h
  · rename_i hb; cases h; rw [Nat.eq_of_beq_eq_true hb]; exact ⟨(Tryz.prog.funcs[218]?).getD default, by kernel_rfl, by kernel_rfl, by kernel_rfl, by kernel_rfl, by kernel_rfl⟩
  · split at h
    · rename_i hb; cases h; rw [Nat.eq_of_beq_eq_true hb]; exact ⟨(Tryz.prog.funcs[219]?).getD default, by kernel_rfl, by kernel_rfl, by kernel_rfl, by kernel_rfl, by kernel_rfl⟩
    · split at h
      · rename_i hb; cases h; rw [Nat.eq_of_beq_eq_true hb]; exact ⟨(Tryz.prog.funcs[227]?).getD default, by kernel_rfl, by kernel_rfl, by kernel_rfl, by kernel_rfl, by kernel_rfl⟩
      · split at h
        · rename_i hb; cases h; rw [Nat.eq_of_beq_eq_true hb]; exact ⟨(Tryz.prog.funcs[252]?).getD default, by kernel_rfl, by kernel_rfl, by kernel_rfl, by kernel_rfl, by kernel_rfl⟩
        · split at h
          · rename_i hb; cases h; rw [Nat.eq_of_beq_eq_true hb]; exact ⟨(Tryz.prog.funcs[388]?).getD default, by kernel_rfl, by kernel_rfl, by kernel_rfl, by kernel_rfl, by kernel_rfl⟩
          · cases h
theorem types : typesOk Tryz.prog = true := by kernel_rfl
theorem mixed : Tryz.prog.follows .mixedOrders = true := by kernel_rfl
noncomputable def rg (f : Nat) (p : List Nat) : ICode := codeAt Tryz.prog xt f p
end Go.Proofs.YtmhgicpjeeegcaaGreat.Closed
