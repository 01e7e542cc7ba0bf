/- The laws ScriptBack and ScriptCut over arguments as they are read. -/
import Derived.Test.YtcicememljlafaaL3
import Derived.Test.YtcicememljlafaaA6
import Derived.Test.YtcicememljlafaaOpen
namespace Go.Proofs.Ytcicememljlafaa
open Go.RowKit

theorem maxLen_eq : maxLen = 9223372036854775807 := by unfold maxLen; rfl
theorem OpWf.in8 {o : OpV} (h : OpWf o) : 0 ≤ o.kind ∧ o.kind ≤ 255 := by
  have h1 : IntKind.u8.min ≤ o.kind ∧ o.kind ≤ IntKind.u8.max := by simpa [Lit.wf] using h.kind
  have e1 : IntKind.u8.min = 0 := by decide
  have e2 : IntKind.u8.max = 255 := by decide
  omega
theorem OpWf.ty {o : OpV} (h : OpWf o) : OpTy o := by
  have h1 : IntKind.u32.min ≤ o.id ∧ o.id ≤ IntKind.u32.max := by simpa [Lit.wf] using h.id
  have h2 : IntKind.u8.min ≤ o.grav ∧ o.grav ≤ IntKind.u8.max := by simpa [Lit.wf] using h.grav
  have e1 : IntKind.u8.min = 0 := by decide
  have e2 : IntKind.u8.max = 255 := by decide
  have e3 : IntKind.u32.min = 0 := by decide
  have e4 : IntKind.u32.max = 4294967295 := by decide
  exact ⟨by omega, by omega⟩
theorem ScrWf.sz {s : ScrV} (h : ScrWf s) : ScrSz s :=
  ⟨maxLen_eq ▸ h.cfg.text, maxLen_eq ▸ h.progs, maxLen_eq ▸ h.lens, maxLen_eq ▸ h.picks, fun p hp o ho => (h.ops p hp o ho).in8.1⟩
theorem ScrWf.ty {s : ScrV} (h : ScrWf s) : ScrTy s := fun p hp o ho => (h.ops p hp o ho).ty
theorem ScrWf.sd {s : ScrV} (h : ScrWf s) : Sized s := ⟨maxLen_eq ▸ h.progs, maxLen_eq ▸ h.picks, maxLen_eq ▸ h.lens⟩
theorem small_sz (s : ScrV) (Ap Ak : Option Addr) (cp ck : Nat) (w : World) (hz : ScrSz s) (hP : ProgsAt w w.heap.size Ap s.progs) :
    Calls Try.prog 9 #[scrVal s.cfg (.slice Ap s.progs.length cp) (.slice Ak s.picks.length ck)] w (fun e w' => ∃ b, e = .returned (.bool b) ∧ Below w.heap.size w w') :=
  (small_at s Ap Ak cp ck w hz.text ⟨hz.progs, hz.picks, hz.lens⟩ hP).mono fun _ _ ⟨b, e, _, h⟩ => ⟨b, e, h⟩
theorem scriptBack_walk (va : Value) (s : ScrV) (t : ByteArray) (w : World) (ha : ScrAt w w.heap.size va s) (wa : ScrWf s) (wt : t.size ≤ maxLen) :
    Calls Try.prog 7 #[va, .string t] w (BoolBelow true w) := by
  obtain ⟨Ap, cp, Ak, ck, rfl, p1, k1⟩ := ha
  exact scriptBack small_sz s t Ap Ak cp ck w wa.sz wa.ty wa.sd (maxLen_eq ▸ wt) p1 k1
theorem scriptCut_walk (va : Value) (s : ScrV) (i : Int) (t : ByteArray) (w : World) (ha : ScrAt w w.heap.size va s) (wa : ScrWf s) (wt : t.size ≤ maxLen) :
    Calls Try.prog 8 #[va, .int .i64 i, .string t] w (BoolBelow true w) := by
  obtain ⟨Ap, cp, Ak, ck, rfl, p1, k1⟩ := ha
  exact scriptCut small_sz s i t Ap Ak cp ck w wa.sz wa.ty (maxLen_eq ▸ wt) p1 k1
end Go.Proofs.Ytcicememljlafaa
