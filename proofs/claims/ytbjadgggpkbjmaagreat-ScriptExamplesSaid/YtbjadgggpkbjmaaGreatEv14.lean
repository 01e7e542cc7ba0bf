/- The evaluator, part 14. -/
import Derived.Test.YtbjadgggpkbjmaaGreatEv13
/- An evaluator of the model's code over an abstract heap: the law of a closed call. -/
namespace Go.Ab
open Go.RowKit
noncomputable section
def emptyH : AHeap := ⟨.nil, 0⟩
def phi0 : Phi := ⟨fun _ => none, fun _ => 0, fun _ => false⟩
theorem empty_hr (w : World) : HR w w.heap.size phi0 emptyH w where
  blocks b o _ h := by
    have h2 : (T.nil : T AObj).getP (pathOf b) = some o := h
    rw [T.getP_nil] at h2; cases h2
  fresh _ _ := rfl
  lo _ _ h := by cases h
  apart _ _ _ _ _ h := by cases h
  below := Below.refl _ _
  base_le := Nat.le_refl _
  ghost _ h := by cases h

section
variable {P : Program} {xt : XTab}
theorem closed_call (G : Good P) (S : Sized P) (hxt : XOk P xt) (hm : P.follows .mixedOrders = true) {d : Nat} {f : FuncId} {b : Bool} {h' : AHeap}
    (hr : (envE P (opW P xt) (regE P xt) d).call f #[] emptyH = some (.bool b, h')) (w : World) :
    Calls P f #[] w (fun e w' => e = .returned (.bool b) ∧ Below w.heap.size w w') := by
  have hE := env_sound (P := P) (w0 := w) (base := w.heap.size) (ev := opW P xt) (rv := regE P xt) (fun e hE hB => op_sound G S hxt hE hB) (fun e hE hB => reg_sound hm (op_sound G S hxt hE hB)) d
  have h1 := hE.call f #[] emptyH (.bool b) h' phi0 #[] w hr (empty_hr w) ⟨rfl, fun i x y h => by simp at h⟩
  refine Calls.mono (callsIn_wide.1 h1) ?_
  rintro e w' ⟨u, φ', rfl, hu, hh, _⟩
  cases hu
  exact ⟨rfl, hh.below⟩
end

/-! ### The checks of a program -/
def plainT : Value → Bool
  | .tuple as => allB plainB as.toList
  | v => plainB v
theorem plain_T {v : Value} (h : plainT v = true) : Plain v := by
  unfold plainT at h
  split at h
  · exact .tuple fun i x hx => plain_of (allB_iff h x (by have := Array.mem_of_getElem? hx; simpa using this))
  · exact plain_of h
def typeOk (i : TypeInfo) : Bool := match i.zero with
  | some z => plainT z && Nat.beq i.size z.cells.size
  | none => true
def typesOk (P : Program) : Bool := allB typeOk P.types.toList
theorem typesOk_at {P : Program} (h : typesOk P = true) {t : TypeId} {i : TypeInfo} {z : Value} (ht : hasT P t = true) (hi : P.info? t = some i) (hz : i.zero = some z) : plainT z = true ∧ i.size = z.cells.size := by
  have h1 := allB_iff h i (by
    have hlt : t < P.types.size := by simpa [hasT] using ht
    have hi : Tables.info? _ t = some i := hi
    unfold Tables.info? at hi
    rw [if_pos hlt] at hi
    have := Array.mem_of_getElem? hi
    simpa using this)
  unfold typeOk at h1
  rw [hz] at h1
  simpa using h1
theorem good_of {P : Program} (h : typesOk P = true) : Good P := ⟨fun _ _ _ ht hi hz => plain_T (typesOk_at h ht hi hz).1⟩
theorem sized_of {P : Program} (h : typesOk P = true) : Sized P := fun _ _ _ ht hi hz => (typesOk_at h ht hi hz).2
end
end Go.Ab
