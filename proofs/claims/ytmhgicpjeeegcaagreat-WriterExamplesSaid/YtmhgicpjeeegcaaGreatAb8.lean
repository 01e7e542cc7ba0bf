/- An evaluator of the model's code over an abstract heap: operations on values without addresses; more trees that do the same. -/
import Derived.Test.YtmhgicpjeeegcaaGreatAb7
import Derived.Laws.Tables
namespace Go.Ab
open Go.RowKit
noncomputable section

/-- The run of a tree that asks nothing of the world. -/
def qrun (P : Program) {α : Type} (s : Sem α) : Option α :=
  Sem.rec (motive := fun _ => Option α)
    (fun a => some a) (fun _ _ _ _ => none) (fun _ _ _ _ _ => none) (fun _ _ _ => none) (fun _ _ _ => none) (fun _ _ _ _ => none) (fun _ _ _ => none) (fun _ _ _ => none) (fun _ _ _ _ => none)
    (fun q _ ih => match q.forced with
      | true => ih 0
      | false => none)
    (fun _ _ _ => none) (fun _ ih => ih P) (fun _ _ ih => ih) (fun _ => none) s
theorem qrun_run (P : Program) {α : Type} (s : Sem α) (w : World) {a : α} (h : qrun P s = some a) : s.run P w = .ok a w := by
  induction s with
  | pure b => cases h; rfl
  | program k ih => exact ih P h
  | mark m k ih => exact ih h
  | choose q k ih =>
    have h' : (match q.forced with
      | true => qrun P (k 0)
      | false => none) = some a := h
    split at h'
    · rename_i hf
      rw [Sem.run, if_pos hf]
      exact ih 0 h'
    · cases h'
  | _ => cases h

theorem flat_eq {φ : Phi} {v u : Value} (h : flatB v = true) (hv : VR φ v u) : u = v := by
  cases hv with
  | @func f f' as as' bs bs' hf h1 h2 h3 h4 =>
    cases f with
    | func g =>
      simp [flatB] at h
      obtain ⟨rfl, rfl⟩ := h
      cases hf
      simp at h1 h3
      rw [Array.eq_empty_of_size_eq_zero h1.symm, Array.eq_empty_of_size_eq_zero h3.symm]
    | _ => simp [flatB] at h
  | _ => first | rfl | (simp [flatB] at h; done)
theorem plain_eq {φ : Phi} {v u : Value} (h : plainB v = true) (hv : VR φ v u) : u = v := by
  cases v with
  | agg as =>
    cases hv with
    | agg h1 h2 =>
      congr 1
      refine Array.ext h1.symm fun i hi1 hi2 => ?_
      have hx : as[i]? = some as[i] := Array.getElem?_eq_getElem hi2
      have hall : flatB as[i] = true := by
        have h' : as.toList.all flatB = true := h
        rw [List.all_eq_true] at h'
        exact h' _ (by simp)
      exact flat_eq hall (h2 i _ _ hx (Array.getElem?_eq_getElem hi1))
  | iface t v =>
    cases hv with
    | iface hv => rw [flat_eq h hv]
  | _ => exact flat_eq h hv

/-- An operation on values without addresses, whose result is one. -/
def groundV (P : Program) (o : Oper) (ρ : Operand → Value) : Option Value :=
  match allB (fun x => plainB (ρ x)) o.op.operands.toList with
  | true => match qrun P (execOp ρ o) with
    | some (.value v) => match plainB v with
      | true => some v
      | false => none
    | _ => none
  | false => none
def noSelect : Op → Bool
  | .select _ _ => false
  | _ => true
theorem ground_run {P : Program} {φ : Phi} {o : Oper} {ρ : Operand → Value} {v : Value} (h : groundV P o ρ = some v) (hs : noSelect o.op = true) {ρ' : Operand → Value} (hr : ∀ x ∈ o.op.operands, VR φ (ρ x) (ρ' x)) (w : World) :
    (execOp ρ' o).run P w = .ok (.value v) w ∧ Plain v := by
  unfold groundV at h
  split at h
  · rename_i hall
    have e : execOp ρ' o = execOp ρ o := execOp_congr o (fun cs b e => by rw [e] at hs; cases hs) fun x hx => plain_eq (allB_iff hall x (by simpa using hx)) (hr x hx)
    rw [e]
    split at h
    · rename_i v0 hq
      split at h
      · rename_i hp
        cases h
        exact ⟨qrun_run P _ w hq, plain_of hp⟩
      · cases h
    · cases h
  · cases h

section
variable {P : Program} {φ : Phi}
/-! ### More trees that do the same -/
def OptVR (φ : Phi) (a b : Option Value) : Prop := (a = none ∧ b = none) ∨ ∃ x y, a = some x ∧ b = some y ∧ VR φ x y
theorem OptVR.mono {φ φ' : Phi} (he : Ext φ φ') {a b : Option Value} (h : OptVR φ a b) : OptVR φ' a b := by
  rcases h with ⟨rfl, rfl⟩ | ⟨x, y, rfl, rfl, h⟩
  · exact .inl ⟨rfl, rfl⟩
  · exact .inr ⟨x, y, rfl, rfl, h.mono he⟩
theorem CapR.refl {N o k : Nat} (h : k < unk) : CapR N o k k := ⟨fun _ => rfl, fun h' => absurd h (by omega)⟩
theorem sr_makeInterface (t : TypeId) {v u : Value} (h : VR φ v u) : SR P VR φ (Instr.makeInterface t v) (Instr.makeInterface t u) := by
  refine SR.bind' (sr_underlying t) fun φ1 d d' he hd => ?_
  obtain ⟨rfl, _⟩ := hd
  cases d <;> first | exact .halt | exact .pure (.iface (h.mono he))
theorem sr_makeMap (t : TypeId) {r r' : Option Value} (h : OptVR φ r r') : SR P VR φ (Instr.makeMap t r) (Instr.makeMap t r') := by
  have fin : ∀ φ1, SR P VR φ1 (do pure (.map (some (← newObj (.map #[] 0))))) (do pure (.map (some (← newObj (.map #[] 0))))) := fun φ1 =>
    SR.bind' (R := fun φ a b => φ a = some b) (SR.newObj (.map ⟨rfl, fun i x y h => by simp at h⟩) fun _ _ _ _ h => .pure h) fun φ2 a b _ hab => .pure (.map hab)
  unfold Instr.makeMap
  rcases h with ⟨rfl, rfl⟩ | ⟨x, y, rfl, rfl, h⟩
  · exact fin φ
  · refine SR.bind' (sr_underlying t) fun φ1 d d' he hd => ?_
    obtain ⟨rfl, _⟩ := hd
    cases d with
    | map k e => exact SR.bindEq (sr_asInt (h.mono he)) fun φ2 _ _ => fin φ2
    | _ => exact .halt
theorem plains_r {z : Value} (h : Plain z) : ∀ x ∈ z.cells.toList, Plain x := by
  intro x hx
  cases h with
  | agg h => 
    obtain ⟨i, hi⟩ := List.mem_iff_getElem?.1 hx
    exact h i x (by simpa [Value.cells] using hi)
  | _ => (simp [Value.cells] at hx; subst hx; constructor <;> assumption)
theorem zeros_r {c : Array Value} (h : ∀ x ∈ c.toList, Plain x) (n : Nat) (hn : n = 0 ∨ c.size ≠ 0) : AsR φ ((Array.range n).map (c[· % c.size]!)) ((Array.range n).map (c[· % c.size]!)) := by
  refine ⟨rfl, fun i x y hx hy => ?_⟩
  rw [hx] at hy
  injection hy with hy
  subst hy
  rw [Array.getElem?_map, Array.getElem?_range] at hx
  split at hx
  · rename_i hi
    rcases hn with rfl | hn
    · omega
    · simp only [Option.map_some, Option.some.injEq] at hx
      have hlt : i % c.size < c.size := Nat.mod_lt _ (by omega)
      rw [getElem!_pos c (i % c.size) hlt] at hx
      rw [← hx]
      exact (h _ (by simp)).vr
  · cases hx

end
end
end Go.Ab
