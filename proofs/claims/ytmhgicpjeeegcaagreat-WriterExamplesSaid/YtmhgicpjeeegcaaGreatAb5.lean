/- An evaluator of the model's code over an abstract heap: the model's own trees do the same on related values, more. -/
import Derived.Test.YtmhgicpjeeegcaaGreatAb4
namespace Go.Ab
open Go.RowKit

section
variable {P : Program} {φ : Phi} {α β γ δ : Type} {R : Phi → α → β → Prop}
theorem SR.choosy {n n' : String} {k : Nat → Sem α} {k' : Nat → Sem β} : SR P R φ (.choose (.extern n 2) k) (.choose (.extern n' 2) k') := .choose (fun h => by simp [Question.forced] at h) (fun h => by simp [Question.forced] at h)
theorem stops_halt (h : Halt) : Stops P (.halt h : Sem α) := fun _ => rfl
theorem stops_panic (e : RuntimeError) : Stops P (runtimePanic e : Sem α) := by
  refine Stops.then_ _ fun p => ?_
  cases e <;> first
    | exact stops_halt _
    | exact Stops.then_ _ fun _ => stops_halt _
    | exact Stops.then_ _ fun _ => Stops.then_ _ fun _ => stops_halt _
theorem stops_bounds (k : IntKind) (x y : Int) (c : BoundsCode) : Stops P (boundsPanic k x y c : Sem α) := by
  unfold boundsPanic
  split
  · exact Stops.then_ _ fun _ => stops_panic _
  · exact Stops.then_ _ fun _ => stops_panic _
theorem sr_bounds (k : IntKind) (x y : Int) (c : BoundsCode) {s : Sem β} : SR P R φ (boundsPanic k x y c) s := .stops (stops_bounds k x y c)

def OptAddrR (φ : Phi) (a b : Option Addr) : Prop := (a = none ∧ b = none) ∨ ∃ x y, a = some x ∧ b = some y ∧ AddrR φ x y
theorem sr_indexAt (t : TypeId) {v u i j : Value} (h : VR φ v u) (hi : VR φ i j) : SR P VR φ (Instr.indexAt t v i) (Instr.indexAt t u j) := by
  unfold Instr.indexAt
  refine SR.bind' (sr_asIntOf hi) fun φ1 ki ki' he1 hk => ?_
  obtain ⟨rfl, _⟩ := hk
  obtain ⟨k, i⟩ := ki
  have fin : ∀ φ2 (a b : Option Addr) (len : Nat) (elem : TypeId), OptAddrR φ2 a b → SR P VR φ2
      (do let tiny := len ≤ 1 && (match ← underlying t with | .array .. => true | _ => false)
          match a with
          | some a =>
            if 0 ≤ i ∧ i < len then pure (.pointer (some (a.add (i.toNat * (← sizeOf elem)))))
            else if tiny then unsupported (.noEntry "op/indexAddr.an index out of range at an array of length 0 or 1 (ledger 616)")
            else boundsPanic k i len .index
          | none => boundsPanic k i 0 .index)
      (do let tiny := len ≤ 1 && (match ← underlying t with | .array .. => true | _ => false)
          match b with
          | some a =>
            if 0 ≤ i ∧ i < len then pure (.pointer (some (a.add (i.toNat * (← sizeOf elem)))))
            else if tiny then unsupported (.noEntry "op/indexAddr.an index out of range at an array of length 0 or 1 (ledger 616)")
            else boundsPanic k i len .index
          | none => boundsPanic k i 0 .index) := by
    intro φ2 a b len elem hab
    refine SR.bind' (sr_underlying t) fun φ3 d d' he3 hd => ?_
    obtain ⟨rfl, _⟩ := hd
    rcases hab with ⟨rfl, rfl⟩ | ⟨x, y, rfl, rfl, hxy⟩
    · exact sr_bounds _ _ _ _
    · simp only []
      by_cases hc : 0 ≤ i ∧ i < len
      · rw [if_pos hc, if_pos hc]
        refine SR.bindEq (sr_sizeOf elem) fun φ4 n he4 => ?_
        exact .pure (.ptr (((hxy.mono he3).mono he4).add _))
      · rw [if_neg hc, if_neg hc]
        refine .stops ?_
        have hall : ∀ b : Bool, Stops P (if b = true then unsupported (.noEntry "op/indexAddr.an index out of range at an array of length 0 or 1 (ledger 616)") else (boundsPanic k i len .index : Sem Value)) := fun b => by
          cases b
          · exact stops_bounds _ _ _ _
          · exact stops_halt _
        exact hall _
  refine SR.bind' (sr_underlying t) fun φ2 d d' he2 hd => ?_
  obtain ⟨rfl, _⟩ := hd
  have h2 := (h.mono he1).mono he2
  cases d with
  | array len elem =>
    exact SR.bind' (sr_sureAddr h2) fun φ3 a b he3 hab => fin φ3 _ _ len elem (.inr ⟨_, _, rfl, rfl, hab⟩)
  | slice elem =>
    cases h2 with
    | @slNil n k hk => exact fin φ2 none none n elem (.inl ⟨rfl, rfl⟩)
    | @sl a a' n k k' ha hk => exact fin φ2 (some a) (some a') n elem (.inr ⟨_, _, rfl, rfl, ha⟩)
    | _ => exact .halt
  | _ => exact .halt
theorem sr_fieldAt (t : TypeId) {v u : Value} (h : VR φ v u) (f : Nat) (hsz : ∀ fs x i, P.underlying t = some (.struct fs) → fs[f]? = some x → P.info? x.type = some i → i.size ≠ 0) : SR P VR φ (Instr.fieldAt t v f) (Instr.fieldAt t u f) := by
  unfold Instr.fieldAt
  refine SR.bind' (sr_underlying t) fun φ' d b he hab => ?_
  obtain ⟨rfl, hd⟩ := hab
  cases d with
  | struct fs =>
    cases hf : fs[f]? with
    | none => simp only [hf]; exact .halt
    | some x =>
      simp only [hf]
      refine SR.bind' (sr_sureAddr (h.mono he)) fun φ2 a b he2 hab => ?_
      refine SR.bind' (R := AddrR) ?_ fun _ _ _ _ hr => .pure (.ptr hr)
      unfold fieldPlace
      refine SR.bind' (SR.bind' (R' := fun _ a b => a = b ∧ a ≠ 0) (sr_typeInfo x.type) fun φ3 i j _ hij => ?_) fun φ3 n m he3 hn => ?_
      · obtain ⟨rfl, hi⟩ := hij
        exact .pure ⟨rfl, hsz fs x i hd hf hi⟩
      · obtain ⟨rfl, hn⟩ := hn
        rw [if_neg hn, if_neg hn]
        exact .pure ((hab.mono he3).add _)
  | _ => exact .halt
theorem sr_index (t : TypeId) {v u i j : Value} (h : VR φ v u) (hi : VR φ i j) : SR P VR φ (Instr.index t v i) (Instr.index t u j) := by
  unfold Instr.index
  refine SR.bind' (sr_asIntOf hi) fun φ1 ki ki' he1 hk => ?_
  obtain ⟨rfl, _⟩ := hk
  obtain ⟨k, i⟩ := ki
  refine SR.bind' (sr_underlying t) fun φ2 d d' he2 hd => ?_
  obtain ⟨rfl, _⟩ := hd
  have h2 := (h.mono he1).mono he2
  cases d with
  | array len elem =>
    cases h2 with
    | agg h1 h2 =>
      simp only []
      by_cases hc : 0 ≤ i ∧ i < len
      · rw [if_pos hc, if_pos hc]
        refine SR.bindEq (sr_sizeOf elem) fun φ4 n he4 => ?_
        exact sr_part _ (AsR.mono he4 ⟨h1, h2⟩) _
      · rw [if_neg hc, if_neg hc]
        exact sr_bounds _ _ _ _
    | _ => exact .halt
  | string =>
    cases h2 with
    | @string s =>
      simp only []
      split
      · exact .pure .int
      · exact sr_bounds _ _ _ _
    | _ => exact .halt
  | _ => exact .halt

end
end Go.Ab
