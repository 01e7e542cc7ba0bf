/- The evaluator, part 18. -/
import Derived.Test.YtbjadgggpkbjmaaGreatEv17
/- A faster evaluator: calls, and the law of a closed call. -/
namespace Go.Ab
open Go.RowKit
noncomputable section

def ofK {β : Type} : List Value → Nat → T Value → (T Value → β) → β
  | [], _, t, k => k t
  | a :: l, n, t, k => forced a fun a => T.setK t n a fun t => ofK l (n + 1) t k
theorem ofK_eq {β : Type} : ∀ (l : List Value) (n : Nat) (t : T Value) (k : T Value → β), ofK l n t k = k (T.ofListFrom l n t)
  | [], _, _, _ => rfl
  | a :: l, n, t, k => by
    rw [ofK, forced_eq, T.setK_eq, ofK_eq l]
    rfl
def endK {β : Type} (P : Program) (rs : List ResultVar) (k : Value → AHeap → Option β) (t : T Value) (d : List Deferred) (h : AHeap) : Option β := match leaveE P d h with
  | some h2 => match arun P (resS (tmpOf ⟨t, d⟩) rs) h2 with
    | some (vs, h3) => k (packR vs) h3
    | none => none
  | none => none
def envK (P : Program) (xt : XTab) : Nat → EnvK
  | 0 => ⟨fun _ _ _ _ => none, fun _ _ _ _ _ _ => none⟩
  | n + 1 =>
    { call := fun f args h k => match P.funcs[f]? with
        | some fn => match okFn fn && Nat.ble args.length fn.ntmps with
          | true => match fn.body with
            | some c => ofK args 0 .nil fun t => codeK P xt (envK P xt n) fn.ntmps none (comp P xt c) t [] h fun x t d h => match x with
              | .exit _ => none
              | .normal => endK P fn.results.toList k t d h
              | .ret => endK P fn.results.toList k t d h
            | none => none
          | false => none
        | none => none
      round := fun l tmps x y h k => match codeOk tmps.size x && codeOk tmps.size y with
        | true => ofK tmps.toList 0 .nil fun t => codeK P xt (envK P xt n) tmps.size (some l) (comp P xt x) t [] h fun e t d h => match e with
          | .normal => match arun P (Instr.beginRound l) h with
            | some (_, h) => codeK P xt (envK P xt n) tmps.size (some l) (comp P xt y) t d h fun e _ _ h => match e with
              | .normal => match arun P (Instr.endRound l none) h with
                | some (v, h) => k v h
                | none => none
              | .ret => match arun P (Instr.endRound l (some .ret)) h with
                | some (v, h) => k v h
                | none => none
              | .exit i => match arun P (Instr.endRound l (some (.exit i))) h with
                | some (v, h) => k v h
                | none => none
            | none => none
          | _ => none
        | false => none }

theorem envK_ref {P : Program} {xt : XTab} : ∀ n, EnvL (envK P xt n) (envE P (opW P xt) (regE P xt) n)
  | 0 => ⟨fun _ _ _ _ _ hr => (by cases hr), fun _ _ _ _ _ _ _ hr => (by cases hr)⟩
  | n + 1 => by
    have L := envK_ref (P := P) (xt := xt) n
    constructor
    · intro β f args h k r hr
      simp only [envK] at hr
      simp only [envE, List.size_toArray]
      cases hf : P.funcs[f]? with
      | none => rw [hf] at hr; cases hr
      | some fn =>
        rw [hf] at hr
        simp only at hr ⊢
        cases hk : okFn fn && Nat.ble args.length fn.ntmps with
        | false => rw [hk] at hr; cases hr
        | true =>
          rw [hk] at hr
          simp only at hr ⊢
          cases hb : fn.body with
          | none => rw [hb] at hr; cases hr
          | some c =>
            rw [hb] at hr
            simp only at hr ⊢
            rw [ofK_eq] at hr
            obtain ⟨x, a', h', h1, h2⟩ := codeK_ref L c _ _ _ _ _ hr
            have h1' : codeE P (opW P xt) (regE P xt) (envE P (opW P xt) (regE P xt) n) fn.ntmps none c ⟨T.ofList args, []⟩ h = some (x, a', h') := h1
            have fin : endK P fn.results.toList k a'.tmps a'.defers h' = some r → ∃ v h'', (match leaveE P a'.defers h' with
                | some h2 => match arun P (resS (tmpOf a') fn.results.toList) h2 with
                  | some (vs, h3) => some (packR vs, h3)
                  | none => none
                | none => none) = some (v, h'') ∧ k v h'' = some r := by
              intro he
              unfold endK at he
              split at he <;> first | (cases he; done) | skip
              rename_i h2 hl
              split at he <;> first | (cases he; done) | skip
              rename_i vs h3 ha
              have ha' : arun P (resS (tmpOf a') fn.results.toList) h2 = some (vs, h3) := ha
              refine ⟨packR vs, h3, ?_, he⟩
              simp only [ha']
            cases x with
            | normal => simp only [h1']; exact fin h2
            | exit i => cases h2
            | ret => simp only [h1']; exact fin h2
    · intro β l tmps x y h k r hr
      simp only [envK] at hr
      simp only [envE]
      cases hk : codeOk tmps.size x && codeOk tmps.size y with
      | false => rw [hk] at hr; cases hr
      | true =>
        rw [hk] at hr
        simp only at hr ⊢
        rw [ofK_eq] at hr
        obtain ⟨e1, a1, h1, g1, g2⟩ := codeK_ref L x _ _ _ _ _ hr
        have g1' : codeE P (opW P xt) (regE P xt) (envE P (opW P xt) (regE P xt) n) tmps.size (some l) x ⟨T.ofList tmps.toList, []⟩ h = some (e1, a1, h1) := g1
        cases e1 with
        | exit i => cases g2
        | ret => cases g2
        | normal =>
          simp only at g2
          split at g2 <;> first | (cases g2; done) | skip
          rename_i u h2 hb
          obtain ⟨e2, a2, h3, q1, q2⟩ := codeK_ref L y _ _ _ _ _ g2
          have q1' : codeE P (opW P xt) (regE P xt) (envE P (opW P xt) (regE P xt) n) tmps.size (some l) y a1 h2 = some (e2, a2, h3) := q1
          have e0 : ∀ (s : Sem Value) (r' : β), (match arun P s h3 with
              | some (v, h) => k v h
              | none => none) = some r' → ∃ v h', arun P s h3 = some (v, h') ∧ k v h' = some r' := by
            intro s r' hh
            split at hh <;> first | (cases hh; done) | skip
            rename_i v h4 he
            exact ⟨v, h4, he, hh⟩
          cases e2 with
          | normal => rw [g1']; simp only [hb, q1']; exact e0 _ _ q2
          | exit i => rw [g1']; simp only [hb, q1']; exact e0 _ _ q2
          | ret => rw [g1']; simp only [hb, q1']; exact e0 _ _ q2

def bitK (b : Bool) : Value → AHeap → Option Bool := fun v _ => match v with
  | .bool b' => some (match b with
    | true => b'
    | false => match b' with
      | true => false
      | false => true)
  | _ => none
/-- A closed call that the fast evaluator answers with true returns true. -/
theorem closed_true {P : Program} {xt : XTab} (hty : typesOk P = true) (hxt : XOk P xt) (hm : P.follows .mixedOrders = true) {d : Nat} {f : FuncId}
    (hr : (envK P xt d).call f [] emptyH (bitK true) = some true) (w : World) :
    Calls P f #[] w (fun e w' => e = .returned (.bool true) ∧ Below w.heap.size w w') := by
  obtain ⟨v, h', h1, h2⟩ := (envK_ref d).call _ _ _ _ _ hr
  unfold bitK at h2
  split at h2 <;> first | (cases h2; done) | skip
  injection h2 with h2
  simp only at h2
  subst h2
  exact closed_call (good_of hty) (sized_of hty) hxt hm h1 w
end
end Go.Ab
