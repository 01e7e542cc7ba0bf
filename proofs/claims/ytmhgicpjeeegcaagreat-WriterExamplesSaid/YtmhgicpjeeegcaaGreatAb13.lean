/- An evaluator of the model's code over an abstract heap: an operation. -/
import Derived.Test.YtmhgicpjeeegcaaGreatAb12
import Derived.Laws.LoneSync
namespace Go.Ab
open Go.RowKit
noncomputable section

/-- Functions of the library without a body that the evaluator knows. -/
inductive XKind where
  | aload | astore | aswap | acas | aadd | same
def xrun (k : IntKind) : XKind → Array Value → Sem Value
  | .aload => Extern.Atomic.loadT (.int k)
  | .astore => Extern.Atomic.storeT
  | .aswap => Extern.Atomic.swapT (.int k)
  | .acas => Extern.Atomic.casT (.int k)
  | .aadd => Extern.Atomic.update (Op.intArith .add) k true
  | .same => Extern.AbiNoEscape.same
abbrev XTab : Type := FuncId → Option (IntKind × XKind)
def XOk (P : Program) (xt : XTab) : Prop := ∀ f k x, xt f = some (k, x) → ∃ fn, P.funcs[f]? = some fn ∧ (fn.name == "runtime.NumGoroutine") = false ∧ fn.body.isNone = true ∧ Extern.findNext fn = none ∧ Extern.find fn = some (xrun k x)

section
variable {P : Program} {w0 : World} {base : Nat} {φ : Phi} {h h' : AHeap} {w : World}
theorem sr_touches {a a' : Addr} (h : AddrR φ a a') : SR P EqR φ (Extern.Atomic.touchesFrozen a) (Extern.Atomic.touchesFrozen a') := by
  unfold Extern.Atomic.touchesFrozen
  cases h with
  | @mk b c o hb =>
    refine SR.bind' (R := fun _ x y => x = none ∧ y = none) ?_ fun φ1 x y he hxy => ?_
    · unfold viewAt
      refine SR.bind' (R := EqR) (.shape hb fun x => .pure rfl) fun φ1 x y he hxy => ?_
      cases hxy
      cases x with
      | some p => exact .pure ⟨rfl, rfl⟩
      | none =>
        refine .getObj (he _ _ hb) fun o o' ho => ?_
        cases ho <;> exact .pure ⟨rfl, rfl⟩
    · obtain ⟨rfl, rfl⟩ := hxy
      exact .frozen ((AddrR.mk hb).mono he) fun x => .pure rfl
theorem sr_aread (k : IntKind) {a a' : Addr} (h : AddrR φ a a') : SR P VR φ (Extern.Atomic.read (.int k) a) (Extern.Atomic.read (.int k) a') := by
  unfold Extern.Atomic.read
  refine SR.bind' (R := VR) (.load h fun _ _ hv => .pure hv) fun φ1 v u he hv => ?_
  cases hv with
  | @int k' n =>
    simp only []
    by_cases e : k = k'
    · simp only [if_pos e]; exact .pure .int
    · rw [if_neg e]; exact .halt
  | ptr ha => cases k <;> first | exact .halt | exact .pure (.ptr ha)
  | _ => cases k <;> exact .halt
theorem sr_intArith (op : BinOp) (k : IntKind) (x y : Int) : SR P VR φ (Op.intArith op k x y) (Op.intArith op k x y) := by
  unfold Op.intArith
  split <;> first | exact .pure .int | exact .halt
def caseArgs (as : Array Value) : Nat := as.size
theorem sr_x (k : IntKind) (x : XKind) (hx : x ≠ .acas) {as bs : Array Value} (h : AsR φ as bs) : SR P VR φ (xrun k x as) (xrun k x bs) := by
  obtain ⟨l⟩ := as
  obtain ⟨m⟩ := bs
  have hg := h.2
  have none_ : ∀ φ1, SR P VR φ1 (Pure.pure Extern.Atomic.none_) (Pure.pure Extern.Atomic.none_) := fun _ => .pure vr_undef
  match l, m, h.1 with
  | [], [], _ => cases x <;> exact .halt
  | [a], [a'], _ =>
    have ha : VR φ a a' := hg 0 a a' rfl rfl
    cases x with
    | aload => exact SR.bind' (sr_asAddr ha) fun φ1 p q _ hp => sr_aread k hp
    | same => exact .pure ha
    | _ => exact .halt
  | [a, b], [a', b'], _ =>
    have ha : VR φ a a' := hg 0 a a' rfl rfl
    have hb : VR φ b b' := hg 1 b b' rfl rfl
    cases x with
    | astore => exact SR.bind' (sr_asAddr ha) fun φ1 p q he hp => SR.bindEq (.store hp (hb.mono he) (.pure rfl)) fun φ2 _ _ => none_ φ2
    | aswap =>
      refine SR.bind' (sr_asAddr ha) fun φ1 p q he hp => ?_
      refine SR.bind' (sr_aread k hp) fun φ2 v u he2 hv => ?_
      exact SR.bindEq (.store (hp.mono he2) ((hb.mono he).mono he2) (.pure rfl)) fun φ3 _ he3 => .pure (hv.mono he3)
    | aadd =>
      refine SR.bind' (sr_asAddr ha) fun φ1 p q he hp => ?_
      refine SR.bind' (sr_aread k hp) fun φ2 v u he2 hv => ?_
      refine SR.bindEq (sr_asInt hv) fun φ3 n he3 => ?_
      refine SR.bindEq (sr_asInt (((hb.mono he).mono he2).mono he3)) fun φ4 n2 he4 => ?_
      refine SR.bind' (sr_intArith .add k n n2) fun φ5 v2 u2 he5 hv2 => ?_
      exact SR.bindEq (.store ((((hp.mono he2).mono he3).mono he4).mono he5) hv2 (.pure rfl)) fun φ6 _ he6 => .pure (hv2.mono he6)
    | _ => exact .halt
  | [a, b, c], [a', b', c'], _ =>
    have ha : VR φ a a' := hg 0 a a' rfl rfl
    have hb : VR φ b b' := hg 1 b b' rfl rfl
    have hc : VR φ c c' := hg 2 c c' rfl rfl
    cases x <;> first | exact absurd rfl hx | exact .halt
  | a :: b :: c :: d :: l, a' :: b' :: c' :: d' :: m, _ => cases x <;> exact .halt
  | [], _ :: _, e => simp at e
  | _ :: _, [], e => simp at e
  | [_], _ :: _ :: _, e => simp at e
  | _ :: _ :: _, [_], e => simp at e
  | [_, _], _ :: _ :: _ :: _, e => simp at e
  | _ :: _ :: _ :: _, [_, _], e => simp at e
  | [_, _, _], _ :: _ :: _ :: _ :: _, e => simp at e
  | _ :: _ :: _ :: _ :: _, [_, _, _], e => simp at e

/-- A function of the library without a body. -/
def xV (P : Program) (k : IntKind) (x : XKind) (args : Array Value) (h : AHeap) : Option (Value × AHeap) :=
  match x with
  | .acas => match args.toList with
    | [.pointer (some a), .int k1 old, .int k2 new] => match aload h a with
      | some (.int k0 v) => if k0 = k ∧ k1 = k ∧ k2 = k then
          if v = old then match astore h a (.int k new) with
            | some h' => some (.bool true, h')
            | none => none
          else some (.bool false, h)
        else none
      | _ => none
    | _ => none
  | x => arun P (xrun k x args) h
theorem x_run (H : HR w0 base φ h w) {xt : XTab} (hxt : XOk P xt) {f : FuncId} {k : IntKind} {x : XKind} (hf : xt f = some (k, x)) {as bs : Array Value} (hab : AsR φ as bs) {v : Value} (hr : xV P k x as h = some (v, h')) :
    ∃ φ' u w', (callFunc f bs).run P w = .ok (.value u) w' ∧ VR φ' v u ∧ HR w0 base φ' h' w' ∧ Ext φ φ' := by
  obtain ⟨fn, h1, h2, h3, h4, h5⟩ := hxt f k x hf
  have gen : ∀ x, x ≠ .acas → Extern.find fn = some (xrun k x) → arun P (xrun k x as) h = some (v, h') → ∃ φ' u w', (callFunc f bs).run P w = .ok (.value u) w' ∧ VR φ' v u ∧ HR w0 base φ' h' w' ∧ Ext φ φ' := by
    intro x hx h5 hr
    obtain ⟨φ', u, w', e, r⟩ := arun_sound (sr_x k x hx hab) H hr
    refine ⟨φ', u, w', ?_, r⟩
    rw [run_callFunc_extern h1 h2 h3 h4 h5, e]
    rfl
  cases x with
  | acas =>
    unfold xV at hr
    simp only at hr
    split at hr <;> first | (cases hr; done) | skip
    rename_i a k1 old k2 new hl
    split at hr <;> first | (cases hr; done) | skip
    rename_i k0 v0 hv0
    split at hr <;> first | (cases hr; done) | skip
    rename_i hk
    obtain ⟨rfl, rfl, rfl⟩ := hk
    obtain ⟨l⟩ := as
    obtain ⟨m⟩ := bs
    simp only at hl
    subst hl
    have hg := hab.2
    have hm3 : ∃ b1 b2 b3, m = [b1, b2, b3] := by
      match m, hab.1 with
      | [b1, b2, b3], _ => exact ⟨b1, b2, b3, rfl⟩
      | [], e => simp at e
      | [_], e => simp at e
      | [_, _], e => simp at e
      | _ :: _ :: _ :: _ :: _, e => simp at e
    obtain ⟨b1, b2, b3, rfl⟩ := hm3
    have c1 : VR φ (.pointer (some a)) b1 := hg 0 _ b1 rfl rfl
    have c2 : VR φ (.int k2 old) b2 := hg 1 _ b2 rfl rfl
    have c3 : VR φ (.int k2 new) b3 := hg 2 _ b3 rfl rfl
    cases c2
    cases c3
    cases c1 with
    | @ptr _ a' ha =>
      obtain ⟨u, hu, hvu⟩ := aload_sound H ha hv0
      cases hvu
      by_cases e : v0 = old
      · rw [if_pos e] at hr
        subst e
        split at hr <;> first | (cases hr; done) | skip
        rename_i h1' hst
        cases hr
        obtain ⟨_, hz, _, H'⟩ := astore_sound H ha (.int (k := k2) (n := new)) hst
        exact ⟨φ, .bool true, _, run_call_cas_hit h1 h2 h3 h4 k2 h5 hu hz, .bool, H', Ext.refl _⟩
      · rw [if_neg e] at hr
        cases hr
        have hz : w.frozen? a' = false := by
          cases ha with
          | @mk b c o hφ =>
            unfold aload at hv0
            cases hg : h.blocks.get b with
            | none => simp [hg] at hv0
            | some y =>
              cases y with
              | cells e1 n1 x1 ro1 kin1 t1 =>
                obtain ⟨c', arr, q1, q2, _⟩ := H.blocks b _ (H.real hφ) hg
                have : c' = c := Option.some.inj (q1.symm.trans hφ)
                subst this
                simp [World.frozen?, q2]
              | obj o => simp [hg] at hv0
              | dead => simp [hg] at hv0
        exact ⟨φ, .bool false, w, run_call_cas_miss h1 h2 h3 h4 k2 h5 hu hz e, .bool, H, Ext.refl _⟩
  | aload => exact gen _ (by simp) h5 hr
  | astore => exact gen _ (by simp) h5 hr
  | aswap => exact gen _ (by simp) h5 hr
  | aadd => exact gen _ (by simp) h5 hr
  | same => exact gen _ (by simp) h5 hr
end
end
end Go.Ab
