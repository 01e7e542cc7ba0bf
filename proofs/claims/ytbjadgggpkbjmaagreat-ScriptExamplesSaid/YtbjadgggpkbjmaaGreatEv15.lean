/- The evaluator, part 15. -/
import Derived.Test.YtbjadgggpkbjmaaGreatEv14
/- A faster evaluator, in continuation passing, that answers only as the evaluator does: operations by the slow road, environments. -/
namespace Go.Ab
open Go.RowKit
noncomputable section

structure EnvK where
  call : {β : Type} → FuncId → List Value → AHeap → (Value → AHeap → Option β) → Option β
  round : {β : Type} → Nat → Array Value → Code → Code → AHeap → (Value → AHeap → Option β) → Option β
def EnvK.env (e : EnvK) : Env := ⟨fun f args h => e.call f args.toList h fun v h => some (v, h), fun l tmps x y h => e.round l tmps x y h fun v h => some (v, h)⟩
/-- The one answers only as the other does. -/
structure EnvL (K : EnvK) (E : Env) : Prop where
  call : ∀ {β : Type} (f : FuncId) (args : List Value) (h : AHeap) (k : Value → AHeap → Option β) (r : β), K.call f args h k = some r → ∃ v h', E.call f args.toArray h = some (v, h') ∧ k v h' = some r
  round : ∀ {β : Type} (l : Nat) (tmps : Array Value) (x y : Code) (h : AHeap) (k : Value → AHeap → Option β) (r : β), K.round l tmps x y h k = some r → ∃ v h', E.round l tmps x y h = some (v, h') ∧ k v h' = some r
structure EnvM (E E' : Env) : Prop where
  call : ∀ f args h x, E.call f args h = some x → E'.call f args h = some x
  round : ∀ l tmps x y h z, E.round l tmps x y h = some z → E'.round l tmps x y h = some z
theorem EnvL.env {K : EnvK} {E : Env} (L : EnvL K E) : EnvM K.env E := by
  constructor
  · intro f args h x hx
    obtain ⟨v, h', h1, h2⟩ := L.call f args.toList h _ x hx
    cases h2
    exact h1
  · intro l tmps x y h z hz
    obtain ⟨v, h', h1, h2⟩ := L.round l tmps x y h _ z hz
    cases h2
    exact h1

section
variable {P : Program} {xt : XTab} {E E' : Env}
theorem callV_mono (M : EnvM E E') {f : FuncId} {args : Array Value} {h : AHeap} {r : Value × AHeap} (hr : callV P xt E f args h = some r) : callV P xt E' f args h = some r := by
  unfold callV at hr ⊢
  split
  · rename_i hx
    rw [hx] at hr
    exact hr
  · rename_i hx
    rw [hx] at hr
    exact M.call _ _ _ _ hr
theorem yieldV_mono (M : EnvM E E') {l : Nat} {args : Array Value} {h : AHeap} {r : Value × AHeap} (hr : yieldV P E l args h = some r) : yieldV P E' l args h = some r := by
  unfold yieldV at hr ⊢
  split at hr <;> first | (cases hr; done) | skip
  rename_i hb
  split at hr <;> first | (cases hr; done) | skip
  rename_i hn
  simp only [hn]
  exact M.round _ _ _ _ _ _ hr
theorem calleeV_mono (M : EnvM E E') {c : Call} {type : TypeId} {ρ : Operand → Value} {h : AHeap} {r : Value × AHeap} (hr : calleeV P xt E c type ρ h = some r) : calleeV P xt E' c type ρ h = some r := by
  unfold calleeV at hr ⊢
  split
  · rename_i f hc
    simp only [hc] at hr
    split
    · rename_i hf; simp only [hf] at hr; exact callV_mono M hr
    · rename_i hf; simp only [hf] at hr; exact yieldV_mono M hr
    · rename_i h1 h2
      split at hr
      · rename_i hf; exact absurd hf (h1 _ _ _)
      · rename_i hf; exact absurd hf (h2 _ _ _)
      · cases hr
  · rename_i rr name hc
    simp only [hc] at hr
    split
    · rename_i t v hv
      simp only [hv] at hr
      split
      · rename_i f hm; simp only [hm] at hr; exact callV_mono M hr
      · rename_i hm; simp only [hm] at hr; cases hr
    · rename_i h1
      split at hr
      · rename_i hf; exact absurd hf (h1 _ _)
      · cases hr
  · rename_i b hc
    simp only [hc] at hr
    exact hr
theorem opW_mono (M : EnvM E E') {o : Oper} {ρ : Operand → Value} {h : AHeap} {r : Value × AHeap} (hr : opW P xt E o ρ h = some r) : opW P xt E' o ρ h = some r := by
  unfold opW at hr ⊢
  split at hr <;> first | (cases hr; done) | skip
  obtain ⟨dst, op, type, pos, after, guard⟩ := o
  cases op with
  | call c => exact calleeV_mono M (show calleeV P xt E c type ρ h = some r from hr)
  | _ => exact hr
theorem stepsE_mono (M : EnvM E E') {all : List Oper} {g : Als} : ∀ (l : List Oper) (i : Nat) (a : AAct) (h : AHeap) (rs : List RStep), stepsE P (opW P xt) E all g l i a h = some rs → stepsE P (opW P xt) E' all g l i a h = some rs
  | [], _, _, _, _, hr => hr
  | o :: l, i, a, h, rs, hr => by
    rw [stepsE] at hr ⊢
    cases hw : wantedE o all a with
    | false =>
      rw [hw] at hr
      simp only at hr ⊢
      cases hal : isAl o.op with
      | true => rw [hal] at hr; cases hr
      | false =>
        rw [hal] at hr
        simp only [Option.map_eq_some_iff] at hr ⊢
        obtain ⟨rs', h1, h2⟩ := hr
        exact ⟨rs', stepsE_mono M l _ _ _ _ h1, h2⟩
    | true =>
      rw [hw] at hr
      simp only at hr ⊢
      cases hal : isAl o.op with
      | true =>
        rw [hal] at hr
        simp only at hr ⊢
        split at hr <;> first | (cases hr; done) | skip
        rename_i b ob hg
        split at hr <;> first | (cases hr; done) | skip
        rename_i v ob' hv
        simp only [hg, hv, Option.map_eq_some_iff] at hr ⊢
        obtain ⟨rs', h1, h2⟩ := hr
        exact ⟨rs', stepsE_mono M l _ _ _ _ h1, h2⟩
      | false =>
        rw [hal] at hr
        simp only at hr ⊢
        split
        · rename_i v hv
          simp only [hv, Option.map_eq_some_iff] at hr ⊢
          obtain ⟨rs', h1, h2⟩ := hr
          exact ⟨rs', stepsE_mono M l _ _ _ _ h1, h2⟩
        · rename_i hv
          simp only [hv] at hr
          split at hr <;> first | (cases hr; done) | skip
          rename_i v h1 ho
          simp only [opW_mono M ho, Option.map_eq_some_iff] at hr ⊢
          obtain ⟨rs', h1, h2⟩ := hr
          exact ⟨rs', stepsE_mono M l _ _ _ _ h1, h2⟩
theorem regE_mono (M : EnvM E E') {l : List Oper} {a : AAct} {h : AHeap} {r : AAct × AHeap} (hr : regE P xt E l a h = some r) : regE P xt E' l a h = some r := by
  unfold regE at hr ⊢
  split at hr <;> first | (cases hr; done) | skip
  split at hr
  · exact hr
  · unfold regM at hr ⊢
    split at hr <;> first | (cases hr; done) | skip
    rename_i g n hg
    split at hr <;> first | (cases hr; done) | skip
    rename_i rs hs
    simp only [hg, stepsE_mono M _ _ _ _ _ hs]
    exact hr
theorem rangeE_mono (M : EnvM E E') {n : Nat} {around : Option Nat} {f : Operand} {ps : Array Tmp} {x y : Code} {a : AAct} {h : AHeap} {r : AExit × AAct × AHeap} (hr : rangeE P E n around f ps x y a h = some r) : rangeE P E' n around f ps x y a h = some r := by
  unfold rangeE at hr ⊢
  split at hr <;> first | (cases hr; done) | skip
  rename_i l mk h1 he
  split at hr <;> first | (cases hr; done) | skip
  rename_i g first cap hf
  split at hr <;> first | (cases hr; done) | skip
  rename_i v h2 hc
  simp only [M.call _ _ _ _ hc]
  exact hr
end

/-! ### Temporaries -/
inductive Opd where
  | t (p : Path)
  | c (v : Value)
def opdOf : Operand → Opd
  | .tmp t => .t (pathOf t)
  | .const v => .c v
  | .global g => .c (.pointer (some ⟨g, 0, none⟩))
  | .func f => .c (.func (.func f) #[] #[])
def orU (o : Option Value) : Value := match o with
  | some v => v
  | none => undef
def Opd.ev (x : Opd) (t : T Value) : Value :=
  Opd.casesOn (motive := fun _ => Value) x (fun p => orU (t.getP p)) (fun v => v)
theorem opd_ev (x : Operand) (t : T Value) (d : List Deferred) : (opdOf x).ev t = (⟨t, d⟩ : AAct).eval x := by
  cases x with
  | tmp n =>
    show orU (t.getP (pathOf n)) = (t.get n).getD undef
    unfold T.get
    cases t.getP (pathOf n) <;> rfl
  | _ => rfl
def putK {β : Type} (t : T Value) (dst : Option Path) (v : Value) (k : T Value → β) : β := match dst with
  | none => k t
  | some p => T.setP v p t k
def pathsOf (d : Option Tmp) : Option Path := match d with
  | none => none
  | some d => some (pathOf d)
theorem putK_eq {β : Type} (t : T Value) (d : List Deferred) (dst : Option Tmp) (v : Value) (k : T Value → β) : putK t (pathsOf dst) v k = k ((⟨t, d⟩ : AAct).put dst v).tmps := by
  cases dst with
  | none => rfl
  | some n => exact T.setP_id v (pathOf n) t k
/-- A value is computed before it is laid down. -/
def forcedN {β : Type} (n : Nat) (k : Nat → β) : β := match n with
  | 0 => k 0
  | m + 1 => k (Nat.succ m)
theorem forcedN_eq {β : Type} (n : Nat) (k : Nat → β) : forcedN n k = k n := by cases n <;> rfl
def forcedI {β : Type} (n : Int) (k : Int → β) : β := match n with
  | .ofNat n => forcedN n fun n => k (.ofNat n)
  | .negSucc n => forcedN n fun n => k (.negSucc n)
theorem forcedI_eq {β : Type} (n : Int) (k : Int → β) : forcedI n k = k n := by cases n with
  | ofNat n => exact forcedN_eq n fun n => k (.ofNat n)
  | negSucc n => exact forcedN_eq n fun n => k (.negSucc n)
def forcedB {β : Type} (b : Bool) (k : Bool → β) : β := match b with
  | true => k true
  | false => k false
def forced {β : Type} (v : Value) (k : Value → β) : β :=
  match v with
  | .int kd n => forcedI n fun n => k (.int kd n)
  | .bool b => forcedB b fun b => k (.bool b)
  | .pointer (some ⟨b, o, none⟩) => forcedN b fun b => forcedN o fun o => k (.pointer (some ⟨b, o, none⟩))
  | .slice (some ⟨b, o, none⟩) n c => forcedN b fun b => forcedN o fun o => forcedN n fun n => forcedN c fun c => k (.slice (some ⟨b, o, none⟩) n c)
  | v => k v
theorem forced_eq {β : Type} (v : Value) (k : Value → β) : forced v k = k v := by
  unfold forced
  split
  · exact forcedI_eq _ _
  · rename_i b; cases b <;> rfl
  · simp only [forcedN_eq]
  · simp only [forcedN_eq]
  · rfl

/-- A heap is computed before it is laid down. -/
def forcedT {β : Type} (t : T AObj) (k : T AObj → β) : β := match t with
  | .nil => k .nil
  | .node l v r => k (.node l v r)
theorem forcedT_eq {β : Type} (t : T AObj) (k : T AObj → β) : forcedT t k = k t := by cases t <;> rfl
def forcedH {β : Type} (h : AHeap) (k : AHeap → β) : β := match h with
  | ⟨bs, nx⟩ => forcedN nx fun nx => forcedT bs fun bs => k ⟨bs, nx⟩
theorem forcedH_eq {β : Type} (h : AHeap) (k : AHeap → β) : forcedH h k = k h := by
  obtain ⟨bs, nx⟩ := h
  show forcedN nx (fun nx => forcedT bs fun bs => k ⟨bs, nx⟩) = _
  rw [forcedN_eq, forcedT_eq]
/-- An operation, by the slow road. -/
def slowK {β : Type} (P : Program) (xt : XTab) (e : EnvK) (o : Oper) (dst : Option Path) (t : T Value) (d : List Deferred) (h : AHeap) (k : T Value → AHeap → Option β) : Option β :=
  match opW P xt e.env o (⟨t, d⟩ : AAct).eval h with
  | some (v, h') => forced v fun v => forcedH h' fun h' => putK t dst v fun t => k t h'
  | none => none
/-- What an operation's fast form is to answer. -/
def Does {β : Type} (P : Program) (xt : XTab) (E : Env) (o : Oper) (t : T Value) (d : List Deferred) (h : AHeap) (k : T Value → AHeap → Option β) (r : β) : Prop :=
  ∃ v h', opW P xt E o (⟨t, d⟩ : AAct).eval h = some (v, h') ∧ k ((⟨t, d⟩ : AAct).put o.dst v).tmps h' = some r
theorem slowK_does {β : Type} {P : Program} {xt : XTab} {K : EnvK} {E : Env} (L : EnvL K E) {o : Oper} {t : T Value} {d : List Deferred} {h : AHeap} {k : T Value → AHeap → Option β} {r : β}
    (hr : slowK P xt K o (pathsOf o.dst) t d h k = some r) : Does P xt E o t d h k r := by
  unfold slowK at hr
  split at hr <;> first | (cases hr; done) | skip
  rename_i v h' hv
  rw [forced_eq, forcedH_eq, putK_eq (d := d)] at hr
  exact ⟨v, h', opW_mono L.env hv, hr⟩
end
end Go.Ab
