/- The evaluator, part 20. -/
import Derived.Test.YtbjadgggpkbjmaaGreatEv19
/- The machine: its states are data; what a state stands for is the fast evaluator's run. -/
namespace Go.Ab
open Go.RowKit
noncomputable section

def child (c : ICode) (d : Nat) : ICode := match c with
  | .seq a b => match d with
    | 0 => a
    | _ => b
  | .cond _ a b => match d with
    | 0 => a
    | _ => b
  | .block _ b => b
  | .loop b => b
  | _ => .no
def bodyAt (P : Program) (xt : XTab) (f : FuncId) : ICode := match P.funcs[f]? with
  | some fn => match fn.body with
    | some c => comp P xt c
    | none => .no
  | none => .no
def ntAt (P : Program) (f : FuncId) : Nat := match P.funcs[f]? with
  | some fn => fn.ntmps
  | none => 0
def resAt (P : Program) (f : FuncId) : List ResultVar := match P.funcs[f]? with
  | some fn => fn.results.toList
  | none => []
def okAt (P : Program) (f : FuncId) (n : Nat) : Bool := match P.funcs[f]? with
  | some fn => match fn.body with
    | some _ => okFn fn && Nat.ble n fn.ntmps
    | none => false
  | none => false
def codeAt (P : Program) (xt : XTab) (f : FuncId) : List Nat → ICode
  | [] => bodyAt P xt f
  | d :: p => child (codeAt P xt f p) d
def opsOf : ICode → List IOper
  | .ops l => l
  | _ => []
def restAt (P : Program) (xt : XTab) (f : FuncId) (p : List Nat) : Nat → List IOper
  | 0 => opsOf (codeAt P xt f p)
  | i + 1 => (restAt P xt f p i).tail
def dstAt (P : Program) (xt : XTab) (f : FuncId) (p : List Nat) (i : Nat) : Option Path := match restAt P xt f p i with
  | x :: _ => x.dst
  | [] => none

inductive Fm where
  | seq (p : List Nat)
  | blk (id : Nat)
  | loop (p : List Nat) (n : Nat)
  | call (f m : Nat) (p : List Nat) (i : Nat) (t : T Value) (d : List Deferred)
inductive Fo where
  | code (p : List Nat)
  | ops (p : List Nat) (i : Nat)
  | exit (x : AExit)
inductive M where
  | at (f m : Nat) (fo : Fo) (t : T Value) (d : List Deferred) (h : AHeap) (k : List Fm)
  | done (v : Value) (h : AHeap)

section
variable {β : Type} (P : Program) (xt : XTab) (k0 : Value → AHeap → Option β)
def finK (f : FuncId) (kv : Value → AHeap → Option β) : Kt β := fun x t d h => match x with
  | .exit _ => none
  | .normal => endK P (resAt P f) kv t d h
  | .ret => endK P (resAt P f) kv t d h
def denF : List Fm → Nat → Nat → Kt β
  | [], f, _ => finK P f k0
  | .seq p :: k, f, m => fun x t d h => AExit.casesOn (motive := fun _ => Option β) x (codeK P xt (envK P xt m) (ntAt P f) none (codeAt P xt f p) t d h (denF k f m)) (fun i => denF k f m (.exit i) t d h) (denF k f m .ret t d h)
  | .blk id :: k, f, m => fun x t d h => AExit.casesOn (motive := fun _ => Option β) x (denF k f m .normal t d h) (fun i => onB (Nat.beq i id) (denF k f m .normal t d h) (denF k f m (.exit i) t d h)) (denF k f m .ret t d h)
  | .loop p n :: k, f, m => fun x t d h => AExit.casesOn (motive := fun _ => Option β) x (loopK (codeK P xt (envK P xt m) (ntAt P f) none (codeAt P xt f p)) n t d h (denF k f m)) (fun i => denF k f m (.exit i) t d h) (denF k f m .ret t d h)
  | .call f' m' p i t' d' :: k, f, _ => finK P f fun v h => forced v fun v => putK t' (dstAt P xt f' p i) v fun t => opsK P xt (envK P xt m') (restAt P xt f' p (i + 1)) t d' h fun t h => denF k f' m' .normal t d' h
def den : M → Option β
  | .done v h => k0 v h
  | .at f m (.code p) t d h k => codeK P xt (envK P xt m) (ntAt P f) none (codeAt P xt f p) t d h (denF P xt k0 k f m)
  | .at f m (.ops p i) t d h k => opsK P xt (envK P xt m) (restAt P xt f p i) t d h fun t h => denF P xt k0 k f m .normal t d h
  | .at f m (.exit x) t d h k => denF P xt k0 k f m x t d h
end

/-- One step: the next state is handed on. -/
def guardB (g : IGuard) (t : T Value) : Bool := guardK g t true false
theorem guardK_B {β : Type} (g : IGuard) (t : T Value) (y n : β) : guardK g t y n = match guardB g t with
    | true => y
    | false => n := by
  cases g with
  | always => rfl
  | never => rfl
  | on p w =>
    show boolK (t.getP p) y n w = match boolK (t.getP p) true false w with
      | true => y
      | false => n
    cases t.getP p with
    | none => rfl
    | some v => cases v <;> first | rfl | (rename_i b; cases b <;> cases w <;> rfl)
def retK {γ : Type} (P : Program) (xt : XTab) (f : FuncId) (t : T Value) (d : List Deferred) (h : AHeap) (k : List Fm) (next : M → Option γ) : Option γ :=
  endK P (resAt P f) (fun v h => match k with
    | [] => next (.done v h)
    | .call f' m' p i t' d' :: k => forced v fun v => putK t' (dstAt P xt f' p i) v fun t => next (.at f' m' (.ops p (i + 1)) t d' h k)
    | _ => none) t d h
def exitK {γ : Type} (P : Program) (xt : XTab) (f m : Nat) (x : AExit) (t : T Value) (d : List Deferred) (h : AHeap) (k : List Fm) (next : M → Option γ) : Option γ := match k with
  | .seq p :: k => match x with
    | .normal => next (.at f m (.code p) t d h k)
    | .exit i => next (.at f m (.exit (.exit i)) t d h k)
    | .ret => next (.at f m (.exit .ret) t d h k)
  | .blk id :: k => match x with
    | .normal => next (.at f m (.exit .normal) t d h k)
    | .exit i => onB (Nat.beq i id) (next (.at f m (.exit .normal) t d h k)) (next (.at f m (.exit (.exit i)) t d h k))
    | .ret => next (.at f m (.exit .ret) t d h k)
  | .loop p (n + 1) :: k => match x with
    | .normal => next (.at f m (.code p) t d h (.loop p n :: k))
    | .exit i => next (.at f m (.exit (.exit i)) t d h k)
    | .ret => next (.at f m (.exit .ret) t d h k)
  | .loop _ 0 :: k => match x with
    | .normal => none
    | .exit i => next (.at f m (.exit (.exit i)) t d h k)
    | .ret => next (.at f m (.exit .ret) t d h k)
  | [] => match x with
    | .exit _ => none
    | _ => retK P xt f t d h [] next
  | .call f' m' p i t' d' :: k => match x with
    | .exit _ => none
    | _ => retK P xt f t d h (.call f' m' p i t' d' :: k) next
def enterK {γ : Type} (P : Program) (f m : Nat) (p : List Nat) (i : Nat) (t : T Value) (d : List Deferred) (h : AHeap) (k : List Fm) (g : FuncId) (args : List Value) (next : M → Option γ) : Option γ := match m with
  | 0 => none
  | m + 1 => match okAt P g args.length with
    | true => ofK args 0 .nil fun t' => next (.at g m (.code []) t' [] h (.call f (m + 1) p i t d :: k))
    | false => none
def opStepK {γ : Type} (P : Program) (xt : XTab) (f m : Nat) (p : List Nat) (i : Nat) (x : IOper) (t : T Value) (d : List Deferred) (h : AHeap) (k : List Fm) (next : M → Option γ) : Option γ :=
  match guardB x.guard t with
  | false => putK t x.dst undef fun t => next (.at f m (.ops p (i + 1)) t d h k)
  | true => match x.op with
    | .call g args => enterK P f m p i t d h k g (evs t args) next
    | _ => opK P xt (envK P xt m) x t d h fun t h => next (.at f m (.ops p (i + 1)) t d h k)
def stepK {γ : Type} (P : Program) (xt : XTab) (s : M) (next : M → Option γ) : Option γ := match s with
  | .done v h => next (.done v h)
  | .at f m (.exit x) t d h k => exitK P xt f m x t d h k next
  | .at f m (.ops p i) t d h k => match restAt P xt f p i with
    | [] => next (.at f m (.exit .normal) t d h k)
    | x :: _ => opStepK P xt f m p i x t d h k next
  | .at f m (.code p) t d h k => match codeAt P xt f p with
    | .skip => next (.at f m (.exit .normal) t d h k)
    | .ops _ => next (.at f m (.ops p 0) t d h k)
    | .mixed l => match regE P xt (envK P xt m).env l ⟨t, d⟩ h with
      | some (⟨t, d⟩, h) => forcedH h fun h => next (.at f m (.exit .normal) t d h k)
      | none => none
    | .seq _ _ => next (.at f m (.code (0 :: p)) t d h (.seq (1 :: p) :: k))
    | .cond c _ _ => condK (c.ev t) (next (.at f m (.code (0 :: p)) t d h k)) (next (.at f m (.code (1 :: p)) t d h k))
    | .block id _ => next (.at f m (.code (0 :: p)) t d h (.blk id :: k))
    | .loop _ => next (.at f m (.code (0 :: p)) t d h (.loop (0 :: p) 1048575 :: k))
    | .exit id => next (.at f m (.exit (.exit id)) t d h k)
    | .ret => next (.at f m (.exit .ret) t d h k)
    | .range g ps x y => match rangeE P (envK P xt m).env (ntAt P f) none g ps x y ⟨t, d⟩ h with
      | some (x, ⟨t, d⟩, h) => forcedH h fun h => next (.at f m (.exit x) t d h k)
      | none => none
    | .no => none
/-- So many steps. -/
def runM (P : Program) (xt : XTab) (n : Nat) : M → Option M :=
  Nat.rec (motive := fun _ => M → Option M) some (fun _ ih s => stepK P xt s ih) n

section
variable {β γ : Type} {P : Program} {xt : XTab} {k0 : Value → AHeap → Option β}
theorem endK_uni {rs : List ResultVar} {kv : Value → AHeap → Option γ} {t : T Value} {d : List Deferred} {h : AHeap} {r : γ} (hr : endK P rs kv t d h = some r) : ∃ v h', kv v h' = some r ∧ ∀ {δ : Type} (k' : Value → AHeap → Option δ), endK P rs k' t d h = k' v h' := by
  unfold endK at hr
  split at hr <;> first | (cases hr; done) | skip
  rename_i h2 hl
  split at hr <;> first | (cases hr; done) | skip
  rename_i vs h3 ha
  exact ⟨packR vs, h3, hr, fun k' => by unfold endK; simp only [hl, ha]⟩
theorem retK_den {f m : Nat} {t : T Value} {d : List Deferred} {h : AHeap} {k : List Fm} {next : M → Option γ} {r : γ} (hk : k = [] ∨ ∃ f' m' p i t' d' k', k = .call f' m' p i t' d' :: k') (hr : retK P xt f t d h k next = some r) :
    ∃ s', next s' = some r ∧ denF P xt k0 k f m .ret t d h = den P xt k0 s' ∧ denF P xt k0 k f m .normal t d h = den P xt k0 s' := by
  unfold retK at hr
  obtain ⟨v, h', h1, h2⟩ := endK_uni hr
  rcases hk with rfl | ⟨f', m', p, i, t', d', k', rfl⟩
  · exact ⟨_, h1, h2 k0, h2 k0⟩
  · have h1' : forced v (fun v => putK t' (dstAt P xt f' p i) v fun t => next (.at f' m' (.ops p (i + 1)) t d' h' k')) = some r := h1
    obtain ⟨t2, ht⟩ := putK_uni (β := γ) t' (dstAt P xt f' p i) v
    rw [forced_eq, ht] at h1'
    have fin : endK P (resAt P f) (fun v h => forced v fun v => putK t' (dstAt P xt f' p i) v fun t => opsK P xt (envK P xt m') (restAt P xt f' p (i + 1)) t d' h fun t h => denF P xt k0 k' f' m' .normal t d' h) t d h = den P xt k0 (.at f' m' (.ops p (i + 1)) t2 d' h' k') := by
      rw [h2, forced_eq, ht]
      rfl
    exact ⟨_, h1', fin, fin⟩
theorem exitK_den {f m : Nat} {x : AExit} {t : T Value} {d : List Deferred} {h : AHeap} {k : List Fm} {next : M → Option γ} {r : γ} (hr : exitK P xt f m x t d h k next = some r) :
    ∃ s', next s' = some r ∧ denF P xt k0 k f m x t d h = den P xt k0 s' := by
  cases k with
  | nil =>
    cases x with
    | exit i => cases hr
    | normal => obtain ⟨s', h1, h2, h3⟩ := retK_den (k0 := k0) (m := m) (.inl rfl) (show retK P xt f t d h [] next = some r from hr); exact ⟨s', h1, h3⟩
    | ret => obtain ⟨s', h1, h2, h3⟩ := retK_den (k0 := k0) (m := m) (.inl rfl) (show retK P xt f t d h [] next = some r from hr); exact ⟨s', h1, h2⟩
  | cons fr k =>
    cases fr with
    | seq p => cases x <;> exact ⟨_, hr, rfl⟩
    | blk id =>
      cases x with
      | normal => exact ⟨_, hr, rfl⟩
      | ret => exact ⟨_, hr, rfl⟩
      | exit i =>
        have hr' : onB (Nat.beq i id) (next (.at f m (.exit .normal) t d h k)) (next (.at f m (.exit (.exit i)) t d h k)) = some r := hr
        cases hb : Nat.beq i id with
        | true =>
          rw [hb] at hr'
          refine ⟨_, hr', ?_⟩
          show onB (Nat.beq i id) _ _ = _
          rw [hb]; rfl
        | false =>
          rw [hb] at hr'
          refine ⟨_, hr', ?_⟩
          show onB (Nat.beq i id) _ _ = _
          rw [hb]; rfl
    | loop p n =>
      cases n with
      | zero => cases x <;> first | (cases hr; done) | exact ⟨_, hr, rfl⟩
      | succ n => cases x <;> exact ⟨_, hr, rfl⟩
    | call f' m' p i t' d' =>
      cases x with
      | exit i => cases hr
      | normal => obtain ⟨s', h1, h2, h3⟩ := retK_den (k0 := k0) (m := m) (.inr ⟨f', m', p, i, t', d', k, rfl⟩) (show retK P xt f t d h (.call f' m' p i t' d' :: k) next = some r from hr); exact ⟨s', h1, h3⟩
      | ret => obtain ⟨s', h1, h2, h3⟩ := retK_den (k0 := k0) (m := m) (.inr ⟨f', m', p, i, t', d', k, rfl⟩) (show retK P xt f t d h (.call f' m' p i t' d' :: k) next = some r from hr); exact ⟨s', h1, h2⟩
/-- A call is a state of the function that is called. -/
theorem call_den {m : Nat} {g : FuncId} {args : List Value} {h : AHeap} (hok : okAt P g args.length = true) (kv : Value → AHeap → Option β) :
    (envK P xt (m + 1)).call g args h kv = ofK args 0 .nil fun t => codeK P xt (envK P xt m) (ntAt P g) none (bodyAt P xt g) t [] h (finK P g kv) := by
  unfold okAt at hok
  cases hf : P.funcs[g]? with
  | none => rw [hf] at hok; cases hok
  | some fn =>
    rw [hf] at hok
    cases hb : fn.body with
    | none => simp only [hb] at hok; cases hok
    | some c =>
      simp only [hb] at hok
      have e1 : ntAt P g = fn.ntmps := by unfold ntAt; rw [hf]
      have e2 : bodyAt P xt g = comp P xt c := by unfold bodyAt; rw [hf]; simp only [hb]
      have e3 : finK P g kv = fun x t d h => match x with
          | .exit _ => none
          | .normal => endK P fn.results.toList kv t d h
          | .ret => endK P fn.results.toList kv t d h := by
        unfold finK resAt
        rw [hf]
      rw [e1, e2, e3]
      simp only [envK, hf, hok, hb]
      rfl
theorem stepK_den {s : M} {next : M → Option γ} {r : γ} (hr : stepK P xt s next = some r) : ∃ s', next s' = some r ∧ den P xt k0 s = den P xt k0 s' := by
  cases s with
  | done v h => exact ⟨_, hr, rfl⟩
  | «at» f m fo t d h k =>
    cases fo with
    | exit x => exact exitK_den hr
    | ops p i =>
      have hr' : (match restAt P xt f p i with
        | [] => next (.at f m (.exit .normal) t d h k)
        | x :: _ => opStepK P xt f m p i x t d h k next) = some r := hr
      cases hl : restAt P xt f p i with
      | nil =>
        rw [hl] at hr'
        exact ⟨_, hr', by show opsK P xt _ (restAt P xt f p i) _ _ _ _ = _; rw [hl]; rfl⟩
      | cons x l =>
        rw [hl] at hr'
        have htl : restAt P xt f p (i + 1) = l := by show (restAt P xt f p i).tail = l; rw [hl]; rfl
        have hdst : dstAt P xt f p i = x.dst := by unfold dstAt; rw [hl]
        have hden : den P xt k0 (.at f m (.ops p i) t d h k) = match guardB x.guard t with
            | true => opK P xt (envK P xt m) x t d h fun t h => opsK P xt (envK P xt m) l t d h fun t h => denF P xt k0 k f m .normal t d h
            | false => putK t x.dst undef fun t => opsK P xt (envK P xt m) l t d h fun t h => denF P xt k0 k f m .normal t d h := by
          show opsK P xt _ (restAt P xt f p i) _ _ _ _ = _
          rw [hl]
          exact guardK_B _ _ _ _
        have hnext : ∀ t h, den P xt k0 (.at f m (.ops p (i + 1)) t d h k) = opsK P xt (envK P xt m) l t d h fun t h => denF P xt k0 k f m .normal t d h := fun t h => by
          show opsK P xt _ (restAt P xt f p (i + 1)) _ _ _ _ = _
          rw [htl]
        have hs : opStepK P xt f m p i x t d h k next = some r := hr'
        unfold opStepK at hs
        cases hg : guardB x.guard t with
        | false =>
          rw [hg] at hs hden
          have hs' : putK t x.dst undef (fun t => next (.at f m (.ops p (i + 1)) t d h k)) = some r := hs
          obtain ⟨t', ht⟩ := putK_uni (β := γ) t x.dst undef
          rw [ht] at hs'
          refine ⟨_, hs', ?_⟩
          rw [hden, hnext]
          exact ht _
        | true =>
          rw [hg] at hs hden
          simp only at hs hden
          by_cases hc : notCall x.op = true
          · have hs' : opK P xt (envK P xt m) x t d h (fun t h => next (.at f m (.ops p (i + 1)) t d h k)) = some r := by
              obtain ⟨op, dst, g, o⟩ := x
              cases op <;> first | exact hs | cases hc
            obtain ⟨t', h', q1, q2⟩ := opK_uni hc hs'
            refine ⟨_, q1, ?_⟩
            rw [hden, hnext]
            exact q2 _
          · obtain ⟨op, dst, gd, o⟩ := x
            cases op with
            | call g args =>
              have hs' : enterK P f m p i t d h k g (evs t args) next = some r := hs
              cases m with
              | zero => cases hs'
              | succ m =>
                have hs2 : (match okAt P g (evs t args).length with
                  | true => ofK (evs t args) 0 .nil fun t' => next (.at g m (.code []) t' [] h (.call f (m + 1) p i t d :: k))
                  | false => none) = some r := hs'
                cases hok : okAt P g (evs t args).length with
                | false => rw [hok] at hs2; cases hs2
                | true =>
                  rw [hok] at hs2
                  simp only [ofK_eq] at hs2
                  refine ⟨_, hs2, ?_⟩
                  rw [hden]
                  show (envK P xt (m + 1)).call g (evs t args) h (fun v h => forced v fun v => putK t dst v fun t => opsK P xt (envK P xt (m + 1)) l t d h fun t h => denF P xt k0 k f (m + 1) .normal t d h) = _
                  rw [call_den hok, ofK_eq]
                  show _ = codeK P xt (envK P xt m) (ntAt P g) none (codeAt P xt g []) _ _ _ (denF P xt k0 (.call f (m + 1) p i t d :: k) g m)
                  simp only [denF, codeAt, hdst, htl]
            | _ => exact absurd rfl hc
    | code p =>
      have hden : den P xt k0 (.at f m (.code p) t d h k) = codeK P xt (envK P xt m) (ntAt P f) none (codeAt P xt f p) t d h (denF P xt k0 k f m) := rfl
      have hs : (match codeAt P xt f p with
        | .skip => next (.at f m (.exit .normal) t d h k)
        | .ops _ => next (.at f m (.ops p 0) t d h k)
        | .mixed l => match regE P xt (envK P xt m).env l ⟨t, d⟩ h with
          | some (⟨t, d⟩, h) => forcedH h fun h => next (.at f m (.exit .normal) t d h k)
          | none => none
        | .seq _ _ => next (.at f m (.code (0 :: p)) t d h (.seq (1 :: p) :: k))
        | .cond c _ _ => condK (c.ev t) (next (.at f m (.code (0 :: p)) t d h k)) (next (.at f m (.code (1 :: p)) t d h k))
        | .block id _ => next (.at f m (.code (0 :: p)) t d h (.blk id :: k))
        | .loop _ => next (.at f m (.code (0 :: p)) t d h (.loop (0 :: p) 1048575 :: k))
        | .exit id => next (.at f m (.exit (.exit id)) t d h k)
        | .ret => next (.at f m (.exit .ret) t d h k)
        | .range g ps x y => match rangeE P (envK P xt m).env (ntAt P f) none g ps x y ⟨t, d⟩ h with
          | some (x, ⟨t, d⟩, h) => forcedH h fun h => next (.at f m (.exit x) t d h k)
          | none => none
        | .no => none) = some r := hr
      have ch : ∀ j, codeAt P xt f (j :: p) = child (codeAt P xt f p) j := fun _ => rfl
      cases hc : codeAt P xt f p with
      | skip => rw [hc] at hs; exact ⟨_, hs, by rw [hden, hc]; rfl⟩
      | ops l =>
        rw [hc] at hs
        refine ⟨_, hs, ?_⟩
        rw [hden, hc]
        show _ = opsK P xt (envK P xt m) (opsOf (codeAt P xt f p)) t d h fun t h => denF P xt k0 k f m .normal t d h
        rw [hc]; rfl
      | mixed l =>
        rw [hc] at hs
        simp only at hs
        split at hs <;> first | (cases hs; done) | skip
        rename_i t' d' h' he
        rw [forcedH_eq] at hs
        refine ⟨_, hs, ?_⟩
        rw [hden, hc]
        show (match regE P xt (envK P xt m).env l ⟨t, d⟩ h with
          | some (⟨t, d⟩, h) => denF P xt k0 k f m .normal t d h
          | none => none) = _
        rw [he]; rfl
      | seq a b =>
        rw [hc] at hs
        refine ⟨_, hs, ?_⟩
        rw [hden, hc]
        show _ = codeK P xt (envK P xt m) (ntAt P f) none (codeAt P xt f (0 :: p)) t d h (denF P xt k0 (.seq (1 :: p) :: k) f m)
        simp only [denF, ch, hc]
        rfl
      | cond c a b =>
        rw [hc] at hs
        have hs' : condK (c.ev t) (next (.at f m (.code (0 :: p)) t d h k)) (next (.at f m (.code (1 :: p)) t d h k)) = some r := hs
        have hd2 : den P xt k0 (.at f m (.code p) t d h k) = condK (c.ev t) (codeK P xt (envK P xt m) (ntAt P f) none a t d h (denF P xt k0 k f m)) (codeK P xt (envK P xt m) (ntAt P f) none b t d h (denF P xt k0 k f m)) := by rw [hden, hc]; rfl
        unfold condK at hs'
        split at hs' <;> first | (cases hs'; done) | skip
        rename_i bb hb
        cases bb with
        | true =>
          refine ⟨_, hs', ?_⟩
          rw [hd2, hb]
          show codeK P xt (envK P xt m) (ntAt P f) none a t d h (denF P xt k0 k f m) = codeK P xt (envK P xt m) (ntAt P f) none (codeAt P xt f (0 :: p)) t d h (denF P xt k0 k f m)
          rw [ch, hc]; rfl
        | false =>
          refine ⟨_, hs', ?_⟩
          rw [hd2, hb]
          show codeK P xt (envK P xt m) (ntAt P f) none b t d h (denF P xt k0 k f m) = codeK P xt (envK P xt m) (ntAt P f) none (codeAt P xt f (1 :: p)) t d h (denF P xt k0 k f m)
          rw [ch, hc]; rfl
      | block id b =>
        rw [hc] at hs
        refine ⟨_, hs, ?_⟩
        rw [hden, hc]
        show _ = codeK P xt (envK P xt m) (ntAt P f) none (codeAt P xt f (0 :: p)) t d h (denF P xt k0 (.blk id :: k) f m)
        rw [ch, hc]; rfl
      | loop b =>
        rw [hc] at hs
        refine ⟨_, hs, ?_⟩
        rw [hden, hc]
        show loopK (codeK P xt (envK P xt m) (ntAt P f) none b) 1048576 t d h (denF P xt k0 k f m) = codeK P xt (envK P xt m) (ntAt P f) none (codeAt P xt f (0 :: p)) t d h (denF P xt k0 (.loop (0 :: p) 1048575 :: k) f m)
        have e : codeAt P xt f (0 :: p) = b := by rw [ch, hc]; rfl
        simp only [denF, e]
        rfl
      | exit id => rw [hc] at hs; exact ⟨_, hs, by rw [hden, hc]; rfl⟩
      | ret => rw [hc] at hs; exact ⟨_, hs, by rw [hden, hc]; rfl⟩
      | range g ps x y =>
        rw [hc] at hs
        simp only at hs
        split at hs <;> first | (cases hs; done) | skip
        rename_i x' t' d' h' he
        rw [forcedH_eq] at hs
        refine ⟨_, hs, ?_⟩
        rw [hden, hc]
        show outK (denF P xt k0 k f m) (rangeE P (envK P xt m).env (ntAt P f) none g ps x y ⟨t, d⟩ h) = _
        rw [he]; rfl
      | no => rw [hc] at hs; cases hs
theorem runM_den : ∀ (n : Nat) {s s' : M}, runM P xt n s = some s' → den P xt k0 s = den P xt k0 s'
  | 0, s, s', h => by cases h; rfl
  | n + 1, s, s', h => by
    have h' : stepK P xt s (runM P xt n) = some s' := h
    obtain ⟨s1, h1, h2⟩ := stepK_den (k0 := k0) h'
    exact h2.trans (runM_den n h1)
/-- A run of the machine is a run of the evaluator. -/
theorem start_den {m : Nat} {f : FuncId} (hok : okAt P f 0 = true) : (envK P xt (m + 1)).call f [] emptyH k0 = den P xt k0 (.at f m (.code []) .nil [] emptyH []) := by
  rw [call_den (args := []) hok]
  rfl
end
end
end Go.Ab
