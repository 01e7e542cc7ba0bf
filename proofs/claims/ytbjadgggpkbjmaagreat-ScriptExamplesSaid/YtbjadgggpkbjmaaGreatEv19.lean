/- The evaluator, part 19. -/
import Derived.Test.YtbjadgggpkbjmaaGreatEv18
/- A machine with an explicit stack that does what the fast evaluator does: so a run can be cut into theorems. -/
namespace Go.Ab
open Go.RowKit
noncomputable section

section
variable {β : Type} {slow : Option β} {k : Value → Option β} {r : β} {x y : Value}
theorem addK_uni (h : addK x y slow k = some r) : (slow = some r ∧ ∀ {γ : Type} (s : Option γ) (k' : Value → Option γ), addK x y s k' = s) ∨ ∃ v, k v = some r ∧ ∀ {γ : Type} (s : Option γ) (k' : Value → Option γ), addK x y s k' = k' v := by
  cases x <;> first | exact .inl ⟨h, fun _ _ => rfl⟩ | skip
  rename_i kd n
  cases kd <;> first | exact .inl ⟨h, fun _ _ => rfl⟩ | skip
  cases n <;> first | exact .inl ⟨h, fun _ _ => rfl⟩ | skip
  rename_i a
  cases y <;> first | exact .inl ⟨h, fun _ _ => rfl⟩ | skip
  rename_i kd n
  cases kd <;> first | exact .inl ⟨h, fun _ _ => rfl⟩ | skip
  cases n <;> first | exact .inl ⟨h, fun _ _ => rfl⟩ | skip
  rename_i b
  have e : ∀ {γ : Type} (s : Option γ) (k : Value → Option γ), addK (.int .i64 (.ofNat a)) (.int .i64 (.ofNat b)) s k = onB (Nat.blt (Nat.add a b) 9223372036854775808) (forcedN (Nat.add a b) fun n => k (.int .i64 (.ofNat n))) s := fun _ _ => rfl
  rw [e] at h
  cases hb : Nat.blt (Nat.add a b) 9223372036854775808 with
  | true =>
    rw [hb] at h
    have h' : forcedN (Nat.add a b) (fun n => k (.int .i64 (.ofNat n))) = some r := h
    rw [forcedN_eq] at h'
    exact .inr ⟨_, h', fun s k => by rw [e, hb]; show forcedN (Nat.add a b) (fun n => k (.int .i64 (.ofNat n))) = _; exact forcedN_eq _ _⟩
  | false =>
    rw [hb] at h
    exact .inl ⟨h, fun s k => by rw [e, hb]; rfl⟩
theorem subK_uni (h : subK x y slow k = some r) : (slow = some r ∧ ∀ {γ : Type} (s : Option γ) (k' : Value → Option γ), subK x y s k' = s) ∨ ∃ v, k v = some r ∧ ∀ {γ : Type} (s : Option γ) (k' : Value → Option γ), subK x y s k' = k' v := by
  cases x <;> first | exact .inl ⟨h, fun _ _ => rfl⟩ | skip
  rename_i kd n
  cases kd <;> first | exact .inl ⟨h, fun _ _ => rfl⟩ | skip
  cases n <;> first | exact .inl ⟨h, fun _ _ => rfl⟩ | skip
  rename_i a
  cases y <;> first | exact .inl ⟨h, fun _ _ => rfl⟩ | skip
  rename_i kd n
  cases kd <;> first | exact .inl ⟨h, fun _ _ => rfl⟩ | skip
  cases n <;> first | exact .inl ⟨h, fun _ _ => rfl⟩ | skip
  rename_i b
  have e : ∀ {γ : Type} (s : Option γ) (k : Value → Option γ), subK (.int .i64 (.ofNat a)) (.int .i64 (.ofNat b)) s k = onB (Nat.ble b a) (onB (Nat.blt a 9223372036854775808) (forcedN (Nat.sub a b) fun n => k (.int .i64 (.ofNat n))) s) s := fun _ _ => rfl
  rw [e] at h
  cases hb : Nat.ble b a with
  | true =>
    cases hc : Nat.blt a 9223372036854775808 with
    | true =>
      rw [hb, hc] at h
      have h' : forcedN (Nat.sub a b) (fun n => k (.int .i64 (.ofNat n))) = some r := h
      rw [forcedN_eq] at h'
      exact .inr ⟨_, h', fun s k => by rw [e, hb, hc]; show forcedN (Nat.sub a b) (fun n => k (.int .i64 (.ofNat n))) = _; exact forcedN_eq _ _⟩
    | false =>
      rw [hb, hc] at h
      exact .inl ⟨h, fun s k => by rw [e, hb, hc]; rfl⟩
  | false =>
    rw [hb] at h
    exact .inl ⟨h, fun s k => by rw [e, hb]; rfl⟩
theorem cmpK_uni {c : ICmp} (h : cmpK c x y slow k = some r) : (slow = some r ∧ ∀ {γ : Type} (s : Option γ) (k' : Value → Option γ), cmpK c x y s k' = s) ∨ ∃ v, k v = some r ∧ ∀ {γ : Type} (s : Option γ) (k' : Value → Option γ), cmpK c x y s k' = k' v := by
  cases x <;> first | exact .inl ⟨h, fun _ _ => rfl⟩ | skip
  rename_i kx a
  cases y <;> first | exact .inl ⟨h, fun _ _ => rfl⟩ | skip
  rename_i ky b
  have e : ∀ {γ : Type} (s : Option γ) (k : Value → Option γ), cmpK c (.int kx a) (.int ky b) s k = onB (Nat.beq (kidx kx) (kidx ky)) (onB (c.of a b) (k (.bool true)) (k (.bool false))) s := fun _ _ => rfl
  rw [e] at h
  cases hb : Nat.beq (kidx kx) (kidx ky) with
  | true =>
    cases hc : c.of a b with
    | true =>
      rw [hb, hc] at h
      exact .inr ⟨.bool true, h, fun s k => by rw [e, hb, hc]; rfl⟩
    | false =>
      rw [hb, hc] at h
      exact .inr ⟨.bool false, h, fun s k => by rw [e, hb, hc]; rfl⟩
  | false =>
    rw [hb] at h
    exact .inl ⟨h, fun s k => by rw [e, hb]; rfl⟩
theorem loadK_uni {hp : AHeap} (h : loadK hp x k = some r) : ∃ v, k v = some r ∧ ∀ {γ : Type} (k' : Value → Option γ), loadK hp x k' = k' v := by
  unfold loadK at h
  split at h <;> first | (cases h; done) | skip
  rename_i a
  split at h <;> first | (cases h; done) | skip
  rename_i v hv
  exact ⟨v, h, fun k' => by unfold loadK; simp only [hv]⟩
theorem fieldK_uni {n : Nat} (h : fieldK x n slow k = some r) : (slow = some r ∧ ∀ {γ : Type} (s : Option γ) (k' : Value → Option γ), fieldK x n s k' = s) ∨ ∃ v, k v = some r ∧ ∀ {γ : Type} (s : Option γ) (k' : Value → Option γ), fieldK x n s k' = k' v := by
  cases x <;> first | exact .inl ⟨h, fun _ _ => rfl⟩ | skip
  rename_i a
  cases a <;> first | exact .inl ⟨h, fun _ _ => rfl⟩ | skip
  rename_i a
  obtain ⟨b, o, s⟩ := a
  cases s <;> first | exact .inl ⟨h, fun _ _ => rfl⟩ | skip
  have e : ∀ {γ : Type} (s : Option γ) (k : Value → Option γ), fieldK (.pointer (some ⟨b, o, none⟩)) n s k = forcedN (Nat.add o n) fun o => k (.pointer (some ⟨b, o, none⟩)) := fun _ _ => rfl
  rw [e, forcedN_eq] at h
  exact .inr ⟨_, h, fun s k => by rw [e, forcedN_eq]⟩
theorem indexK_uni {sz : Nat} (h : indexK x y sz slow k = some r) : (slow = some r ∧ ∀ {γ : Type} (s : Option γ) (k' : Value → Option γ), indexK x y sz s k' = s) ∨ ∃ v, k v = some r ∧ ∀ {γ : Type} (s : Option γ) (k' : Value → Option γ), indexK x y sz s k' = k' v := by
  cases x <;> first | exact .inl ⟨h, fun _ _ => rfl⟩ | skip
  rename_i a n c
  cases a <;> first | exact .inl ⟨h, fun _ _ => rfl⟩ | skip
  rename_i a
  obtain ⟨b, o, s⟩ := a
  cases s <;> first | exact .inl ⟨h, fun _ _ => rfl⟩ | skip
  cases y <;> first | exact .inl ⟨h, fun _ _ => rfl⟩ | skip
  rename_i kd j
  cases j <;> first | exact .inl ⟨h, fun _ _ => rfl⟩ | skip
  rename_i j
  have e : ∀ {γ : Type} (s : Option γ) (k : Value → Option γ), indexK (.slice (some ⟨b, o, none⟩) n c) (.int kd (.ofNat j)) sz s k = onB (Nat.blt j n) (forcedN (Nat.add o (Nat.mul j sz)) fun o => k (.pointer (some ⟨b, o, none⟩))) s := fun _ _ => rfl
  rw [e] at h
  cases hb : Nat.blt j n with
  | true =>
    rw [hb] at h
    have h' : forcedN (Nat.add o (Nat.mul j sz)) (fun o => k (.pointer (some ⟨b, o, none⟩))) = some r := h
    rw [forcedN_eq] at h'
    exact .inr ⟨_, h', fun s k => by rw [e, hb]; show forcedN (Nat.add o (Nat.mul j sz)) (fun o => k (.pointer (some ⟨b, o, none⟩))) = _; exact forcedN_eq _ _⟩
  | false =>
    rw [hb] at h
    exact .inl ⟨h, fun s k => by rw [e, hb]; rfl⟩
theorem extractK_uni {i : Nat} (h : extractK x i slow k = some r) : (slow = some r ∧ ∀ {γ : Type} (s : Option γ) (k' : Value → Option γ), extractK x i s k' = s) ∨ ∃ v, k v = some r ∧ ∀ {γ : Type} (s : Option γ) (k' : Value → Option γ), extractK x i s k' = k' v := by
  cases x <;> first | exact .inl ⟨h, fun _ _ => rfl⟩ | skip
  rename_i vs
  have e : ∀ {γ : Type} (s : Option γ) (k : Value → Option γ), extractK (.tuple vs) i s k = match vs.toList[i]? with
    | some v => k v
    | none => s := fun _ _ => rfl
  rw [e] at h
  cases hv : vs.toList[i]? with
  | some v => rw [hv] at h; exact .inr ⟨v, h, fun s k => by rw [e, hv]⟩
  | none => rw [hv] at h; exact .inl ⟨h, fun s k => by rw [e, hv]⟩
theorem nilK_uni (h : nilK x slow k = some r) : (slow = some r ∧ ∀ {γ : Type} (s : Option γ) (k' : Value → Option γ), nilK x s k' = s) ∨ ∃ v, k v = some r ∧ ∀ {γ : Type} (s : Option γ) (k' : Value → Option γ), nilK x s k' = k' v := by
  cases x <;> first | exact .inl ⟨h, fun _ _ => rfl⟩ | skip
  rename_i a
  cases a <;> first | exact .inl ⟨h, fun _ _ => rfl⟩ | exact .inr ⟨_, h, fun _ _ => rfl⟩
theorem storeK_uni {hp : AHeap} {v : Value} {kh : AHeap → Option β} (h : storeK hp x v slow kh = some r) : (slow = some r ∧ ∀ {γ : Type} (s : Option γ) (k' : AHeap → Option γ), storeK hp x v s k' = s) ∨ ∃ h', kh h' = some r ∧ ∀ {γ : Type} (s : Option γ) (k' : AHeap → Option γ), storeK hp x v s k' = k' h' := by
  cases x <;> first | exact .inl ⟨h, fun _ _ => rfl⟩ | skip
  rename_i a
  cases a <;> first | exact .inl ⟨h, fun _ _ => rfl⟩ | skip
  rename_i a
  obtain ⟨b, o, s⟩ := a
  cases s <;> first | exact .inl ⟨h, fun _ _ => rfl⟩ | skip
  obtain ⟨bs, nx⟩ := hp
  have e : ∀ {γ : Type} (s : Option γ) (k : AHeap → Option γ), storeK ⟨bs, nx⟩ (.pointer (some ⟨b, o, none⟩)) v s k = onB (oneV v) (match bs.get b with
      | some (.cells e n x false [] c) => onB (Nat.blt o n) (T.setP v (pathOf o) c fun c => T.setP (.cells e n x false [] c) (pathOf b) bs fun bs => k ⟨bs, nx⟩) s
      | _ => s) s := fun _ _ => rfl
  rw [e] at h
  cases ho : oneV v with
  | false =>
    rw [ho] at h
    exact .inl ⟨h, fun s k => by rw [e, ho]; rfl⟩
  | true =>
    rw [ho] at h
    have h1 : (match bs.get b with
      | some (.cells e n x false [] c) => onB (Nat.blt o n) (T.setP v (pathOf o) c fun c => T.setP (.cells e n x false [] c) (pathOf b) bs fun bs => kh ⟨bs, nx⟩) slow
      | _ => slow) = some r := h
    have e1 : ∀ {γ : Type} (s : Option γ) (k : AHeap → Option γ), storeK ⟨bs, nx⟩ (.pointer (some ⟨b, o, none⟩)) v s k = (match bs.get b with
      | some (.cells e n x false [] c) => onB (Nat.blt o n) (T.setP v (pathOf o) c fun c => T.setP (.cells e n x false [] c) (pathOf b) bs fun bs => k ⟨bs, nx⟩) s
      | _ => s) := fun s k => by rw [e, ho]; rfl
    cases hg : bs.get b with
    | none => rw [hg] at h1; exact .inl ⟨h1, fun s k => by rw [e1, hg]⟩
    | some ob =>
      cases ob with
      | obj _ => rw [hg] at h1; exact .inl ⟨h1, fun s k => by rw [e1, hg]⟩
      | dead => rw [hg] at h1; exact .inl ⟨h1, fun s k => by rw [e1, hg]⟩
      | cells el n x ro kin c =>
        cases ro with
        | true => rw [hg] at h1; exact .inl ⟨h1, fun s k => by rw [e1, hg]⟩
        | false =>
          cases kin with
          | cons _ _ => rw [hg] at h1; exact .inl ⟨h1, fun s k => by rw [e1, hg]⟩
          | nil =>
            rw [hg] at h1
            cases hb : Nat.blt o n with
            | false =>
              have h2 : onB (Nat.blt o n) (T.setP v (pathOf o) c fun c => T.setP (.cells el n x false [] c) (pathOf b) bs fun bs => kh ⟨bs, nx⟩) slow = some r := h1
              rw [hb] at h2
              exact .inl ⟨h2, fun s k => by rw [e1, hg]; show onB (Nat.blt o n) _ _ = _; rw [hb]; rfl⟩
            | true =>
              have h2 : onB (Nat.blt o n) (T.setP v (pathOf o) c fun c => T.setP (.cells el n x false [] c) (pathOf b) bs fun bs => kh ⟨bs, nx⟩) slow = some r := h1
              rw [hb] at h2
              have h3 : (T.setP v (pathOf o) c fun c => T.setP (.cells el n x false [] c) (pathOf b) bs fun bs => kh ⟨bs, nx⟩) = some r := h2
              rw [T.setP_id, T.setP_id] at h3
              exact .inr ⟨_, h3, fun s k => by rw [e1, hg]; show onB (Nat.blt o n) _ _ = _; rw [hb]; show (T.setP v (pathOf o) c fun c => T.setP (.cells el n x false [] c) (pathOf b) bs fun bs => k ⟨bs, nx⟩) = _; rw [T.setP_id, T.setP_id]⟩
end
theorem putK_uni {β : Type} (t : T Value) (dst : Option Path) (v : Value) : ∃ t', ∀ {γ : Type} (k : T Value → γ), putK t dst v k = k t' := by
  cases dst with
  | none => exact ⟨t, fun _ => rfl⟩
  | some p => exact ⟨T.setP v p t id, fun k => T.setP_id v p t k⟩
theorem slowK_uni {β : Type} {P : Program} {xt : XTab} {e : EnvK} {o : Oper} {dst : Option Path} {t : T Value} {d : List Deferred} {h : AHeap} {k : T Value → AHeap → Option β} {r : β} (hr : slowK P xt e o dst t d h k = some r) :
    ∃ t' h', k t' h' = some r ∧ ∀ {γ : Type} (k' : T Value → AHeap → Option γ), slowK P xt e o dst t d h k' = k' t' h' := by
  unfold slowK at hr
  split at hr <;> first | (cases hr; done) | skip
  rename_i v h' hv
  obtain ⟨t', ht⟩ := putK_uni (β := β) t dst v
  rw [forced_eq, forcedH_eq, ht] at hr
  exact ⟨t', h', hr, fun k' => by unfold slowK; simp only [hv]; rw [forced_eq, forcedH_eq, ht]⟩
def notCall : IOp → Bool
  | .call _ _ => false
  | _ => true
theorem opK_uni {β : Type} {P : Program} {xt : XTab} {e : EnvK} {x : IOper} (hx : notCall x.op = true) {t : T Value} {d : List Deferred} {h : AHeap} {k : T Value → AHeap → Option β} {r : β} (hr : opK P xt e x t d h k = some r) :
    ∃ t' h', k t' h' = some r ∧ ∀ {γ : Type} (k' : T Value → AHeap → Option γ), opK P xt e x t d h k' = k' t' h' := by
  obtain ⟨op, dst, g, o⟩ := x
  have put : ∀ v, putK t dst v (fun t => k t h) = some r → ∃ t', k t' h = some r ∧ ∀ {γ : Type} (k' : T Value → AHeap → Option γ), putK t dst v (fun t => k' t h) = k' t' h := by
    intro v hv
    obtain ⟨t', ht⟩ := putK_uni (β := β) t dst v
    rw [ht] at hv
    exact ⟨t', hv, fun k' => ht _⟩
  cases op with
  | call f args => cases hx
  | slow => exact slowK_uni hr
  | mov a =>
    have hr' : forced (a.ev t) (fun v => putK t dst v fun t => k t h) = some r := hr
    rw [forced_eq] at hr'
    obtain ⟨t', h1, h2⟩ := put _ hr'
    refine ⟨t', h, h1, fun {γ} k' => ?_⟩
    show forced (a.ev t) (fun v => putK t dst v fun t => k' t h) = _
    rw [forced_eq]; exact h2 k'
  | load a =>
    obtain ⟨v, h1, h2⟩ := loadK_uni (k := fun v => putK t dst v fun t => k t h) hr
    obtain ⟨t', h3, h4⟩ := put _ h1
    exact ⟨t', h, h3, fun k' => (h2 (fun v => putK t dst v fun t => k' t h)).trans (h4 k')⟩
  | store a b =>
    have hr' : forced (b.ev t) (fun v => storeK h (a.ev t) v (slowK P xt e o dst t d h k) fun h => putK t dst undef fun t => k t h) = some r := hr
    rw [forced_eq] at hr'
    obtain ⟨t', ht⟩ := putK_uni (β := β) t dst undef
    have un : ∀ {γ : Type} (k' : T Value → AHeap → Option γ), opK P xt e ⟨.store a b, dst, g, o⟩ t d h k' = storeK h (a.ev t) (b.ev t) (slowK P xt e o dst t d h k') fun h => putK t dst undef fun t => k' t h := fun k' => by
      show forced (b.ev t) (fun v => storeK h (a.ev t) v (slowK P xt e o dst t d h k') fun h => putK t dst undef fun t => k' t h) = _
      exact forced_eq _ _
    rcases storeK_uni hr' with ⟨h1, h2⟩ | ⟨h', h1, h2⟩
    · obtain ⟨t2, hh, q1, q2⟩ := slowK_uni h1
      exact ⟨t2, hh, q1, fun k' => by rw [un, h2]; exact q2 k'⟩
    · rw [ht] at h1
      exact ⟨t', h', h1, fun k' => by rw [un, h2, ht]⟩
  | add a b =>
    rcases addK_uni (slow := slowK P xt e o dst t d h k) (k := fun v => putK t dst v fun t => k t h) hr with ⟨h1, h2⟩ | ⟨v, h1, h2⟩
    · obtain ⟨t', h', q1, q2⟩ := slowK_uni h1
      exact ⟨t', h', q1, fun k' => (h2 (slowK P xt e o dst t d h k') (fun v => putK t dst v fun t => k' t h)).trans (q2 k')⟩
    · obtain ⟨t', h3, h4⟩ := put _ h1
      exact ⟨t', h, h3, fun k' => (h2 (slowK P xt e o dst t d h k') (fun v => putK t dst v fun t => k' t h)).trans (h4 k')⟩
  | sub a b =>
    rcases subK_uni (slow := slowK P xt e o dst t d h k) (k := fun v => putK t dst v fun t => k t h) hr with ⟨h1, h2⟩ | ⟨v, h1, h2⟩
    · obtain ⟨t', h', q1, q2⟩ := slowK_uni h1
      exact ⟨t', h', q1, fun k' => (h2 (slowK P xt e o dst t d h k') (fun v => putK t dst v fun t => k' t h)).trans (q2 k')⟩
    · obtain ⟨t', h3, h4⟩ := put _ h1
      exact ⟨t', h, h3, fun k' => (h2 (slowK P xt e o dst t d h k') (fun v => putK t dst v fun t => k' t h)).trans (h4 k')⟩
  | cmp c a b =>
    rcases cmpK_uni (slow := slowK P xt e o dst t d h k) (k := fun v => putK t dst v fun t => k t h) hr with ⟨h1, h2⟩ | ⟨v, h1, h2⟩
    · obtain ⟨t', h', q1, q2⟩ := slowK_uni h1
      exact ⟨t', h', q1, fun k' => (h2 (slowK P xt e o dst t d h k') (fun v => putK t dst v fun t => k' t h)).trans (q2 k')⟩
    · obtain ⟨t', h3, h4⟩ := put _ h1
      exact ⟨t', h, h3, fun k' => (h2 (slowK P xt e o dst t d h k') (fun v => putK t dst v fun t => k' t h)).trans (h4 k')⟩
  | field a n =>
    rcases fieldK_uni (slow := slowK P xt e o dst t d h k) (k := fun v => putK t dst v fun t => k t h) hr with ⟨h1, h2⟩ | ⟨v, h1, h2⟩
    · obtain ⟨t', h', q1, q2⟩ := slowK_uni h1
      exact ⟨t', h', q1, fun k' => (h2 (slowK P xt e o dst t d h k') (fun v => putK t dst v fun t => k' t h)).trans (q2 k')⟩
    · obtain ⟨t', h3, h4⟩ := put _ h1
      exact ⟨t', h, h3, fun k' => (h2 (slowK P xt e o dst t d h k') (fun v => putK t dst v fun t => k' t h)).trans (h4 k')⟩
  | index a b n =>
    rcases indexK_uni (slow := slowK P xt e o dst t d h k) (k := fun v => putK t dst v fun t => k t h) hr with ⟨h1, h2⟩ | ⟨v, h1, h2⟩
    · obtain ⟨t', h', q1, q2⟩ := slowK_uni h1
      exact ⟨t', h', q1, fun k' => (h2 (slowK P xt e o dst t d h k') (fun v => putK t dst v fun t => k' t h)).trans (q2 k')⟩
    · obtain ⟨t', h3, h4⟩ := put _ h1
      exact ⟨t', h, h3, fun k' => (h2 (slowK P xt e o dst t d h k') (fun v => putK t dst v fun t => k' t h)).trans (h4 k')⟩
  | extract a i =>
    rcases extractK_uni (slow := slowK P xt e o dst t d h k) (k := fun v => putK t dst v fun t => k t h) hr with ⟨h1, h2⟩ | ⟨v, h1, h2⟩
    · obtain ⟨t', h', q1, q2⟩ := slowK_uni h1
      exact ⟨t', h', q1, fun k' => (h2 (slowK P xt e o dst t d h k') (fun v => putK t dst v fun t => k' t h)).trans (q2 k')⟩
    · obtain ⟨t', h3, h4⟩ := put _ h1
      exact ⟨t', h, h3, fun k' => (h2 (slowK P xt e o dst t d h k') (fun v => putK t dst v fun t => k' t h)).trans (h4 k')⟩
  | nilChk a =>
    rcases nilK_uni (slow := slowK P xt e o dst t d h k) (k := fun v => putK t dst v fun t => k t h) hr with ⟨h1, h2⟩ | ⟨v, h1, h2⟩
    · obtain ⟨t', h', q1, q2⟩ := slowK_uni h1
      exact ⟨t', h', q1, fun k' => (h2 (slowK P xt e o dst t d h k') (fun v => putK t dst v fun t => k' t h)).trans (q2 k')⟩
    · obtain ⟨t', h3, h4⟩ := put _ h1
      exact ⟨t', h, h3, fun k' => (h2 (slowK P xt e o dst t d h k') (fun v => putK t dst v fun t => k' t h)).trans (h4 k')⟩
end
end Go.Ab
