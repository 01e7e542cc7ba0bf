/- The evaluator, part 17. -/
import Derived.Test.YtbjadgggpkbjmaaGreatEv16
/- A faster evaluator: code. -/
namespace Go.Ab
open Go.RowKit
noncomputable section

inductive IGuard where
  | always
  | never
  | on (p : Path) (w : Bool)
def guardOf (all : List Oper) (o : Oper) : IGuard := match o.guard with
  | none => .always
  | some (j, w) => match all[j]? with
    | some o' => match o'.dst with
      | some d => .on (pathOf d) w
      | none => .never
    | none => .never
def onB {β : Type} (b : Bool) (x y : β) : β := match b with
  | true => x
  | false => y
def boolK {β : Type} (v : Option Value) (y n : β) (w : Bool) : β := match v with
  | some (.bool b) => match b with
    | true => onB w y n
    | false => onB w n y
  | _ => n
def guardK {β : Type} (g : IGuard) (t : T Value) (y n : β) : β := match g with
  | .always => y
  | .never => n
  | .on p w => boolK (t.getP p) y n w
theorem guardK_eq {β : Type} (all : List Oper) (o : Oper) (t : T Value) (d : List Deferred) (y n : β) : guardK (guardOf all o) t y n = match wantedE o all ⟨t, d⟩ with
  | true => y
  | false => n := by
  unfold guardOf wantedE
  cases o.guard with
  | none => rfl
  | some g =>
    obtain ⟨j, w⟩ := g
    simp only
    cases all[j]? with
    | none => rfl
    | some o' =>
      simp only
      cases o'.dst with
      | none => rfl
      | some dd =>
        show boolK (t.getP (pathOf dd)) y n w = match (match (t.getP (pathOf dd)).getD undef with
          | .bool b => b == w
          | _ => false) with
          | true => y
          | false => n
        cases t.getP (pathOf dd) with
        | none => rfl
        | some v =>
          cases v <;> first | rfl | skip
          rename_i b
          cases b <;> cases w <;> rfl

inductive ICmp where
  | lss
  | leq
  | eql
  | neq
inductive IOp where
  | mov (x : Opd)
  | add (x y : Opd)
  | sub (x y : Opd)
  | cmp (c : ICmp) (x y : Opd)
  | load (x : Opd)
  | store (x y : Opd)
  | field (x : Opd) (n : Nat)
  | index (x y : Opd) (n : Nat)
  | extract (x : Opd) (i : Nat)
  | nilChk (x : Opd)
  | call (f : FuncId) (args : List Opd)
  | slow
structure IOper where
  op : IOp
  dst : Option Path
  guard : IGuard
  o : Oper
def opdsOf : List Operand → List Opd
  | [] => []
  | x :: l => opdOf x :: opdsOf l
def isN {α : Type} : Option α → Bool
  | none => true
  | some _ => false
def compCall (xt : XTab) (c : Call) : IOp := match c.callee with
  | .value (.func f) => onB (isN (xt f)) (.call f (opdsOf c.args.toList)) .slow
  | _ => .slow
def compBin (x y : Opd) : BinOp → IOp
  | .add => .add x y
  | .sub => .sub x y
  | .lss => .cmp .lss x y
  | .leq => .cmp .leq x y
  | .gtr => .cmp .lss y x
  | .geq => .cmp .leq y x
  | .eql => .cmp .eql x y
  | .neq => .cmp .neq x y
  | _ => .slow
def onSome {α β : Type} (o : Option α) (n : β) (f : α → β) : β := match o with
  | some a => f a
  | none => n
def compOp (P : Program) (xt : XTab) : Go.Op → IOp
  | .move x => .mov (opdOf x)
  | .assign x => .mov (opdOf x)
  | .binOp op _ x y _ => compBin (opdOf x) (opdOf y) op
  | .load t x => onB (flatT P t) (.load (opdOf x)) .slow
  | .store t x y => onB (oneT P t) (.store (opdOf x) (opdOf y)) .slow
  | .fieldAddr s x f => onSome (fieldOff P s f) .slow fun n => .field (opdOf x) n
  | .indexAddr t x y => onSome (elemSize P t) .slow fun n => .index (opdOf x) (opdOf y) n
  | .extract x i => .extract (opdOf x) i
  | .nilCheck x => .nilChk (opdOf x)
  | .call c => compCall xt c
  | _ => .slow
def compOper (P : Program) (xt : XTab) (all : List Oper) (o : Oper) : IOper := ⟨compOp P xt o.op, pathsOf o.dst, guardOf all o, o⟩
def evs (t : T Value) : List Opd → List Value
  | [] => []
  | x :: l => x.ev t :: evs t l
theorem evs_eq (t : T Value) (d : List Deferred) : ∀ l : List Operand, evs t (opdsOf l) = argsV (⟨t, d⟩ : AAct).eval l
  | [] => rfl
  | x :: l => by
    show (opdOf x).ev t :: evs t (opdsOf l) = (⟨t, d⟩ : AAct).eval x :: argsV _ l
    rw [opd_ev x t d, evs_eq t d l]

/-! ### Fast operations -/
section
variable {β : Type}
def addK (x y : Value) (slow : Option β) (k : Value → Option β) : Option β := match x with
  | .int .i64 (.ofNat a) => match y with
    | .int .i64 (.ofNat b) => onB (Nat.blt (Nat.add a b) 9223372036854775808) (forcedN (Nat.add a b) fun n => k (.int .i64 (.ofNat n))) slow
    | _ => slow
  | _ => slow
def subK (x y : Value) (slow : Option β) (k : Value → Option β) : Option β := match x with
  | .int .i64 (.ofNat a) => match y with
    | .int .i64 (.ofNat b) => onB (Nat.ble b a) (onB (Nat.blt a 9223372036854775808) (forcedN (Nat.sub a b) fun n => k (.int .i64 (.ofNat n))) slow) slow
    | _ => slow
  | _ => slow
def ltI : Int → Int → Bool
  | .ofNat a, .ofNat b => Nat.blt a b
  | .ofNat _, .negSucc _ => false
  | .negSucc _, .ofNat _ => true
  | .negSucc a, .negSucc b => Nat.blt b a
def leI : Int → Int → Bool
  | .ofNat a, .ofNat b => Nat.ble a b
  | .ofNat _, .negSucc _ => false
  | .negSucc _, .ofNat _ => true
  | .negSucc a, .negSucc b => Nat.ble b a
def eqI : Int → Int → Bool
  | .ofNat a, .ofNat b => Nat.beq a b
  | .ofNat _, .negSucc _ => false
  | .negSucc _, .ofNat _ => false
  | .negSucc a, .negSucc b => Nat.beq a b
def neI (a b : Int) : Bool := onB (eqI a b) false true
def ICmp.of (c : ICmp) : Int → Int → Bool := match c with
  | .lss => ltI
  | .leq => leI
  | .eql => eqI
  | .neq => neI
def kidx : IntKind → Nat
  | .i8 => 0 | .i16 => 1 | .i32 => 2 | .i64 => 3 | .u8 => 4 | .u16 => 5 | .u32 => 6 | .u64 => 7
def cmpK (c : ICmp) (x y : Value) (slow : Option β) (k : Value → Option β) : Option β := match x with
  | .int kx a => match y with
    | .int ky b => onB (Nat.beq (kidx kx) (kidx ky)) (onB (c.of a b) (k (.bool true)) (k (.bool false))) slow
    | _ => slow
  | _ => slow
def loadK (h : AHeap) (x : Value) (k : Value → Option β) : Option β := match x with
  | .pointer (some a) => match aload h a with
    | some v => k v
    | none => none
  | _ => none
def storeK (h : AHeap) (x v : Value) (slow : Option β) (k : AHeap → Option β) : Option β := match x with
  | .pointer (some ⟨b, o, none⟩) => onB (oneV v) (match h with
    | ⟨bs, nx⟩ => match bs.get b with
      | some (.cells e n x false [] c) => onB (Nat.blt o n) (T.setP v (pathOf o) c fun c => T.setP (.cells e n x false [] c) (pathOf b) bs fun bs => k ⟨bs, nx⟩) slow
      | _ => slow) slow
  | _ => slow
def addrK (b o : Nat) (s : Option Nat) (n : Nat) (slow : Option β) (k : Value → Option β) : Option β := match s with
  | none => forcedN (Nat.add o n) fun o => k (.pointer (some ⟨b, o, none⟩))
  | some _ => slow
def fieldK (x : Value) (n : Nat) (slow : Option β) (k : Value → Option β) : Option β := match x with
  | .pointer (some ⟨b, o, none⟩) => forcedN (Nat.add o n) fun o => k (.pointer (some ⟨b, o, none⟩))
  | _ => slow
def indexK (x y : Value) (sz : Nat) (slow : Option β) (k : Value → Option β) : Option β := match x with
  | .slice (some ⟨b, o, none⟩) n _ => match y with
    | .int _ (.ofNat j) => onB (Nat.blt j n) (forcedN (Nat.add o (Nat.mul j sz)) fun o => k (.pointer (some ⟨b, o, none⟩))) slow
    | _ => slow
  | _ => slow
def extractK (x : Value) (i : Nat) (slow : Option β) (k : Value → Option β) : Option β := match x with
  | .tuple vs => match vs.toList[i]? with
    | some v => k v
    | none => slow
  | _ => slow
def nilK (x : Value) (slow : Option β) (k : Value → Option β) : Option β := match x with
  | .pointer (some a) => k (.pointer (some a))
  | _ => slow
theorem onB_some {b : Bool} {x y : Option β} {r : β} (h : onB b x y = some r) : (b = true ∧ x = some r) ∨ (b = false ∧ y = some r) := by
  cases b with
  | true => exact .inl ⟨rfl, h⟩
  | false => exact .inr ⟨rfl, h⟩
variable {slow : Option β} {k : Value → Option β} {r : β} {x y : Value}
theorem addK_spec (h : addK x y slow k = some r) : slow = some r ∨ ∃ a b, x = .int .i64 (.ofNat a) ∧ y = .int .i64 (.ofNat b) ∧ a + b < 9223372036854775808 ∧ k (.int .i64 (.ofNat (a + b))) = some r := by
  unfold addK at h
  split at h <;> first | exact .inl h | skip
  split at h <;> first | exact .inl h | skip
  rename_i a _ b
  rcases onB_some h with ⟨h1, h2⟩ | ⟨_, h2⟩
  · rw [forcedN_eq] at h2
    exact .inr ⟨a, b, rfl, rfl, by simpa using h1, h2⟩
  · exact .inl h2
theorem subK_spec (h : subK x y slow k = some r) : slow = some r ∨ ∃ a b, x = .int .i64 (.ofNat a) ∧ y = .int .i64 (.ofNat b) ∧ b ≤ a ∧ a < 9223372036854775808 ∧ k (.int .i64 (.ofNat (a - b))) = some r := by
  unfold subK at h
  split at h <;> first | exact .inl h | skip
  split at h <;> first | exact .inl h | skip
  rename_i a _ b
  rcases onB_some h with ⟨h1, h2⟩ | ⟨_, h2⟩
  · rcases onB_some h2 with ⟨h3, h4⟩ | ⟨_, h4⟩
    · rw [forcedN_eq] at h4
      exact .inr ⟨a, b, rfl, rfl, by simpa using h1, by simpa using h3, h4⟩
    · exact .inl h4
  · exact .inl h2
theorem ltI_eq (a b : Int) : ltI a b = decide (a < b) := by
  cases a <;> cases b <;> simp only [ltI]
  · rename_i a b
    cases hb : Nat.blt a b with
    | true => exact (decide_eq_true (Int.ofNat_lt.2 (by simpa using hb))).symm
    | false => exact (decide_eq_false (fun hh => by
        have h1 := Int.ofNat_lt.1 hh
        have : Nat.blt a b = true := by simpa using h1
        rw [this] at hb; cases hb)).symm
  · exact (decide_eq_false (by simp only [Int.ofNat_eq_natCast]; omega)).symm
  · exact (decide_eq_true (by simp only [Int.ofNat_eq_natCast]; omega)).symm
  · rename_i a b
    cases hb : Nat.blt b a with
    | true =>
      have h1 : b < a := by simpa using hb
      exact (decide_eq_true (by omega)).symm
    | false => exact (decide_eq_false (fun hh => by
        have h1 : b < a := by omega
        have : Nat.blt b a = true := by simpa using h1
        rw [this] at hb; cases hb)).symm
theorem leI_eq (a b : Int) : leI a b = decide (a ≤ b) := by
  cases a <;> cases b <;> simp only [leI]
  · rename_i a b
    cases hb : Nat.ble a b with
    | true => exact (decide_eq_true (Int.ofNat_le.2 (Nat.le_of_ble_eq_true hb))).symm
    | false => exact (decide_eq_false (fun hh => by
        have h1 := Int.ofNat_le.1 hh
        have : Nat.ble a b = true := Nat.ble_eq_true_of_le h1
        rw [this] at hb; cases hb)).symm
  · exact (decide_eq_false (by simp only [Int.ofNat_eq_natCast]; omega)).symm
  · exact (decide_eq_true (by simp only [Int.ofNat_eq_natCast]; omega)).symm
  · rename_i a b
    cases hb : Nat.ble b a with
    | true =>
      have h1 : b ≤ a := Nat.le_of_ble_eq_true hb
      exact (decide_eq_true (by omega)).symm
    | false => exact (decide_eq_false (fun hh => by
        have h1 : b ≤ a := by omega
        have : Nat.ble b a = true := Nat.ble_eq_true_of_le h1
        rw [this] at hb; cases hb)).symm
theorem eqI_eq (a b : Int) : eqI a b = (a == b) := by
  cases a <;> cases b <;> simp only [eqI]
  · rename_i a b
    by_cases hh : a = b
    · subst hh; simp [Nat.beq_refl]
    · have h1 : Nat.beq a b = false := by
        cases hb : Nat.beq a b with
        | false => rfl
        | true => exact absurd (Nat.eq_of_beq_eq_true hb) hh
      rw [h1]; symm; rw [beq_eq_false_iff_ne]; intro e; exact hh (Int.ofNat.inj e)
  · rfl
  · rfl
  · rename_i a b
    by_cases hh : a = b
    · subst hh; simp [Nat.beq_refl]
    · have h1 : Nat.beq a b = false := by
        cases hb : Nat.beq a b with
        | false => rfl
        | true => exact absurd (Nat.eq_of_beq_eq_true hb) hh
      rw [h1]; symm; rw [beq_eq_false_iff_ne]; intro e; exact hh (Int.negSucc.inj e)
theorem neI_eq (a b : Int) : neI a b = (a != b) := by
  unfold neI
  rw [eqI_eq]
  show onB (a == b) false true = !(a == b)
  cases a == b <;> rfl
theorem kidx_inj {a b : IntKind} (h : Nat.beq (kidx a) (kidx b) = true) : a = b := by cases a <;> cases b <;> first | rfl | cases h
theorem cmpK_spec {c : ICmp} (h : cmpK c x y slow k = some r) : slow = some r ∨ ∃ kd a b, x = .int kd a ∧ y = .int kd b ∧ k (.bool (c.of a b)) = some r := by
  unfold cmpK at h
  split at h <;> first | exact .inl h | skip
  split at h <;> first | exact .inl h | skip
  rename_i kx a _ ky b
  rcases onB_some h with ⟨h1, h2⟩ | ⟨_, h2⟩
  · have := kidx_inj h1
    subst this
    refine .inr ⟨kx, a, b, rfl, rfl, ?_⟩
    rcases onB_some h2 with ⟨h3, h4⟩ | ⟨h3, h4⟩ <;> rw [h3] <;> exact h4
  · exact .inl h2
theorem loadK_spec {h : AHeap} (hh : loadK h x k = some r) : ∃ a v, x = .pointer (some a) ∧ aload h a = some v ∧ k v = some r := by
  unfold loadK at hh
  split at hh <;> first | (cases hh; done) | skip
  split at hh <;> first | (cases hh; done) | skip
  rename_i a _ v hv
  exact ⟨a, v, rfl, hv, hh⟩
theorem storeK_spec {h : AHeap} {v : Value} {kh : AHeap → Option β} (hh : storeK h x v slow kh = some r) : slow = some r ∨ ∃ a h', x = .pointer (some a) ∧ v.cells = #[v] ∧ astore h a v = some h' ∧ kh h' = some r := by
  unfold storeK at hh
  split at hh <;> first | exact .inl hh | skip
  rename_i b o
  rcases onB_some hh with ⟨h1, h2⟩ | ⟨_, h2⟩
  · obtain ⟨bs, nx⟩ := h
    simp only at h2
    split at h2 <;> first | exact .inl h2 | skip
    rename_i e n x' c hb
    rcases onB_some h2 with ⟨h3, h4⟩ | ⟨_, h4⟩
    · rw [T.setP_id, T.setP_id (a := AObj.cells _ _ _ _ _ _)] at h4
      refine .inr ⟨⟨b, o, none⟩, _, rfl, ?_, ?_, h4⟩
      · cases v <;> first | rfl | cases h1
      · unfold astore
        simp only [hb]
        rw [if_pos ⟨by simpa using h3, h1⟩]
        rfl
    · exact .inl h4
  · exact .inl h2
theorem fieldK_spec {n : Nat} (h : fieldK x n slow k = some r) : slow = some r ∨ ∃ a, x = .pointer (some a) ∧ k (.pointer (some (a.add n))) = some r := by
  unfold fieldK at h
  split at h <;> first | exact .inl h | skip
  rename_i b o
  rw [forcedN_eq] at h
  refine .inr ⟨⟨b, o, none⟩, rfl, ?_⟩
  have : (⟨b, o, none⟩ : Addr).add n = ⟨b, o + n, none⟩ := by
    cases n <;> rfl
  rw [this]; exact h
theorem indexK_spec {sz : Nat} (h : indexK x y sz slow k = some r) : slow = some r ∨ ∃ a n c kd j, x = .slice (some a) n c ∧ y = .int kd (.ofNat j) ∧ j < n ∧ k (.pointer (some (a.add (j * sz)))) = some r := by
  unfold indexK at h
  split at h <;> first | exact .inl h | skip
  split at h <;> first | exact .inl h | skip
  rename_i b o n c _ kd j
  rcases onB_some h with ⟨h1, h2⟩ | ⟨_, h2⟩
  · rw [forcedN_eq] at h2
    refine .inr ⟨⟨b, o, none⟩, n, c, kd, j, rfl, rfl, by simpa using h1, ?_⟩
    have : (⟨b, o, none⟩ : Addr).add (j * sz) = ⟨b, o + j * sz, none⟩ := by
      cases j * sz <;> rfl
    rw [this]; exact h2
  · exact .inl h2
theorem extractK_spec {i : Nat} (h : extractK x i slow k = some r) : slow = some r ∨ ∃ vs v, x = .tuple vs ∧ vs.toList[i]? = some v ∧ k v = some r := by
  unfold extractK at h
  split at h <;> first | exact .inl h | skip
  split at h <;> first | exact .inl h | skip
  rename_i vs _ v hv
  exact .inr ⟨vs, v, rfl, hv, h⟩
theorem nilK_spec (h : nilK x slow k = some r) : slow = some r ∨ ∃ a, x = .pointer (some a) ∧ k (.pointer (some a)) = some r := by
  unfold nilK at h
  split at h <;> first | exact .inl h | skip
  rename_i a
  exact .inr ⟨a, rfl, h⟩
end

def opK {β : Type} (P : Program) (xt : XTab) (e : EnvK) (x : IOper) (t : T Value) (d : List Deferred) (h : AHeap) (k : T Value → AHeap → Option β) : Option β :=
  match x.op with
  | .mov a => forced (a.ev t) fun v => putK t x.dst v fun t => k t h
  | .add a b => addK (a.ev t) (b.ev t) (slowK P xt e x.o x.dst t d h k) fun v => putK t x.dst v fun t => k t h
  | .sub a b => subK (a.ev t) (b.ev t) (slowK P xt e x.o x.dst t d h k) fun v => putK t x.dst v fun t => k t h
  | .cmp c a b => cmpK c (a.ev t) (b.ev t) (slowK P xt e x.o x.dst t d h k) fun v => putK t x.dst v fun t => k t h
  | .load a => loadK h (a.ev t) fun v => putK t x.dst v fun t => k t h
  | .store a b => forced (b.ev t) fun v => storeK h (a.ev t) v (slowK P xt e x.o x.dst t d h k) fun h => putK t x.dst undef fun t => k t h
  | .field a n => fieldK (a.ev t) n (slowK P xt e x.o x.dst t d h k) fun v => putK t x.dst v fun t => k t h
  | .index a b n => indexK (a.ev t) (b.ev t) n (slowK P xt e x.o x.dst t d h k) fun v => putK t x.dst v fun t => k t h
  | .extract a i => extractK (a.ev t) i (slowK P xt e x.o x.dst t d h k) fun v => putK t x.dst v fun t => k t h
  | .nilChk a => nilK (a.ev t) (slowK P xt e x.o x.dst t d h k) fun v => putK t x.dst v fun t => k t h
  | .call f args => e.call f (evs t args) h fun v h => forced v fun v => putK t x.dst v fun t => k t h
  | .slow => slowK P xt e x.o x.dst t d h k
theorem opK_does {β : Type} {P : Program} {xt : XTab} {K : EnvK} {E : Env} (L : EnvL K E) {all : List Oper} {o : Oper} {t : T Value} {d : List Deferred} {h : AHeap} {k : T Value → AHeap → Option β} {r : β}
    (hr : opK P xt K (compOper P xt all o) t d h k = some r) : Does P xt E o t d h k r := by
  have slow : slowK P xt K o (pathsOf o.dst) t d h k = some r → Does P xt E o t d h k r := slowK_does L
  have put : ∀ v, putK t (pathsOf o.dst) v (fun t => k t h) = some r → opW P xt E o (⟨t, d⟩ : AAct).eval h = some (v, h) → Does P xt E o t d h k r := by
    intro v h1 h2
    rw [putK_eq (d := d)] at h1
    exact ⟨v, h, h2, h1⟩
  have main : ∀ i : IOp, i = compOp P xt o.op → opK P xt K ⟨i, pathsOf o.dst, guardOf all o, o⟩ t d h k = some r → Does P xt E o t d h k r := by
    intro i hi hr
    cases ho : o.op with
    | move x =>
      rw [ho] at hi; subst hi
      have hr' : forced ((opdOf x).ev t) (fun v => putK t (pathsOf o.dst) v (fun t => k t h)) = some r := hr
      rw [forced_eq, opd_ev x t d] at hr'
      exact put _ hr' (by unfold opW opV; rw [ho]; rfl)
    | assign x =>
      rw [ho] at hi; subst hi
      have hr' : forced ((opdOf x).ev t) (fun v => putK t (pathsOf o.dst) v (fun t => k t h)) = some r := hr
      rw [forced_eq, opd_ev x t d] at hr'
      exact put _ hr' (by unfold opW opV; rw [ho]; rfl)
    | binOp op ty x y ty2 =>
      rw [ho] at hi
      have cmp : ∀ c : ICmp, ∀ a b : Operand, i = .cmp c (opdOf a) (opdOf b) → (∀ kd m n, (⟨t, d⟩ : AAct).eval a = .int kd m → (⟨t, d⟩ : AAct).eval b = .int kd n → opW P xt E o (⟨t, d⟩ : AAct).eval h = some (.bool (c.of m n), h)) → Does P xt E o t d h k r := by
        intro c a b hi2 hw
        subst hi2
        have hr' : cmpK c ((opdOf a).ev t) ((opdOf b).ev t) (slowK P xt K o (pathsOf o.dst) t d h k) (fun v => putK t (pathsOf o.dst) v fun t => k t h) = some r := hr
        rw [opd_ev a t d, opd_ev b t d] at hr'
        rcases cmpK_spec hr' with h1 | ⟨kd, m, n, h1, h2, h3⟩
        · exact slow h1
        · exact put _ h3 (hw kd m n h1 h2)
      cases op with
      | add =>
        subst hi
        have hr' : addK ((opdOf x).ev t) ((opdOf y).ev t) (slowK P xt K o (pathsOf o.dst) t d h k) (fun v => putK t (pathsOf o.dst) v fun t => k t h) = some r := hr
        rw [opd_ev x t d, opd_ev y t d] at hr'
        rcases addK_spec hr' with h1 | ⟨a, b, h1, h2, h3, h4⟩
        · exact slow h1
        · exact put _ h4 (opW_add ho h1 h2 h3)
      | sub =>
        subst hi
        have hr' : subK ((opdOf x).ev t) ((opdOf y).ev t) (slowK P xt K o (pathsOf o.dst) t d h k) (fun v => putK t (pathsOf o.dst) v fun t => k t h) = some r := hr
        rw [opd_ev x t d, opd_ev y t d] at hr'
        rcases subK_spec hr' with h1 | ⟨a, b, h1, h2, h3, h4, h5⟩
        · exact slow h1
        · exact put _ h5 (opW_sub ho h1 h2 h3 h4)
      | lss => exact cmp .lss x y hi fun kd m n h1 h2 => opW_cmp ho h1 h2 (by rw [show ICmp.of .lss m n = ltI m n from rfl, ltI_eq])
      | leq => exact cmp .leq x y hi fun kd m n h1 h2 => opW_cmp ho h1 h2 (by rw [show ICmp.of .leq m n = leI m n from rfl, leI_eq])
      | gtr => exact cmp .lss y x hi fun kd m n h1 h2 => opW_cmp ho h2 h1 (by rw [show ICmp.of .lss m n = ltI m n from rfl, ltI_eq])
      | geq => exact cmp .leq y x hi fun kd m n h1 h2 => opW_cmp ho h2 h1 (by rw [show ICmp.of .leq m n = leI m n from rfl, leI_eq])
      | eql => exact cmp .eql x y hi fun kd m n h1 h2 => opW_cmp ho h1 h2 (by rw [show ICmp.of .eql m n = eqI m n from rfl, eqI_eq])
      | neq => exact cmp .neq x y hi fun kd m n h1 h2 => opW_cmp ho h1 h2 (by rw [show ICmp.of .neq m n = neI m n from rfl, neI_eq])
      | _ => subst hi; exact slow hr
    | load ty x =>
      rw [ho] at hi
      have hi' : i = onB (flatT P ty) (.load (opdOf x)) .slow := hi
      cases hf : flatT P ty with
      | false => rw [hf] at hi'; subst hi'; exact slow hr
      | true =>
        rw [hf] at hi'; subst hi'
        have hr' : loadK h ((opdOf x).ev t) (fun v => putK t (pathsOf o.dst) v fun t => k t h) = some r := hr
        rw [opd_ev x t d] at hr'
        obtain ⟨a, v, h1, h2, h3⟩ := loadK_spec hr'
        exact put _ h3 (opW_load ho hf h1 h2)
    | store ty x y =>
      rw [ho] at hi
      have hi' : i = onB (oneT P ty) (.store (opdOf x) (opdOf y)) .slow := hi
      cases hf : oneT P ty with
      | false => rw [hf] at hi'; subst hi'; exact slow hr
      | true =>
        rw [hf] at hi'; subst hi'
        have hr' : forced ((opdOf y).ev t) (fun v => storeK h ((opdOf x).ev t) v (slowK P xt K o (pathsOf o.dst) t d h k) (fun h => putK t (pathsOf o.dst) undef fun t => k t h)) = some r := hr
        rw [forced_eq, opd_ev x t d, opd_ev y t d] at hr'
        rcases storeK_spec hr' with h1 | ⟨a, h', h1, h2, h3, h4⟩
        · exact slow h1
        · rw [putK_eq (d := d)] at h4
          exact ⟨undef, h', opW_store ho hf h1 rfl h2 h3, h4⟩
    | fieldAddr s x f =>
      rw [ho] at hi
      have hi' : i = onSome (fieldOff P s f) .slow fun n => .field (opdOf x) n := hi
      cases hf : fieldOff P s f with
      | none => rw [hf] at hi'; subst hi'; exact slow hr
      | some n =>
        rw [hf] at hi'; subst hi'
        have hr' : fieldK ((opdOf x).ev t) n (slowK P xt K o (pathsOf o.dst) t d h k) (fun v => putK t (pathsOf o.dst) v fun t => k t h) = some r := hr
        rw [opd_ev x t d] at hr'
        rcases fieldK_spec hr' with h1 | ⟨a, h1, h2⟩
        · exact slow h1
        · exact put _ h2 (opW_field ho hf h1)
    | indexAddr ty x y =>
      rw [ho] at hi
      have hi' : i = onSome (elemSize P ty) .slow fun n => .index (opdOf x) (opdOf y) n := hi
      cases hf : elemSize P ty with
      | none => rw [hf] at hi'; subst hi'; exact slow hr
      | some n =>
        rw [hf] at hi'; subst hi'
        have hr' : indexK ((opdOf x).ev t) ((opdOf y).ev t) n (slowK P xt K o (pathsOf o.dst) t d h k) (fun v => putK t (pathsOf o.dst) v fun t => k t h) = some r := hr
        rw [opd_ev x t d, opd_ev y t d] at hr'
        rcases indexK_spec hr' with h1 | ⟨a, n', c, kd, j, h1, h2, h3, h4⟩
        · exact slow h1
        · exact put _ h4 (opW_index ho hf h1 h2 h3)
    | extract x j =>
      rw [ho] at hi; subst hi
      have hr' : extractK ((opdOf x).ev t) j (slowK P xt K o (pathsOf o.dst) t d h k) (fun v => putK t (pathsOf o.dst) v fun t => k t h) = some r := hr
      rw [opd_ev x t d] at hr'
      rcases extractK_spec hr' with h1 | ⟨vs, v, h1, h2, h3⟩
      · exact slow h1
      · exact put _ h3 (opW_extract ho h1 h2)
    | nilCheck x =>
      rw [ho] at hi; subst hi
      have hr' : nilK ((opdOf x).ev t) (slowK P xt K o (pathsOf o.dst) t d h k) (fun v => putK t (pathsOf o.dst) v fun t => k t h) = some r := hr
      rw [opd_ev x t d] at hr'
      rcases nilK_spec hr' with h1 | ⟨a, h1, h2⟩
      · exact slow h1
      · exact put _ h2 (opW_nilCheck ho h1)
    | call c =>
      rw [ho] at hi
      obtain ⟨callee, args, argTypes⟩ := c
      cases callee with
      | value f =>
        cases f with
        | func f =>
          have hi' : i = onB (isN (xt f)) (.call f (opdsOf args.toList)) .slow := hi
          cases hx : xt f with
          | none =>
            rw [hx] at hi'; subst hi'
            have hr'' : K.call f (evs t (opdsOf args.toList)) h (fun v h => forced v fun v => putK t (pathsOf o.dst) v fun t => k t h) = some r := hr
            obtain ⟨v, h', h1, h2⟩ := L.call _ _ _ _ _ hr''
            rw [forced_eq, putK_eq (d := d)] at h2
            refine ⟨v, h', ?_, h2⟩
            unfold opW opV
            rw [ho]
            show callV P xt E f (#[] ++ (argsV (⟨t, d⟩ : AAct).eval args.toList).toArray ++ #[]) h = _
            unfold callV
            rw [hx]
            rw [evs_eq t d] at h1
            simpa using h1
          | some y => rw [hx] at hi'; subst hi'; exact slow hr
        | _ => subst hi; exact slow hr
      | _ => subst hi; exact slow hr
    | _ => rw [ho] at hi; subst hi; exact slow hr
  exact main _ rfl hr

inductive ICode where
  | skip
  | ops (l : List IOper)
  | mixed (l : List Oper)
  | seq (a b : ICode)
  | cond (c : Opd) (t e : ICode)
  | block (id : Nat) (b : ICode)
  | loop (b : ICode)
  | exit (id : Nat)
  | ret
  | range (f : Operand) (ps : Array Tmp) (x y : Code)
  | no
def mapOper (P : Program) (xt : XTab) (all : List Oper) : List Oper → List IOper
  | [] => []
  | o :: l => compOper P xt all o :: mapOper P xt all l
def comp (P : Program) (xt : XTab) : Code → ICode
  | .skip => .skip
  | .label _ => .skip
  | .region _ ops false => .ops (mapOper P xt ops.toList ops.toList)
  | .region _ ops true => .mixed ops.toList
  | .seq a b => .seq (comp P xt a) (comp P xt b)
  | .cond c a b => .cond (opdOf c) (comp P xt a) (comp P xt b)
  | .block id b => .block id (comp P xt b)
  | .loop b => .loop (comp P xt b)
  | .scope b => comp P xt b
  | .exit id => .exit id
  | .ret => .ret
  | .rangeFunc f ps x y => .range f ps x y
  | _ => .no
def opsK {β : Type} (P : Program) (xt : XTab) (e : EnvK) (l : List IOper) : T Value → List Deferred → AHeap → (T Value → AHeap → Option β) → Option β :=
  List.rec (motive := fun _ => T Value → List Deferred → AHeap → (T Value → AHeap → Option β) → Option β)
    (fun t _ h k => k t h)
    (fun x _ ih t d h k => guardK x.guard t (opK P xt e x t d h fun t h => ih t d h k) (putK t x.dst undef fun t => ih t d h k)) l
abbrev Kt (β : Type) : Type := AExit → T Value → List Deferred → AHeap → Option β
abbrev KTy (β : Type) : Type := T Value → List Deferred → AHeap → Kt β → Option β
def loopK {β : Type} (f : KTy β) (n : Nat) : KTy β :=
  Nat.rec (motive := fun _ => KTy β)
    (fun _ _ _ _ => none)
    (fun _ ih t d h k => f t d h fun x t d h => AExit.casesOn (motive := fun _ => Option β) x (ih t d h k) (fun i => k (.exit i) t d h) (k .ret t d h)) n
def condK {β : Type} (v : Value) (x y : Option β) : Option β := match v with
  | .bool b => onB b x y
  | _ => none
def outK {β : Type} (k : Kt β) (x : Option (AExit × AAct × AHeap)) : Option β := match x with
  | some (x, ⟨t, d⟩, h) => k x t d h
  | none => none
def codeK {β : Type} (P : Program) (xt : XTab) (e : EnvK) (n : Nat) (around : Option Nat) (c : ICode) : KTy β :=
  ICode.rec (motive := fun _ => KTy β)
    (fun t d h k => k .normal t d h)
    (fun l t d h k => opsK P xt e l t d h fun t h => k .normal t d h)
    (fun l t d h k => match regE P xt e.env l ⟨t, d⟩ h with
      | some (⟨t, d⟩, h) => k .normal t d h
      | none => none)
    (fun _ _ iha ihb t d h k => iha t d h fun x t d h => AExit.casesOn (motive := fun _ => Option β) x (ihb t d h k) (fun i => k (.exit i) t d h) (k .ret t d h))
    (fun c _ _ iha ihb t d h k => condK (c.ev t) (iha t d h k) (ihb t d h k))
    (fun id _ ih t d h k => ih t d h fun x t d h => AExit.casesOn (motive := fun _ => Option β) x (k .normal t d h) (fun i => onB (Nat.beq i id) (k .normal t d h) (k (.exit i) t d h)) (k .ret t d h))
    (fun _ ih t d h k => loopK ih 1048576 t d h k)
    (fun id t d h k => k (.exit id) t d h)
    (fun t d h k => k .ret t d h)
    (fun f ps x y t d h k => outK k (rangeE P e.env n around f ps x y ⟨t, d⟩ h))
    (fun _ _ _ _ => none) c

/-! ### It answers only as the evaluator does -/
def Ref {β : Type} (F : KTy β) (D : AAct → AHeap → Option (AExit × AAct × AHeap)) : Prop :=
  ∀ t d h (k : Kt β) r, F t d h k = some r → ∃ x a' h', D ⟨t, d⟩ h = some (x, a', h') ∧ k x a'.tmps a'.defers h' = some r
section
variable {P : Program} {xt : XTab} {K : EnvK} {E : Env} {β : Type}
theorem opsK_ref (L : EnvL K E) (all : List Oper) : ∀ (l : List Oper) (t : T Value) (d : List Deferred) (h : AHeap) (k : T Value → AHeap → Option β) (r : β),
    opsK P xt K (mapOper P xt all l) t d h k = some r → ∃ t' h', opsE (opW P xt) E all l ⟨t, d⟩ h = some (⟨t', d⟩, h') ∧ k t' h' = some r
  | [], t, d, h, k, r, hr => ⟨t, h, rfl, hr⟩
  | o :: l, t, d, h, k, r, hr => by
    have hr' : guardK (guardOf all o) t (opK P xt K (compOper P xt all o) t d h fun t h => opsK P xt K (mapOper P xt all l) t d h k) (putK t (pathsOf o.dst) undef fun t => opsK P xt K (mapOper P xt all l) t d h k) = some r := hr
    rw [guardK_eq all o t d] at hr'
    rw [opsE]
    cases hw : wantedE o all ⟨t, d⟩ with
    | true =>
      rw [hw] at hr'
      obtain ⟨v, h1, ho, hk⟩ := opK_does L (show opK P xt K (compOper P xt all o) t d h _ = some r from hr')
      simp only [ho]
      have e1 : (⟨t, d⟩ : AAct).put o.dst v = ⟨((⟨t, d⟩ : AAct).put o.dst v).tmps, d⟩ := by cases o.dst <;> rfl
      rw [e1]
      exact opsK_ref L all l _ d h1 k r hk
    | false =>
      rw [hw] at hr'
      have hr'' : putK t (pathsOf o.dst) undef (fun t => opsK P xt K (mapOper P xt all l) t d h k) = some r := hr'
      rw [putK_eq (d := d)] at hr''
      simp only
      have e1 : (⟨t, d⟩ : AAct).put o.dst undef = ⟨((⟨t, d⟩ : AAct).put o.dst undef).tmps, d⟩ := by cases o.dst <;> rfl
      rw [e1]
      exact opsK_ref L all l _ d h k r hr''
theorem loopK_ref {F : KTy β} {D : AAct → AHeap → Option (AExit × AAct × AHeap)} (hF : Ref F D) : ∀ n, Ref (loopK F n) (loopE D n)
  | 0, _, _, _, _, _, hr => by cases hr
  | n + 1, t, d, h, k, r, hr => by
    obtain ⟨x, a', h', h1, h2⟩ := hF t d h _ r hr
    rw [loopE]
    cases x with
    | normal =>
      obtain ⟨y, a2, h2', g1, g2⟩ := loopK_ref hF n _ _ _ _ _ h2
      exact ⟨y, a2, h2', by simp only [h1]; exact g1, g2⟩
    | exit i => exact ⟨_, a', h', by simp only [h1], h2⟩
    | ret => exact ⟨_, a', h', by simp only [h1], h2⟩
theorem codeK_ref (L : EnvL K E) {n : Nat} {around : Option Nat} : ∀ c : Code, Ref (codeK (β := β) P xt K n around (comp P xt c)) (codeE P (opW P xt) (regE P xt) E n around c)
  | .skip, t, d, h, k, r, hr => ⟨_, _, _, rfl, hr⟩
  | .label _, t, d, h, k, r, hr => ⟨_, _, _, rfl, hr⟩
  | .region _ ops false, t, d, h, k, r, hr => by
    obtain ⟨t', h', h1, h2⟩ := opsK_ref L ops.toList ops.toList t d h _ r hr
    exact ⟨.normal, ⟨t', d⟩, h', by simp only [codeE, h1], h2⟩
  | .region _ ops true, t, d, h, k, r, hr => by
    have hr' : (match regE P xt K.env ops.toList ⟨t, d⟩ h with
      | some (⟨t, d⟩, h) => k .normal t d h
      | none => none) = some r := hr
    split at hr' <;> first | (cases hr'; done) | skip
    rename_i t' d' h' hv
    exact ⟨.normal, ⟨t', d'⟩, h', by simp only [codeE, regE_mono L.env hv], hr'⟩
  | .seq a b, t, d, h, k, r, hr => by
    obtain ⟨x, a', h', h1, h2⟩ := codeK_ref L a t d h _ r hr
    cases x with
    | normal =>
      obtain ⟨y, a2, h2', g1, g2⟩ := codeK_ref L b _ _ _ _ r h2
      exact ⟨y, a2, h2', by simp only [codeE, h1]; exact g1, g2⟩
    | exit i => exact ⟨_, a', h', by simp only [codeE, h1], h2⟩
    | ret => exact ⟨_, a', h', by simp only [codeE, h1], h2⟩
  | .cond c a b, t, d, h, k, r, hr => by
    have hr' : condK ((opdOf c).ev t) (codeK P xt K n around (comp P xt a) t d h k) (codeK P xt K n around (comp P xt b) t d h k) = some r := hr
    rw [opd_ev c t d] at hr'
    unfold condK at hr'
    split at hr' <;> first | (cases hr'; done) | skip
    rename_i bb hc
    cases bb with
    | true =>
      obtain ⟨y, a2, h2', g1, g2⟩ := codeK_ref L a t d h k r hr'
      exact ⟨y, a2, h2', by simp only [codeE, hc]; exact g1, g2⟩
    | false =>
      obtain ⟨y, a2, h2', g1, g2⟩ := codeK_ref L b t d h k r hr'
      exact ⟨y, a2, h2', by simp only [codeE, hc]; exact g1, g2⟩
  | .block id b, t, d, h, k, r, hr => by
    obtain ⟨x, a', h', h1, h2⟩ := codeK_ref L b t d h _ r hr
    cases x with
    | normal => exact ⟨_, a', h', by simp only [codeE, h1], h2⟩
    | exit i =>
      have h2' : onB (Nat.beq i id) (k .normal a'.tmps a'.defers h') (k (.exit i) a'.tmps a'.defers h') = some r := h2
      by_cases hi : i = id
      · subst hi
        rw [Nat.beq_refl] at h2'
        exact ⟨.normal, a', h', by simp only [codeE, h1, if_true], h2'⟩
      · have : Nat.beq i id = false := by
          cases hb : Nat.beq i id with
          | false => rfl
          | true => exact absurd (Nat.eq_of_beq_eq_true hb) hi
        rw [this] at h2'
        exact ⟨.exit i, a', h', by simp only [codeE, h1, if_neg hi], h2'⟩
    | ret => exact ⟨_, a', h', by simp only [codeE, h1], h2⟩
  | .loop b, t, d, h, k, r, hr => loopK_ref (codeK_ref L b) 1048576 t d h k r hr
  | .exit _, t, d, h, k, r, hr => ⟨_, _, _, rfl, hr⟩
  | .ret, t, d, h, k, r, hr => ⟨_, _, _, rfl, hr⟩
  | .rangeFunc f ps x y, t, d, h, k, r, hr => by
    have hr' : outK k (rangeE P K.env n around f ps x y ⟨t, d⟩ h) = some r := hr
    unfold outK at hr'
    split at hr' <;> first | (cases hr'; done) | skip
    rename_i x' t' d' h' hv
    exact ⟨x', ⟨t', d'⟩, h', rangeE_mono L.env hv, hr'⟩
  | .scope b, t, d, h, k, r, hr => by
    obtain ⟨x, a', h', h1, h2⟩ := codeK_ref L b t d h k r hr
    exact ⟨x, a', h', by simp only [codeE]; exact h1, h2⟩
  | .goto _, _, _, _, _, _, hr => by cases hr
  | .refuse _, _, _, _, _, _, hr => by cases hr

end
end
end Go.Ab
