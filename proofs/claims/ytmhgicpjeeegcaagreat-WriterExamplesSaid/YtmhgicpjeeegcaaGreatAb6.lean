/- An evaluator of the model's code over an abstract heap: the code. -/
import Derived.Test.YtmhgicpjeeegcaaGreatAb5
import Derived.RangeFuncLeaves
import Derived.OrdersIn
import Derived.TacticsIn
import Derived.Scope
namespace Go.Ab
open Go.RowKit
theorem stepR_scope {P : Program} {b : Frame} {a : Act} {k : List Item} {cs : List Frame} {w : World} {c : Code} : step P (lone (b.atR a (.code (.scope c) :: k)) cs w) = .next (lone (b.atR a (.code c :: .inScope c :: k)) cs w) :=
  step_lone_go (by simp [stepG, stepG.exec, Frame.atR])
theorem stepR_inScope {P : Program} {b : Frame} {a : Act} {k : List Item} {cs : List Frame} {w : World} {c : Code} : step P (lone (b.atR a (.inScope c :: k)) cs w) = .next (lone (b.atR a k) cs w) :=
  step_lone_go (by simp [stepG, stepG.exec, Frame.atR])
theorem wpIn_scope {F : Fence} {n : Nat} {P : Program} {Q : Exit → Act → World → Prop} {a : Act} {w : World} {c : Code} (h : c.wpIn F n P (Exit.noGoto Q) a w) : (Code.scope c).wpIn F n P Q a w := by
  intro b k cs hro hb hr
  have h0 : (lone (b.atR a (.code (.scope c) :: k)) cs w).fenced P F := fenced_calm hb hr rfl
  obtain ⟨e, a₁, w₁, hq, harr⟩ := h b (.inScope c :: k) cs hro hb hr
  cases e with
  | normal => exact ⟨.normal, a₁, w₁, hq, .head h0 stepR_scope (StepsIn.trans harr (.one (fenced_calm hb hr rfl) stepR_inScope))⟩
  | exit id =>
    have hx : exitTo id (.inScope c :: k) = exitTo id k := by simp [exitTo]
    exact ⟨.exit id, a₁, w₁, hq, fun k' hk => .head h0 stepR_scope (harr.1 k' (by rw [hx]; exact hk)),
      fun hr' hk => let ⟨k₁, h1, h2⟩ := harr.2 hr' (by rw [hx]; exact hk); ⟨k₁, h1, .head h0 stepR_scope h2⟩⟩
  | goto l => exact hq.elim
  | ret => exact ⟨_, a₁, w₁, hq, .of_steps (.one h0 stepR_scope) harr⟩
  | panic ch => exact ⟨_, a₁, w₁, hq, .of_steps (.one h0 stepR_scope) harr⟩
  | outgrown => exact ⟨_, a₁, w₁, hq, .of_steps (.one h0 stepR_scope) harr⟩
noncomputable section

/-- A value without addresses, as far as constants go. -/
def flatB : Value → Bool
  | .bool _ => true
  | .int _ _ => true
  | .string _ => true
  | .pointer none => true
  | .slice none _ k => Nat.blt k unk
  | .map none => true
  | .func (.func _) as bs => as.size == 0 && bs.size == 0
  | .nilFunc => true
  | .nilIface => true
  | _ => false
def plainB : Value → Bool
  | .agg as => as.toList.all flatB
  | .iface _ v => flatB v
  | v => flatB v
theorem flat_plain {v : Value} (h : flatB v = true) : Plain v := by
  unfold flatB at h
  split at h
  · exact .bool
  · exact .int
  · exact .string
  · exact .ptrNil
  · exact .slNil (by simpa using h)
  · exact .mapNil
  · rename_i f as bs
    simp at h
    obtain ⟨rfl, rfl⟩ := h
    exact .func
  · exact .nilFunc
  · exact .nilIface
  · cases h
theorem plain_of {v : Value} (h : plainB v = true) : Plain v := by
  unfold plainB at h
  split at h
  · rename_i as
    refine .agg fun i x hx => flat_plain ?_
    rw [List.all_eq_true] at h
    exact h x (by
      have := Array.mem_of_getElem? hx
      simpa using this)
  · exact .iface (flat_plain h)
  · exact flat_plain h

def opdOk : Operand → Bool
  | .tmp _ => true
  | .const v => plainB v
  | .global _ => false
  | .func _ => true
def allB {α : Type} (f : α → Bool) : List α → Bool
  | [] => true
  | a :: l => match f a with
    | true => allB f l
    | false => false
theorem allB_iff {α : Type} {f : α → Bool} : ∀ {l : List α}, allB f l = true → ∀ a ∈ l, f a = true
  | [], _, _, h => by cases h
  | b :: l, hl, a, h => by
    rw [allB] at hl
    split at hl
    · rcases List.mem_cons.1 h with rfl | h
      · assumption
      · exact allB_iff hl a h
    · cases hl
def noDefer : Op → Bool
  | .defer _ => false
  | _ => true
def operOk (n : Nat) (o : Oper) : Bool :=
  match o.dst with
  | some d => Nat.blt d n && noDefer o.op && allB opdOk o.op.operands.toList
  | none => noDefer o.op && allB opdOk o.op.operands.toList
def codeOk (n : Nat) : Code → Bool
  | .region _ ops _ => allB (operOk n) ops.toList
  | .seq a b => codeOk n a && codeOk n b
  | .cond c a b => opdOk c && (codeOk n a && codeOk n b)
  | .block _ a => codeOk n a
  | .scope a => codeOk n a
  | .loop a => codeOk n a
  | .rangeFunc f _ x y => opdOk f && (codeOk n x && codeOk n y)
  | .skip => true
  | .exit _ => true
  | .label _ => true
  | .ret => true
  | _ => true

/-- A frame. -/
structure AAct where
  tmps : T Value
  defers : List Deferred
def AAct.eval (a : AAct) : Operand → Value
  | .tmp t => (a.tmps.get t).getD undef
  | .const v => v
  | .global g => .pointer (some ⟨g, 0, none⟩)
  | .func f => .func (.func f) #[] #[]
def AAct.put (a : AAct) (dst : Option Tmp) (v : Value) : AAct :=
  match dst with
  | none => a
  | some d => ⟨a.tmps.set d v, a.defers⟩
structure ActR (φ : Phi) (n : Nat) (a : AAct) (b : Act) : Prop where
  size : b.tmps.size = n
  tmp : ∀ i, VR φ ((a.tmps.get i).getD undef) (b.tmps.getD i undef)
  defers : DefsR φ a.defers b.defers
theorem vr_undef {φ : Phi} : VR φ undef undef := .tuple rfl fun i x y h => by simp at h
theorem ActR.mono0 {φ φ' : Phi} (he : Ext0 φ φ') {n : Nat} {a : AAct} {b : Act} (h : ActR φ n a b) : ActR φ' n a b := ⟨h.size, fun i => (h.tmp i).mono0 he, h.defers.mono0 he⟩
theorem ActR.mono {φ φ' : Phi} (he : Ext φ φ') {n : Nat} {a : AAct} {b : Act} (h : ActR φ n a b) : ActR φ' n a b := h.mono0 he.toExt0
theorem ActR.put {φ : Phi} {n : Nat} {a : AAct} {b : Act} (h : ActR φ n a b) {dst : Option Tmp} (hd : ∀ d, dst = some d → d < n) {v u : Value} (hv : VR φ v u) : ActR φ n (a.put dst v) (b.put dst u) := by
  cases dst with
  | none => exact h
  | some d =>
    have hlt := hd d rfl
    refine ⟨by show (b.tmps.setIfInBounds d u).size = n; simpa using h.size, fun i => ?_, h.defers⟩
    show VR φ (((a.tmps.set d v).get i).getD undef) ((b.tmps.setIfInBounds d u).getD i undef)
    rw [T.get_set, Array.getD_eq_getD_getElem?, Array.getElem?_setIfInBounds]
    by_cases e : i = d
    · subst e
      rw [if_pos rfl, if_pos rfl, if_pos (by rw [h.size]; exact hlt)]
      exact hv
    · rw [if_neg e, if_neg (fun e' => e e'.symm), ← Array.getD_eq_getD_getElem?]
      exact h.tmp i
theorem ActR.eval {φ : Phi} {n : Nat} {a : AAct} {b : Act} (h : ActR φ n a b) {x : Operand} (hx : opdOk x = true) : VR φ (a.eval x) (b.eval x) := by
  cases x with
  | tmp t => exact h.tmp t
  | const v => exact (plain_of hx).vr
  | global g => cases hx
  | func f => exact .func (.same (fun _ e => by cases e)) rfl (fun i x y h => by simp at h) rfl (fun i x y h => by simp at h)

structure Env where
  call : FuncId → Array Value → AHeap → Option (Value × AHeap)
  round : Nat → Array Value → Code → Code → AHeap → Option (Value × AHeap)

inductive AExit where
  | normal
  | exit (id : Nat)
  | ret
def AExit.real : AExit → Exit
  | .normal => .normal
  | .exit id => .exit id
  | .ret => .ret

/-- The value of an operation, by an evaluator of operations. -/
abbrev OpEv : Type := Env → Oper → (Operand → Value) → AHeap → Option (Value × AHeap)

def wantedE (o : Oper) (ops : List Oper) (a : AAct) : Bool :=
  match o.guard with
  | none => true
  | some (j, want) => match ops[j]? with
    | some o' => match o'.dst with
      | some d => match (a.tmps.get d).getD undef with
        | .bool b => b == want
        | _ => false
      | none => false
    | none => false
def opsE (ev : OpEv) (e : Env) (all : List Oper) : List Oper → AAct → AHeap → Option (AAct × AHeap)
  | [], a, h => some (a, h)
  | o :: l, a, h => match wantedE o all a with
    | true => match ev e o a.eval h with
      | some (v, h') => opsE ev e all l (a.put o.dst v) h'
      | none => none
    | false => opsE ev e all l (a.put o.dst undef) h
def loopE (f : AAct → AHeap → Option (AExit × AAct × AHeap)) : Nat → AAct → AHeap → Option (AExit × AAct × AHeap)
  | 0, _, _ => none
  | n + 1, a, h => match f a h with
    | some (.normal, a', h') => loopE f n a' h'
    | r => r
def toArr (t : T Value) (n : Nat) : Array Value := ((List.range n).map fun i => (t.get i).getD undef).toArray
def jumpE (a : AAct) (h : AHeap) : Option Code → Option (AExit × AAct × AHeap)
  | none => some (.normal, a, h)
  | some .ret => some (.ret, a, h)
  | some (.exit i) => some (.exit i, a, h)
  | _ => none
def rangeE (P : Program) (e : Env) (n : Nat) (around : Option Nat) (f : Operand) (ps : Array Tmp) (x y : Code) (a : AAct) (h : AHeap) : Option (AExit × AAct × AHeap) :=
  match arun P (Instr.enterLoop 0 (toArr a.tmps n) ps x y around) h with
  | some ((l, mk), h1) => match a.eval f with
    | .func (.func g) first cap => match e.call g (first ++ #[.func (.yield l) #[] #[]] ++ cap) h1 with
      | some (_, h2) => match arun P (Instr.endLoop l) h2 with
        | some (j, h3) => jumpE ⟨a.tmps, mk ++ a.defers⟩ h3 j
        | none => none
      | none => none
    | _ => none
  | none => none
/-- Regions that draw their order: by an evaluator of regions. -/
abbrev RegEv : Type := Env → List Oper → AAct → AHeap → Option (AAct × AHeap)
def codeE (P : Program) (ev : OpEv) (rv : RegEv) (e : Env) (n : Nat) (around : Option Nat) : Code → AAct → AHeap → Option (AExit × AAct × AHeap)
  | .skip, a, h => some (.normal, a, h)
  | .region _ ops false, a, h => match opsE ev e ops.toList ops.toList a h with
    | some (a', h') => some (.normal, a', h')
    | none => none
  | .region _ ops true, a, h => match rv e ops.toList a h with
    | some (a', h') => some (.normal, a', h')
    | none => none
  | .seq x y, a, h => match codeE P ev rv e n around x a h with
    | some (.normal, a', h') => codeE P ev rv e n around y a' h'
    | r => r
  | .cond c x y, a, h => match a.eval c with
    | .bool true => codeE P ev rv e n around x a h
    | .bool false => codeE P ev rv e n around y a h
    | _ => none
  | .block id x, a, h => match codeE P ev rv e n around x a h with
    | some (.exit i, a', h') => if i = id then some (.normal, a', h') else some (.exit i, a', h')
    | r => r
  | .loop x, a, h => loopE (codeE P ev rv e n around x) 1048576 a h
  | .scope x, a, h => codeE P ev rv e n around x a h
  | .rangeFunc f ps x y, a, h => rangeE P e n around f ps x y a h
  | .exit id, a, h => some (.exit id, a, h)
  | .label _, a, h => some (.normal, a, h)
  | .ret, a, h => some (.ret, a, h)
  | _, _, _ => none

/-! ### The fence -/
def Fr (r : Option Nat) : Fence := { fn := fun _ => True, depth := none, alive := false, round := r }
theorem fr_wide : Fr none = Fence.wide := rfl
theorem fr_call {r : Option Nat} {k : Nat} {P : Program} {f : FuncId} {args : Array Value} {w : World} {R : Ending → World → Prop} (h : CallsIn Fence.wide k P f args w R) : CallsIn (Fr r) k P f args w R := h
theorem fr_depth {r : Option Nat} {k : Nat} : (Fr r).depth.isSome = true → 1 ≤ k := fun h => by cases h
def RndR (φ : Phi) (a b : Option Nat) : Prop := (a = none ∧ b = none) ∨ ∃ x y, a = some x ∧ b = some y ∧ φ x = some y

/-- What a call leaves. -/
def CallPost (w0 : World) (base : Nat) (φ : Phi) (v : Value) (h' : AHeap) (e : Ending) (w' : World) : Prop :=
  ∃ u φ', e = .returned u ∧ VR φ' v u ∧ HR w0 base φ' h' w' ∧ Ext φ φ'
structure EnvS (P : Program) (w0 : World) (base : Nat) (e : Env) : Prop where
  call : ∀ f args h v h' φ args' w, e.call f args h = some (v, h') → HR w0 base φ h w → AsR φ args args' → CallsIn Fence.wide 0 P f args' w (CallPost w0 base φ v h')
  round : ∀ l tmps x y h v h' φ l' f tmps' w r, e.round l tmps x y h = some (v, h') → HR w0 base φ h w → φ l = some l' → AsR φ tmps tmps' → RoundIn (Fr r) 0 P l' f tmps' x y w (CallPost w0 base φ v h')
def OpS (P : Program) (w0 : World) (base : Nat) (ev : OpEv) (e : Env) : Prop :=
  ∀ o ρ h v h' φ w act next Q r, ev e o ρ h = some (v, h') → noDefer o.op = true → (∀ x ∈ o.op.operands, VR φ (ρ x) (act.eval x)) → HR w0 base φ h w →
    (∀ φ' u w', Ext φ φ' → VR φ' v u → HR w0 base φ' h' w' → next (act.put o.dst u) w') → o.wpIn (Fr r) 0 P act w next Q
/-- What code leaves. -/
def CodePost (w0 : World) (base : Nat) (φ : Phi) (n : Nat) (x : AExit) (a' : AAct) (h' : AHeap) (e : Exit) (act : Act) (w' : World) : Prop :=
  ∃ φ', e = x.real ∧ ActR φ' n a' act ∧ HR w0 base φ' h' w' ∧ Ext φ φ'
def RegS (P : Program) (w0 : World) (base : Nat) (rv : RegEv) (e : Env) : Prop :=
  ∀ id ops a h a' h' φ n w act r, rv e ops.toList a h = some (a', h') → allB (operOk n) ops.toList = true → ActR φ n a act → HR w0 base φ h w →
    (Code.region id ops true).wpIn (Fr r) 0 P (CodePost w0 base φ n .normal a' h') act w

section
variable {P : Program} {w0 : World} {base : Nat} {ev : OpEv} {rv : RegEv} {e : Env}
theorem HR.drew {φ : Phi} {h : AHeap} {w : World} (H : HR w0 base φ h w) (k : Nat) : HR w0 base φ h { w with drawn := k } :=
  ⟨fun b o hg hb => by
    have := H.blocks b o hg hb
    cases o <;> exact this, H.fresh, H.lo, H.apart, ⟨H.below.os, H.below.tape, H.below.output, H.below.size, H.below.block⟩, H.base_le, H.ghost⟩
theorem operOk_parts {n : Nat} {o : Oper} (h : operOk n o = true) : (∀ d, o.dst = some d → d < n) ∧ noDefer o.op = true ∧ ∀ x ∈ o.op.operands, opdOk x = true := by
  unfold operOk at h
  cases hd : o.dst with
  | none =>
    rw [hd] at h
    simp only [Bool.and_eq_true] at h
    exact ⟨fun d e => (by cases e), h.1, fun x hx => allB_iff h.2 x (by simpa using hx)⟩
  | some d =>
    rw [hd] at h
    simp only [Bool.and_eq_true] at h
    exact ⟨fun d' e => (by injection e with e; subst e; simpa using h.1.1), h.1.2, fun x hx => allB_iff h.2 x (by simpa using hx)⟩
theorem wanted_eq {φ : Phi} {n : Nat} {a : AAct} {act : Act} (h : ActR φ n a act) (o : Oper) (ops : Array Oper) : Region.wanted o (yielded ops act.tmps) = wantedE o ops.toList a := by
  unfold Region.wanted wantedE
  cases o.guard with
  | none => rfl
  | some g =>
    obtain ⟨j, want⟩ := g
    simp only []
    have e1 : ops.toList[j]? = ops[j]? := by simp
    rw [e1]
    unfold yielded
    cases ops[j]? with
    | none => rfl
    | some o' =>
      simp only [Option.bind_some]
      cases o'.dst with
      | none => rfl
      | some d =>
        simp only [Option.bind_some]
        have := h.tmp d
        rw [Array.getD_eq_getD_getElem?] at this
        cases hc : act.tmps[d]? with
        | none =>
          rw [hc] at this
          generalize hv : (a.tmps.get d).getD undef = v at this ⊢
          cases v <;> first | rfl | cases this
        | some u =>
          rw [hc] at this
          simp only [Option.getD_some] at this
          generalize hv : (a.tmps.get d).getD undef = v at this ⊢
          cases this <;> first | rfl | (cases want <;> rename_i b <;> cases b <;> rfl)
theorem ops_sound (hop : OpS P w0 base ev e) (r : Option Nat) (ops : Array Oper) (Q : Exit → Act → World → Prop) : ∀ (l : List Oper) (a : AAct) (h : AHeap) (a' : AAct) (h' : AHeap) (φ : Phi) (n : Nat) (w : World) (act : Act),
    opsE ev e ops.toList l a h = some (a', h') → (∀ o ∈ l, operOk n o = true) → ActR φ n a act → HR w0 base φ h w →
    (∀ φ' act' w', Ext φ φ' → ActR φ' n a' act' → HR w0 base φ' h' w' → Q .normal act' w') → wpListIn (Fr r) 0 P ops Q l act w
  | [], a, h, a', h', φ, n, w, act, hrun, _, ha, hh, hq => by
    rw [opsE] at hrun
    cases hrun
    exact hq φ act w (Ext.refl _) ha hh
  | o :: l, a, h, a', h', φ, n, w, act, hrun, hok, ha, hh, hq => by
    obtain ⟨h1, h2, h3⟩ := operOk_parts (hok o (List.mem_cons_self ..))
    rw [opsE] at hrun
    rw [wpListIn, wanted_eq ha o ops]
    cases hw : wantedE o ops.toList a with
    | true =>
      rw [hw] at hrun
      simp only [if_true]
      cases hv : ev e o a.eval h with
      | none => rw [hv] at hrun; cases hrun
      | some x =>
        obtain ⟨v, h1'⟩ := x
        rw [hv] at hrun
        refine hop o a.eval h v h1' φ w act _ _ r hv h2 (fun x hx => ha.eval (h3 x hx)) hh fun φ' u w' he hvu hh' => ?_
        exact ops_sound hop r ops Q l _ _ _ _ φ' n w' _ hrun (fun o' ho => hok o' (List.mem_cons_of_mem _ ho)) ((ha.mono he).put h1 hvu) hh' fun φ'' act' w' he' => hq φ'' act' w' (he.trans he')
    | false =>
      rw [hw] at hrun
      refine ⟨fun _ _ => trivial, ?_⟩
      exact ops_sound hop r ops Q l _ _ _ _ φ n w _ hrun (fun o' ho => hok o' (List.mem_cons_of_mem _ ho)) (ha.put h1 vr_undef) hh hq

/-- A loop that ends after a number of rounds. -/
theorem wpIn_loopN {F : Fence} {k0 : Nat} {Q : Exit → Act → World → Prop} {c : Code} (I : Nat → Act → World → Prop) (N : Nat) {a : Act} {w : World} (h0 : I N a w)
    (round : ∀ m a w, I m a w → c.wpIn F k0 P (Exit.then (fun a' w' => ∃ m', m' < m ∧ I m' a' w') Q) a w) : (Code.loop c).wpIn F k0 P Q a w := by
  intro b k cs hro hb hr
  have key : ∀ j a w, I j a w → ∃ e a' w', Q e a' w' ∧ ArrivesIn (Machine.fenced P F) P (lone (b.atR a (.code c :: .inLoop c :: k)) cs w) b k cs e a' w' := by
    intro j
    induction j using Nat.strongRecOn with
    | _ j ih =>
      intro a w hI
      obtain ⟨e, a1, w1, hq, harr⟩ := round j a w hI b (.inLoop c :: k) cs hro hb hr
      cases e with
      | normal =>
        obtain ⟨m', hlt, hI1⟩ := hq
        obtain ⟨e2, a2, w2, hq2, harr2⟩ := ih m' hlt a1 w1 hI1
        exact ⟨e2, a2, w2, hq2, .of_steps (StepsIn.trans harr (.one (fenced_calm hb hr rfl) stepR_inLoop)) harr2⟩
      | exit id => exact ⟨_, a1, w1, hq, .pass (x := .inLoop c) rfl (fun _ _ => .inl (by simp)) harr⟩
      | goto l => exact ⟨_, a1, w1, hq, .pass (x := .inLoop c) rfl (fun _ _ => .inl (by simp)) harr⟩
      | ret => exact ⟨_, a1, w1, hq, .pass (x := .inLoop c) rfl (fun _ _ => .inl (by simp)) harr⟩
      | panic ch => exact ⟨_, a1, w1, hq, .pass (x := .inLoop c) rfl (fun _ _ => .inl (by simp)) harr⟩
      | outgrown => exact ⟨_, a1, w1, hq, .pass (x := .inLoop c) rfl (fun _ _ => .inl (by simp)) harr⟩
  obtain ⟨e, a', w', hq, harr⟩ := key N a w h0
  exact ⟨e, a', w', hq, .of_steps (.one (fenced_calm hb hr rfl) stepR_loop) harr⟩

theorem toArr_r {φ : Phi} {n : Nat} {a : AAct} {b : Act} (h : ActR φ n a b) : AsR φ (toArr a.tmps n) b.tmps := by
  refine ⟨by simp [toArr, h.size], fun i x y hx hy => ?_⟩
  have hi : i < n := by
    rcases Nat.lt_or_ge i n with hlt | hge
    · exact hlt
    · rw [Array.getElem?_eq_none (by simp [toArr]; exact hge)] at hx; cases hx
  have hx' : x = (a.tmps.get i).getD undef := by
    simp [toArr, hi] at hx
    exact hx.symm
  have hy' : y = b.tmps.getD i undef := by rw [Array.getD_eq_getD_getElem?, hy]; rfl
  rw [hx', hy']
  exact h.tmp i

theorem sr_getLoop {φ : Phi} {l l' : Nat} (h : φ l = some l') : SR P (fun φ a b => OR φ (.loop a) (.loop b)) φ (Instr.getLoop l) (Instr.getLoop l') := by
  refine .getObj h fun o o' ho => ?_
  cases ho with
  | loop h1 h2 h4 h5 h6 h7 h8 => exact .pure (.loop h1 h2 h4 h5 h6 h7 h8)
  | _ => exact .halt
theorem sr_setObj {φ : Phi} {l l' : Nat} (h : φ l = some l') {o o' : Obj} (ho : OR φ o o') : SR P EqR φ (setObj l o) (setObj l' o') := .setObj h ho (.pure rfl)
theorem sr_enterLoop {φ : Phi} {t t' : Array Value} (ht : AsR φ t t') (ps : Array Tmp) (x y : Code) {r r' : Option Nat} (hr : RndR φ r r') (fn fn' : FuncId) :
    SR P (fun φ a b => φ a.1 = some b.1 ∧ DefsR φ a.2 b.2) φ (Instr.enterLoop fn t ps x y r) (Instr.enterLoop fn' t' ps x y r') := by
  unfold Instr.enterLoop
  have fin : ∀ φ1 (d d' : Nat) (mk mk' : List Deferred), Ext φ φ1 → φ1 d = some d' → DefsR φ1 mk mk' → SR P (fun φ a b => φ a.1 = some b.1 ∧ DefsR φ a.2 b.2) φ1
      (do pure (← newObj (.loop { state := .ready, pending := none, fn, tmps := t, params := ps, assign := x, body := y, defers := d }), mk))
      (do pure (← newObj (.loop { state := .ready, pending := none, fn := fn', tmps := t', params := ps, assign := x, body := y, defers := d' }), mk')) := by
    intro φ1 d d' mk mk' he hd hm
    refine SR.bind' (R := fun φ a b => φ a = some b) (SR.newObj (.loop rfl rfl (ht.mono he) rfl rfl rfl hd) fun _ _ _ _ h => .pure h) fun φ2 c c' he2 hcd => ?_
    exact .pure ⟨hcd, hm.mono he2⟩
  rcases hr with ⟨rfl, rfl⟩ | ⟨l, l', rfl, rfl, hl⟩
  · refine SR.bind' (R := fun φ a b => φ a = some b) (SR.newObj (.defs .nil) fun _ _ _ _ h => .pure h) fun φ1 a b he hab => ?_
    exact fin φ1 a b _ _ he hab (.cons ⟨.collected hab, AsR.empty _⟩ .nil)
  · refine SR.bind' (sr_getLoop hl) fun φ1 a b he hab => ?_
    cases hab with
    | loop h1 h2 h4 h5 h6 h7 h8 => exact fin φ1 a.defers b.defers _ _ he h8 .nil
theorem sr_beginRound {φ : Phi} {l l' : Nat} (h : φ l = some l') : SR P EqR φ (Instr.beginRound l) (Instr.beginRound l') := by
  refine SR.bind' (sr_getLoop h) fun φ1 a b he hab => ?_
  cases hab with
  | loop h1 h2 h4 h5 h6 h7 h8 =>
    refine SR.bindEq (sr_setObj (he _ _ h) (.loop rfl h2 h4 h5 h6 h7 h8)) fun φ2 _ _ => ?_
    rw [← h1]
    cases a.state with
    | ready => exact .pure rfl
    | done => exact .stops (stops_panic _)
    | busy => exact .stops (stops_panic _)
    | exhausted => exact .stops (stops_panic _)
theorem sr_endRound {φ : Phi} {l l' : Nat} (h : φ l = some l') (j : Option Code) : SR P VR φ (Instr.endRound l j) (Instr.endRound l' j) := by
  refine SR.bind' (sr_getLoop h) fun φ1 a b he hab => ?_
  cases hab with
  | loop h1 h2 h4 h5 h6 h7 h8 =>
    refine SR.bindEq (sr_setObj (he _ _ h) (.loop rfl rfl h4 h5 h6 h7 h8)) fun φ2 _ _ => ?_
    exact .pure .bool
theorem sr_endLoop {φ : Phi} {l l' : Nat} (h : φ l = some l') : SR P EqR φ (Instr.endLoop l) (Instr.endLoop l') := by
  refine SR.bind' (sr_getLoop h) fun φ1 a b he hab => ?_
  cases hab with
  | loop h1 h2 h4 h5 h6 h7 h8 =>
    have fin : ∀ φ1, φ1 l = some l' → OR φ1 (.loop a) (.loop b) → SR P EqR φ1 (do setObj l (.loop { a with state := .exhausted }); pure a.pending) (do setObj l' (.loop { b with state := .exhausted }); pure b.pending) := by
      intro φ1 hl ho
      cases ho with
      | loop h1 h2 h4 h5 h6 h7 h8 =>
        refine SR.bindEq (sr_setObj hl (.loop rfl h2 h4 h5 h6 h7 h8)) fun φ2 _ _ => ?_
        exact .pure h2
    rw [← h1]
    cases a.state == .busy
    · exact fin φ1 (he _ _ h) (.loop h1 h2 h4 h5 h6 h7 h8)
    · refine .stops ?_
      rw [if_pos rfl]
      exact Stops.bind (stops_panic _) _

theorem deferred_value {φ : Phi} {v u : Value} (h : VR φ v u) {g : FuncId} {first cap : Array Value} (hv : v = .func (.func g) first cap) : ∃ first' cap', u = .func (.func g) first' cap' ∧ AsR φ first first' ∧ AsR φ cap cap' := by
  subst hv
  cases h with
  | func hf h1 h2 h3 h4 =>
    cases hf with
    | same _ => exact ⟨_, _, rfl, ⟨h1, h2⟩, ⟨h3, h4⟩⟩
/-- Functions with a body of their own. -/
def Bodied (P : Program) (g : FuncId) : Prop := ∃ fn, P.funcs[g]? = some fn ∧ fn.body.isSome = true ∧ (fn.name == "runtime.NumGoroutine") = false
theorem run_bodied {g : FuncId} (h : Bodied P g) (args : Array Value) (w : World) : (callFunc g args).run P w = .ok (.enter g args) w := by
  obtain ⟨fn, h1, h2, h3⟩ := h
  have h4 : fn.name ≠ "runtime.NumGoroutine" := by simpa using h3
  obtain ⟨c, hc⟩ := Option.isSome_iff_exists.1 h2
  simp [callFunc, h1, h4, hc]
/-- Every function that the evaluator calls has a body. -/
def EnvB (P : Program) (e : Env) : Prop := ∀ f args h x, e.call f args h = some x → Bodied P f

theorem DefsR.append {φ : Phi} {l l' m m' : List Deferred} (h : DefsR φ l l') (h' : DefsR φ m m') : DefsR φ (l ++ m) (l' ++ m') := by
  induction h with
  | nil => exact h'
  | cons hd _ ih => exact .cons hd ih
theorem range_sound (hE : EnvS P w0 base e) (hB : EnvB P e) {r r' : Option Nat} {φ : Phi} (hr : RndR φ r r') {n : Nat} (f : Operand) (ps : Array Tmp) (x y : Code) (a : AAct) (h : AHeap) (xx : AExit) (a' : AAct) (h' : AHeap) (w : World) (act : Act)
    (Q : Exit → Act → World → Prop) (hrun : rangeE P e n r f ps x y a h = some (xx, a', h')) (hok : opdOk f = true) (ha : ActR φ n a act) (hh : HR w0 base φ h w)
    (hq : ∀ φ' act' w', Ext φ φ' → ActR φ' n a' act' → HR w0 base φ' h' w' → Q xx.real act' w') : (Code.rangeFunc f ps x y).wpIn (Fr r') 0 P Q act w := by
  unfold rangeE at hrun
  cases h1 : arun P (Instr.enterLoop 0 (toArr a.tmps n) ps x y r) h with
  | none => rw [h1] at hrun; cases hrun
  | some z =>
    obtain ⟨⟨l, mk⟩, hp1⟩ := z
    rw [h1] at hrun
    simp only at hrun
    cases hf : a.eval f with
    | func fn first cap =>
      rw [hf] at hrun
      cases fn with
      | func g =>
        simp only at hrun
        cases h2 : e.call g (first ++ #[.func (.yield l) #[] #[]] ++ cap) hp1 with
        | none => rw [h2] at hrun; cases hrun
        | some z2 =>
          obtain ⟨v2, hp2⟩ := z2
          rw [h2] at hrun
          simp only at hrun
          cases h3 : arun P (Instr.endLoop l) hp2 with
          | none => rw [h3] at hrun; cases hrun
          | some z3 =>
            obtain ⟨j, hp3⟩ := z3
            rw [h3] at hrun
            simp only at hrun
            refine wpIn_rangeFunc fun fn0 _ => ?_
            obtain ⟨φ1, lm, w1, hr1, ⟨hl, hmk⟩, hh1, he1⟩ := arun_sound (sr_enterLoop (toArr_r ha) ps x y hr 0 fn0) hh h1
            obtain ⟨l', mk'⟩ := lm
            obtain ⟨first', cap', hu, hfi, hca⟩ := deferred_value (ha.eval hok) hf
            have hyl : VR φ1 (.func (.yield l) #[] #[]) (.func (.yield l') #[] #[]) := .func (.yield hl) rfl (fun i x y h => by simp at h) rfl (fun i x y h => by simp at h)
            have hargs : AsR φ1 (first ++ #[.func (.yield l) #[] #[]] ++ cap) (first' ++ #[.func (.yield l') #[] #[]] ++ cap') := ((hfi.mono he1).append (AsR.one hyl)).append (hca.mono he1)
            refine ⟨l', mk', w1, { target := .fn (.func g) cap', args := first' ++ #[.func (.yield l') #[] #[]] }, w1, g, first' ++ #[.func (.yield l') #[] #[]] ++ cap', w1, hr1, ?_, fun _ _ => trivial, ?_, fr_depth, ?_⟩
            · simp only [resolve, hu]
              simp [Deferred.ofValue, Act.eval]
            · exact run_bodied (hB _ _ _ _ h2) _ _
            · refine fr_call ((hE.call g _ _ _ _ φ1 _ w1 h2 hh1 hargs).mono fun en w2 hen => ?_)
              obtain ⟨u2, φ2, rfl, _, hh2, he2⟩ := hen
              obtain ⟨φ3, j', w3, hr3, hj, hh3, he3⟩ := arun_sound (sr_endLoop (he2 _ _ hl)) hh2 h3
              cases hj
              refine ⟨j, w3, hr3, ?_⟩
              have hext : Ext φ φ3 := he1.trans (he2.trans he3)
              have hdef : DefsR φ3 (mk ++ a.defers) (mk' ++ act.defers) := DefsR.append (hmk.mono (he2.trans he3)) (ha.defers.mono hext)
              have hact : ActR φ3 n ⟨a.tmps, mk ++ a.defers⟩ { act with defers := mk' ++ act.defers } := ⟨ha.size, fun i => (ha.tmp i).mono hext, hdef⟩
              cases j with
              | none =>
                simp only [jumpE] at hrun
                cases hrun
                exact hq φ3 _ w3 hext hact hh3
              | some c =>
                cases c <;> simp only [jumpE] at hrun <;> first | (cases hrun; done) | skip
                · cases hrun
                  exact wpIn_exit (hq φ3 _ w3 hext hact hh3)
                · cases hrun
                  exact wpIn_ret (hq φ3 _ w3 hext hact hh3)
      | _ => cases hrun
    | _ => rw [hf] at hrun; cases hrun

theorem loop_sound {F : Fence} {n : Nat} {c : Code} {f : AAct → AHeap → Option (AExit × AAct × AHeap)} {φ0 : Phi}
    (hf : ∀ a h x a' h' φ w act Q, Ext φ0 φ → f a h = some (x, a', h') → ActR φ n a act → HR w0 base φ h w → (∀ φ' act' w', Ext φ φ' → ActR φ' n a' act' → HR w0 base φ' h' w' → Q x.real act' w') → c.wpIn F 0 P Q act w)
    (N : Nat) (a : AAct) (h : AHeap) (x : AExit) (a' : AAct) (h' : AHeap) (φ : Phi) (he0 : Ext φ0 φ) (w : World) (act : Act) (Q : Exit → Act → World → Prop)
    (hrun : loopE f N a h = some (x, a', h')) (ha : ActR φ n a act) (hh : HR w0 base φ h w) (hq : ∀ φ' act' w', Ext φ φ' → ActR φ' n a' act' → HR w0 base φ' h' w' → Q x.real act' w') : (Code.loop c).wpIn F 0 P Q act w := by
  refine wpIn_loopN (fun m act w => ∃ a1 h1 φ1, loopE f m a1 h1 = some (x, a', h') ∧ ActR φ1 n a1 act ∧ HR w0 base φ1 h1 w ∧ Ext φ φ1) N ⟨a, h, φ, hrun, ha, hh, Ext.refl _⟩ ?_
  rintro m act1 w1 ⟨a1, h1, φ1, hr1, ha1, hh1, he1⟩
  cases m with
  | zero => cases hr1
  | succ m =>
    rw [loopE] at hr1
    cases hfr : f a1 h1 with
    | none => rw [hfr] at hr1; cases hr1
    | some z =>
      obtain ⟨x1, a2, h2⟩ := z
      rw [hfr] at hr1
      refine hf a1 h1 x1 a2 h2 φ1 w1 act1 _ (he0.trans he1) hfr ha1 hh1 fun φ2 act2 w2 he2 ha2 hh2 => ?_
      cases x1 with
      | normal => exact ⟨m, by omega, a2, h2, φ2, hr1, ha2, hh2, he1.trans he2⟩
      | exit i =>
        simp only at hr1
        cases hr1
        exact hq φ2 act2 w2 (he1.trans he2) ha2 hh2
      | ret =>
        simp only at hr1
        cases hr1
        exact hq φ2 act2 w2 (he1.trans he2) ha2 hh2

theorem RndR.mono {φ φ' : Phi} (he : Ext φ φ') {r r' : Option Nat} (h : RndR φ r r') : RndR φ' r r' := by
  rcases h with h | ⟨x, y, rfl, rfl, h⟩
  · exact .inl h
  · exact .inr ⟨x, y, rfl, rfl, he _ _ h⟩
theorem code_sound (hE : EnvS P w0 base e) (hB : EnvB P e) (hop : OpS P w0 base ev e) (hrg : RegS P w0 base rv e) {r r' : Option Nat} {n : Nat} : ∀ (c : Code) (a : AAct) (h : AHeap) (x : AExit) (a' : AAct) (h' : AHeap) (φ : Phi) (w : World) (act : Act) (Q : Exit → Act → World → Prop),
    codeE P ev rv e n r c a h = some (x, a', h') → codeOk n c = true → RndR φ r r' → ActR φ n a act → HR w0 base φ h w →
    (∀ φ' act' w', Ext φ φ' → ActR φ' n a' act' → HR w0 base φ' h' w' → Q x.real act' w') → c.wpIn (Fr r') 0 P Q act w := by
  intro c
  induction c with
  | skip =>
    intro a h x a' h' φ w act Q hrun _ _ ha hh hq
    cases hrun
    exact wpIn_skip (hq φ act w (Ext.refl _) ha hh)
  | region id ops draw =>
    intro a h x a' h' φ w act Q hrun hok _ ha hh hq
    cases draw with
    | false =>
      rw [codeE] at hrun
      cases hr : opsE ev e ops.toList ops.toList a h with
      | none => rw [hr] at hrun; cases hrun
      | some z =>
        obtain ⟨a1, h1⟩ := z
        rw [hr] at hrun
        cases hrun
        exact wpIn_region_list (ops_sound hop r' ops Q ops.toList a h _ _ φ n w act hr (fun o ho => allB_iff hok o ho) ha hh hq)
    | true =>
      rw [codeE] at hrun
      cases hr : rv e ops.toList a h with
      | none => rw [hr] at hrun; cases hrun
      | some z =>
        obtain ⟨a1, h1⟩ := z
        rw [hr] at hrun
        cases hrun
        exact wpIn_mono (hrg id ops a h _ _ φ n w act r' hr hok ha hh) fun ex ac wo ⟨φ', q1, q2, q3, q4⟩ => q1 ▸ hq φ' ac wo q4 q2 q3
  | seq c1 c2 ih1 ih2 =>
    intro a h x a' h' φ w act Q hrun hok hr ha hh hq
    simp only [codeOk, Bool.and_eq_true] at hok
    rw [codeE] at hrun
    cases h1 : codeE P ev rv e n r c1 a h with
    | none => rw [h1] at hrun; cases hrun
    | some z =>
      obtain ⟨x1, a1, hp1⟩ := z
      rw [h1] at hrun
      refine wpIn_seq (ih1 a h x1 a1 hp1 φ w act _ h1 hok.1 hr ha hh fun φ1 act1 w1 he1 ha1 hh1 => ?_)
      cases x1 with
      | normal => exact ih2 a1 hp1 x a' h' φ1 w1 act1 Q hrun hok.2 (hr.mono he1) ha1 hh1 fun φ2 act2 w2 he2 => hq φ2 act2 w2 (he1.trans he2)
      | exit i =>
        simp only at hrun
        cases hrun
        exact hq φ1 act1 w1 he1 ha1 hh1
      | ret =>
        simp only at hrun
        cases hrun
        exact hq φ1 act1 w1 he1 ha1 hh1
  | cond c c1 c2 ih1 ih2 =>
    intro a h x a' h' φ w act Q hrun hok hr ha hh hq
    simp only [codeOk, Bool.and_eq_true] at hok
    rw [codeE] at hrun
    have hc := ha.eval hok.1
    cases hv : a.eval c with
    | bool b =>
      rw [hv] at hrun hc
      generalize hu : act.eval c = u at hc
      cases hc
      cases b with
      | true => exact wpIn_cond_true hu (ih1 a h x a' h' φ w act Q hrun hok.2.1 hr ha hh hq)
      | false => exact wpIn_cond_false hu (ih2 a h x a' h' φ w act Q hrun hok.2.2 hr ha hh hq)
    | _ => rw [hv] at hrun; cases hrun
  | block id c ih =>
    intro a h x a' h' φ w act Q hrun hok hr ha hh hq
    rw [codeE] at hrun
    cases h1 : codeE P ev rv e n r c a h with
    | none => rw [h1] at hrun; cases hrun
    | some z =>
      obtain ⟨x1, a1, hp1⟩ := z
      rw [h1] at hrun
      refine wpIn_block (ih a h x1 a1 hp1 φ w act _ h1 hok hr ha hh fun φ1 act1 w1 he1 ha1 hh1 => ?_)
      cases x1 with
      | normal =>
        simp only at hrun
        cases hrun
        exact hq φ1 act1 w1 he1 ha1 hh1
      | exit i =>
        simp only at hrun
        show if i = id then Q .normal act1 w1 else Q (.exit i) act1 w1
        by_cases e : i = id
        · rw [if_pos e] at hrun
          cases hrun
          rw [if_pos e]
          exact hq φ1 act1 w1 he1 ha1 hh1
        · rw [if_neg e] at hrun
          cases hrun
          rw [if_neg e]
          exact hq φ1 act1 w1 he1 ha1 hh1
      | ret =>
        simp only at hrun
        cases hrun
        exact hq φ1 act1 w1 he1 ha1 hh1
  | loop c ih =>
    intro a h x a' h' φ w act Q hrun hok hr ha hh hq
    rw [codeE] at hrun
    refine loop_sound (n := n) (f := fun a1 h1 => codeE P ev rv e n r c a1 h1) ?_ 1048576 a h x a' h' φ (Ext.refl φ) w act Q hrun ha hh hq
    intro a1 h1 x1 a2 h2 φ1 w1 act1 Q1 he1 hr1 ha1 hh1 hq1
    exact ih a1 h1 x1 a2 h2 φ1 w1 act1 Q1 hr1 hok (hr.mono he1) ha1 hh1 hq1
  | rangeFunc f ps c1 c2 _ _ =>
    intro a h x a' h' φ w act Q hrun hok hr ha hh hq
    simp only [codeOk, Bool.and_eq_true] at hok
    rw [codeE] at hrun
    exact range_sound hE hB hr f ps c1 c2 a h x a' h' w act Q hrun hok.1 ha hh hq
  | exit id =>
    intro a h x a' h' φ w act Q hrun _ _ ha hh hq
    cases hrun
    exact wpIn_exit (hq φ act w (Ext.refl _) ha hh)
  | scope c ih =>
    intro a h x a' h' φ w act Q hrun hok hr ha hh hq
    rw [codeE] at hrun
    refine wpIn_scope (ih a h x a' h' φ w act _ hrun hok hr ha hh fun φ1 act1 w1 he1 ha1 hh1 => ?_)
    have := hq φ1 act1 w1 he1 ha1 hh1
    cases x <;> exact this
  | label l =>
    intro a h x a' h' φ w act Q hrun _ _ ha hh hq
    cases hrun
    exact wpIn_label (hq φ act w (Ext.refl _) ha hh)
  | goto l => intro a h x a' h' φ w act Q hrun; cases hrun
  | ret =>
    intro a h x a' h' φ w act Q hrun _ _ ha hh hq
    cases hrun
    exact wpIn_ret (hq φ act w (Ext.refl _) ha hh)
  | refuse s => intro a h x a' h' φ w act Q hrun; cases hrun
end
end
end Go.Ab
