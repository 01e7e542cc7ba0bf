/- The evaluator, part 9. -/
import Derived.Test.YtbjadgggpkbjmaaGreatEv8
/- An evaluator of the model's code over an abstract heap: regions that draw their order, the checks. -/
namespace Go.Ab
open Go.RowKit
noncomputable section

structure RStep where
  o : Oper
  a : AAct
  h : AHeap
  v : Value
  q : Bool
  h1 : AHeap
  wt : Bool
def isAl : Op → Bool
  | .alloc _ => true
  | _ => false
def findG : List (Nat × Nat × AObj) → Nat → Option (Nat × AObj)
  | [], _ => none
  | x :: l, i => match Nat.beq x.1 i with
    | true => some x.2
    | false => findG l i
def stepsE (P : Program) (ev : OpEv) (e : Env) (all : List Oper) (g : List (Nat × Nat × AObj)) : List Oper → Nat → AAct → AHeap → Option (List RStep)
  | [], _, _, _ => some []
  | o :: l, i, a, h => match wantedE o all a with
    | false => match isAl o.op with
      | true => none
      | false => (stepsE P ev e all g l (i + 1) (a.put o.dst undef) h).map (⟨o, a, h, undef, true, h, false⟩ :: ·)
    | true => match isAl o.op with
      | true => match findG g i with
        | some (b, _) => match layV P o a.eval b with
          | some (v, _) => (stepsE P ev e all g l (i + 1) (a.put o.dst v) h).map (⟨o, a, h, v, true, h, true⟩ :: ·)
          | none => none
        | none => none
      | false => match opQ P o a.eval h with
        | some v => (stepsE P ev e all g l (i + 1) (a.put o.dst v) h).map (⟨o, a, h, v, true, h, true⟩ :: ·)
        | none => match ev e o a.eval h with
          | some (v, h1) => (stepsE P ev e all g l (i + 1) (a.put o.dst v) h1).map (⟨o, a, h, v, false, h1, true⟩ :: ·)
          | none => none
/-- The frame and the heap behind the steps of a set. -/
def frS : List RStep → Nat → (Nat → Bool) → AAct → AAct
  | [], _, _, a => a
  | r :: rs, i, S, a => frS rs (i + 1) S (match S i with
    | true => a.put r.o.dst r.v
    | false => a)
def hS : List RStep → Nat → (Nat → Bool) → AHeap → AHeap
  | [], _, _, h => h
  | r :: rs, i, S, h => hS rs (i + 1) S (match S i && !r.q with
    | true => r.h1
    | false => h)

/-- What must come ahead. -/
def maskOf (acc : List Nat) (o : Oper) : Nat := o.after.toList.foldl (fun s e => match Region.binds .any e with
  | true => s ||| (2 ^ e.on ||| acc.getD e.on 0)
  | false => s) 0
def masksGo : List Oper → List Nat → List Nat
  | [], acc => acc
  | o :: l, acc => masksGo l (acc ++ [maskOf acc o])
def masksOf (ops : List Oper) : List Nat := masksGo ops []
def edgesOk : List Oper → Nat → Bool
  | [], _ => true
  | o :: l, i => match allB (fun e : Edge => !Region.binds .any e || Nat.blt e.on i) o.after.toList with
    | true => edgesOk l (i + 1)
    | false => false
/-- The temporaries that an operation looks at. -/
def looks (ops : List Oper) (o : Oper) : List Nat :=
  (o.op.operands.toList.filterMap fun x => match x with | .tmp t => some t | _ => none) ++
  (match o.guard with
   | some (j, _) => match ops[j]? with
     | some o' => o'.dst.toList
     | none => []
   | none => []) ++ o.dst.toList
def hasN (l : List Nat) (n : Nat) : Bool := match l with
  | [] => false
  | x :: l => match Nat.beq x n with
    | true => true
    | false => hasN l n
def clash (ops : List Oper) (x y : Oper) : Bool :=
  (match x.dst with
   | some d => hasN (looks ops y) d
   | none => false) ||
  (match y.dst with
   | some d => hasN (looks ops x) d
   | none => false)
def bf (ms : List Nat) (i j : Nat) : Bool := (ms.getD i 0).testBit j
def tmpsOk (ops : List Oper) : Bool :=
  let ms := masksOf ops
  allB (fun j => match ops[j]? with
    | some y => allB (fun i => match ops[i]? with
      | some x => !clash ops x y || bf ms j i
      | none => true) (List.range j)
    | none => true) (List.range ops.length)
def effsOf : List RStep → Nat → List Nat
  | [], _ => []
  | r :: rs, i => match r.q with
    | true => effsOf rs (i + 1)
    | false => i :: effsOf rs (i + 1)
def chainOk (ms : List Nat) (es : List Nat) : Bool := allB (fun j => allB (fun i => !Nat.blt i j || bf ms j i) es) es
def valEq : Value → Value → Bool
  | .bool a, .bool b => a == b
  | .int k a, .int k' b => Nat.beq (k.ctorIdx) (k'.ctorIdx) && a == b
  | .string a, .string b => match decEq a b with
    | isTrue _ => true
    | isFalse _ => false
  | .pointer none, .pointer none => true
  | .pointer (some ⟨b, o, none⟩), .pointer (some ⟨b', o', none⟩) => Nat.beq b b' && Nat.beq o o'
  | .slice none n k, .slice none n' k' => Nat.beq n n' && Nat.beq k k'
  | .slice (some ⟨b, o, none⟩) n k, .slice (some ⟨b', o', none⟩) n' k' => Nat.beq b b' && Nat.beq o o' && Nat.beq n n' && Nat.beq k k'
  | .map none, .map none => true
  | .map (some a), .map (some b) => Nat.beq a b
  | .nilFunc, .nilFunc => true
  | .nilIface, .nilIface => true
  | _, _ => false
def valsEq : List Value → List Value → Bool
  | [], [] => true
  | a :: l, b :: m => match valEq a b with
    | true => valsEq l m
    | false => false
  | _, _ => false
def valEq1 : Value → Value → Bool
  | .agg a, .agg b => valsEq a.toList b.toList
  | .tuple a, .tuple b => valsEq a.toList b.toList
  | .func (.func f) a b, .func (.func g) c d => Nat.beq f g && valsEq a.toList c.toList && valsEq b.toList d.toList
  | .iface t v, .iface u w => Nat.beq t u && valEq v w
  | a, b => valEq a b
def valsEq1 : List Value → List Value → Bool
  | [], [] => true
  | a :: l, b :: m => match valEq1 a b with
    | true => valsEq1 l m
    | false => false
  | _, _ => false
def valEq2 : Value → Value → Bool
  | .tuple a, .tuple b => valsEq1 a.toList b.toList
  | a, b => valEq1 a b
/-- What an operation answers without a look at the heap. -/
def hfree : Op → Bool
  | .move _ => true
  | .assign _ => true
  | .build _ _ => true
  | .nilCheck _ => true
  | .binOp _ _ _ _ _ => true
  | .unOp _ _ _ => true
  | .pick _ _ _ => true
  | .convert _ _ _ => true
  | .makeFunc _ _ _ => true
  | .slice _ _ _ _ _ => true
  | .extract _ _ => true
  | _ => false
/-- A read has its value at every moment at which it may come. -/
def readOk (P : Program) (ms : List Nat) (es : List Nat) (rs : List RStep) (h0 : AHeap) (i : Nat) (r : RStep) : Bool :=
  match r.q && r.wt && !hfree r.o.op && !isAl r.o.op with
  | true => allB (fun m => (allB (fun j => Nat.blt j m == Nat.blt j i) es) ||
      !(allB (fun j => match Nat.blt j m with
        | true => !bf ms j i
        | false => !bf ms i j) es) ||
      (match opQ P r.o r.a.eval (hS rs 0 (fun j => Nat.blt j m) h0) with
       | some v => valEq2 v r.v
       | none => false)) (0 :: es.map (· + 1))
  | false => true
def readsOk (P : Program) (ms : List Nat) (es : List Nat) (all : List RStep) (h0 : AHeap) : List RStep → Nat → Bool
  | [], _ => true
  | r :: rs, i => match readOk P ms es all h0 i r with
    | true => readsOk P ms es all h0 rs (i + 1)
    | false => false
def hA : List (Nat × Nat × AObj) → (Nat → Bool) → T AObj → T AObj
  | [], _, t => t
  | x :: l, S, t => hA l S (match S x.1 with
    | true => t.set x.2.1 x.2.2
    | false => t)
def freeAt (t : T AObj) (b : Nat) : Bool := match t.get b with
  | none => true
  | some _ => false
/-- The variables that a region lays: they lie there from its beginning. -/
def ghostsOf (P : Program) (t0 : T AObj) : List Oper → Nat → Nat → List (Nat × Nat × AObj) → Option (List (Nat × Nat × AObj) × Nat)
  | [], _, b, acc => some (acc, b)
  | o :: l, i, b, acc => match isAl o.op with
    | false => ghostsOf P t0 l (i + 1) b acc
    | true => match layV P o (fun _ => undef) b with
      | some (_, ob) => match freeAt t0 b && tIn P o.op with
        | true => ghostsOf P t0 l (i + 1) (b + 1) (acc ++ [(i, b, ob)])
        | false => none
      | none => none
def sameO : Option Value → Option Value → Bool
  | none, none => true
  | some x, some y => valEq x y
  | _, _ => false
def sameT : T Value → T Value → Bool
  | .nil, .nil => true
  | .node a v b, .node a' v' b' => sameT a a' && sameO v v' && sameT b b'
  | _, _ => false
def sameB : Bool → Bool → Bool
  | true, true => true
  | false, false => true
  | _, _ => false
def sameAt : Option AObj → AObj → Bool
  | some (.cells e n x r [] c), .cells e' n' x' r' [] c' => Nat.beq e e' && Nat.beq n n' && sameB x x' && sameB r r' && sameT c c'
  | _, _ => false
def anyB {α : Type} (f : α → Bool) : List α → Bool
  | [] => false
  | a :: l => match f a with
    | true => true
    | false => anyB f l
/-- A variable is as it was laid at every moment at which its turn may come. -/
def ghostOk (ms es : List Nat) (rs : List RStep) (h0 : AHeap) (x : Nat × Nat × AObj) : Bool :=
  allB (fun m => anyB (fun j => Nat.blt j m && bf ms j x.1) es || sameAt ((hS rs 0 (fun j => Nat.blt j m) h0).blocks.get x.2.1) x.2.2) (0 :: es.map (· + 1))
/-- A region of which the effects stand in one order. -/
def regM (P : Program) (xt : XTab) : RegEv := fun e ops a h =>
  match ghostsOf P h.blocks ops 0 h.next [] with
  | some (g, n) => match stepsE P (opW P xt) e ops g ops 0 a ⟨hA g (fun _ => true) h.blocks, n⟩ with
    | some rs =>
      let es := effsOf rs 0
      match chainOk (masksOf ops) es && readsOk P (masksOf ops) es rs ⟨hA g (fun _ => true) h.blocks, n⟩ rs 0 && allB (ghostOk (masksOf ops) es rs ⟨hA g (fun _ => true) h.blocks, n⟩) g with
      | true => some (frS rs 0 (fun _ => true) a, hS rs 0 (fun _ => true) ⟨hA g (fun _ => true) h.blocks, n⟩)
      | false => none
    | none => none
  | none => none

/-! A region that only reads and lays new rows. -/
def layOp : Op → Bool
  | .alloc _ => true
  | .box _ _ => true
  | .makeMap _ _ => true
  | .makeSlice _ _ _ => true
  | .buildSlice _ _ _ => true
  | _ => false
def quietOp : Op → Bool
  | .load _ _ => true
  | .makeInterface _ _ => true
  | .fieldAddr _ _ _ => true
  | .field _ _ _ => true
  | .indexAddr _ _ _ => true
  | .index _ _ _ => true
  | .lookup _ _ _ _ => true
  | .typeAssert _ _ _ _ => true
  | .call c => match c.callee with
    | .builtin .len => true
    | _ => false
  | op => hfree op
def consA (r : RStep) : Option (List RStep × List (Nat × Nat × AObj) × Nat) → Option (List RStep × List (Nat × Nat × AObj) × Nat)
  | some (rs, x) => some (r :: rs, x)
  | none => none
def stepsA (P : Program) (all : List Oper) (ms : List Nat) (h0 : AHeap) : List Oper → Nat → AAct → Nat → List (Nat × Nat × AObj) → Option (List RStep × List (Nat × Nat × AObj) × Nat)
  | [], _, _, b, acc => some ([], acc, b)
  | o :: l, i, a, b, acc => match wantedE o all a with
    | false => consA ⟨o, a, h0, undef, true, h0, false⟩ (stepsA P all ms h0 l (i + 1) (a.put o.dst undef) b acc)
    | true => match layOp o.op with
      | true => match layV P o a.eval b with
        | some (v, ob) => match freeAt h0.blocks b && tIn P o.op with
          | true => consA ⟨o, a, h0, v, false, h0, true⟩ (stepsA P all ms h0 l (i + 1) (a.put o.dst v) (b + 1) (acc ++ [(i, b, ob)]))
          | false => none
        | none => none
      | false => match opQ P o a.eval ⟨hA acc (bf ms i) h0.blocks, b⟩ with
        | some v => consA ⟨o, a, h0, v, true, h0, true⟩ (stepsA P all ms h0 l (i + 1) (a.put o.dst v) b acc)
        | none => none
def regA (P : Program) (ops : List Oper) (a : AAct) (h : AHeap) : Option (AAct × AHeap) :=
  match stepsA P ops (masksOf ops) h ops 0 a h.next [] with
  | some (rs, als, n) => some (frS rs 0 (fun _ => true) a, ⟨hA als (fun _ => true) h.blocks, n⟩)
  | none => none
def regE (P : Program) (xt : XTab) : RegEv := fun e ops a h =>
  match edgesOk ops 0 && tmpsOk ops with
  | true => match allB (fun o : Oper => layOp o.op || quietOp o.op) ops with
    | true => regA P ops a h
    | false => regM P xt e ops a h
  | false => none

theorem kind_of {k k' : IntKind} (h : k.ctorIdx = k'.ctorIdx) : k = k' := by cases k <;> cases k' <;> first | rfl | cases h
theorem valEq_eq {a b : Value} (h : valEq a b = true) : a = b := by
  unfold valEq at h
  split at h <;> first | rfl | (cases h; done) | skip
  all_goals try simp only [Bool.and_eq_true, Nat.beq_eq, beq_iff_eq] at h
  · rw [h]
  · rw [kind_of h.1, h.2]
  · split at h
    · rename_i e _; rw [e]
    · cases h
  · rw [h.1, h.2]
  · rw [h.1, h.2]
  · rw [h.1.1.1, h.1.1.2, h.1.2, h.2]
  · rw [h]
theorem valsEq_eq : ∀ {a b : List Value}, valsEq a b = true → a = b
  | [], [], _ => rfl
  | [], _ :: _, h => by cases h
  | _ :: _, [], h => by cases h
  | x :: a, y :: b, h => by
    rw [valsEq] at h
    split at h
    · rename_i hx
      rw [valEq_eq hx, valsEq_eq h]
    · cases h
theorem valEq1_eq {a b : Value} (h : valEq1 a b = true) : a = b := by
  unfold valEq1 at h
  split at h
  · rw [Array.ext' (valsEq_eq h)]
  · rw [Array.ext' (valsEq_eq h)]
  · simp only [Bool.and_eq_true, Nat.beq_eq] at h
    obtain ⟨⟨rfl, h2⟩, h3⟩ := h
    rw [Array.ext' (valsEq_eq h2), Array.ext' (valsEq_eq h3)]
  · simp only [Bool.and_eq_true, Nat.beq_eq] at h
    obtain ⟨rfl, h2⟩ := h
    rw [valEq_eq h2]
  · exact valEq_eq h
theorem valsEq1_eq : ∀ {a b : List Value}, valsEq1 a b = true → a = b
  | [], [], _ => rfl
  | [], _ :: _, h => by cases h
  | _ :: _, [], h => by cases h
  | x :: a, y :: b, h => by
    rw [valsEq1] at h
    split at h
    · rename_i hx
      rw [valEq1_eq hx, valsEq1_eq h]
    · cases h
theorem valEq2_eq {a b : Value} (h : valEq2 a b = true) : a = b := by
  unfold valEq2 at h
  split at h
  · rw [Array.ext' (valsEq1_eq h)]
  · exact valEq1_eq h
theorem prun_extract {P : Program} (v : Value) (i : Nat) (h h' : AHeap) : prun P (Instr.extract v i) h = prun P (Instr.extract v i) h' := by
  unfold Instr.extract
  split
  · split <;> rfl
  · rfl
theorem opQ_free {P : Program} {o : Oper} (hf : hfree o.op = true) (ρ : Operand → Value) (h h' : AHeap) : opQ P o ρ h = opQ P o ρ h' := by
  obtain ⟨dst, op, type, pos, after, guard⟩ := o
  cases op <;> first | (cases hf; done) | rfl | skip
  rename_i x i
  show (match tIn P (.extract x i) with
    | true => prun P (Instr.extract (ρ x) i) h
    | false => none) = (match tIn P (.extract x i) with
    | true => prun P (Instr.extract (ρ x) i) h'
    | false => none)
  rw [prun_extract (ρ x) i h h']
theorem sameT_eq : ∀ {a b : T Value}, sameT a b = true → a = b
  | .nil, .nil, _ => rfl
  | .nil, .node _ _ _, h => by cases h
  | .node _ _ _, .nil, h => by cases h
  | .node a v b, .node a' v' b', h => by
    have h0 : (sameT a a' && sameO v v' && sameT b b') = true := h
    simp only [Bool.and_eq_true] at h0
    obtain ⟨⟨h1, h2⟩, h3⟩ := h0
    rw [sameT_eq h1, sameT_eq h3]
    have : v = v' := by
      cases v <;> cases v' <;> first | rfl | (cases h2; done) | skip
      rename_i x y
      rw [valEq_eq (a := x) (b := y) h2]
    rw [this]
theorem sameB_eq {a b : Bool} (h : sameB a b = true) : a = b := by cases a <;> cases b <;> first | rfl | cases h
theorem sameAt_eq {x : Option AObj} {y : AObj} (h : sameAt x y = true) : x = some y := by
  unfold sameAt at h
  split at h
  · simp only [Bool.and_eq_true] at h
    obtain ⟨⟨⟨⟨h1, h2⟩, h3⟩, h4⟩, h5⟩ := h
    rw [Nat.eq_of_beq_eq_true h1, Nat.eq_of_beq_eq_true h2, sameB_eq h3, sameB_eq h4, sameT_eq h5]
  · cases h
theorem anyB_iff {α : Type} {f : α → Bool} : ∀ {l : List α}, anyB f l = true → ∃ a ∈ l, f a = true
  | [], h => by cases h
  | b :: l, h => by
    rw [anyB] at h
    split at h
    · rename_i hb; exact ⟨b, List.mem_cons_self .., hb⟩
    · obtain ⟨a, h1, h2⟩ := anyB_iff h
      exact ⟨a, List.mem_cons_of_mem _ h1, h2⟩
end
end Go.Ab
