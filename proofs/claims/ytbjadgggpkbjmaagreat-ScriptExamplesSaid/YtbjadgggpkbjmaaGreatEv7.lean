/- The evaluator, part 7. -/
import Derived.Test.YtbjadgggpkbjmaaGreatEv6
/- An evaluator of the model's code over an abstract heap: regions that draw their order. -/
namespace Go.Ab
open Go.RowKit
noncomputable section

/-- The run of a tree that only reads. -/
def prun (P : Program) {α : Type} (s : Sem α) : AHeap → Option α :=
  Sem.rec (motive := fun _ => AHeap → Option α)
    (fun a _ => some a)
    (fun _ a _ ih h => Option.casesOn (motive := fun _ => Option α) (aload h a) none (fun v => ih v h))
    (fun _ _ _ _ _ _ => none)
    (fun _ _ _ _ => none)
    (fun r _ ih h => match h.blocks.get r with
      | some (.cells e n true _ _ _) => ih (some (e, n)) h
      | some (.obj _) => ih none h
      | _ => none)
    (fun _ _ _ _ _ => none)
    (fun a _ ih h => match h.blocks.get a.block with
      | some (.cells _ _ _ _ _ _) => ih false h
      | _ => none)
    (fun r _ ih h => match h.blocks.get r with
      | some (.obj o) => ih o h
      | _ => none)
    (fun _ _ _ _ _ => none)
    (fun q _ ih h => match q.forced with
      | true => ih 0 h
      | false => none)
    (fun _ _ _ _ => none)
    (fun _ ih h => ih P h)
    (fun _ _ ih h => ih h)
    (fun _ _ => none) s
theorem prun_arun (P : Program) {α : Type} (s : Sem α) : ∀ {h : AHeap} {a : α}, prun P s h = some a → arun P s h = some (a, h) := by
  induction s with
  | pure b => intro h a hr; cases hr; rfl
  | load m x k ih =>
    intro h a hr
    have hr' : Option.casesOn (motive := fun _ => Option α) (aload h x) none (fun v => prun P (k v) h) = some a := hr
    rw [arun_load]
    cases hv : aload h x with
    | none => rw [hv] at hr'; cases hr'
    | some v => rw [hv] at hr'; exact ih v hr'
  | shape r k ih =>
    intro h a hr
    have hr' : (match h.blocks.get r with
      | some (.cells e n true _ _ _) => prun P (k (some (e, n))) h
      | some (.obj _) => prun P (k none) h
      | _ => none) = some a := hr
    show (match h.blocks.get r with
      | some (.cells e n true _ _ _) => arun P (k (some (e, n))) h
      | some (.obj _) => arun P (k none) h
      | _ => none) = some (a, h)
    cases hg : h.blocks.get r with
    | none => rw [hg] at hr'; cases hr'
    | some y =>
      rw [hg] at hr'
      cases y with
      | cells e n x ro kin t => cases x <;> first | exact ih _ hr' | cases hr'
      | obj o => exact ih _ hr'
      | dead => cases hr'
  | frozen x k ih =>
    intro h a hr
    have hr' : (match h.blocks.get x.block with
      | some (.cells _ _ _ _ _ _) => prun P (k false) h
      | _ => none) = some a := hr
    show (match h.blocks.get x.block with
      | some (.cells _ _ _ _ _ _) => arun P (k false) h
      | _ => none) = some (a, h)
    cases hg : h.blocks.get x.block with
    | none => rw [hg] at hr'; cases hr'
    | some y =>
      rw [hg] at hr'
      cases y <;> first | exact ih _ hr' | cases hr'
  | getObj r k ih =>
    intro h a hr
    have hr' : (match h.blocks.get r with
      | some (.obj o) => prun P (k o) h
      | _ => none) = some a := hr
    show (match h.blocks.get r with
      | some (.obj o) => arun P (k o) h
      | _ => none) = some (a, h)
    cases hg : h.blocks.get r with
    | none => rw [hg] at hr'; cases hr'
    | some y =>
      rw [hg] at hr'
      cases y <;> first | exact ih _ hr' | cases hr'
  | choose q k ih =>
    intro h a hr
    have hr' : (match q.forced with
      | true => prun P (k 0) h
      | false => none) = some a := hr
    show (match q.forced with
      | true => arun P (k 0) h
      | false => none) = some (a, h)
    cases hg : q.forced with
    | true => rw [hg] at hr'; exact ih _ hr'
    | false => rw [hg] at hr'; cases hr'
  | program k ih => intro h a hr; exact ih P hr
  | mark m k ih => intro h a hr; exact ih hr
  | _ => intro h a hr; cases hr

/-- The value of an operation that only reads. -/
def opQ0 (P : Program) (o : Oper) (ρ : Operand → Value) (h : AHeap) : Option Value :=
  match o.op with
  | .move x => some (ρ x)
  | .assign x => some (ρ x)
  | .build t ps => match P.built t (ps.toList.map fun p => (p.1, ρ p.2)) with
    | some c => some (.agg c)
    | none => none
  | .load t a => prun P (Instr.loadAt t (ρ a)) h
  | .nilCheck x => match ρ x with
    | .pointer (some a) => some (.pointer (some a))
    | .func (.func g) as bs => some (.func (.func g) as bs)
    | _ => none
  | .binOp op t x y _ => match cmpV P op t (ρ x) (ρ y) with
    | some v => some v
    | none => groundV P o ρ
  | .unOp _ _ _ => groundV P o ρ
  | .pick c a b => match ρ c with
    | .bool true => some (ρ a)
    | .bool false => some (ρ b)
    | _ => none
  | .convert _ _ _ => groundV P o ρ
  | .makeInterface t x => prun P (Instr.makeInterface t (ρ x)) h
  | .makeFunc fn first cap => match notYield fn with
    | true => some (.func fn (argsV ρ first.toList).toArray (argsV ρ cap.toList).toArray)
    | false => none
  | .slice t x lo hi mx => match ρ x with
    | .slice a n k => match P.underlying t with
      | some (.slice e) => match P.info? e with
        | some i => sliceV i.size a n k (lo.map ρ) (hi.map ρ) (mx.map ρ)
        | none => none
      | _ => none
    | _ => groundV P o ρ
  | .fieldAddr s x f => match fieldOk P s f with
    | true => prun P (Instr.fieldAt s (ρ x) f) h
    | false => none
  | .field t x f => prun P (Instr.field t (ρ x) f) h
  | .indexAddr t x i => prun P (Instr.indexAt t (ρ x) (ρ i)) h
  | .index t x i => prun P (Instr.index t (ρ x) (ρ i)) h
  | .lookup t x i ok => lookupV P t (ρ x) (ρ i) ok h
  | .typeAssert x t a ok => prun P (Instr.typeAssert (ρ x) t a ok) h
  | .extract t i => prun P (Instr.extract (ρ t) i) h
  | .call c => match c.callee with
    | .builtin .len => match argsV ρ c.args.toList, c.argTypes.toList with
      | [.complex .f64 _ _], [t] => (match P.underlying t with
        | some (.slice _) => some (goInt 0)
        | _ => none)
      | l, _ => prun P (Builtin.len_ c.argTypes o.type l.toArray) h
    | _ => none
  | _ => none
theorem opQ0_opV {P : Program} {xt : XTab} {e : Env} {o : Oper} {ρ : Operand → Value} {h : AHeap} {v : Value} (hq : opQ0 P o ρ h = some v) : opV P xt e o ρ h = some (v, h) := by
  obtain ⟨dst, op, type, pos, after, guard⟩ := o
  cases op with
  | move x => cases hq; rfl
  | assign x => cases hq; rfl
  | build t ps =>
    simp only [opQ0] at hq
    simp only [opV]
    split at hq
    · cases hq; rename_i hc; simp only [hc]
    · cases hq
  | load t a => exact prun_arun P _ hq
  | nilCheck x =>
    simp only [opQ0] at hq
    simp only [opV]
    split at hq
    · cases hq; rename_i hc; simp only [hc]
    · cases hq; rename_i hc; simp only [hc]
    · cases hq
  | binOp op t x y yt =>
    simp only [opQ0] at hq
    simp only [opV]
    split at hq
    · cases hq; rename_i hc; simp only [hc]
    · rename_i hc
      simp only [hc, hq]; rfl
  | unOp op t x => 
    have hq' : groundV P _ ρ = some v := hq
    show withH h (groundV P _ ρ) = _
    rw [hq']; rfl
  | convert s d x =>
    have hq' : groundV P ⟨dst, .convert s d x, type, pos, after, guard⟩ ρ = some v := hq
    simp only [opV, hq']
  | pick c a b =>
    simp only [opQ0] at hq
    simp only [opV]
    split at hq
    · cases hq; rename_i hc; simp only [hc]
    · cases hq; rename_i hc; simp only [hc]
    · cases hq
  | makeInterface t x => exact prun_arun P _ hq
  | makeFunc fn first cap =>
    simp only [opQ0] at hq
    simp only [opV]
    split at hq
    · cases hq; rename_i hc; simp only [hc]
    · cases hq
  | slice t x lo hi mx =>
    simp only [opQ0] at hq
    simp only [opV]
    split at hq
    · rename_i hx
      simp only [hx]
      split at hq <;> first | (cases hq; done) | skip
      rename_i hu
      split at hq <;> first | (cases hq; done) | skip
      rename_i hi2
      simp only [hu, hi2, hq]; rfl
    · rename_i hx
      split
      · rename_i a n k hx2; exact absurd hx2 (hx a n k)
      · rw [hq]; rfl
  | fieldAddr s x f =>
    simp only [opQ0] at hq
    simp only [opV]
    split at hq
    · rename_i hf; simp only [hf]; exact prun_arun P _ hq
    · cases hq
  | field t x f => exact prun_arun P _ hq
  | indexAddr t x i => exact prun_arun P _ hq
  | index t x i => exact prun_arun P _ hq
  | lookup t x i ok =>
    have hq' : lookupV P t (ρ x) (ρ i) ok h = some v := hq
    show withH h (lookupV P t (ρ x) (ρ i) ok h) = _
    rw [hq']; rfl
  | typeAssert x t a ok => exact prun_arun P _ hq
  | extract x i => exact prun_arun P _ hq
  | call c =>
    simp only [opQ0] at hq
    show calleeV P xt e c type ρ h = _
    unfold calleeV
    split at hq
    · rename_i hc
      rw [hc]
      split at hq
      · rename_i hl hts
        split at hq <;> first | (cases hq; done) | skip
        rename_i hu
        cases hq
        simp only [hl, hts, hu]
      · rename_i hne
        have := prun_arun P _ hq
        simp only
        exact this
    · cases hq
  | _ => cases hq
/-- The types checked first. -/
def opQ (P : Program) (o : Oper) (ρ : Operand → Value) (h : AHeap) : Option Value := match tIn P o.op with
  | true => opQ0 P o ρ h
  | false => none
theorem opQ_opV {P : Program} {xt : XTab} {e : Env} {o : Oper} {ρ : Operand → Value} {h : AHeap} {v : Value} (hq : opQ P o ρ h = some v) : opW P xt e o ρ h = some (v, h) := by
  unfold opQ at hq
  unfold opW
  split at hq
  · rename_i ht
    have hr : roomIn h o.op = true := by
      obtain ⟨dst, op, type, pos, after, guard⟩ := o
      cases op with
      | buildSlice => cases hq
      | makeSlice => cases hq
      | call c =>
        simp only [opQ0] at hq
        split at hq
        · rename_i hc
          simp only [roomIn, hc]
        · cases hq
      | _ => rfl
    rw [ht, hr]; exact opQ0_opV hq
  · cases hq
end
end Go.Ab
