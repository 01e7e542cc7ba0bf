/- The evaluator, part 8. -/
import Derived.Test.YtbjadgggpkbjmaaGreatEv7
/- An evaluator of the model's code over an abstract heap: rows that an operation lays, whatever else lies there; reads of a greater heap. -/
namespace Go.Ab
open Go.RowKit
noncomputable section

/-! ### The relation asks only what lies where -/
theorem HR.same {w0 : World} {base : Nat} {φ : Phi} {h h' : AHeap} {w : World} (H : HR w0 base φ h w) (e : ∀ b, h'.blocks.get b = h.blocks.get b) : HR w0 base φ h' w where
  blocks b o hg hb := H.blocks b o hg (by rw [← e b]; exact hb)
  fresh b hb := H.fresh b (by rw [← e b]; exact hb)
  lo := H.lo
  apart b b' c o o' h1 h2 h3 h4 h5 h6 h7 := by
    have k : ∀ x y, KinR h x y → KinR h' x y := fun x y hk => by
      obtain ⟨e1, n1, x1, r1, k1, t1, e2, n2, x2, k2, t2, m1, m2, m3⟩ := hk
      exact ⟨e1, n1, x1, r1, k1, t1, e2, n2, x2, k2, t2, by rw [e x]; exact m1, by rw [e y]; exact m2, m3⟩
    exact (H.apart b b' c o o' h1 h2 (by rw [← e b]; exact h3) (by rw [← e b']; exact h4) h5 h6 h7).imp (k _ _) (k _ _)
  below := H.below
  base_le := H.base_le
  ghost b hg := ⟨(H.ghost b hg).1, fun hh => (H.ghost b hg).2 (by rw [← e b]; exact hh)⟩

/-! ### Reads of a greater heap -/
def More (h h' : AHeap) : Prop := ∀ b y, h.blocks.get b = some y → h'.blocks.get b = some y
theorem aload_more {h h' : AHeap} (m : More h h') {a : Addr} {v : Value} (hv : aload h a = some v) : aload h' a = some v := by
  unfold aload at hv ⊢
  split at hv <;> first | (cases hv; done) | skip
  rename_i hb
  rw [m _ _ hb]
  exact hv
theorem prun_more (P : Program) {h h' : AHeap} (m : More h h') {α : Type} (s : Sem α) : ∀ {a : α}, prun P s h = some a → prun P s h' = some a := by
  induction s with
  | pure b => intro a hr; exact hr
  | load md x k ih =>
    intro a hr
    have hr' : Option.casesOn (motive := fun _ => Option α) (aload h x) none (fun v => prun P (k v) h) = some a := hr
    show Option.casesOn (motive := fun _ => Option α) (aload h' x) none (fun v => prun P (k v) h') = some a
    cases hv : aload h x with
    | none => rw [hv] at hr'; cases hr'
    | some v => rw [hv] at hr'; rw [aload_more m hv]; exact ih v hr'
  | shape r k ih =>
    intro a hr
    have hr' : (match h.blocks.get r with
      | some (.cells e n true _ _ _) => prun P (k (some (e, n))) h
      | some (.obj _) => prun P (k none) h
      | _ => none) = some a := hr
    show (match h'.blocks.get r with
      | some (.cells e n true _ _ _) => prun P (k (some (e, n))) h'
      | some (.obj _) => prun P (k none) h'
      | _ => none) = some a
    cases hg : h.blocks.get r with
    | none => rw [hg] at hr'; cases hr'
    | some y =>
      rw [hg] at hr'
      rw [m _ _ hg]
      cases y with
      | cells e n x ro kin t => cases x <;> first | exact ih _ hr' | cases hr'
      | obj o => exact ih _ hr'
      | dead => cases hr'
  | frozen x k ih =>
    intro a hr
    have hr' : (match h.blocks.get x.block with
      | some (.cells _ _ _ _ _ _) => prun P (k false) h
      | _ => none) = some a := hr
    show (match h'.blocks.get x.block with
      | some (.cells _ _ _ _ _ _) => prun P (k false) h'
      | _ => none) = some a
    cases hg : h.blocks.get x.block with
    | none => rw [hg] at hr'; cases hr'
    | some y =>
      rw [hg] at hr'
      rw [m _ _ hg]
      cases y <;> first | exact ih _ hr' | cases hr'
  | getObj r k ih =>
    intro a hr
    have hr' : (match h.blocks.get r with
      | some (.obj o) => prun P (k o) h
      | _ => none) = some a := hr
    show (match h'.blocks.get r with
      | some (.obj o) => prun P (k o) h'
      | _ => none) = some a
    cases hg : h.blocks.get r with
    | none => rw [hg] at hr'; cases hr'
    | some y =>
      rw [hg] at hr'
      rw [m _ _ hg]
      cases y <;> first | exact ih _ hr' | cases hr'
  | choose q k ih =>
    intro a hr
    have hr' : (match q.forced with
      | true => prun P (k 0) h
      | false => none) = some a := hr
    show (match q.forced with
      | true => prun P (k 0) h'
      | false => none) = some a
    cases hg : q.forced with
    | true => rw [hg] at hr'; exact ih _ hr'
    | false => rw [hg] at hr'; cases hr'
  | program k ih => intro a hr; exact ih P hr
  | mark mm k ih => intro a hr; exact ih hr
  | _ => intro a hr; cases hr
theorem mapAt_more {h h' : AHeap} (m : More h h') {v : Value} {x : Nat × Array MapEntry × Nat} (hx : mapAt h v = some x) : mapAt h' v = some x := by
  unfold mapAt at hx ⊢
  split at hx <;> first | (cases hx; done) | skip
  split at hx <;> first | (cases hx; done) | skip
  rename_i hb
  simp only [m _ _ hb]
  exact hx
theorem lookupV_more {P : Program} {h h' : AHeap} (m : More h h') {t : TypeId} {a k : Value} {ok : Bool} {v : Value} (hv : lookupV P t a k ok h = some v) : lookupV P t a k ok h' = some v := by
  cases a with
  | map r =>
    cases r with
    | none => exact hv
    | some r =>
      unfold lookupV mapAt at hv ⊢
      simp only at hv ⊢
      cases hg : h.blocks.get r with
      | none => rw [hg] at hv; split at hv <;> cases hv
      | some y => rw [hg] at hv; rw [m _ _ hg]; exact hv
  | _ => exact hv
theorem opQ_more {P : Program} {h h' : AHeap} (m : More h h') {o : Oper} {ρ : Operand → Value} {v : Value} (hq : opQ P o ρ h = some v) : opQ P o ρ h' = some v := by
  unfold opQ at hq ⊢
  split at hq <;> first | (cases hq; done) | skip
  obtain ⟨dst, op, type, pos, after, guard⟩ := o
  cases op with
  | load t a => exact prun_more P m _ hq
  | makeInterface t x => exact prun_more P m _ hq
  | fieldAddr s x f =>
    simp only [opQ0] at hq ⊢
    split at hq
    · rename_i hf; exact prun_more P m _ hq
    · cases hq
  | field t x f => exact prun_more P m _ hq
  | indexAddr t x i => exact prun_more P m _ hq
  | index t x i => exact prun_more P m _ hq
  | lookup t x i ok => exact lookupV_more m hq
  | typeAssert x t a ok => exact prun_more P m _ hq
  | extract x i => exact prun_more P m _ hq
  | call c =>
    simp only [opQ0] at hq ⊢
    split at hq <;> first | (cases hq; done) | skip
    split at hq
    · exact hq
    · exact prun_more P m _ hq
  | _ => exact hq

/-! ### Rows that an operation lays -/
/-- A tree that lays at most one row and looks at nothing. -/
def nrun (P : Program) {α : Type} (s : Sem α) : Nat → Bool → Option (α × Option AObj) :=
  Sem.rec (motive := fun _ => Nat → Bool → Option (α × Option AObj))
    (fun a _ _ => some (a, none))
    (fun _ _ _ _ _ _ => none)
    (fun _ _ _ _ _ _ _ => none)
    (fun o _ ih b one => match one with
      | true => match anew o with
        | some ob => match ih b b false with
          | some (a, none) => some (a, some ob)
          | _ => none
        | none => none
      | false => none)
    (fun _ _ _ _ _ => none)
    (fun _ _ _ _ _ _ => none)
    (fun _ _ _ _ _ => none)
    (fun _ _ _ _ _ => none)
    (fun _ _ _ _ _ _ => none)
    (fun q _ ih b one => match q.forced with
      | true => ih 0 b one
      | false => none)
    (fun _ _ _ _ _ => none)
    (fun _ ih b one => ih P b one)
    (fun _ _ ih b one => ih b one)
    (fun _ _ _ => none) s
theorem nrun_arun (P : Program) {α : Type} (s : Sem α) : ∀ {b : Nat} {one : Bool} {a : α} {x : Option AObj}, nrun P s b one = some (a, x) → ∀ h : AHeap,
    (∀ ob, x = some ob → one = true ∧ h.next = b ∧ h.room = true) → arun P s h = some (a, match x with
      | some ob => h.push ob
      | none => h) := by
  induction s with
  | pure c => intro b one a x hr h _; cases hr; rfl
  | new o k ih =>
    intro b one a x hr h hx
    have hr' : (match (generalizing := false) one with
      | true => match anew o with
        | some ob => match nrun P (k b) b false with
          | some (a, none) => some (a, some ob)
          | _ => none
        | none => none
      | false => none : Option (α × Option AObj)) = some (a, x) := hr
    split at hr' <;> first | (cases hr'; done) | skip
    split at hr' <;> first | (cases hr'; done) | skip
    rename_i ob hob
    split at hr' <;> first | (cases hr'; done) | skip
    rename_i a' ha
    cases hr'
    obtain ⟨_, h1, h2⟩ := hx ob rfl
    rw [arun_new, hob]
    simp only [h2]
    rw [h1]
    exact ih b ha (h.push ob) (fun ob' e => by cases e)
  | choose q k ih =>
    intro b one a x hr h hx
    have hr' : (match q.forced with
      | true => nrun P (k 0) b one
      | false => none) = some (a, x) := hr
    show (match q.forced with
      | true => arun P (k 0) h
      | false => none) = _
    cases hg : q.forced with
    | true => rw [hg] at hr'; exact ih 0 hr' h hx
    | false => rw [hg] at hr'; cases hr'
  | program k ih => intro b one a x hr h hx; exact ih P hr h hx
  | mark mm k ih => intro b one a x hr h hx; exact ih hr h hx
  | _ => intro b one a x hr; cases hr
def oneLay : Option (Value × Option AObj) → Option (Value × AObj)
  | some (v, some ob) => some (v, ob)
  | _ => none
def laidAt (b : Nat) : Option (Value × AHeap) → Option (Value × AObj)
  | some (v, h) => match h.blocks.get b with
    | some ob => some (v, ob)
    | none => none
  | none => none
/-- What an operation lays as its only row, and its value. -/
def layV (P : Program) (o : Oper) (ρ : Operand → Value) (b : Nat) : Option (Value × AObj) :=
  match o.op with
  | .alloc t => oneLay (nrun P (Instr.alloc t true (.tuple #[])) b true)
  | .box t x => oneLay (nrun P (Instr.box t (ρ x)) b true)
  | .makeMap t r => oneLay (nrun P (Instr.makeMap t (r.map ρ)) b true)
  | .makeSlice t l c => laidAt b (makeV P t (ρ l) (ρ c) ⟨.nil, b⟩)
  | .buildSlice t n ps => match Nat.blt n unk with
    | true => laidAt b (buildSliceV P t n (ps.toList.map fun p => (p.1, ρ p.2)) ⟨.nil, b⟩)
    | false => none
  | _ => none
theorem oneLay_some {x : Option (Value × Option AObj)} {v : Value} {ob : AObj} (h : oneLay x = some (v, ob)) : x = some (v, some ob) := by
  unfold oneLay at h
  split at h
  · cases h; rfl
  · cases h
theorem make_laid {P : Program} {t : TypeId} {x y : Value} {h : AHeap} {v : Value} {ob : AObj} (hl : laidAt h.next (makeV P t x y ⟨.nil, h.next⟩) = some (v, ob)) : makeV P t x y h = some (v, h.push ob) := by
  unfold laidAt at hl
  split at hl <;> first | (cases hl; done) | skip
  rename_i v' h' hm
  split at hl <;> first | (cases hl; done) | skip
  rename_i ob' hob
  cases hl
  unfold makeV at hm ⊢
  split at hm <;> first | (cases hm; done) | skip
  rename_i e hu
  split at hm <;> first | (cases hm; done) | skip
  rename_i i hi
  split at hm <;> first | (cases hm; done) | skip
  rename_i z hz
  split at hm <;> first | (cases hm; done) | skip
  split at hm <;> first | (cases hm; done) | skip
  rename_i hc
  cases hm
  have hob' : ((T.nil : T AObj).set h.next (.cells e _ true false [] _)).get h.next = some ob := hob
  rw [T.get_set, if_pos rfl] at hob'
  cases hob'
  simp only [hz, hc]
theorem build_laid {P : Program} {t : TypeId} {n : Nat} {ps : List (Nat × Value)} {h : AHeap} {v : Value} {ob : AObj} (hl : laidAt h.next (buildSliceV P t n ps ⟨.nil, h.next⟩) = some (v, ob)) : buildSliceV P t n ps h = some (v, h.push ob) := by
  unfold laidAt at hl
  split at hl <;> first | (cases hl; done) | skip
  rename_i v' h' hm
  split at hl <;> first | (cases hl; done) | skip
  rename_i ob' hob
  cases hl
  unfold buildSliceV at hm ⊢
  split at hm <;> first | (cases hm; done) | skip
  rename_i e hu
  split at hm <;> first | (cases hm; done) | skip
  rename_i i hi
  split at hm <;> first | (cases hm; done) | skip
  rename_i z hz
  split at hm <;> first | (cases hm; done) | skip
  rename_i hc
  split at hm <;> first | (cases hm; done) | skip
  rename_i c hf
  cases hm
  have hob' : ((T.nil : T AObj).set h.next (.cells e _ true false [] _)).get h.next = some ob := hob
  rw [T.get_set, if_pos rfl] at hob'
  cases hob'
  simp only [hz, hc, hf]
theorem layV_opW {P : Program} {xt : XTab} {e : Env} {o : Oper} {ρ : Operand → Value} {h : AHeap} {v : Value} {ob : AObj} (ht : tIn P o.op = true) (hr : h.room = true) (hl : layV P o ρ h.next = some (v, ob)) :
    opW P xt e o ρ h = some (v, h.push ob) := by
  obtain ⟨dst, op, type, pos, after, guard⟩ := o
  have hrm : roomIn h op = true := by
    cases op <;> first | rfl | exact hr | skip
    rename_i c
    cases hl
  unfold opW
  rw [ht, hrm]
  cases op with
  | alloc t => exact nrun_arun P _ (oneLay_some (show oneLay (nrun P (Instr.alloc t true (.tuple #[])) h.next true) = some (v, ob) from hl)) h fun ob' _ => ⟨rfl, rfl, hr⟩
  | box t x => exact nrun_arun P _ (oneLay_some (show oneLay (nrun P (Instr.box t (ρ x)) h.next true) = some (v, ob) from hl)) h fun ob' _ => ⟨rfl, rfl, hr⟩
  | makeMap t r => exact nrun_arun P _ (oneLay_some (show oneLay (nrun P (Instr.makeMap t (r.map ρ)) h.next true) = some (v, ob) from hl)) h fun ob' _ => ⟨rfl, rfl, hr⟩
  | makeSlice t l c => exact make_laid hl
  | buildSlice t n ps =>
    simp only [layV] at hl
    split at hl <;> first | (cases hl; done) | skip
    rename_i hn
    show opV P xt e _ ρ h = _
    simp only [opV, hn]
    exact build_laid hl
  | _ => cases hl
end
end Go.Ab
