/- The evaluator, part 5. -/
import Derived.Test.YtbjadgggpkbjmaaGreatEv4
import Derived.RangeFuncRecord
/- An evaluator of the model's code over an abstract heap: the operations. -/
namespace Go.Ab
open Go.RowKit
noncomputable section

/-- A comparison with nil, or of addresses in one block. -/
def nilCmp : Value → Value → Option Bool
  | .pointer (some _), .pointer none => some false
  | .pointer none, .pointer (some _) => some false
  | .slice (some _) _ _, .slice none _ _ => some false
  | .slice none _ _, .slice (some _) _ _ => some false
  | .map (some _), .map none => some false
  | .map none, .map (some _) => some false
  | .func _ _ _, .nilFunc => some false
  | .nilFunc, .func _ _ _ => some false
  | .iface _ _, .nilIface => some false
  | .nilIface, .iface _ _ => some false
  | _, _ => none
def kindFits (d : TypeDesc) (x : Value) : Bool :=
  match d, x with
  | .pointer _, .pointer _ => true
  | .slice _, .slice _ _ _ => true
  | .map _ _, .map _ => true
  | .func _ _ _, .func _ _ _ => true
  | .func _ _ _, .nilFunc => true
  | .interface _, .iface _ _ => true
  | .interface _, .nilIface => true
  | _, _ => false
def cmpV (P : Program) (op : BinOp) (t : TypeId) (x y : Value) : Option Value :=
  match P.underlying t with
  | some d => match kindFits d x && kindFits d y with
    | true => match nilCmp x y with
      | some b => match op with
        | .eql => some (.bool b)
        | .neq => some (.bool !b)
        | _ => none
      | none => none
    | false => none
  | none => none
def fieldOk (P : Program) (s : TypeId) (f : Nat) : Bool :=
  match P.underlying s with
  | some (.struct fs) => match fs[f]? with
    | some x => match P.info? x.type with
      | some i => !(i.size == 0)
      | none => true
    | none => true
  | _ => true
def notYield : Fn → Bool
  | .yield _ => false
  | _ => true
def unitV {α : Type} : Option (α × AHeap) → Option (Value × AHeap)
  | some (_, h) => some (undef, h)
  | none => none
def hU : Option AHeap → Option (Value × AHeap)
  | some h => some (undef, h)
  | none => none
def withH (h : AHeap) : Option Value → Option (Value × AHeap)
  | some v => some (v, h)
  | none => none
def argsV (ρ : Operand → Value) (l : List Operand) : List Value := l.map ρ
def callV (P : Program) (xt : XTab) (e : Env) (f : FuncId) (args : Array Value) (h : AHeap) : Option (Value × AHeap) :=
  match xt f with
  | some (k, x) => xV P k x args h
  | none => e.call f args h
def yieldV (P : Program) (e : Env) (l : Nat) (args : Array Value) (h : AHeap) : Option (Value × AHeap) :=
  match h.blocks.get l with
  | some (.obj (.loop r)) => match Nat.beq args.size r.params.size with
    | true => e.round l ((r.params.zip args).foldl (fun tmps (t, a) => tmps.setIfInBounds t a) r.tmps) r.assign r.body h
    | false => none
  | _ => none
/-- A method of a value behind an interface, as far as it is called by the value itself. -/
def methodV (P : Program) (t : TypeId) (name : String) : Option FuncId :=
  match P.info? t with
  | some i => match i.methods.find? (·.name == name) with
    | some m => match m.path.isEmpty, m.func, P.underlying t with
      | true, some (f, true), some (.pointer _) => some f
      | true, some (f, false), some d => match d with
        | .pointer _ => none
        | _ => some f
      | _, _, _ => none
    | none => none
  | none => none
def mmV (P : Program) (l : List Value) (s : Sem Value) : Option Value := match allB plainB l with
  | true => match qrun P s with
    | some v => match plainB v with
      | true => some v
      | false => none
    | none => none
  | false => none
theorem mmV_some {P : Program} {l : List Value} {s : Sem Value} {v : Value} (h : mmV P l s = some v) : allB plainB l = true ∧ qrun P s = some v ∧ plainB v = true := by
  unfold mmV at h
  split at h <;> first | (cases h; done) | skip
  rename_i h1
  split at h <;> first | (cases h; done) | skip
  rename_i u h2
  split at h <;> first | (cases h; done) | skip
  rename_i h3
  cases h
  exact ⟨h1, h2, h3⟩
def calleeV (P : Program) (xt : XTab) (e : Env) (c : Call) (type : TypeId) (ρ : Operand → Value) (h : AHeap) : Option (Value × AHeap) :=
  match c.callee with
  | .value f => match ρ f with
    | .func (.func g) first cap => callV P xt e g (first ++ (argsV ρ c.args.toList).toArray ++ cap) h
    | .func (.yield l) first _ => yieldV P e l (first ++ (argsV ρ c.args.toList).toArray) h
    | _ => none
  | .invoke r name => match ρ r with
    | .iface t v => match methodV P t name with
      | some f => callV P xt e f (#[v] ++ (argsV ρ c.args.toList).toArray) h
      | none => none
    | _ => none
  | .builtin b => match b, argsV ρ c.args.toList, c.argTypes.toList with
    | .append, [s, x], [t, xt] => (match appendV P t xt s x h with
      | some r => some r
      | none => madeAppV P t xt s x h)
    | .unsafeSliceData, [.slice none _ _], _ => some (.pointer none, h)
    | .unsafeSliceData, [.slice (some a) _ k], _ => (match Nat.blt 0 (k % unk) with
      | true => some (.pointer (some a), h)
      | false => none)
    | .unsafeString, [.pointer none, .int _ (.ofNat 0)], _ :: _ => some (.string .empty, h)
    | .unsafeString, [.pointer (some a), .int _ (.ofNat n)], pt :: _ => unsafeStrV P pt a n h
    | .copy, l, _ => arun P (Builtin.copy_ c.argTypes type l.toArray) h
    | .len, [.complex .f64 _ _], [t] => (match P.underlying t with
      | some (.slice _) => some (goInt 0, h)
      | _ => none)
    | .len, l, _ => arun P (Builtin.len_ c.argTypes type l.toArray) h
    | .delete, [m, k], t :: _ => hU (deleteV P t m k h)
    | .min, l, _ => withH h (mmV P l (Builtin.min_ c.argTypes type l.toArray))
    | .max, l, _ => withH h (mmV P l (Builtin.max_ c.argTypes type l.toArray))
    | .cap, [.slice _ _ k], [t] => (match P.underlying t with
      | some (.slice _) => (match Nat.blt k unk with
        | true => some (goInt k, h)
        | false => none)
      | _ => none)
    | _, _, _ => none
def opV (P : Program) (xt : XTab) : OpEv := fun e o ρ h =>
  match o.op with
  | .move x => some (ρ x, h)
  | .assign x => some (ρ x, h)
  | .alloc t => arun P (Instr.alloc t true (.tuple #[])) h
  | .box t x => arun P (Instr.box t (ρ x)) h
  | .build t ps => match P.built t (ps.toList.map fun p => (p.1, ρ p.2)) with
    | some c => some (.agg c, h)
    | none => none
  | .buildSlice t n ps => match Nat.blt n unk with
    | true => buildSliceV P t n (ps.toList.map fun p => (p.1, ρ p.2)) h
    | false => none
  | .load t a => arun P (Instr.loadAt t (ρ a)) h
  | .store t a x => unitV (arun P (Instr.storeAt t (ρ a) (ρ x)) h)
  | .nilCheck x => match ρ x with
    | .pointer (some a) => some (.pointer (some a), h)
    | .func (.func g) as bs => some (.func (.func g) as bs, h)
    | _ => none
  | .binOp op t x y _ => match cmpV P op t (ρ x) (ρ y) with
    | some v => some (v, h)
    | none => withH h (groundV P o ρ)
  | .unOp _ _ _ => withH h (groundV P o ρ)
  | .pick c a b => match ρ c with
    | .bool true => some (ρ a, h)
    | .bool false => some (ρ b, h)
    | _ => none
  | .convert s d x => match groundV P o ρ with
    | some v => some (v, h)
    | none => match ρ x with
      | .pointer (some a) => withH h (unsafeV P s d a h)
      | .slice (some a) n _ => match P.underlying s, P.underlying d with
        | some (.slice e), some .string => match P.underlying e with
          | some (.int .u8) => bytesV P a n h
          | _ => none
        | _, _ => none
      | _ => none
  | .makeInterface t x => arun P (Instr.makeInterface t (ρ x)) h
  | .makeFunc fn first cap => match notYield fn with
    | true => some (.func fn (argsV ρ first.toList).toArray (argsV ρ cap.toList).toArray, h)
    | false => none
  | .makeMap t r => arun P (Instr.makeMap t (r.map ρ)) h
  | .makeSlice t l c => makeV P t (ρ l) (ρ c) h
  | .slice t x lo hi mx => match ρ x with
    | .slice a n k => match P.underlying t with
      | some (.slice e) => match P.info? e with
        | some i => withH h (sliceV i.size a n k (lo.map ρ) (hi.map ρ) (mx.map ρ))
        | none => none
      | _ => none
    | _ => withH h (groundV P o ρ)
  | .fieldAddr s x f => match fieldOk P s f with
    | true => arun P (Instr.fieldAt s (ρ x) f) h
    | false => none
  | .field t x f => arun P (Instr.field t (ρ x) f) h
  | .indexAddr t x i => arun P (Instr.indexAt t (ρ x) (ρ i)) h
  | .index t x i => arun P (Instr.index t (ρ x) (ρ i)) h
  | .lookup t x i ok => withH h (lookupV P t (ρ x) (ρ i) ok h)
  | .mapUpdate t m k x => hU (updateV P t (ρ m) (ρ k) (ρ x) h)
  | .insert t m k x => hU (updateV P t (ρ m) (ρ k) (ρ x) h)
  | .mapEntry t m k => entryV P t (ρ m) (ρ k) h
  | .entryStore _ m s x => hU (entryStoreV (ρ m) (ρ s) (ρ x) h)
  | .range t x => arun P (Instr.range t (ρ x)) h
  | .next it b => arun P (Instr.next (ρ it) b o.type) h
  | .typeAssert x t a ok => arun P (Instr.typeAssert (ρ x) t a ok) h
  | .extract t i => arun P (Instr.extract (ρ t) i) h
  | .entry it => arun P (Instr.entry (ρ it)) h
  | .call c => calleeV P xt e c o.type ρ h
  | _ => none

section
variable {P : Program} {w0 : World} {base : Nat} {φ : Phi} {h h' : AHeap} {w : World} {xt : XTab} {e : Env}
theorem upon_v {o : Oper} {act : Act} {next : Act → World → Prop} {Q : Exit → Act → World → Prop} {r : Option Nat} {s : Sem Value} {v : Value} (hd : noDefer o.op = true) (he : execOp act.eval o = (do pure (.value (← s)))) (hr : RunV P w0 base φ w v h' s)
    (hn : ∀ φ' u w', Ext φ φ' → VR φ' v u → HR w0 base φ' h' w' → next (act.put o.dst u) w') : o.wpIn (Fr r) 0 P act w next Q := by
  refine ⟨fun _ _ => trivial, ?_⟩
  rw [Oper.semAt_eq _ _ _ (fun c e => by rw [e] at hd; cases hd), he]
  obtain ⟨φ', u, w', h1, h2, h3, h4⟩ := hr
  rw [Sem.run_bind, h1]
  exact hn φ' u w' h4 h2 h3
theorem upon_u {o : Oper} {act : Act} {next : Act → World → Prop} {Q : Exit → Act → World → Prop} {r : Option Nat} {s : Sem Unit} {φ' : Phi} {w' : World} (hd : noDefer o.op = true) (he : execOp act.eval o = (do s; pure .skip)) (hr : s.run P w = .ok () w') (he' : Ext φ φ') (hh : HR w0 base φ' h' w')
    (hn : ∀ φ' u w', Ext φ φ' → VR φ' undef u → HR w0 base φ' h' w' → next (act.put o.dst u) w') : o.wpIn (Fr r) 0 P act w next Q := by
  refine ⟨fun _ _ => trivial, ?_⟩
  rw [Oper.semAt_eq _ _ _ (fun c e => by rw [e] at hd; cases hd), he]
  rw [Sem.run_bind, hr]
  exact hn φ' undef w' he' vr_undef hh
theorem upon_pure {o : Oper} {act : Act} {next : Act → World → Prop} {Q : Exit → Act → World → Prop} {r : Option Nat} {v u : Value} (hd : noDefer o.op = true) (he : (execOp act.eval o).run P w = .ok (.value u) w) (hvu : VR φ v u) (H : HR w0 base φ h w)
    (hn : ∀ φ' u w', Ext φ φ' → VR φ' v u → HR w0 base φ' h w' → next (act.put o.dst u) w') : o.wpIn (Fr r) 0 P act w next Q := by
  refine ⟨fun _ _ => trivial, ?_⟩
  rw [Oper.semAt_eq _ _ _ (fun c e => by rw [e] at hd; cases hd), he]
  exact hn φ u w (Ext.refl _) hvu H
theorem parts_r {ρ ρ' : Operand → Value} : ∀ (ps : List (Nat × Operand)), (∀ x ∈ ps.map (·.2), VR φ (ρ x) (ρ' x)) → PartsR φ (ps.map fun p => (p.1, ρ p.2)) (ps.map fun p => (p.1, ρ' p.2))
  | [], _ => .nil
  | p :: ps, h => .cons (h p.2 (by simp)) (parts_r ps fun x hx => h x (List.mem_cons_of_mem _ hx))
theorem args_r {ρ ρ' : Operand → Value} : ∀ (l : List Operand), (∀ x ∈ l, VR φ (ρ x) (ρ' x)) → AsR φ (argsV ρ l).toArray (argsV ρ' l).toArray
  | [], _ => AsR.empty _
  | x :: l, h => ListR.cons (h x (List.mem_cons_self ..)) (args_r l fun y hy => h y (List.mem_cons_of_mem _ hy))
theorem map_args (ρ : Operand → Value) (a : Array Operand) : a.map ρ = (argsV ρ a.toList).toArray := by
  cases a; simp [argsV]
theorem opt_r {ρ ρ' : Operand → Value} (x : Option Operand) (h : ∀ y, x = some y → VR φ (ρ y) (ρ' y)) : OptVR φ (x.map ρ) (x.map ρ') := by
  cases x with
  | none => exact .inl ⟨rfl, rfl⟩
  | some y => exact .inr ⟨_, _, rfl, rfl, h y rfl⟩
theorem cmp_run {op : BinOp} {t : TypeId} {x y : Operand} {a b a' b' v : Value} (ha : VR φ a a') (hb : VR φ b b') (hc : cmpV P op t a b = some v) : (do eqGuard op t x y a' b'; binOp op t a' b' : Sem Value).run P w = .ok v w ∧ Plain v := by
  unfold cmpV at hc
  split at hc <;> first | (cases hc; done) | skip
  rename_i d hu
  split at hc <;> first | (cases hc; done) | skip
  rename_i hk
  split at hc <;> first | (cases hc; done) | skip
  rename_i bb hb'
  have key : (Op.equal t a' b').run P w = .ok bb w ∧ (eqGuard .eql t x y a' b').run P w = .ok () w ∧ (eqGuard .neq t x y a' b').run P w = .ok () w ∧ binOp .eql t a' b' = (do pure (.bool (← Op.equal t a' b'))) ∧ binOp .neq t a' b' = (do pure (.bool (!(← Op.equal t a' b')))) := by
    unfold nilCmp at hb'
    split at hb' <;> first | (cases hb'; done) | skip
    all_goals
      cases hb'
      cases ha
      cases hb
      cases d <;> first | (simp [kindFits] at hk; done) | skip
      refine ⟨?_, rfl, rfl, rfl, rfl⟩
      show (Op.equalIn (9999 + 1) t _ _).run P w = _
      rw [Op.equalIn, Sem.run_bind, run_underlying hu]
      rfl
  obtain ⟨k1, k2, k3, k4, k5⟩ := key
  cases op <;> first | (cases hc; done) | skip
  · cases hc
    refine ⟨?_, .bool⟩
    rw [Sem.run_bind, k2]
    show (binOp .eql t a' b').run P w = _
    rw [k4, Sem.run_bind, k1]; rfl
  · cases hc
    refine ⟨?_, .bool⟩
    rw [Sem.run_bind, k3]
    show (binOp .neq t a' b').run P w = _
    rw [k5, Sem.run_bind, k1]; rfl

theorem array_toList2 {α : Type} {a : Array α} {x y : α} (h : a.toList = [x, y]) : a = #[x, y] := by
  cases a; simp at h; subst h; rfl
/-- A call of a function. -/
theorem upon_call {o : Oper} {act : Act} {next : Act → World → Prop} {Q : Exit → Act → World → Prop} {r : Option Nat} (hE : EnvS P w0 base e) (hB : EnvB P e) (hxt : XOk P xt) (hd : noDefer o.op = true) {f : FuncId} {args args' : Array Value} (ha : AsR φ args args') (H : HR w0 base φ h w)
    (he : (execOp act.eval o).run P w = (callFunc f args').run P w) {v : Value} (hc : callV P xt e f args h = some (v, h'))
    (hn : ∀ φ' u w', Ext φ φ' → VR φ' v u → HR w0 base φ' h' w' → next (act.put o.dst u) w') : o.wpIn (Fr r) 0 P act w next Q := by
  refine ⟨fun _ _ => trivial, ?_⟩
  rw [Oper.semAt_eq _ _ _ (fun c e => by rw [e] at hd; cases hd), he]
  unfold callV at hc
  split at hc
  · rename_i k x hx
    obtain ⟨φ', u, w', h1, h2, h3, h4⟩ := x_run H hxt hx ha hc
    rw [h1]
    exact hn φ' u w' h4 h2 h3
  · rw [run_bodied (hB f args h _ hc)]
    refine ⟨fr_depth, fr_call ((hE.call f args h v h' φ args' w hc H ha).mono fun en w2 hen => ?_)⟩
    obtain ⟨u, φ', rfl, h2, h3, h4⟩ := hen
    exact hn φ' u w2 h4 h2 h3
theorem upon_yield {o : Oper} {act : Act} {next : Act → World → Prop} {Q : Exit → Act → World → Prop} {r : Option Nat} (hE : EnvS P w0 base e) (hd : noDefer o.op = true) {l l' : Nat} (hl : φ l = some l') {args args' : Array Value} (ha : AsR φ args args') (H : HR w0 base φ h w)
    (he : (execOp act.eval o).run P w = (Instr.yield l' args').run P w) {v : Value} (hc : yieldV P e l args h = some (v, h'))
    (hn : ∀ φ' u w', Ext φ φ' → VR φ' v u → HR w0 base φ' h' w' → next (act.put o.dst u) w') : o.wpIn (Fr r) 0 P act w next Q := by
  refine ⟨fun _ _ => trivial, ?_⟩
  rw [Oper.semAt_eq _ _ _ (fun c e => by rw [e] at hd; cases hd), he]
  unfold yieldV at hc
  split at hc <;> first | (cases hc; done) | skip
  rename_i lp hg
  split at hc <;> first | (cases hc; done) | skip
  rename_i hsz
  obtain ⟨c, o', h1, h2, h3⟩ := H.blocks l _ (H.real hl) hg
  have : c = l' := Option.some.inj (h1.symm.trans hl)
  subst this
  cases h3 with
  | @loop _ lp' q1 q2 q4 q5 q6 q7 q8 =>
    have hsz' : args'.size = lp'.params.size := by rw [← ha.1, ← q5]; exact Nat.eq_of_beq_eq_true hsz
    rw [run_yield h2 hsz']
    have hset : ∀ (ps : List Tmp) (as as' : List Value) (t t' : Array Value), AsR φ as.toArray as'.toArray → AsR φ t t' → AsR φ ((ps.zip as).foldl (fun tmps (x : Tmp × Value) => tmps.setIfInBounds x.1 x.2) t) ((ps.zip as').foldl (fun tmps (x : Tmp × Value) => tmps.setIfInBounds x.1 x.2) t') := by
      intro ps
      induction ps with
      | nil => intro as as' t t' _ ht; exact ht
      | cons p ps ih =>
        intro as as' t t' has ht
        match as, as', has with
        | [], [], _ => exact ht
        | [], _ :: _, h => have := h.1; simp at this
        | _ :: _, [], h => have := h.1; simp at this
        | a :: as, a' :: as', h =>
          have hv : VR φ a a' := h.2 0 a a' (by simp) (by simp)
          have hl : AsR φ as.toArray as'.toArray := ⟨by have := h.1; simpa using this, fun j x y hx hy => h.2 (j + 1) x y (by simpa using hx) (by simpa using hy)⟩
          simp only [List.zip_cons_cons, List.foldl_cons]
          exact ih as as' _ _ hl (ht.set p hv)
    have htm : AsR φ ((lp.params.zip args).foldl (fun tmps (t, a) => tmps.setIfInBounds t a) lp.tmps) ((lp'.params.zip args').foldl (fun tmps (t, a) => tmps.setIfInBounds t a) lp'.tmps) := by
      rw [← q5, ← Array.foldl_toList, ← Array.foldl_toList, Array.toList_zip, Array.toList_zip]
      exact hset _ _ _ _ _ ha.ofList q4
    rw [← q6, ← q7]
    refine ⟨fr_depth, ((hE.round l _ lp.assign lp.body h v h' φ c lp'.fn _ w r hc H hl htm).mono fun en w2 hen => ?_)⟩
    obtain ⟨u, φ', rfl, h2, h3, h4⟩ := hen
    exact hn φ' u w2 h4 h2 h3
end
end
end Go.Ab
