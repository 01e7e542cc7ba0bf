/- The evaluator, part 16. -/
import Derived.Test.YtbjadgggpkbjmaaGreatEv15
/- A faster evaluator: what some operations answer. -/
namespace Go.Ab
open Go.RowKit
noncomputable section
section
variable {P : Program} {xt : XTab} {E : Env} {h : AHeap} {ρ : Operand → Value} {o : Oper}
theorem arun_bind' {α β : Type} (s : Sem α) (f : α → Sem β) (h : AHeap) : arun P (s >>= f) h = match arun P s h with
  | some (a, h') => arun P (f a) h'
  | none => none := arun_bind P s f h
theorem arun_program {α : Type} (f : Program → Sem α) : arun P (program >>= f) h = arun P (f P) h := rfl
theorem arun_und {t : TypeId} {d : TypeDesc} (hu : P.underlying t = some d) : arun P (underlying t) h = some (d, h) := by
  have : arun P (underlying t) h = arun P (match P.underlying t with
    | some d => pure d
    | none => stuck "no such type" : Sem TypeDesc) h := rfl
  rw [this, hu]
  rfl
theorem arun_info {t : TypeId} {i : TypeInfo} (hi : P.info? t = some i) : arun P (typeInfo t) h = some (i, h) := by
  have : arun P (typeInfo t) h = arun P (match P.info? t with
    | some d => pure d
    | none => stuck "no such type" : Sem TypeInfo) h := rfl
  rw [this, hi]
  rfl
theorem arun_size {t : TypeId} {i : TypeInfo} (hi : P.info? t = some i) : arun P (sizeOf t) h = some (i.size, h) := by
  unfold sizeOf
  rw [arun_bind', arun_info hi]
  rfl
theorem opW_of (h1 : tIn P o.op = true) (h2 : roomIn h o.op = true) : opW P xt E o ρ h = opV P xt E o ρ h := by
  unfold opW
  rw [h1, h2]
  rfl
def flatT (P : Program) (t : TypeId) : Bool := match P.underlying t with
  | some (.struct _) => false
  | some (.array _ _) => false
  | some _ => true
  | none => false
theorem arun_isAgg {t : TypeId} (hf : flatT P t = true) : arun P (isAgg t) h = some (false, h) := by
  unfold flatT at hf
  unfold isAgg
  split at hf <;> first | (cases hf; done) | skip
  rename_i d h1 h2 hu
  rw [arun_bind', arun_und hu]
  cases d <;> first | rfl | exact absurd rfl (h1 _) | exact absurd rfl (h2 _ _)
theorem arun_loadAt {t : TypeId} {a : Addr} {v : Value} (hf : flatT P t = true) (hv : aload h a = some v) : arun P (Instr.loadAt t (.pointer (some a))) h = some (v, h) := by
  show arun P (loadVar t a) h = _
  unfold loadVar
  rw [arun_bind', arun_isAgg hf]
  show arun P (load a) h = _
  have : arun P (load a) h = Option.casesOn (motive := fun _ => Option (Value × AHeap)) (aload h a) none (fun v => some (v, h)) := rfl
  rw [this, hv]
def oneT (P : Program) (t : TypeId) : Bool := match P.info? t with
  | some i => Nat.beq i.size 1
  | none => false
theorem arun_storeAt {t : TypeId} {a : Addr} {v : Value} {h' : AHeap} (hf : oneT P t = true) (h1 : v.cells = #[v]) (hv : astore h a v = some h') : arun P (Instr.storeAt t (.pointer (some a)) v) h = some ((), h') := by
  unfold oneT at hf
  split at hf <;> first | (cases hf; done) | skip
  rename_i i hi
  have hs : i.size = 1 := Nat.eq_of_beq_eq_true hf
  show arun P (storeVar t a v) h = _
  unfold storeVar
  rw [arun_bind', arun_size hi, h1, hs]
  show arun P (storeCells a [v]) h = _
  have : arun P (storeCells a [v]) h = Option.casesOn (motive := fun _ => Option (Unit × AHeap)) (astore h a v) none (fun h => some ((), h)) := rfl
  rw [this, hv]
theorem opW_load {t : TypeId} {x : Operand} {a : Addr} {v : Value} (ho : o.op = .load t x) (hf : flatT P t = true) (hx : ρ x = .pointer (some a)) (hv : aload h a = some v) : opW P xt E o ρ h = some (v, h) := by
  rw [opW_of (by rw [ho]; rfl) (by rw [ho]; rfl)]
  unfold opV
  rw [ho]
  simp only [hx]
  exact arun_loadAt hf hv
theorem opW_store {t : TypeId} {x y : Operand} {a : Addr} {v : Value} {h' : AHeap} (ho : o.op = .store t x y) (hf : oneT P t = true) (hx : ρ x = .pointer (some a)) (hy : ρ y = v) (h1 : v.cells = #[v]) (hv : astore h a v = some h') : opW P xt E o ρ h = some (undef, h') := by
  rw [opW_of (by rw [ho]; rfl) (by rw [ho]; rfl)]
  unfold opV
  rw [ho]
  simp only [hx, hy, arun_storeAt hf h1 hv]
  rfl
def fieldOff (P : Program) (s : TypeId) (f : Nat) : Option Nat := match P.underlying s with
  | some (.struct fs) => match fs[f]? with
    | some f => match P.info? f.type with
      | some i => match Nat.beq i.size 0 with
        | true => none
        | false => some f.offset
      | none => none
    | none => none
  | _ => none
theorem opW_field {s : TypeId} {x : Operand} {f n : Nat} {a : Addr} (ho : o.op = .fieldAddr s x f) (hf : fieldOff P s f = some n) (hx : ρ x = .pointer (some a)) : opW P xt E o ρ h = some (.pointer (some (a.add n)), h) := by
  unfold fieldOff at hf
  split at hf <;> first | (cases hf; done) | skip
  rename_i fs hu
  split at hf <;> first | (cases hf; done) | skip
  rename_i fd hfd
  split at hf <;> first | (cases hf; done) | skip
  rename_i i hi
  split at hf <;> first | (cases hf; done) | skip
  rename_i hb
  cases hf
  have hok : fieldOk P s f = true := by
    unfold fieldOk
    simp only [hu, hfd, hi]
    cases hz : i.size == 0 with
    | false => rfl
    | true =>
      have : i.size = 0 := by simpa using hz
      rw [this] at hb; cases hb
  have hne : i.size ≠ 0 := fun e => by rw [e] at hb; cases hb
  rw [opW_of (by rw [ho]; rfl) (by rw [ho]; rfl)]
  unfold opV
  rw [ho]
  simp only [hx, hok]
  unfold Instr.fieldAt
  rw [arun_bind', arun_und hu]
  simp only [hfd]
  show arun P (fieldPlace a fd >>= fun b => pure (Value.pointer (some b))) h = _
  rw [arun_bind']
  unfold fieldPlace
  rw [arun_bind', arun_size hi]
  simp only [if_neg hne]
  rfl
def elemSize (P : Program) (t : TypeId) : Option Nat := match P.underlying t with
  | some (.slice e) => match P.info? e with
    | some i => some i.size
    | none => none
  | _ => none
theorem opW_index {t : TypeId} {x y : Operand} {sz n c j : Nat} {kd : IntKind} {a : Addr} (ho : o.op = .indexAddr t x y) (hf : elemSize P t = some sz) (hx : ρ x = .slice (some a) n c) (hy : ρ y = .int kd (.ofNat j)) (hj : j < n) :
    opW P xt E o ρ h = some (.pointer (some (a.add (j * sz))), h) := by
  unfold elemSize at hf
  split at hf <;> first | (cases hf; done) | skip
  rename_i e hu
  split at hf <;> first | (cases hf; done) | skip
  rename_i i hi
  cases hf
  rw [opW_of (by rw [ho]; rfl) (by rw [ho]; rfl)]
  unfold opV
  rw [ho]
  simp only [hx, hy]
  unfold Instr.indexAt
  simp only [arun_bind', arun_und hu]
  have e0 : ∀ (α : Type) (a : α), arun P (pure a : Sem α) h = some (a, h) := fun _ _ => rfl
  simp only [asIntOf, e0]
  have hj' : (0 : Int) ≤ Int.ofNat j ∧ Int.ofNat j < (n : Int) := ⟨Int.natCast_nonneg j, Int.ofNat_lt.2 hj⟩
  simp only [if_pos hj', arun_bind', arun_size hi, e0]
  rfl
theorem opW_extract {x : Operand} {vs : Array Value} {i : Nat} {v : Value} (ho : o.op = .extract x i) (hx : ρ x = .tuple vs) (hv : vs.toList[i]? = some v) : opW P xt E o ρ h = some (v, h) := by
  rw [opW_of (by rw [ho]; rfl) (by rw [ho]; rfl)]
  unfold opV
  rw [ho]
  have : vs[i]? = some v := by rw [← hv]; simp
  simp only [hx, Instr.extract, this]
  rfl
theorem opW_nilCheck {x : Operand} {a : Addr} (ho : o.op = .nilCheck x) (hx : ρ x = .pointer (some a)) : opW P xt E o ρ h = some (.pointer (some a), h) := by
  rw [opW_of (by rw [ho]; rfl) (by rw [ho]; rfl)]
  unfold opV
  rw [ho]
  simp only [hx]
theorem cmpV_int {op : BinOp} {t : TypeId} {k k' : IntKind} {a b : Int} : cmpV P op t (.int k a) (.int k' b) = none := by
  unfold cmpV
  cases P.underlying t with
  | none => rfl
  | some d =>
    simp only
    cases kindFits d (.int k a) && kindFits d (.int k' b) <;> rfl
theorem opW_bin {op : BinOp} {t ty : TypeId} {x y : Operand} {k k' : IntKind} {a b : Int} {v : Value} (ho : o.op = .binOp op t x y ty) (hx : ρ x = .int k a) (hy : ρ y = .int k' b)
    (hq : qrun P (binOp op t (.int k a) (.int k' b)) = some v) (hv : plainB v = true) : opW P xt E o ρ h = some (v, h) := by
  have hex : qrun P (execOp ρ o) = some (.value v) := by
    have : execOp ρ o = (do eqGuard op t x y (.int k a) (.int k' b); let v ← binOp op t (.int k a) (.int k' b); pure (.value v) : Sem Go.Next) := by
      obtain ⟨dst, op', type, pos, after, guard⟩ := o
      have ho' : op' = .binOp op t x y ty := ho
      subst ho'
      simp only [execOp, hx, hy]
      cases op <;> rfl
    rw [this]
    have e1 : (do eqGuard op t x y (.int k a) (.int k' b); let v ← binOp op t (.int k a) (.int k' b); pure (.value v) : Sem Go.Next) = (binOp op t (.int k a) (.int k' b) >>= fun v => pure (.value v)) := by cases op <;> rfl
    rw [e1]
    have e2 : ∀ (s : Sem Value) (v : Value), qrun P s = some v → qrun P (s >>= fun v => pure (Go.Next.value v)) = some (.value v) := by
      intro s
      induction s with
      | pure a => intro v hs; cases hs; rfl
      | program kk ih => intro v hs; exact ih P v hs
      | mark m kk ih => intro v hs; exact ih v hs
      | choose q kk ih =>
        intro v hs
        have hs' : (match q.forced with
          | true => qrun P (kk 0)
          | false => none) = some v := hs
        show (match q.forced with
          | true => qrun P (kk 0 >>= fun v => pure (Go.Next.value v))
          | false => none) = _
        cases hq : q.forced with
        | true => rw [hq] at hs'; exact ih 0 v hs'
        | false => rw [hq] at hs'; cases hs'
      | _ => intro v hs; cases hs
    exact e2 _ _ hq
  have hg : groundV P o ρ = some v := by
    unfold groundV
    have : allB (fun x => plainB (ρ x)) o.op.operands.toList = true := by
      rw [ho]
      show allB (fun x => plainB (ρ x)) [x, y] = true
      simp only [allB, hx, hy]
      rfl
    rw [this, hex]
    simp only [hv]
  rw [opW_of (by rw [ho]; rfl) (by rw [ho]; rfl)]
  unfold opV
  rw [ho]
  simp only [hx, hy, cmpV_int, hg]
  rfl
theorem wrap64 {n : Nat} (hn : n < 9223372036854775808) : IntKind.wrap .i64 (.ofNat n) = .ofNat n := by
  have e : ((n : Int) % 18446744073709551616) = n := Int.emod_eq_of_lt (Int.natCast_nonneg n) (by omega)
  show (let m := (n : Int) % (2 ^ 64 : Int); if true && m ≥ (2 ^ 63 : Int) then m - (2 ^ 64 : Int) else m) = (n : Int)
  simp only [show (2 ^ 64 : Int) = 18446744073709551616 from rfl, show (2 ^ 63 : Int) = 9223372036854775808 from rfl, e]
  rw [if_neg (by simp; omega)]
theorem opW_add {t ty : TypeId} {x y : Operand} {a b : Nat} (ho : o.op = .binOp .add t x y ty) (hx : ρ x = .int .i64 (.ofNat a)) (hy : ρ y = .int .i64 (.ofNat b)) (hn : a + b < 9223372036854775808) :
    opW P xt E o ρ h = some (.int .i64 (.ofNat (a + b)), h) := by
  refine opW_bin ho hx hy ?_ rfl
  show some (Value.int .i64 (IntKind.wrap .i64 (Int.ofNat a + Int.ofNat b))) = _
  rw [show Int.ofNat a + Int.ofNat b = Int.ofNat (a + b) from rfl, wrap64 hn]
theorem opW_sub {t ty : TypeId} {x y : Operand} {a b : Nat} (ho : o.op = .binOp .sub t x y ty) (hx : ρ x = .int .i64 (.ofNat a)) (hy : ρ y = .int .i64 (.ofNat b)) (hb : b ≤ a) (hn : a < 9223372036854775808) :
    opW P xt E o ρ h = some (.int .i64 (.ofNat (a - b)), h) := by
  refine opW_bin ho hx hy ?_ rfl
  show some (Value.int .i64 (IntKind.wrap .i64 (Int.ofNat a - Int.ofNat b))) = _
  rw [show Int.ofNat a - Int.ofNat b = Int.ofNat (a - b) from by
    show (a : Int) - (b : Int) = ((a - b : Nat) : Int)
    omega, wrap64 (by omega)]
theorem opW_cmp {op : BinOp} {t ty : TypeId} {x y : Operand} {k : IntKind} {a b : Int} {r : Bool} (ho : o.op = .binOp op t x y ty) (hx : ρ x = .int k a) (hy : ρ y = .int k b)
    (hr : (match op with
      | .eql => some (a == b)
      | .neq => some (a != b)
      | .lss => some (decide (a < b))
      | .leq => some (decide (a ≤ b))
      | .gtr => some (decide (a > b))
      | .geq => some (decide (a ≥ b))
      | _ => none : Option Bool) = some r) : opW P xt E o ρ h = some (.bool r, h) := by
  refine opW_bin ho hx hy ?_ rfl
  cases op <;> first | (cases hr; done) | skip
  all_goals
    cases hr
    show qrun P (if k ≠ k then _ else _) = _
    rw [if_neg (by simp)]
    rfl
end
end
end Go.Ab
