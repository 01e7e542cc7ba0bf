/- The evaluator, part 2. -/
import Derived.Test.YtbjadgggpkbjmaaGreatEv1
import Derived.Laws.Sem
import Derived.RangeFuncLeaves
import Derived.OrdersIn
import Derived.TacticsIn
import Derived.Scope
/- An evaluator of the model's code over an abstract heap: the model's own trees do the same on related values. -/
namespace Go.Ab
open Go.RowKit

def EqR {α : Type} : Phi → α → α → Prop := fun _ a b => a = b
/-- The type stands in the program's table. -/
def hasT (P : Program) (t : TypeId) : Bool := Nat.blt t P.types.size
def hasEl (P : Program) (t : TypeId) : Bool := match P.underlying t with
  | some (.slice e) => hasT P e
  | some (.map _ e) => hasT P e
  | _ => true
theorem hasEl_slice {P : Program} {t e : TypeId} (h : hasEl P t = true) (hu : P.underlying t = some (.slice e)) : hasT P e = true := by
  unfold hasEl at h; rw [hu] at h; exact h
theorem hasEl_map {P : Program} {t k e : TypeId} (h : hasEl P t = true) (hu : P.underlying t = some (.map k e)) : hasT P e = true := by
  unfold hasEl at h; rw [hu] at h; exact h
/-- What is asked of a program: its zero values hold no addresses. -/
structure Good (P : Program) : Prop where
  zero : ∀ t i v, hasT P t = true → P.info? t = some i → i.zero = some v → Plain v

section
variable {P : Program} {φ : Phi} {α β γ δ : Type} {R : Phi → α → β → Prop}
theorem SR.bind' {R' : Phi → γ → δ → Prop} {s : Sem α} {s' : Sem β} {f : α → Sem γ} {g : β → Sem δ}
    (h : SR P R φ s s') (hf : ∀ φ' a b, Ext φ φ' → R φ' a b → SR P R' φ' (f a) (g b)) : SR P R' φ (s >>= f) (s' >>= g) := SR.bind h hf
theorem SR.bindEq {R' : Phi → γ → δ → Prop} {s s' : Sem α} {f : α → Sem γ} {g : α → Sem δ}
    (h : SR P EqR φ s s') (hf : ∀ φ' a, Ext φ φ' → SR P R' φ' (f a) (g a)) : SR P R' φ (s >>= f) (s' >>= g) :=
  SR.bind h fun φ' a b he hab => by cases hab; exact hf φ' a he
theorem SR.ret {a : α} {b : β} (h : R φ a b) : SR P R φ (Pure.pure a) (Pure.pure b) := .pure h
theorem SR.stuck {why : String} {s : Sem β} : SR P R φ (Go.stuck why) s := .halt
theorem SR.unsup {u : Unsupported} {s : Sem β} : SR P R φ (Go.unsupported u) s := .halt

theorem sr_program : SR P (fun _ a b => a = P ∧ b = P) φ Go.program Go.program := .program (.pure ⟨rfl, rfl⟩)
theorem sr_underlying (t : TypeId) : SR P (fun _ a b => a = b ∧ P.underlying t = some a) φ (underlying t) (underlying t) := by
  refine SR.bind' sr_program fun φ' a b _ hab => ?_
  rw [hab.1, hab.2]
  cases h : P.underlying t with
  | none => exact .halt
  | some d => exact .pure ⟨rfl, rfl⟩
theorem sr_typeInfo (t : TypeId) : SR P (fun _ a b => a = b ∧ P.info? t = some a) φ (typeInfo t) (typeInfo t) := by
  refine SR.bind' sr_program fun φ' a b _ hab => ?_
  rw [hab.1, hab.2]
  cases h : P.info? t with
  | none => exact .halt
  | some d => exact .pure ⟨rfl, rfl⟩
theorem sr_sizeOf (t : TypeId) : SR P EqR φ (sizeOf t) (sizeOf t) := by
  refine SR.bind' (sr_typeInfo t) fun φ' a b _ hab => ?_
  obtain ⟨rfl, _⟩ := hab
  exact .pure rfl
theorem sr_isAgg (t : TypeId) : SR P EqR φ (isAgg t) (isAgg t) := by
  refine SR.bind' (sr_underlying t) fun φ' a b _ hab => ?_
  obtain ⟨rfl, _⟩ := hab
  cases a <;> exact .pure rfl
theorem sr_zero (G : Good P) (t : TypeId) (ht : hasT P t = true) : SR P (fun φ a b => a = b ∧ Plain a) φ (zeroValue t) (zeroValue t) := by
  refine SR.bind' (sr_typeInfo t) fun φ' a b _ hab => ?_
  obtain ⟨rfl, h⟩ := hab
  cases hz : a.zero with
  | none => exact .halt
  | some v => exact .pure ⟨rfl, G.zero t a v ht h hz⟩
theorem sr_mark (m m' : Mark) : SR P EqR φ (Go.mark m) (Go.mark m') := .mark (.pure rfl)
theorem sr_askRoom (n : Nat) : SR P EqR φ (askRoom n) (askRoom n) := by
  unfold askRoom
  split
  · exact sr_mark _ _
  · exact .pure rfl

theorem Plain.cells {v : Value} (h : Plain v) : AsR φ v.cells v.cells := by
  have := h.vr (φ := φ)
  cases this with
  | agg h1 h2 => exact ⟨h1, h2⟩
  | _ => first | exact AsR.one .bool | exact AsR.one .int | exact AsR.one .string | exact AsR.one h.vr
theorem VR.cells {v u : Value} (h : VR φ v u) : AsR φ v.cells u.cells := by
  cases h with
  | agg h1 h2 => exact ⟨h1, h2⟩
  | bool => exact AsR.one .bool
  | int => exact AsR.one .int
  | string => exact AsR.one .string
  | ptrNil => exact AsR.one .ptrNil
  | ptr h => exact AsR.one (.ptr h)
  | slNil h => exact AsR.one (.slNil h)
  | amb => exact AsR.one .amb
  | sl h h' => exact AsR.one (.sl h h')
  | mapNil => exact AsR.one .mapNil
  | map h => exact AsR.one (.map h)
  | func h h1 h2 h3 h4 => exact AsR.one (.func h h1 h2 h3 h4)
  | nilFunc => exact AsR.one .nilFunc
  | iface h => exact AsR.one (.iface h)
  | nilIface => exact AsR.one .nilIface
  | tuple h1 h2 => exact AsR.one (.tuple h1 h2)

theorem AddrR.add {a a' : Addr} (h : AddrR φ a a') (n : Nat) : AddrR φ (a.add n) (a'.add n) := by
  cases h with
  | mk h =>
    unfold Addr.add
    split
    · exact .mk h
    · exact .mk h
theorem sr_newRow (e : TypeId) {c c' : Array Value} (h : AsR φ c c') : SR P AddrR φ (newRow e c) (newRow e c') :=
  SR.newRow h fun _ _ _ _ hr => .pure (.mk hr)
theorem sr_newVar (e : TypeId) {v u : Value} (h : VR φ v u) : SR P AddrR φ (newVar e v) (newVar e u) := sr_newRow e h.cells

theorem sr_sureAddr {v u : Value} (h : VR φ v u) : SR P AddrR φ (Instr.sureAddr v) (Instr.sureAddr u) := by
  cases h <;> first | exact .pure ‹_› | exact .halt
theorem sr_load {a a' : Addr} (h : AddrR φ a a') : SR P VR φ (load a) (load a') := .load h fun _ _ hv => .pure hv
theorem sr_store {a a' : Addr} (h : AddrR φ a a') {v u : Value} (hv : VR φ v u) : SR P EqR φ (store a v) (store a' u) := .store h hv (.pure rfl)
theorem sr_loadCellsFrom : ∀ (n i : Nat) {φ : Phi} {a a' : Addr} {c c' : Array Value}, AddrR φ a a' → AsR φ c c' → SR P AsR φ (loadCellsFrom a i n c) (loadCellsFrom a' i n c')
  | 0, _, _, _, _, _, _, _, hc => .pure hc
  | n + 1, i, _, _, _, _, _, ha, hc => SR.bind' (sr_load (ha.add i)) fun _ _ _ he hv => sr_loadCellsFrom n (i + 1) (ha.mono he) ((hc.mono he).push hv)
theorem sr_loadCells {a a' : Addr} (h : AddrR φ a a') (n : Nat) : SR P AsR φ (loadCells a n) (loadCells a' n) := sr_loadCellsFrom n 0 h (AsR.empty φ)
theorem sr_storeCells : ∀ (l l' : List Value) (i : Nat) {φ : Phi} {a a' : Addr}, AddrR φ a a' → AsR φ l.toArray l'.toArray → SR P EqR φ (storeCells a l i) (storeCells a' l' i)
  | [], [], _, _, _, _, _, _ => .pure rfl
  | [], _ :: _, _, _, _, _, _, h => by have := h.1; simp at this
  | _ :: _, [], _, _, _, _, _, h => by have := h.1; simp at this
  | v :: l, u :: l', i, φ, _, _, ha, h => by
    have hv : VR φ v u := h.2 0 v u (by simp) (by simp)
    have hl : AsR φ l.toArray l'.toArray := ⟨by have := h.1; simpa using this, fun j x y hx hy => h.2 (j + 1) x y (by simpa using hx) (by simpa using hy)⟩
    exact SR.bind' (sr_store (ha.add i) hv) fun _ _ _ he _ => sr_storeCells l l' (i + 1) (ha.mono he) (hl.mono he)
theorem AsR.ofList {c c' : Array Value} (h : AsR φ c c') : AsR φ c.toList.toArray c'.toList.toArray := by simpa using h
theorem sr_loadVar (t : TypeId) {a a' : Addr} (h : AddrR φ a a') : SR P VR φ (loadVar t a) (loadVar t a') := by
  refine SR.bindEq (sr_isAgg t) fun φ' b he => ?_
  cases b with
  | true =>
    refine SR.bindEq (sr_sizeOf t) fun φ'' n he' => ?_
    exact SR.bind' (sr_loadCells ((h.mono he).mono he') n) fun _ _ _ _ hc => .pure (.agg hc.1 hc.2)
  | false => exact sr_load (h.mono he)
theorem sr_storeVar (t : TypeId) {a a' : Addr} (h : AddrR φ a a') {v u : Value} (hv : VR φ v u) : SR P EqR φ (storeVar t a v) (storeVar t a' u) := by
  refine SR.bindEq (sr_sizeOf t) fun φ' n he => ?_
  have hc := hv.cells
  show SR P EqR φ' (if v.cells.size ≠ n then _ else _) (if u.cells.size ≠ n then _ else _)
  by_cases e : v.cells.size ≠ n
  · rw [if_pos e]; exact .halt
  · rw [if_neg e, if_neg (by rw [← hc.1]; exact e)]
    exact sr_storeCells _ _ 0 (h.mono he) ((hc.ofList).mono he)
theorem sr_loadAt (t : TypeId) {v u : Value} (h : VR φ v u) : SR P VR φ (Instr.loadAt t v) (Instr.loadAt t u) :=
  SR.bind' (sr_sureAddr h) fun _ _ _ _ ha => sr_loadVar t ha
theorem sr_storeAt (t : TypeId) {v u x y : Value} (h : VR φ v u) (hx : VR φ x y) : SR P EqR φ (Instr.storeAt t v x) (Instr.storeAt t u y) :=
  SR.bind' (sr_sureAddr h) fun _ _ _ he ha => sr_storeVar t ha (hx.mono he)
theorem sr_box (t : TypeId) {v u : Value} (h : VR φ v u) : SR P VR φ (Instr.box t v) (Instr.box t u) :=
  SR.bind' (sr_newVar t h) fun _ _ _ _ ha => .pure (.ptr ha)
theorem sr_alloc (G : Good P) (t : TypeId) (ht : hasT P t = true) (x y : Value) : SR P VR φ (Instr.alloc t true x) (Instr.alloc t true y) :=
  SR.bind' (sr_zero G t ht) fun _ a b _ hz => by
    obtain ⟨rfl, hp⟩ := hz
    exact SR.bind' (sr_newVar t hp.vr) fun _ _ _ _ ha => .pure (.ptr ha)
theorem sr_part (t : TypeId) {c c' : Array Value} (h : AsR φ c c') (off : Nat) : SR P VR φ (part t c off) (part t c' off) := by
  refine SR.bindEq (sr_isAgg t) fun φ' b he => ?_
  cases b with
  | true =>
    refine SR.bindEq (sr_sizeOf t) fun φ'' n he' => ?_
    have := ((h.mono he).mono he').extract off (off + n)
    exact .pure (.agg this.1 this.2)
  | false =>
    show SR P VR φ' (match c[off]? with | some v => _ | none => _) (match c'[off]? with | some v => _ | none => _)
    cases hc : c[off]? with
    | none => exact .halt
    | some v =>
      obtain ⟨u, hu, hr⟩ := h.get hc
      rw [hu]
      exact .pure (hr.mono he)
theorem sr_asAgg {v u : Value} (h : VR φ v u) : SR P AsR φ (asAgg v) (asAgg u) := by
  cases h <;> first | exact .pure ⟨‹_›, ‹_›⟩ | exact .halt
theorem sr_field (t : TypeId) {v u : Value} (h : VR φ v u) (f : Nat) : SR P VR φ (Instr.field t v f) (Instr.field t u f) := by
  refine SR.bind' (sr_underlying t) fun φ' d b he hab => ?_
  obtain ⟨rfl, _⟩ := hab
  cases d with
  | struct fs =>
    cases hf : fs[f]? with
    | none => simp only [hf]; exact .halt
    | some x => simp only [hf]; exact SR.bind' (sr_asAgg (h.mono he)) fun _ _ _ _ hc => sr_part _ hc _
  | _ => exact .halt
theorem sr_extract {v u : Value} (h : VR φ v u) (i : Nat) : SR P VR φ (Instr.extract v i) (Instr.extract u i) := by
  cases h <;> first | exact .halt | skip
  rename_i as as' h1 h2
  show SR P VR φ (match as[i]? with | some f => _ | none => _) (match as'[i]? with | some f => _ | none => _)
  cases hc : as[i]? with
  | none => exact .halt
  | some x =>
    obtain ⟨y, hy, hr⟩ := AsR.get ⟨h1, h2⟩ hc
    rw [hy]
    exact .pure hr
theorem sr_asIntOf {v u : Value} (h : VR φ v u) : SR P (fun _ a b => a = b ∧ v = .int a.1 a.2) φ (asIntOf v) (asIntOf u) := by
  cases h <;> first | exact .pure ⟨rfl, rfl⟩ | exact .halt
theorem sr_asInt {v u : Value} (h : VR φ v u) : SR P EqR φ (asInt v) (asInt u) :=
  SR.bind' (sr_asIntOf h) fun _ a b _ hab => by obtain ⟨rfl, _⟩ := hab; exact .pure rfl
theorem sr_asBool {v u : Value} (h : VR φ v u) : SR P EqR φ (asBool v) (asBool u) := by
  cases h <;> first | exact .pure rfl | exact .halt
end
end Go.Ab

/- An evaluator of the model's code over an abstract heap: the model's own trees do the same on related values, more. -/
namespace Go.Ab
open Go.RowKit

section
variable {P : Program} {φ : Phi} {α β γ δ : Type} {R : Phi → α → β → Prop}
theorem SR.choosy {n n' : String} {k : Nat → Sem α} {k' : Nat → Sem β} : SR P R φ (.choose (.extern n 2) k) (.choose (.extern n' 2) k') := .choose (fun h => by simp [Question.forced] at h) (fun h => by simp [Question.forced] at h)
theorem stops_halt (h : Halt) : Stops P (.halt h : Sem α) := fun _ => rfl
theorem stops_panic (e : RuntimeError) : Stops P (runtimePanic e : Sem α) := by
  refine Stops.then_ _ fun p => ?_
  cases e <;> first
    | exact stops_halt _
    | exact Stops.then_ _ fun _ => stops_halt _
    | exact Stops.then_ _ fun _ => Stops.then_ _ fun _ => stops_halt _
theorem stops_bounds (k : IntKind) (x y : Int) (c : BoundsCode) : Stops P (boundsPanic k x y c : Sem α) := by
  unfold boundsPanic
  split
  · exact Stops.then_ _ fun _ => stops_panic _
  · exact Stops.then_ _ fun _ => stops_panic _
theorem sr_bounds (k : IntKind) (x y : Int) (c : BoundsCode) {s : Sem β} : SR P R φ (boundsPanic k x y c) s := .stops (stops_bounds k x y c)

def OptAddrR (φ : Phi) (a b : Option Addr) : Prop := (a = none ∧ b = none) ∨ ∃ x y, a = some x ∧ b = some y ∧ AddrR φ x y
theorem sr_indexAt (t : TypeId) {v u i j : Value} (h : VR φ v u) (hi : VR φ i j) : SR P VR φ (Instr.indexAt t v i) (Instr.indexAt t u j) := by
  unfold Instr.indexAt
  refine SR.bind' (sr_asIntOf hi) fun φ1 ki ki' he1 hk => ?_
  obtain ⟨rfl, _⟩ := hk
  obtain ⟨k, i⟩ := ki
  have fin : ∀ φ2 (a b : Option Addr) (len : Nat) (elem : TypeId), OptAddrR φ2 a b → SR P VR φ2
      (do let tiny := len ≤ 1 && (match ← underlying t with | .array .. => true | _ => false)
          match a with
          | some a =>
            if 0 ≤ i ∧ i < len then pure (.pointer (some (a.add (i.toNat * (← sizeOf elem)))))
            else if tiny then unsupported (.noEntry "op/indexAddr.an index out of range at an array of length 0 or 1 (ledger 616)")
            else boundsPanic k i len .index
          | none => boundsPanic k i 0 .index)
      (do let tiny := len ≤ 1 && (match ← underlying t with | .array .. => true | _ => false)
          match b with
          | some a =>
            if 0 ≤ i ∧ i < len then pure (.pointer (some (a.add (i.toNat * (← sizeOf elem)))))
            else if tiny then unsupported (.noEntry "op/indexAddr.an index out of range at an array of length 0 or 1 (ledger 616)")
            else boundsPanic k i len .index
          | none => boundsPanic k i 0 .index) := by
    intro φ2 a b len elem hab
    refine SR.bind' (sr_underlying t) fun φ3 d d' he3 hd => ?_
    obtain ⟨rfl, _⟩ := hd
    rcases hab with ⟨rfl, rfl⟩ | ⟨x, y, rfl, rfl, hxy⟩
    · exact sr_bounds _ _ _ _
    · simp only []
      by_cases hc : 0 ≤ i ∧ i < len
      · rw [if_pos hc, if_pos hc]
        refine SR.bindEq (sr_sizeOf elem) fun φ4 n he4 => ?_
        exact .pure (.ptr (((hxy.mono he3).mono he4).add _))
      · rw [if_neg hc, if_neg hc]
        refine .stops ?_
        have hall : ∀ b : Bool, Stops P (if b = true then unsupported (.noEntry "op/indexAddr.an index out of range at an array of length 0 or 1 (ledger 616)") else (boundsPanic k i len .index : Sem Value)) := fun b => by
          cases b
          · exact stops_bounds _ _ _ _
          · exact stops_halt _
        exact hall _
  refine SR.bind' (sr_underlying t) fun φ2 d d' he2 hd => ?_
  obtain ⟨rfl, _⟩ := hd
  have h2 := (h.mono he1).mono he2
  cases d with
  | array len elem =>
    exact SR.bind' (sr_sureAddr h2) fun φ3 a b he3 hab => fin φ3 _ _ len elem (.inr ⟨_, _, rfl, rfl, hab⟩)
  | slice elem =>
    cases h2 with
    | @slNil n k hk => exact fin φ2 none none n elem (.inl ⟨rfl, rfl⟩)
    | @sl a a' n k k' ha hk => exact fin φ2 (some a) (some a') n elem (.inr ⟨_, _, rfl, rfl, ha⟩)
    | _ => exact .halt
  | _ => exact .halt
theorem sr_fieldAt (t : TypeId) {v u : Value} (h : VR φ v u) (f : Nat) (hsz : ∀ fs x i, P.underlying t = some (.struct fs) → fs[f]? = some x → P.info? x.type = some i → i.size ≠ 0) : SR P VR φ (Instr.fieldAt t v f) (Instr.fieldAt t u f) := by
  unfold Instr.fieldAt
  refine SR.bind' (sr_underlying t) fun φ' d b he hab => ?_
  obtain ⟨rfl, hd⟩ := hab
  cases d with
  | struct fs =>
    cases hf : fs[f]? with
    | none => simp only [hf]; exact .halt
    | some x =>
      simp only [hf]
      refine SR.bind' (sr_sureAddr (h.mono he)) fun φ2 a b he2 hab => ?_
      refine SR.bind' (R := AddrR) ?_ fun _ _ _ _ hr => .pure (.ptr hr)
      unfold fieldPlace
      refine SR.bind' (SR.bind' (R' := fun _ a b => a = b ∧ a ≠ 0) (sr_typeInfo x.type) fun φ3 i j _ hij => ?_) fun φ3 n m he3 hn => ?_
      · obtain ⟨rfl, hi⟩ := hij
        exact .pure ⟨rfl, hsz fs x i hd hf hi⟩
      · obtain ⟨rfl, hn⟩ := hn
        rw [if_neg hn, if_neg hn]
        exact .pure ((hab.mono he3).add _)
  | _ => exact .halt
theorem sr_index (t : TypeId) {v u i j : Value} (h : VR φ v u) (hi : VR φ i j) : SR P VR φ (Instr.index t v i) (Instr.index t u j) := by
  unfold Instr.index
  refine SR.bind' (sr_asIntOf hi) fun φ1 ki ki' he1 hk => ?_
  obtain ⟨rfl, _⟩ := hk
  obtain ⟨k, i⟩ := ki
  refine SR.bind' (sr_underlying t) fun φ2 d d' he2 hd => ?_
  obtain ⟨rfl, _⟩ := hd
  have h2 := (h.mono he1).mono he2
  cases d with
  | array len elem =>
    cases h2 with
    | agg h1 h2 =>
      simp only []
      by_cases hc : 0 ≤ i ∧ i < len
      · rw [if_pos hc, if_pos hc]
        refine SR.bindEq (sr_sizeOf elem) fun φ4 n he4 => ?_
        exact sr_part _ (AsR.mono he4 ⟨h1, h2⟩) _
      · rw [if_neg hc, if_neg hc]
        exact sr_bounds _ _ _ _
    | _ => exact .halt
  | string =>
    cases h2 with
    | @string s =>
      simp only []
      split
      · exact .pure .int
      · exact sr_bounds _ _ _ _
    | _ => exact .halt
  | _ => exact .halt

end
end Go.Ab

/- An evaluator of the model's code over an abstract heap: the code. -/
namespace Go.Ab
open Go.RowKit
theorem stepR_scope {P : Program} {b : Frame} {a : Act} {k : List Item} {cs : List Frame} {w : World} {c : Code} : step P (lone (b.atR a (.code (.scope c) :: k)) cs w) = .next (lone (b.atR a (.code c :: .inScope c :: k)) cs w) :=
  step_lone_go (by simp [stepG, stepG.exec, Frame.atR])
theorem stepR_inScope {P : Program} {b : Frame} {a : Act} {k : List Item} {cs : List Frame} {w : World} {c : Code} : step P (lone (b.atR a (.inScope c :: k)) cs w) = .next (lone (b.atR a k) cs w) :=
  step_lone_go (by simp [stepG, stepG.exec, Frame.atR])
theorem wpIn_scope {F : Fence} {n : Nat} {P : Program} {Q : Exit → Act → World → Prop} {a : Act} {w : World} {c : Code} (h : c.wpIn F n P (Exit.noGoto Q) a w) : (Code.scope c).wpIn F n P Q a w := by
  intro b k cs hro hb hr
  have h0 : (lone (b.atR a (.code (.scope c) :: k)) cs w).fenced P F := fenced_calm hb hr rfl
  obtain ⟨e, a₁, w₁, hq, harr⟩ := h b (.inScope c :: k) cs hro hb hr
  cases e with
  | normal => exact ⟨.normal, a₁, w₁, hq, .head h0 stepR_scope (StepsIn.trans harr (.one (fenced_calm hb hr rfl) stepR_inScope))⟩
  | exit id =>
    have hx : exitTo id (.inScope c :: k) = exitTo id k := by simp [exitTo]
    exact ⟨.exit id, a₁, w₁, hq, fun k' hk => .head h0 stepR_scope (harr.1 k' (by rw [hx]; exact hk)),
      fun hr' hk => let ⟨k₁, h1, h2⟩ := harr.2 hr' (by rw [hx]; exact hk); ⟨k₁, h1, .head h0 stepR_scope h2⟩⟩
  | goto l => exact hq.elim
  | ret => exact ⟨_, a₁, w₁, hq, .of_steps (.one h0 stepR_scope) harr⟩
  | panic ch => exact ⟨_, a₁, w₁, hq, .of_steps (.one h0 stepR_scope) harr⟩
  | outgrown => exact ⟨_, a₁, w₁, hq, .of_steps (.one h0 stepR_scope) harr⟩
noncomputable section

/-- A value without addresses, as far as constants go. -/
def flatB : Value → Bool
  | .bool _ => true
  | .int _ _ => true
  | .string _ => true
  | .pointer none => true
  | .slice none _ k => Nat.blt k unk
  | .map none => true
  | .func (.func _) as bs => as.size == 0 && bs.size == 0
  | .nilFunc => true
  | .nilIface => true
  | _ => false
def plainB : Value → Bool
  | .agg as => as.toList.all flatB
  | .iface _ v => flatB v
  | v => flatB v
theorem flat_plain {v : Value} (h : flatB v = true) : Plain v := by
  unfold flatB at h
  split at h
  · exact .bool
  · exact .int
  · exact .string
  · exact .ptrNil
  · exact .slNil (by simpa using h)
  · exact .mapNil
  · rename_i f as bs
    simp at h
    obtain ⟨rfl, rfl⟩ := h
    exact .func
  · exact .nilFunc
  · exact .nilIface
  · cases h
theorem plain_of {v : Value} (h : plainB v = true) : Plain v := by
  unfold plainB at h
  split at h
  · rename_i as
    refine .agg fun i x hx => flat_plain ?_
    rw [List.all_eq_true] at h
    exact h x (by
      have := Array.mem_of_getElem? hx
      simpa using this)
  · exact .iface (flat_plain h)
  · exact flat_plain h

def opdOk : Operand → Bool
  | .tmp _ => true
  | .const v => plainB v
  | .global _ => false
  | .func _ => true
def allB {α : Type} (f : α → Bool) : List α → Bool
  | [] => true
  | a :: l => match f a with
    | true => allB f l
    | false => false
theorem allB_iff {α : Type} {f : α → Bool} : ∀ {l : List α}, allB f l = true → ∀ a ∈ l, f a = true
  | [], _, _, h => by cases h
  | b :: l, hl, a, h => by
    rw [allB] at hl
    split at hl
    · rcases List.mem_cons.1 h with rfl | h
      · assumption
      · exact allB_iff hl a h
    · cases hl
def noDefer : Op → Bool
  | .defer _ => false
  | _ => true
def operOk (n : Nat) (o : Oper) : Bool :=
  match o.dst with
  | some d => Nat.blt d n && noDefer o.op && allB opdOk o.op.operands.toList
  | none => noDefer o.op && allB opdOk o.op.operands.toList
def codeOk (n : Nat) : Code → Bool
  | .region _ ops _ => allB (operOk n) ops.toList
  | .seq a b => codeOk n a && codeOk n b
  | .cond c a b => opdOk c && (codeOk n a && codeOk n b)
  | .block _ a => codeOk n a
  | .scope a => codeOk n a
  | .loop a => codeOk n a
  | .rangeFunc f _ x y => opdOk f && (codeOk n x && codeOk n y)
  | .skip => true
  | .exit _ => true
  | .label _ => true
  | .ret => true
  | _ => true

/-- A frame. -/
structure AAct where
  tmps : T Value
  defers : List Deferred
def AAct.eval (a : AAct) : Operand → Value
  | .tmp t => (a.tmps.get t).getD undef
  | .const v => v
  | .global g => .pointer (some ⟨g, 0, none⟩)
  | .func f => .func (.func f) #[] #[]
def AAct.put (a : AAct) (dst : Option Tmp) (v : Value) : AAct :=
  match dst with
  | none => a
  | some d => ⟨a.tmps.set d v, a.defers⟩
structure ActR (φ : Phi) (n : Nat) (a : AAct) (b : Act) : Prop where
  size : b.tmps.size = n
  tmp : ∀ i, VR φ ((a.tmps.get i).getD undef) (b.tmps.getD i undef)
  defers : DefsR φ a.defers b.defers
theorem vr_undef {φ : Phi} : VR φ undef undef := .tuple rfl fun i x y h => by simp at h
theorem ActR.mono0 {φ φ' : Phi} (he : Ext0 φ φ') {n : Nat} {a : AAct} {b : Act} (h : ActR φ n a b) : ActR φ' n a b := ⟨h.size, fun i => (h.tmp i).mono0 he, h.defers.mono0 he⟩
theorem ActR.mono {φ φ' : Phi} (he : Ext φ φ') {n : Nat} {a : AAct} {b : Act} (h : ActR φ n a b) : ActR φ' n a b := h.mono0 he.toExt0
theorem ActR.put {φ : Phi} {n : Nat} {a : AAct} {b : Act} (h : ActR φ n a b) {dst : Option Tmp} (hd : ∀ d, dst = some d → d < n) {v u : Value} (hv : VR φ v u) : ActR φ n (a.put dst v) (b.put dst u) := by
  cases dst with
  | none => exact h
  | some d =>
    have hlt := hd d rfl
    refine ⟨by show (b.tmps.setIfInBounds d u).size = n; simpa using h.size, fun i => ?_, h.defers⟩
    show VR φ (((a.tmps.set d v).get i).getD undef) ((b.tmps.setIfInBounds d u).getD i undef)
    rw [T.get_set, Array.getD_eq_getD_getElem?, Array.getElem?_setIfInBounds]
    by_cases e : i = d
    · subst e
      rw [if_pos rfl, if_pos rfl, if_pos (by rw [h.size]; exact hlt)]
      exact hv
    · rw [if_neg e, if_neg (fun e' => e e'.symm), ← Array.getD_eq_getD_getElem?]
      exact h.tmp i
theorem ActR.eval {φ : Phi} {n : Nat} {a : AAct} {b : Act} (h : ActR φ n a b) {x : Operand} (hx : opdOk x = true) : VR φ (a.eval x) (b.eval x) := by
  cases x with
  | tmp t => exact h.tmp t
  | const v => exact (plain_of hx).vr
  | global g => cases hx
  | func f => exact .func (.same (fun _ e => by cases e)) rfl (fun i x y h => by simp at h) rfl (fun i x y h => by simp at h)

structure Env where
  call : FuncId → Array Value → AHeap → Option (Value × AHeap)
  round : Nat → Array Value → Code → Code → AHeap → Option (Value × AHeap)

inductive AExit where
  | normal
  | exit (id : Nat)
  | ret
def AExit.real : AExit → Exit
  | .normal => .normal
  | .exit id => .exit id
  | .ret => .ret

/-- The value of an operation, by an evaluator of operations. -/
abbrev OpEv : Type := Env → Oper → (Operand → Value) → AHeap → Option (Value × AHeap)

def wantedE (o : Oper) (ops : List Oper) (a : AAct) : Bool :=
  match o.guard with
  | none => true
  | some (j, want) => match ops[j]? with
    | some o' => match o'.dst with
      | some d => match (a.tmps.get d).getD undef with
        | .bool b => b == want
        | _ => false
      | none => false
    | none => false
def opsE (ev : OpEv) (e : Env) (all : List Oper) : List Oper → AAct → AHeap → Option (AAct × AHeap)
  | [], a, h => some (a, h)
  | o :: l, a, h => match wantedE o all a with
    | true => match ev e o a.eval h with
      | some (v, h') => opsE ev e all l (a.put o.dst v) h'
      | none => none
    | false => opsE ev e all l (a.put o.dst undef) h
def loopE (f : AAct → AHeap → Option (AExit × AAct × AHeap)) : Nat → AAct → AHeap → Option (AExit × AAct × AHeap)
  | 0, _, _ => none
  | n + 1, a, h => match f a h with
    | some (.normal, a', h') => loopE f n a' h'
    | r => r
def toArr (t : T Value) (n : Nat) : Array Value := ((List.range n).map fun i => (t.get i).getD undef).toArray
def jumpE (a : AAct) (h : AHeap) : Option Code → Option (AExit × AAct × AHeap)
  | none => some (.normal, a, h)
  | some .ret => some (.ret, a, h)
  | some (.exit i) => some (.exit i, a, h)
  | _ => none
def rangeE (P : Program) (e : Env) (n : Nat) (around : Option Nat) (f : Operand) (ps : Array Tmp) (x y : Code) (a : AAct) (h : AHeap) : Option (AExit × AAct × AHeap) :=
  match arun P (Instr.enterLoop 0 (toArr a.tmps n) ps x y around) h with
  | some ((l, mk), h1) => match a.eval f with
    | .func (.func g) first cap => match e.call g (first ++ #[.func (.yield l) #[] #[]] ++ cap) h1 with
      | some (_, h2) => match arun P (Instr.endLoop l) h2 with
        | some (j, h3) => jumpE ⟨a.tmps, mk ++ a.defers⟩ h3 j
        | none => none
      | none => none
    | _ => none
  | none => none
/-- Regions that draw their order: by an evaluator of regions. -/
abbrev RegEv : Type := Env → List Oper → AAct → AHeap → Option (AAct × AHeap)
def codeE (P : Program) (ev : OpEv) (rv : RegEv) (e : Env) (n : Nat) (around : Option Nat) : Code → AAct → AHeap → Option (AExit × AAct × AHeap)
  | .skip, a, h => some (.normal, a, h)
  | .region _ ops false, a, h => match opsE ev e ops.toList ops.toList a h with
    | some (a', h') => some (.normal, a', h')
    | none => none
  | .region _ ops true, a, h => match rv e ops.toList a h with
    | some (a', h') => some (.normal, a', h')
    | none => none
  | .seq x y, a, h => match codeE P ev rv e n around x a h with
    | some (.normal, a', h') => codeE P ev rv e n around y a' h'
    | r => r
  | .cond c x y, a, h => match a.eval c with
    | .bool true => codeE P ev rv e n around x a h
    | .bool false => codeE P ev rv e n around y a h
    | _ => none
  | .block id x, a, h => match codeE P ev rv e n around x a h with
    | some (.exit i, a', h') => if i = id then some (.normal, a', h') else some (.exit i, a', h')
    | r => r
  | .loop x, a, h => loopE (codeE P ev rv e n around x) 1048576 a h
  | .scope x, a, h => codeE P ev rv e n around x a h
  | .rangeFunc f ps x y, a, h => rangeE P e n around f ps x y a h
  | .exit id, a, h => some (.exit id, a, h)
  | .label _, a, h => some (.normal, a, h)
  | .ret, a, h => some (.ret, a, h)
  | _, _, _ => none

/-! ### The fence -/
def Fr (r : Option Nat) : Fence := { fn := fun _ => True, depth := none, alive := false, round := r }
theorem fr_wide : Fr none = Fence.wide := rfl
theorem fr_call {r : Option Nat} {k : Nat} {P : Program} {f : FuncId} {args : Array Value} {w : World} {R : Ending → World → Prop} (h : CallsIn Fence.wide k P f args w R) : CallsIn (Fr r) k P f args w R := h
theorem fr_depth {r : Option Nat} {k : Nat} : (Fr r).depth.isSome = true → 1 ≤ k := fun h => by cases h
def RndR (φ : Phi) (a b : Option Nat) : Prop := (a = none ∧ b = none) ∨ ∃ x y, a = some x ∧ b = some y ∧ φ x = some y

/-- What a call leaves. -/
def CallPost (w0 : World) (base : Nat) (φ : Phi) (v : Value) (h' : AHeap) (e : Ending) (w' : World) : Prop :=
  ∃ u φ', e = .returned u ∧ VR φ' v u ∧ HR w0 base φ' h' w' ∧ Ext φ φ'
structure EnvS (P : Program) (w0 : World) (base : Nat) (e : Env) : Prop where
  call : ∀ f args h v h' φ args' w, e.call f args h = some (v, h') → HR w0 base φ h w → AsR φ args args' → CallsIn Fence.wide 0 P f args' w (CallPost w0 base φ v h')
  round : ∀ l tmps x y h v h' φ l' f tmps' w r, e.round l tmps x y h = some (v, h') → HR w0 base φ h w → φ l = some l' → AsR φ tmps tmps' → RoundIn (Fr r) 0 P l' f tmps' x y w (CallPost w0 base φ v h')
def OpS (P : Program) (w0 : World) (base : Nat) (ev : OpEv) (e : Env) : Prop :=
  ∀ o ρ h v h' φ w act next Q r, ev e o ρ h = some (v, h') → noDefer o.op = true → (∀ x ∈ o.op.operands, VR φ (ρ x) (act.eval x)) → HR w0 base φ h w →
    (∀ φ' u w', Ext φ φ' → VR φ' v u → HR w0 base φ' h' w' → next (act.put o.dst u) w') → o.wpIn (Fr r) 0 P act w next Q
/-- What code leaves. -/
def CodePost (w0 : World) (base : Nat) (φ : Phi) (n : Nat) (x : AExit) (a' : AAct) (h' : AHeap) (e : Exit) (act : Act) (w' : World) : Prop :=
  ∃ φ', e = x.real ∧ ActR φ' n a' act ∧ HR w0 base φ' h' w' ∧ Ext φ φ'
def RegS (P : Program) (w0 : World) (base : Nat) (rv : RegEv) (e : Env) : Prop :=
  ∀ id ops a h a' h' φ n w act r, rv e ops.toList a h = some (a', h') → allB (operOk n) ops.toList = true → ActR φ n a act → HR w0 base φ h w →
    (Code.region id ops true).wpIn (Fr r) 0 P (CodePost w0 base φ n .normal a' h') act w

section
variable {P : Program} {w0 : World} {base : Nat} {ev : OpEv} {rv : RegEv} {e : Env}
theorem HR.drew {φ : Phi} {h : AHeap} {w : World} (H : HR w0 base φ h w) (k : Nat) : HR w0 base φ h { w with drawn := k } :=
  ⟨fun b o hg hb => by
    have := H.blocks b o hg hb
    cases o <;> exact this, H.fresh, H.lo, H.apart, ⟨H.below.os, H.below.tape, H.below.output, H.below.size, H.below.block⟩, H.base_le, H.ghost⟩
theorem operOk_parts {n : Nat} {o : Oper} (h : operOk n o = true) : (∀ d, o.dst = some d → d < n) ∧ noDefer o.op = true ∧ ∀ x ∈ o.op.operands, opdOk x = true := by
  unfold operOk at h
  cases hd : o.dst with
  | none =>
    rw [hd] at h
    simp only [Bool.and_eq_true] at h
    exact ⟨fun d e => (by cases e), h.1, fun x hx => allB_iff h.2 x (by simpa using hx)⟩
  | some d =>
    rw [hd] at h
    simp only [Bool.and_eq_true] at h
    exact ⟨fun d' e => (by injection e with e; subst e; simpa using h.1.1), h.1.2, fun x hx => allB_iff h.2 x (by simpa using hx)⟩
theorem wanted_eq {φ : Phi} {n : Nat} {a : AAct} {act : Act} (h : ActR φ n a act) (o : Oper) (ops : Array Oper) : Region.wanted o (yielded ops act.tmps) = wantedE o ops.toList a := by
  unfold Region.wanted wantedE
  cases o.guard with
  | none => rfl
  | some g =>
    obtain ⟨j, want⟩ := g
    simp only []
    have e1 : ops.toList[j]? = ops[j]? := by simp
    rw [e1]
    unfold yielded
    cases ops[j]? with
    | none => rfl
    | some o' =>
      simp only [Option.bind_some]
      cases o'.dst with
      | none => rfl
      | some d =>
        simp only [Option.bind_some]
        have := h.tmp d
        rw [Array.getD_eq_getD_getElem?] at this
        cases hc : act.tmps[d]? with
        | none =>
          rw [hc] at this
          generalize hv : (a.tmps.get d).getD undef = v at this ⊢
          cases v <;> first | rfl | cases this
        | some u =>
          rw [hc] at this
          simp only [Option.getD_some] at this
          generalize hv : (a.tmps.get d).getD undef = v at this ⊢
          cases this <;> first | rfl | (cases want <;> rename_i b <;> cases b <;> rfl)
theorem ops_sound (hop : OpS P w0 base ev e) (r : Option Nat) (ops : Array Oper) (Q : Exit → Act → World → Prop) : ∀ (l : List Oper) (a : AAct) (h : AHeap) (a' : AAct) (h' : AHeap) (φ : Phi) (n : Nat) (w : World) (act : Act),
    opsE ev e ops.toList l a h = some (a', h') → (∀ o ∈ l, operOk n o = true) → ActR φ n a act → HR w0 base φ h w →
    (∀ φ' act' w', Ext φ φ' → ActR φ' n a' act' → HR w0 base φ' h' w' → Q .normal act' w') → wpListIn (Fr r) 0 P ops Q l act w
  | [], a, h, a', h', φ, n, w, act, hrun, _, ha, hh, hq => by
    rw [opsE] at hrun
    cases hrun
    exact hq φ act w (Ext.refl _) ha hh
  | o :: l, a, h, a', h', φ, n, w, act, hrun, hok, ha, hh, hq => by
    obtain ⟨h1, h2, h3⟩ := operOk_parts (hok o (List.mem_cons_self ..))
    rw [opsE] at hrun
    rw [wpListIn, wanted_eq ha o ops]
    cases hw : wantedE o ops.toList a with
    | true =>
      rw [hw] at hrun
      simp only [if_true]
      cases hv : ev e o a.eval h with
      | none => rw [hv] at hrun; cases hrun
      | some x =>
        obtain ⟨v, h1'⟩ := x
        rw [hv] at hrun
        refine hop o a.eval h v h1' φ w act _ _ r hv h2 (fun x hx => ha.eval (h3 x hx)) hh fun φ' u w' he hvu hh' => ?_
        exact ops_sound hop r ops Q l _ _ _ _ φ' n w' _ hrun (fun o' ho => hok o' (List.mem_cons_of_mem _ ho)) ((ha.mono he).put h1 hvu) hh' fun φ'' act' w' he' => hq φ'' act' w' (he.trans he')
    | false =>
      rw [hw] at hrun
      refine ⟨fun _ _ => trivial, ?_⟩
      exact ops_sound hop r ops Q l _ _ _ _ φ n w _ hrun (fun o' ho => hok o' (List.mem_cons_of_mem _ ho)) (ha.put h1 vr_undef) hh hq

/-- A loop that ends after a number of rounds. -/
theorem wpIn_loopN {F : Fence} {k0 : Nat} {Q : Exit → Act → World → Prop} {c : Code} (I : Nat → Act → World → Prop) (N : Nat) {a : Act} {w : World} (h0 : I N a w)
    (round : ∀ m a w, I m a w → c.wpIn F k0 P (Exit.then (fun a' w' => ∃ m', m' < m ∧ I m' a' w') Q) a w) : (Code.loop c).wpIn F k0 P Q a w := by
  intro b k cs hro hb hr
  have key : ∀ j a w, I j a w → ∃ e a' w', Q e a' w' ∧ ArrivesIn (Machine.fenced P F) P (lone (b.atR a (.code c :: .inLoop c :: k)) cs w) b k cs e a' w' := by
    intro j
    induction j using Nat.strongRecOn with
    | _ j ih =>
      intro a w hI
      obtain ⟨e, a1, w1, hq, harr⟩ := round j a w hI b (.inLoop c :: k) cs hro hb hr
      cases e with
      | normal =>
        obtain ⟨m', hlt, hI1⟩ := hq
        obtain ⟨e2, a2, w2, hq2, harr2⟩ := ih m' hlt a1 w1 hI1
        exact ⟨e2, a2, w2, hq2, .of_steps (StepsIn.trans harr (.one (fenced_calm hb hr rfl) stepR_inLoop)) harr2⟩
      | exit id => exact ⟨_, a1, w1, hq, .pass (x := .inLoop c) rfl (fun _ _ => .inl (by simp)) harr⟩
      | goto l => exact ⟨_, a1, w1, hq, .pass (x := .inLoop c) rfl (fun _ _ => .inl (by simp)) harr⟩
      | ret => exact ⟨_, a1, w1, hq, .pass (x := .inLoop c) rfl (fun _ _ => .inl (by simp)) harr⟩
      | panic ch => exact ⟨_, a1, w1, hq, .pass (x := .inLoop c) rfl (fun _ _ => .inl (by simp)) harr⟩
      | outgrown => exact ⟨_, a1, w1, hq, .pass (x := .inLoop c) rfl (fun _ _ => .inl (by simp)) harr⟩
  obtain ⟨e, a', w', hq, harr⟩ := key N a w h0
  exact ⟨e, a', w', hq, .of_steps (.one (fenced_calm hb hr rfl) stepR_loop) harr⟩

theorem toArr_r {φ : Phi} {n : Nat} {a : AAct} {b : Act} (h : ActR φ n a b) : AsR φ (toArr a.tmps n) b.tmps := by
  refine ⟨by simp [toArr, h.size], fun i x y hx hy => ?_⟩
  have hi : i < n := by
    rcases Nat.lt_or_ge i n with hlt | hge
    · exact hlt
    · rw [Array.getElem?_eq_none (by simp [toArr]; exact hge)] at hx; cases hx
  have hx' : x = (a.tmps.get i).getD undef := by
    simp [toArr, hi] at hx
    exact hx.symm
  have hy' : y = b.tmps.getD i undef := by rw [Array.getD_eq_getD_getElem?, hy]; rfl
  rw [hx', hy']
  exact h.tmp i

theorem sr_getLoop {φ : Phi} {l l' : Nat} (h : φ l = some l') : SR P (fun φ a b => OR φ (.loop a) (.loop b)) φ (Instr.getLoop l) (Instr.getLoop l') := by
  refine .getObj h fun o o' ho => ?_
  cases ho with
  | loop h1 h2 h4 h5 h6 h7 h8 => exact .pure (.loop h1 h2 h4 h5 h6 h7 h8)
  | _ => exact .halt
theorem sr_setObj {φ : Phi} {l l' : Nat} (h : φ l = some l') {o o' : Obj} (ho : OR φ o o') : SR P EqR φ (setObj l o) (setObj l' o') := .setObj h ho (.pure rfl)
theorem sr_enterLoop {φ : Phi} {t t' : Array Value} (ht : AsR φ t t') (ps : Array Tmp) (x y : Code) {r r' : Option Nat} (hr : RndR φ r r') (fn fn' : FuncId) :
    SR P (fun φ a b => φ a.1 = some b.1 ∧ DefsR φ a.2 b.2) φ (Instr.enterLoop fn t ps x y r) (Instr.enterLoop fn' t' ps x y r') := by
  unfold Instr.enterLoop
  have fin : ∀ φ1 (d d' : Nat) (mk mk' : List Deferred), Ext φ φ1 → φ1 d = some d' → DefsR φ1 mk mk' → SR P (fun φ a b => φ a.1 = some b.1 ∧ DefsR φ a.2 b.2) φ1
      (do pure (← newObj (.loop { state := .ready, pending := none, fn, tmps := t, params := ps, assign := x, body := y, defers := d }), mk))
      (do pure (← newObj (.loop { state := .ready, pending := none, fn := fn', tmps := t', params := ps, assign := x, body := y, defers := d' }), mk')) := by
    intro φ1 d d' mk mk' he hd hm
    refine SR.bind' (R := fun φ a b => φ a = some b) (SR.newObj (.loop rfl rfl (ht.mono he) rfl rfl rfl hd) fun _ _ _ _ h => .pure h) fun φ2 c c' he2 hcd => ?_
    exact .pure ⟨hcd, hm.mono he2⟩
  rcases hr with ⟨rfl, rfl⟩ | ⟨l, l', rfl, rfl, hl⟩
  · refine SR.bind' (R := fun φ a b => φ a = some b) (SR.newObj (.defs .nil) fun _ _ _ _ h => .pure h) fun φ1 a b he hab => ?_
    exact fin φ1 a b _ _ he hab (.cons ⟨.collected hab, AsR.empty _⟩ .nil)
  · refine SR.bind' (sr_getLoop hl) fun φ1 a b he hab => ?_
    cases hab with
    | loop h1 h2 h4 h5 h6 h7 h8 => exact fin φ1 a.defers b.defers _ _ he h8 .nil
theorem sr_beginRound {φ : Phi} {l l' : Nat} (h : φ l = some l') : SR P EqR φ (Instr.beginRound l) (Instr.beginRound l') := by
  refine SR.bind' (sr_getLoop h) fun φ1 a b he hab => ?_
  cases hab with
  | loop h1 h2 h4 h5 h6 h7 h8 =>
    refine SR.bindEq (sr_setObj (he _ _ h) (.loop rfl h2 h4 h5 h6 h7 h8)) fun φ2 _ _ => ?_
    rw [← h1]
    cases a.state with
    | ready => exact .pure rfl
    | done => exact .stops (stops_panic _)
    | busy => exact .stops (stops_panic _)
    | exhausted => exact .stops (stops_panic _)
theorem sr_endRound {φ : Phi} {l l' : Nat} (h : φ l = some l') (j : Option Code) : SR P VR φ (Instr.endRound l j) (Instr.endRound l' j) := by
  refine SR.bind' (sr_getLoop h) fun φ1 a b he hab => ?_
  cases hab with
  | loop h1 h2 h4 h5 h6 h7 h8 =>
    refine SR.bindEq (sr_setObj (he _ _ h) (.loop rfl rfl h4 h5 h6 h7 h8)) fun φ2 _ _ => ?_
    exact .pure .bool
theorem sr_endLoop {φ : Phi} {l l' : Nat} (h : φ l = some l') : SR P EqR φ (Instr.endLoop l) (Instr.endLoop l') := by
  refine SR.bind' (sr_getLoop h) fun φ1 a b he hab => ?_
  cases hab with
  | loop h1 h2 h4 h5 h6 h7 h8 =>
    have fin : ∀ φ1, φ1 l = some l' → OR φ1 (.loop a) (.loop b) → SR P EqR φ1 (do setObj l (.loop { a with state := .exhausted }); pure a.pending) (do setObj l' (.loop { b with state := .exhausted }); pure b.pending) := by
      intro φ1 hl ho
      cases ho with
      | loop h1 h2 h4 h5 h6 h7 h8 =>
        refine SR.bindEq (sr_setObj hl (.loop rfl h2 h4 h5 h6 h7 h8)) fun φ2 _ _ => ?_
        exact .pure h2
    rw [← h1]
    cases a.state == .busy
    · exact fin φ1 (he _ _ h) (.loop h1 h2 h4 h5 h6 h7 h8)
    · refine .stops ?_
      rw [if_pos rfl]
      exact Stops.bind (stops_panic _) _

theorem deferred_value {φ : Phi} {v u : Value} (h : VR φ v u) {g : FuncId} {first cap : Array Value} (hv : v = .func (.func g) first cap) : ∃ first' cap', u = .func (.func g) first' cap' ∧ AsR φ first first' ∧ AsR φ cap cap' := by
  subst hv
  cases h with
  | func hf h1 h2 h3 h4 =>
    cases hf with
    | same _ => exact ⟨_, _, rfl, ⟨h1, h2⟩, ⟨h3, h4⟩⟩
/-- Functions with a body of their own. -/
def Bodied (P : Program) (g : FuncId) : Prop := ∃ fn, P.funcs[g]? = some fn ∧ fn.body.isSome = true ∧ (fn.name == "runtime.NumGoroutine") = false
theorem run_bodied {g : FuncId} (h : Bodied P g) (args : Array Value) (w : World) : (callFunc g args).run P w = .ok (.enter g args) w := by
  obtain ⟨fn, h1, h2, h3⟩ := h
  have h4 : fn.name ≠ "runtime.NumGoroutine" := by simpa using h3
  obtain ⟨c, hc⟩ := Option.isSome_iff_exists.1 h2
  simp [callFunc, h1, h4, hc]
/-- Every function that the evaluator calls has a body. -/
def EnvB (P : Program) (e : Env) : Prop := ∀ f args h x, e.call f args h = some x → Bodied P f

theorem DefsR.append {φ : Phi} {l l' m m' : List Deferred} (h : DefsR φ l l') (h' : DefsR φ m m') : DefsR φ (l ++ m) (l' ++ m') := by
  induction h with
  | nil => exact h'
  | cons hd _ ih => exact .cons hd ih
theorem range_sound (hE : EnvS P w0 base e) (hB : EnvB P e) {r r' : Option Nat} {φ : Phi} (hr : RndR φ r r') {n : Nat} (f : Operand) (ps : Array Tmp) (x y : Code) (a : AAct) (h : AHeap) (xx : AExit) (a' : AAct) (h' : AHeap) (w : World) (act : Act)
    (Q : Exit → Act → World → Prop) (hrun : rangeE P e n r f ps x y a h = some (xx, a', h')) (hok : opdOk f = true) (ha : ActR φ n a act) (hh : HR w0 base φ h w)
    (hq : ∀ φ' act' w', Ext φ φ' → ActR φ' n a' act' → HR w0 base φ' h' w' → Q xx.real act' w') : (Code.rangeFunc f ps x y).wpIn (Fr r') 0 P Q act w := by
  unfold rangeE at hrun
  cases h1 : arun P (Instr.enterLoop 0 (toArr a.tmps n) ps x y r) h with
  | none => rw [h1] at hrun; cases hrun
  | some z =>
    obtain ⟨⟨l, mk⟩, hp1⟩ := z
    rw [h1] at hrun
    simp only at hrun
    cases hf : a.eval f with
    | func fn first cap =>
      rw [hf] at hrun
      cases fn with
      | func g =>
        simp only at hrun
        cases h2 : e.call g (first ++ #[.func (.yield l) #[] #[]] ++ cap) hp1 with
        | none => rw [h2] at hrun; cases hrun
        | some z2 =>
          obtain ⟨v2, hp2⟩ := z2
          rw [h2] at hrun
          simp only at hrun
          cases h3 : arun P (Instr.endLoop l) hp2 with
          | none => rw [h3] at hrun; cases hrun
          | some z3 =>
            obtain ⟨j, hp3⟩ := z3
            rw [h3] at hrun
            simp only at hrun
            refine wpIn_rangeFunc fun fn0 _ => ?_
            obtain ⟨φ1, lm, w1, hr1, ⟨hl, hmk⟩, hh1, he1⟩ := arun_sound (sr_enterLoop (toArr_r ha) ps x y hr 0 fn0) hh h1
            obtain ⟨l', mk'⟩ := lm
            obtain ⟨first', cap', hu, hfi, hca⟩ := deferred_value (ha.eval hok) hf
            have hyl : VR φ1 (.func (.yield l) #[] #[]) (.func (.yield l') #[] #[]) := .func (.yield hl) rfl (fun i x y h => by simp at h) rfl (fun i x y h => by simp at h)
            have hargs : AsR φ1 (first ++ #[.func (.yield l) #[] #[]] ++ cap) (first' ++ #[.func (.yield l') #[] #[]] ++ cap') := ((hfi.mono he1).append (AsR.one hyl)).append (hca.mono he1)
            refine ⟨l', mk', w1, { target := .fn (.func g) cap', args := first' ++ #[.func (.yield l') #[] #[]] }, w1, g, first' ++ #[.func (.yield l') #[] #[]] ++ cap', w1, hr1, ?_, fun _ _ => trivial, ?_, fr_depth, ?_⟩
            · simp only [resolve, hu]
              simp [Deferred.ofValue, Act.eval]
            · exact run_bodied (hB _ _ _ _ h2) _ _
            · refine fr_call ((hE.call g _ _ _ _ φ1 _ w1 h2 hh1 hargs).mono fun en w2 hen => ?_)
              obtain ⟨u2, φ2, rfl, _, hh2, he2⟩ := hen
              obtain ⟨φ3, j', w3, hr3, hj, hh3, he3⟩ := arun_sound (sr_endLoop (he2 _ _ hl)) hh2 h3
              cases hj
              refine ⟨j, w3, hr3, ?_⟩
              have hext : Ext φ φ3 := he1.trans (he2.trans he3)
              have hdef : DefsR φ3 (mk ++ a.defers) (mk' ++ act.defers) := DefsR.append (hmk.mono (he2.trans he3)) (ha.defers.mono hext)
              have hact : ActR φ3 n ⟨a.tmps, mk ++ a.defers⟩ { act with defers := mk' ++ act.defers } := ⟨ha.size, fun i => (ha.tmp i).mono hext, hdef⟩
              cases j with
              | none =>
                simp only [jumpE] at hrun
                cases hrun
                exact hq φ3 _ w3 hext hact hh3
              | some c =>
                cases c <;> simp only [jumpE] at hrun <;> first | (cases hrun; done) | skip
                · cases hrun
                  exact wpIn_exit (hq φ3 _ w3 hext hact hh3)
                · cases hrun
                  exact wpIn_ret (hq φ3 _ w3 hext hact hh3)
      | _ => cases hrun
    | _ => rw [hf] at hrun; cases hrun

theorem loop_sound {F : Fence} {n : Nat} {c : Code} {f : AAct → AHeap → Option (AExit × AAct × AHeap)} {φ0 : Phi}
    (hf : ∀ a h x a' h' φ w act Q, Ext φ0 φ → f a h = some (x, a', h') → ActR φ n a act → HR w0 base φ h w → (∀ φ' act' w', Ext φ φ' → ActR φ' n a' act' → HR w0 base φ' h' w' → Q x.real act' w') → c.wpIn F 0 P Q act w)
    (N : Nat) (a : AAct) (h : AHeap) (x : AExit) (a' : AAct) (h' : AHeap) (φ : Phi) (he0 : Ext φ0 φ) (w : World) (act : Act) (Q : Exit → Act → World → Prop)
    (hrun : loopE f N a h = some (x, a', h')) (ha : ActR φ n a act) (hh : HR w0 base φ h w) (hq : ∀ φ' act' w', Ext φ φ' → ActR φ' n a' act' → HR w0 base φ' h' w' → Q x.real act' w') : (Code.loop c).wpIn F 0 P Q act w := by
  refine wpIn_loopN (fun m act w => ∃ a1 h1 φ1, loopE f m a1 h1 = some (x, a', h') ∧ ActR φ1 n a1 act ∧ HR w0 base φ1 h1 w ∧ Ext φ φ1) N ⟨a, h, φ, hrun, ha, hh, Ext.refl _⟩ ?_
  rintro m act1 w1 ⟨a1, h1, φ1, hr1, ha1, hh1, he1⟩
  cases m with
  | zero => cases hr1
  | succ m =>
    rw [loopE] at hr1
    cases hfr : f a1 h1 with
    | none => rw [hfr] at hr1; cases hr1
    | some z =>
      obtain ⟨x1, a2, h2⟩ := z
      rw [hfr] at hr1
      refine hf a1 h1 x1 a2 h2 φ1 w1 act1 _ (he0.trans he1) hfr ha1 hh1 fun φ2 act2 w2 he2 ha2 hh2 => ?_
      cases x1 with
      | normal => exact ⟨m, by omega, a2, h2, φ2, hr1, ha2, hh2, he1.trans he2⟩
      | exit i =>
        simp only at hr1
        cases hr1
        exact hq φ2 act2 w2 (he1.trans he2) ha2 hh2
      | ret =>
        simp only at hr1
        cases hr1
        exact hq φ2 act2 w2 (he1.trans he2) ha2 hh2

theorem RndR.mono {φ φ' : Phi} (he : Ext φ φ') {r r' : Option Nat} (h : RndR φ r r') : RndR φ' r r' := by
  rcases h with h | ⟨x, y, rfl, rfl, h⟩
  · exact .inl h
  · exact .inr ⟨x, y, rfl, rfl, he _ _ h⟩
theorem code_sound (hE : EnvS P w0 base e) (hB : EnvB P e) (hop : OpS P w0 base ev e) (hrg : RegS P w0 base rv e) {r r' : Option Nat} {n : Nat} : ∀ (c : Code) (a : AAct) (h : AHeap) (x : AExit) (a' : AAct) (h' : AHeap) (φ : Phi) (w : World) (act : Act) (Q : Exit → Act → World → Prop),
    codeE P ev rv e n r c a h = some (x, a', h') → codeOk n c = true → RndR φ r r' → ActR φ n a act → HR w0 base φ h w →
    (∀ φ' act' w', Ext φ φ' → ActR φ' n a' act' → HR w0 base φ' h' w' → Q x.real act' w') → c.wpIn (Fr r') 0 P Q act w := by
  intro c
  induction c with
  | skip =>
    intro a h x a' h' φ w act Q hrun _ _ ha hh hq
    cases hrun
    exact wpIn_skip (hq φ act w (Ext.refl _) ha hh)
  | region id ops draw =>
    intro a h x a' h' φ w act Q hrun hok _ ha hh hq
    cases draw with
    | false =>
      rw [codeE] at hrun
      cases hr : opsE ev e ops.toList ops.toList a h with
      | none => rw [hr] at hrun; cases hrun
      | some z =>
        obtain ⟨a1, h1⟩ := z
        rw [hr] at hrun
        cases hrun
        exact wpIn_region_list (ops_sound hop r' ops Q ops.toList a h _ _ φ n w act hr (fun o ho => allB_iff hok o ho) ha hh hq)
    | true =>
      rw [codeE] at hrun
      cases hr : rv e ops.toList a h with
      | none => rw [hr] at hrun; cases hrun
      | some z =>
        obtain ⟨a1, h1⟩ := z
        rw [hr] at hrun
        cases hrun
        exact wpIn_mono (hrg id ops a h _ _ φ n w act r' hr hok ha hh) fun ex ac wo ⟨φ', q1, q2, q3, q4⟩ => q1 ▸ hq φ' ac wo q4 q2 q3
  | seq c1 c2 ih1 ih2 =>
    intro a h x a' h' φ w act Q hrun hok hr ha hh hq
    simp only [codeOk, Bool.and_eq_true] at hok
    rw [codeE] at hrun
    cases h1 : codeE P ev rv e n r c1 a h with
    | none => rw [h1] at hrun; cases hrun
    | some z =>
      obtain ⟨x1, a1, hp1⟩ := z
      rw [h1] at hrun
      refine wpIn_seq (ih1 a h x1 a1 hp1 φ w act _ h1 hok.1 hr ha hh fun φ1 act1 w1 he1 ha1 hh1 => ?_)
      cases x1 with
      | normal => exact ih2 a1 hp1 x a' h' φ1 w1 act1 Q hrun hok.2 (hr.mono he1) ha1 hh1 fun φ2 act2 w2 he2 => hq φ2 act2 w2 (he1.trans he2)
      | exit i =>
        simp only at hrun
        cases hrun
        exact hq φ1 act1 w1 he1 ha1 hh1
      | ret =>
        simp only at hrun
        cases hrun
        exact hq φ1 act1 w1 he1 ha1 hh1
  | cond c c1 c2 ih1 ih2 =>
    intro a h x a' h' φ w act Q hrun hok hr ha hh hq
    simp only [codeOk, Bool.and_eq_true] at hok
    rw [codeE] at hrun
    have hc := ha.eval hok.1
    cases hv : a.eval c with
    | bool b =>
      rw [hv] at hrun hc
      generalize hu : act.eval c = u at hc
      cases hc
      cases b with
      | true => exact wpIn_cond_true hu (ih1 a h x a' h' φ w act Q hrun hok.2.1 hr ha hh hq)
      | false => exact wpIn_cond_false hu (ih2 a h x a' h' φ w act Q hrun hok.2.2 hr ha hh hq)
    | _ => rw [hv] at hrun; cases hrun
  | block id c ih =>
    intro a h x a' h' φ w act Q hrun hok hr ha hh hq
    rw [codeE] at hrun
    cases h1 : codeE P ev rv e n r c a h with
    | none => rw [h1] at hrun; cases hrun
    | some z =>
      obtain ⟨x1, a1, hp1⟩ := z
      rw [h1] at hrun
      refine wpIn_block (ih a h x1 a1 hp1 φ w act _ h1 hok hr ha hh fun φ1 act1 w1 he1 ha1 hh1 => ?_)
      cases x1 with
      | normal =>
        simp only at hrun
        cases hrun
        exact hq φ1 act1 w1 he1 ha1 hh1
      | exit i =>
        simp only at hrun
        show if i = id then Q .normal act1 w1 else Q (.exit i) act1 w1
        by_cases e : i = id
        · rw [if_pos e] at hrun
          cases hrun
          rw [if_pos e]
          exact hq φ1 act1 w1 he1 ha1 hh1
        · rw [if_neg e] at hrun
          cases hrun
          rw [if_neg e]
          exact hq φ1 act1 w1 he1 ha1 hh1
      | ret =>
        simp only at hrun
        cases hrun
        exact hq φ1 act1 w1 he1 ha1 hh1
  | loop c ih =>
    intro a h x a' h' φ w act Q hrun hok hr ha hh hq
    rw [codeE] at hrun
    refine loop_sound (n := n) (f := fun a1 h1 => codeE P ev rv e n r c a1 h1) ?_ 1048576 a h x a' h' φ (Ext.refl φ) w act Q hrun ha hh hq
    intro a1 h1 x1 a2 h2 φ1 w1 act1 Q1 he1 hr1 ha1 hh1 hq1
    exact ih a1 h1 x1 a2 h2 φ1 w1 act1 Q1 hr1 hok (hr.mono he1) ha1 hh1 hq1
  | rangeFunc f ps c1 c2 _ _ =>
    intro a h x a' h' φ w act Q hrun hok hr ha hh hq
    simp only [codeOk, Bool.and_eq_true] at hok
    rw [codeE] at hrun
    exact range_sound hE hB hr f ps c1 c2 a h x a' h' w act Q hrun hok.1 ha hh hq
  | exit id =>
    intro a h x a' h' φ w act Q hrun _ _ ha hh hq
    cases hrun
    exact wpIn_exit (hq φ act w (Ext.refl _) ha hh)
  | scope c ih =>
    intro a h x a' h' φ w act Q hrun hok hr ha hh hq
    rw [codeE] at hrun
    refine wpIn_scope (ih a h x a' h' φ w act _ hrun hok hr ha hh fun φ1 act1 w1 he1 ha1 hh1 => ?_)
    have := hq φ1 act1 w1 he1 ha1 hh1
    cases x <;> exact this
  | label l =>
    intro a h x a' h' φ w act Q hrun _ _ ha hh hq
    cases hrun
    exact wpIn_label (hq φ act w (Ext.refl _) ha hh)
  | goto l => intro a h x a' h' φ w act Q hrun; cases hrun
  | ret =>
    intro a h x a' h' φ w act Q hrun _ _ ha hh hq
    cases hrun
    exact wpIn_ret (hq φ act w (Ext.refl _) ha hh)
  | refuse s => intro a h x a' h' φ w act Q hrun; cases hrun
end
end
end Go.Ab

/- An evaluator of the model's code over an abstract heap: calls. -/
namespace Go.Ab
open Go.RowKit
noncomputable section

def resS (ρ : Nat → Value) : List ResultVar → Sem (List Value)
  | [] => pure []
  | .tmp t :: l => do
    let vs ← resS ρ l
    pure (ρ t :: vs)
  | .cell a ty :: l => do
    let v ← (do loadVar ty (← asAddr (ρ a)))
    let vs ← resS ρ l
    pure (v :: vs)
def packR : List Value → Value
  | [v] => v
  | vs => .tuple vs.toArray
def leaveE (P : Program) : List Deferred → AHeap → Option AHeap
  | [], h => some h
  | ⟨.collected r, _⟩ :: ds, h => match arun P (Instr.takeDeferred r) h with
    | some ([], h') => leaveE P ds h'
    | _ => none
  | _ :: _, _ => none
def okFn (fn : Func) : Bool := match fn.body with
  | some c => !(fn.name == "runtime.NumGoroutine") && codeOk fn.ntmps c
  | none => false
def tmpOf (a : AAct) (t : Nat) : Value := (a.tmps.get t).getD undef
def envE (P : Program) (ev : OpEv) (rv : RegEv) : Nat → Env
  | 0 => ⟨fun _ _ _ => none, fun _ _ _ _ _ => none⟩
  | d + 1 =>
    { call := fun f args h => match P.funcs[f]? with
        | some fn => match okFn fn && Nat.ble args.size fn.ntmps with
          | true => match fn.body with
            | some c => match codeE P ev rv (envE P ev rv d) fn.ntmps none c ⟨T.ofList args.toList, []⟩ h with
              | some (.exit _, _, _) => none
              | some (_, a1, h1) => match leaveE P a1.defers h1 with
                | some h2 => match arun P (resS (tmpOf a1) fn.results.toList) h2 with
                  | some (vs, h3) => some (packR vs, h3)
                  | none => none
                | none => none
              | none => none
            | none => none
          | false => none
        | none => none
      round := fun l tmps x y h => match codeOk tmps.size x && codeOk tmps.size y with
        | true => match codeE P ev rv (envE P ev rv d) tmps.size (some l) x ⟨T.ofList tmps.toList, []⟩ h with
          | some (.normal, a1, h1) => match arun P (Instr.beginRound l) h1 with
            | some (_, h2) => match codeE P ev rv (envE P ev rv d) tmps.size (some l) y a1 h2 with
              | some (.normal, _, h3) => arun P (Instr.endRound l none) h3
              | some (.ret, _, h3) => arun P (Instr.endRound l (some .ret)) h3
              | some (.exit i, _, h3) => arun P (Instr.endRound l (some (.exit i))) h3
              | none => none
            | none => none
          | _ => none
        | false => none }

section
variable {P : Program} {w0 : World} {base : Nat}
theorem sr_asAddr {φ : Phi} {v u : Value} (h : VR φ v u) : SR P AddrR φ (asAddr v) (asAddr u) := by
  cases h <;> first | exact .pure ‹_› | exact .halt | exact .stops (stops_panic (P := P) (α := Addr) .nilDeref)
def ListR (φ : Phi) (l l' : List Value) : Prop := AsR φ l.toArray l'.toArray
theorem ListR.cons {φ : Phi} {x y : Value} {l l' : List Value} (h : VR φ x y) (h' : ListR φ l l') : ListR φ (x :: l) (y :: l') := by
  have := (AsR.one h).append h'
  simpa [ListR] using this
/-- The results of a function, as the model reads them. -/
def resG (tmps : Array Value) : ResultVar → Sem Value
  | .tmp t => pure (tmps.getD t undef)
  | .cell a t => do loadVar t (← asAddr (tmps.getD a undef))
theorem sr_resS {ρ : Nat → Value} {tmps : Array Value} : ∀ (l : List ResultVar) {φ : Phi}, (∀ i, VR φ (ρ i) (tmps.getD i undef)) → SR P ListR φ (resS ρ l) (l.mapM (resG tmps))
  | [], _, _ => .pure (AsR.empty _)
  | .tmp t :: l, φ, h => by
    rw [List.mapM_cons]
    show SR P ListR φ (resS ρ l >>= fun vs => pure (ρ t :: vs)) (l.mapM (resG tmps) >>= fun vs => pure (tmps.getD t undef :: vs))
    refine SR.bind' (sr_resS l h) fun φ1 a b he hab => ?_
    exact .pure (ListR.cons ((h t).mono he) hab)
  | .cell a ty :: l, φ, h => by
    rw [List.mapM_cons]
    refine SR.bind' (R := VR) (SR.bind' (sr_asAddr (h a)) fun φ1 x y he hxy => sr_loadVar ty hxy) fun φ1 v u he hvu => ?_
    refine SR.bind' (sr_resS (φ := φ1) l fun i => (h i).mono he) fun φ2 vs us he2 hvs => ?_
    exact .pure (ListR.cons (hvu.mono he2) hvs)
theorem packR_r {φ : Phi} {l l' : List Value} (h : ListR φ l l') : VR φ (packR l) (packR l') := by
  match l, l', h with
  | [], [], _ => exact vr_undef
  | [], _ :: _, h => have := h.1; simp at this
  | _ :: _, [], h => have := h.1; simp at this
  | [x], [y], h => exact h.2 0 x y (by simp) (by simp)
  | [_], _ :: _ :: _, h => have := h.1; simp at this
  | _ :: _ :: _, [_], h => have := h.1; simp at this
  | _ :: _ :: _, _ :: _ :: _, h => exact .tuple h.1 h.2
theorem results_eq (fn : Func) (tmps : Array Value) : results fn tmps = (do let vs ← fn.results.toList.mapM (resG tmps); pure (packR vs)) := by
  unfold results
  rw [Array.mapM_eq_mapM_toList]
  simp only [map_eq_pure_bind, bind_assoc, pure_bind]
  congr 1
  funext vs
  congr 1
  match vs with
  | [] => rfl
  | [x] => rfl
  | _ :: _ :: _ => rfl

/-- A tree that leaves the world as it is. -/
def Still (P : Program) {α : Type} (s : Sem α) : Prop := ∀ w a w', s.run P w = .ok a w' → w' = w
theorem Still.bind {α β : Type} {s : Sem α} {f : α → Sem β} (h : Still P s) (hf : ∀ a, Still P (f a)) : Still P (s >>= f) := fun w a w' hr => by
  rw [Sem.run_bind] at hr
  cases hs : s.run P w with
  | halt x wx => rw [hs] at hr; cases hr
  | ok b w1 =>
    rw [hs] at hr
    obtain rfl := h w b w1 hs
    exact hf b _ a w' hr
theorem Still.pure {α : Type} (a : α) : Still P (Pure.pure a : Sem α) := fun w b w' h => by cases h; rfl
theorem Still.halt {α : Type} (x : Halt) : Still P (.halt x : Sem α) := fun w b w' h => by cases h
theorem still_program : Still P Go.program := fun w b w' h => by cases h; rfl
theorem still_underlying (t : TypeId) : Still P (underlying t) := Still.bind still_program fun p => by
  cases p.underlying t with
  | none => exact Still.halt _
  | some d => exact Still.pure d
theorem still_sizeOf (t : TypeId) : Still P (sizeOf t) := Still.bind (Still.bind still_program fun p => by
  cases p.info? t with
  | none => exact Still.halt _
  | some d => exact Still.pure d) fun i => Still.pure _
theorem still_isAgg (t : TypeId) : Still P (isAgg t) := Still.bind (still_underlying t) fun d => by cases d <;> exact Still.pure _
theorem still_load (a : Addr) : Still P (load a) := fun w v w' h => by
  rw [run_load] at h
  cases hc : w.cell? a with
  | some u => rw [hc] at h; cases h; rfl
  | none =>
    rw [hc] at h
    cases hf : w.farLoad P a (Mode.plain == .atomic) with
    | ok x =>
      rw [hf] at h
      simp only at h
      cases h; rfl
    | error e => rw [hf] at h; cases h
theorem still_loadCellsFrom : ∀ (n i : Nat) (a : Addr) (c : Array Value), Still P (loadCellsFrom a i n c)
  | 0, _, _, _ => Still.pure _
  | n + 1, i, a, c => Still.bind (still_load _) fun v => still_loadCellsFrom n (i + 1) a _
theorem still_loadVar (t : TypeId) (a : Addr) : Still P (loadVar t a) := Still.bind (still_isAgg t) fun b => by
  cases b with
  | true => exact Still.bind (still_sizeOf t) fun n => Still.bind (still_loadCellsFrom n 0 a #[]) fun c => Still.pure _
  | false => exact still_load a
theorem still_panic {α : Type} (e : RuntimeError) : Still P (runtimePanic e : Sem α) := fun w b w' h => by
  unfold runtimePanic at h
  rw [Sem.run_bind] at h
  cases e <;> simp [Sem.run_bind, Result.andThen] at h
  · split at h
    · rename_i a w1 _
      split at h <;> cases h
    · cases h
  · split at h
    · rename_i a w1 _
      split at h <;> cases h
    · cases h
theorem still_asAddr (v : Value) : Still P (asAddr v) := by
  cases v <;> first | exact Still.halt _ | skip
  rename_i a
  cases a with
  | none => exact still_panic .nilDeref
  | some a => exact Still.pure a
theorem still_resG (tmps : Array Value) (x : ResultVar) : Still P (resG tmps x) := by
  cases x with
  | tmp t => exact Still.pure _
  | cell a t => exact Still.bind (still_asAddr _) fun p => still_loadVar t p
theorem still_mapM (tmps : Array Value) : ∀ l : List ResultVar, Still P (l.mapM (resG tmps))
  | [] => Still.pure _
  | x :: l => by
    rw [List.mapM_cons]
    exact Still.bind (still_resG tmps x) fun v => Still.bind (still_mapM tmps l) fun vs => Still.pure _
theorem still_results (fn : Func) (tmps : Array Value) : Still P (results fn tmps) := by
  rw [results_eq]
  exact Still.bind (still_mapM tmps _) fun vs => Still.pure _

theorem sr_takeDeferred {φ : Phi} {r r' : Nat} (h : φ r = some r') : SR P DefsR φ (Instr.takeDeferred r) (Instr.takeDeferred r') := by
  refine .getObj h fun o o' ho => ?_
  cases ho with
  | @defs l l' hd =>
    show SR P DefsR φ (setObj r (.deferred none) >>= fun _ => pure l) (setObj r' (.deferred none) >>= fun _ => pure l')
    exact SR.bindEq (sr_setObj h .defsNone) fun φ2 _ he => .pure (hd.mono he)
  | _ => exact .halt
theorem leave_sound {fn : Func} {R : Ending → World → Prop} {tmps : Array Value} {r : Option Nat} : ∀ (ds ds' : List Deferred) (h h' : AHeap) (φ : Phi) (w : World), DefsR φ ds ds' → leaveE P ds h = some h' → HR w0 base φ h w →
    (∀ φ' w', Ext φ φ' → HR w0 base φ' h' w' → ∃ v, (results fn tmps).run P w' = .ok v w' ∧ R (.returned v) w') → LeavesInM (Fr r) 0 P fn tmps R ds' .returning w
  | [], [], h, h', φ, w, _, hr, hh, hq => by
    rw [leaveE] at hr
    injection hr with hr
    subst hr
    exact hq φ w (Ext.refl _) hh
  | [], _ :: _, _, _, _, _, hd, _, _, _ => by cases hd
  | _ :: _, [], _, _, _, _, hd, _, _, _ => by cases hd
  | ⟨t, a⟩ :: ds, d' :: ds', h, h', φ, w, hd, hr, hh, hq => by
    cases hd with
    | cons hd hds =>
      cases t with
      | collected rr =>
        rw [leaveE] at hr
        cases h1 : arun P (Instr.takeDeferred rr) h with
        | none => rw [h1] at hr; cases hr
        | some z =>
          obtain ⟨l, h2⟩ := z
          rw [h1] at hr
          cases l with
          | cons _ _ => cases hr
          | nil =>
            have ht := hd.target
            generalize hdt : d'.target = t' at ht
            cases ht with
            | @collected _ rr' hrr =>
              obtain ⟨φ1, l1, w1, e1, hl, hh1, he1⟩ := arun_sound (sr_takeDeferred hrr) hh h1
              cases hl
              refine ⟨by simp, .inl ⟨rr', w1, hdt, e1, ?_⟩⟩
              exact leave_sound ds ds' h2 h' φ1 w1 (hds.mono he1) hr hh1 fun φ2 w2 he2 => hq φ2 w2 (he1.trans he2)
      | _ => rw [leaveE] at hr <;> first | cases hr | (intro r; simp)

theorem actR_start {φ : Phi} {args args' : Array Value} (h : AsR φ args args') {n : Nat} (hn : args.size ≤ n) : ActR φ n ⟨T.ofList args.toList, []⟩ { tmps := args' ++ Array.replicate (n - args'.size) undef, defers := [] } := by
  have hs := h.1
  refine ⟨by simp; omega, fun i => ?_, .nil⟩
  show VR φ (((T.ofList args.toList).get i).getD undef) _
  rw [T.get_ofList, Array.getD_eq_getD_getElem?, Array.getElem?_append]
  have e1 : args.toList[i]? = args[i]? := by simp
  rw [e1]
  by_cases hi : i < args'.size
  · rw [if_pos hi]
    have hi' : i < args.size := by omega
    rw [Array.getElem?_eq_getElem hi', Array.getElem?_eq_getElem hi]
    exact h.2 i _ _ (Array.getElem?_eq_getElem hi') (Array.getElem?_eq_getElem hi)
  · rw [if_neg hi, Array.getElem?_eq_none (by omega : args.size ≤ i)]
    rw [Array.getElem?_replicate]
    split <;> exact vr_undef
theorem actR_round {φ : Phi} {args args' : Array Value} (h : AsR φ args args') : ActR φ args.size ⟨T.ofList args.toList, []⟩ { tmps := args', defers := [] } := by
  have := actR_start h (Nat.le_refl args.size)
  rw [show args.size - args'.size = 0 from by rw [h.1]; omega] at this
  simpa using this

theorem env_bodied {ev : OpEv} {rv : RegEv} : ∀ d, EnvB P (envE P ev rv d)
  | 0, _, _, _, _, h => by cases h
  | d + 1, f, args, h, x, hr => by
    simp only [envE] at hr
    cases hf : P.funcs[f]? with
    | none => rw [hf] at hr; cases hr
    | some fn =>
      rw [hf] at hr
      cases hk : okFn fn with
      | false => simp [hk] at hr
      | true =>
        unfold okFn at hk
        cases hb : fn.body with
        | none => rw [hb] at hk; cases hk
        | some c =>
          rw [hb] at hk
          simp only [Bool.and_eq_true] at hk
          exact ⟨fn, hf, by rw [hb]; rfl, by simpa using hk.1⟩
theorem env_sound {ev : OpEv} {rv : RegEv} (hop : ∀ e, EnvS P w0 base e → EnvB P e → OpS P w0 base ev e) (hrg : ∀ e, EnvS P w0 base e → EnvB P e → RegS P w0 base rv e) : ∀ d, EnvS P w0 base (envE P ev rv d)
  | 0 => ⟨fun _ _ _ _ _ _ _ _ h => (by cases h), fun _ _ _ _ _ _ _ _ _ _ _ _ _ h => (by cases h)⟩
  | d + 1 => by
    have hE := env_sound hop hrg d
    have hB := env_bodied (P := P) (ev := ev) (rv := rv) d
    have code := fun {r r' : Option Nat} {n : Nat} => code_sound (r := r) (r' := r') (n := n) hE hB (hop _ hE hB) (hrg _ hE hB)
    constructor
    · intro f args h v h' φ args' w hr hh ha
      have hbod := env_bodied (P := P) (ev := ev) (rv := rv) (d + 1) f args h _ hr
      simp only [envE] at hr
      cases hf : P.funcs[f]? with
      | none => rw [hf] at hr; cases hr
      | some fn =>
        rw [hf] at hr
        simp only at hr
        cases hk : okFn fn && Nat.ble args.size fn.ntmps with
        | false => rw [hk] at hr; cases hr
        | true =>
          rw [hk] at hr
          simp only at hr
          simp only [Bool.and_eq_true] at hk
          obtain ⟨hok, hsz⟩ := hk
          have hsz : args.size ≤ fn.ntmps := Nat.le_of_ble_eq_true hsz
          unfold okFn at hok
          cases hb : fn.body with
          | none => rw [hb] at hok; cases hok
          | some c =>
            rw [hb] at hok hr
            simp only [Bool.and_eq_true] at hok
            simp only at hr
            cases hc : codeE P ev rv (envE P ev rv d) fn.ntmps none c ⟨T.ofList args.toList, []⟩ h with
            | none => rw [hc] at hr; cases hr
            | some z =>
              obtain ⟨x, a1, h1⟩ := z
              rw [hc] at hr
              have fin : (match leaveE P a1.defers h1 with
                | some h2 => match arun P (resS (tmpOf a1) fn.results.toList) h2 with
                  | some (vs, h3) => some (packR vs, h3)
                  | none => none
                | none => none) = some (v, h') → ∀ φ1 act1 w1, Ext φ φ1 → ActR φ1 fn.ntmps a1 act1 → HR w0 base φ1 h1 w1 → LeavesInM Fence.wide 0 P fn act1.tmps (CallPost w0 base φ v h') act1.defers .returning w1 := by
                intro hr φ1 act1 w1 he1 ha1 hh1
                cases hl : leaveE P a1.defers h1 with
                | none => rw [hl] at hr; cases hr
                | some h2 =>
                  rw [hl] at hr
                  simp only at hr
                  cases hres : arun P (resS (tmpOf a1) fn.results.toList) h2 with
                  | none => rw [hres] at hr; cases hr
                  | some z3 =>
                    obtain ⟨vs, h3⟩ := z3
                    rw [hres] at hr
                    simp only at hr
                    cases hr
                    refine leave_sound (r := none) a1.defers act1.defers h1 h2 φ1 w1 ha1.defers hl hh1 fun φ2 w2 he2 hh2 => ?_
                    have hsr : SR P (fun φ a b => VR φ (packR a) b) φ2 (resS (tmpOf a1) fn.results.toList) (results fn act1.tmps) := by
                      rw [results_eq]
                      have h1 := SR.bind' (R' := fun φ a b => VR φ (packR a) b) (f := fun vs => pure vs) (g := fun vs => pure (packR vs)) (sr_resS (P := P) (φ := φ2) (ρ := tmpOf a1) fn.results.toList fun i => (ha1.tmp i).mono he2) fun φ3 a b _ hab => .pure (packR_r hab)
                      rw [bind_pure] at h1
                      exact h1
                    obtain ⟨φ3, u, w3, e3, hu, hh3, he3⟩ := arun_sound hsr hh2 hres
                    obtain rfl := still_results fn act1.tmps w2 u w3 e3
                    exact ⟨u, e3, u, φ3, rfl, hu, hh3, he1.trans (he2.trans he3)⟩
              cases x with
              | exit i => cases hr
              | normal => exact callsIn_of_wp_marks hf hb trivial (code c _ _ .normal a1 h1 φ w _ _ hc hok.2 (.inl ⟨rfl, rfl⟩) (actR_start ha hsz) hh fun φ1 act1 w1 he1 ha1 hh1 => fin hr φ1 act1 w1 he1 ha1 hh1)
              | ret => exact callsIn_of_wp_marks hf hb trivial (code c _ _ .ret a1 h1 φ w _ _ hc hok.2 (.inl ⟨rfl, rfl⟩) (actR_start ha hsz) hh fun φ1 act1 w1 he1 ha1 hh1 => fin hr φ1 act1 w1 he1 ha1 hh1)
    · intro l tmps x y h v h' φ l' f tmps' w r hr hh hl ht
      simp only [envE] at hr
      cases hk : codeOk tmps.size x && codeOk tmps.size y with
      | false => rw [hk] at hr; cases hr
      | true =>
        rw [hk] at hr
        simp only at hr
        simp only [Bool.and_eq_true] at hk
        refine roundIn_of_wpIn trivial ?_
        cases hc : codeE P ev rv (envE P ev rv d) tmps.size (some l) x ⟨T.ofList tmps.toList, []⟩ h with
        | none => rw [hc] at hr; cases hr
        | some z =>
          obtain ⟨x1, a1, h1⟩ := z
          rw [hc] at hr
          cases x1 with
          | exit i => cases hr
          | ret => cases hr
          | normal =>
            simp only at hr
            refine code x _ _ .normal a1 h1 φ w _ _ hc hk.1 (.inr ⟨l, l', rfl, rfl, hl⟩) (actR_round ht) hh fun φ1 act1 w1 he1 ha1 hh1 => ?_
            cases hb : arun P (Instr.beginRound l) h1 with
            | none => rw [hb] at hr; cases hr
            | some z2 =>
              obtain ⟨u2, h2⟩ := z2
              rw [hb] at hr
              simp only at hr
              obtain ⟨φ2, _, w2, e2, _, hh2, he2⟩ := arun_sound (sr_beginRound (he1 _ _ hl)) hh1 hb
              refine ⟨w2, e2, ?_⟩
              cases hy : codeE P ev rv (envE P ev rv d) tmps.size (some l) y a1 h2 with
              | none => rw [hy] at hr; cases hr
              | some z3 =>
                obtain ⟨x3, a3, h3⟩ := z3
                rw [hy] at hr
                refine code y _ _ x3 a3 h3 φ2 w2 _ _ hy hk.2 (.inr ⟨l, l', rfl, rfl, he2 _ _ (he1 _ _ hl)⟩) (ha1.mono he2) hh2 fun φ3 act3 w3 he3 ha3 hh3 => ?_
                have hl3 := he3 _ _ (he2 _ _ (he1 _ _ hl))
                have fin : ∀ j, arun P (Instr.endRound l j) h3 = some (v, h') → ∃ u w', (Instr.endRound l' j).run P w3 = .ok u w' ∧ CallPost w0 base φ v h' (.returned u) w' := by
                  intro j hj
                  obtain ⟨φ4, u4, w4, e4, hu4, hh4, he4⟩ := arun_sound (sr_endRound hl3 j) hh3 hj
                  exact ⟨u4, w4, e4, u4, φ4, rfl, hu4, hh4, he1.trans (he2.trans (he3.trans he4))⟩
                cases x3 with
                | normal => exact fin _ hr
                | ret => exact fin _ hr
                | exit i => exact fin _ hr
end
end
end Go.Ab
