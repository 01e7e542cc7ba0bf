/- An evaluator of the model's code over an abstract heap: the model's own trees do the same on related values. -/
import Derived.Test.YtmhgicpjeeegcaaGreatAb3
import Derived.Laws.Sem
namespace Go.Ab
open Go.RowKit

def EqR {α : Type} : Phi → α → α → Prop := fun _ a b => a = b
/-- The type stands in the program's table. -/
def hasT (P : Program) (t : TypeId) : Bool := Nat.blt t P.types.size
def hasEl (P : Program) (t : TypeId) : Bool := match P.underlying t with
  | some (.slice e) => hasT P e
  | some (.map _ e) => hasT P e
  | _ => true
theorem hasEl_slice {P : Program} {t e : TypeId} (h : hasEl P t = true) (hu : P.underlying t = some (.slice e)) : hasT P e = true := by
  unfold hasEl at h; rw [hu] at h; exact h
theorem hasEl_map {P : Program} {t k e : TypeId} (h : hasEl P t = true) (hu : P.underlying t = some (.map k e)) : hasT P e = true := by
  unfold hasEl at h; rw [hu] at h; exact h
/-- What is asked of a program: its zero values hold no addresses. -/
structure Good (P : Program) : Prop where
  zero : ∀ t i v, hasT P t = true → P.info? t = some i → i.zero = some v → Plain v

section
variable {P : Program} {φ : Phi} {α β γ δ : Type} {R : Phi → α → β → Prop}
theorem SR.bind' {R' : Phi → γ → δ → Prop} {s : Sem α} {s' : Sem β} {f : α → Sem γ} {g : β → Sem δ}
    (h : SR P R φ s s') (hf : ∀ φ' a b, Ext φ φ' → R φ' a b → SR P R' φ' (f a) (g b)) : SR P R' φ (s >>= f) (s' >>= g) := SR.bind h hf
theorem SR.bindEq {R' : Phi → γ → δ → Prop} {s s' : Sem α} {f : α → Sem γ} {g : α → Sem δ}
    (h : SR P EqR φ s s') (hf : ∀ φ' a, Ext φ φ' → SR P R' φ' (f a) (g a)) : SR P R' φ (s >>= f) (s' >>= g) :=
  SR.bind h fun φ' a b he hab => by cases hab; exact hf φ' a he
theorem SR.ret {a : α} {b : β} (h : R φ a b) : SR P R φ (Pure.pure a) (Pure.pure b) := .pure h
theorem SR.stuck {why : String} {s : Sem β} : SR P R φ (Go.stuck why) s := .halt
theorem SR.unsup {u : Unsupported} {s : Sem β} : SR P R φ (Go.unsupported u) s := .halt

theorem sr_program : SR P (fun _ a b => a = P ∧ b = P) φ Go.program Go.program := .program (.pure ⟨rfl, rfl⟩)
theorem sr_underlying (t : TypeId) : SR P (fun _ a b => a = b ∧ P.underlying t = some a) φ (underlying t) (underlying t) := by
  refine SR.bind' sr_program fun φ' a b _ hab => ?_
  rw [hab.1, hab.2]
  cases h : P.underlying t with
  | none => exact .halt
  | some d => exact .pure ⟨rfl, rfl⟩
theorem sr_typeInfo (t : TypeId) : SR P (fun _ a b => a = b ∧ P.info? t = some a) φ (typeInfo t) (typeInfo t) := by
  refine SR.bind' sr_program fun φ' a b _ hab => ?_
  rw [hab.1, hab.2]
  cases h : P.info? t with
  | none => exact .halt
  | some d => exact .pure ⟨rfl, rfl⟩
theorem sr_sizeOf (t : TypeId) : SR P EqR φ (sizeOf t) (sizeOf t) := by
  refine SR.bind' (sr_typeInfo t) fun φ' a b _ hab => ?_
  obtain ⟨rfl, _⟩ := hab
  exact .pure rfl
theorem sr_isAgg (t : TypeId) : SR P EqR φ (isAgg t) (isAgg t) := by
  refine SR.bind' (sr_underlying t) fun φ' a b _ hab => ?_
  obtain ⟨rfl, _⟩ := hab
  cases a <;> exact .pure rfl
theorem sr_zero (G : Good P) (t : TypeId) (ht : hasT P t = true) : SR P (fun φ a b => a = b ∧ Plain a) φ (zeroValue t) (zeroValue t) := by
  refine SR.bind' (sr_typeInfo t) fun φ' a b _ hab => ?_
  obtain ⟨rfl, h⟩ := hab
  cases hz : a.zero with
  | none => exact .halt
  | some v => exact .pure ⟨rfl, G.zero t a v ht h hz⟩
theorem sr_mark (m m' : Mark) : SR P EqR φ (Go.mark m) (Go.mark m') := .mark (.pure rfl)
theorem sr_askRoom (n : Nat) : SR P EqR φ (askRoom n) (askRoom n) := by
  unfold askRoom
  split
  · exact sr_mark _ _
  · exact .pure rfl

theorem Plain.cells {v : Value} (h : Plain v) : AsR φ v.cells v.cells := by
  have := h.vr (φ := φ)
  cases this with
  | agg h1 h2 => exact ⟨h1, h2⟩
  | _ => first | exact AsR.one .bool | exact AsR.one .int | exact AsR.one .string | exact AsR.one h.vr
theorem VR.cells {v u : Value} (h : VR φ v u) : AsR φ v.cells u.cells := by
  cases h with
  | agg h1 h2 => exact ⟨h1, h2⟩
  | bool => exact AsR.one .bool
  | int => exact AsR.one .int
  | string => exact AsR.one .string
  | ptrNil => exact AsR.one .ptrNil
  | ptr h => exact AsR.one (.ptr h)
  | slNil h => exact AsR.one (.slNil h)
  | amb => exact AsR.one .amb
  | sl h h' => exact AsR.one (.sl h h')
  | mapNil => exact AsR.one .mapNil
  | map h => exact AsR.one (.map h)
  | func h h1 h2 h3 h4 => exact AsR.one (.func h h1 h2 h3 h4)
  | nilFunc => exact AsR.one .nilFunc
  | iface h => exact AsR.one (.iface h)
  | nilIface => exact AsR.one .nilIface
  | tuple h1 h2 => exact AsR.one (.tuple h1 h2)

theorem AddrR.add {a a' : Addr} (h : AddrR φ a a') (n : Nat) : AddrR φ (a.add n) (a'.add n) := by
  cases h with
  | mk h =>
    unfold Addr.add
    split
    · exact .mk h
    · exact .mk h
theorem sr_newRow (e : TypeId) {c c' : Array Value} (h : AsR φ c c') : SR P AddrR φ (newRow e c) (newRow e c') :=
  SR.newRow h fun _ _ _ _ hr => .pure (.mk hr)
theorem sr_newVar (e : TypeId) {v u : Value} (h : VR φ v u) : SR P AddrR φ (newVar e v) (newVar e u) := sr_newRow e h.cells

theorem sr_sureAddr {v u : Value} (h : VR φ v u) : SR P AddrR φ (Instr.sureAddr v) (Instr.sureAddr u) := by
  cases h <;> first | exact .pure ‹_› | exact .halt
theorem sr_load {a a' : Addr} (h : AddrR φ a a') : SR P VR φ (load a) (load a') := .load h fun _ _ hv => .pure hv
theorem sr_store {a a' : Addr} (h : AddrR φ a a') {v u : Value} (hv : VR φ v u) : SR P EqR φ (store a v) (store a' u) := .store h hv (.pure rfl)
theorem sr_loadCellsFrom : ∀ (n i : Nat) {φ : Phi} {a a' : Addr} {c c' : Array Value}, AddrR φ a a' → AsR φ c c' → SR P AsR φ (loadCellsFrom a i n c) (loadCellsFrom a' i n c')
  | 0, _, _, _, _, _, _, _, hc => .pure hc
  | n + 1, i, _, _, _, _, _, ha, hc => SR.bind' (sr_load (ha.add i)) fun _ _ _ he hv => sr_loadCellsFrom n (i + 1) (ha.mono he) ((hc.mono he).push hv)
theorem sr_loadCells {a a' : Addr} (h : AddrR φ a a') (n : Nat) : SR P AsR φ (loadCells a n) (loadCells a' n) := sr_loadCellsFrom n 0 h (AsR.empty φ)
theorem sr_storeCells : ∀ (l l' : List Value) (i : Nat) {φ : Phi} {a a' : Addr}, AddrR φ a a' → AsR φ l.toArray l'.toArray → SR P EqR φ (storeCells a l i) (storeCells a' l' i)
  | [], [], _, _, _, _, _, _ => .pure rfl
  | [], _ :: _, _, _, _, _, _, h => by have := h.1; simp at this
  | _ :: _, [], _, _, _, _, _, h => by have := h.1; simp at this
  | v :: l, u :: l', i, φ, _, _, ha, h => by
    have hv : VR φ v u := h.2 0 v u (by simp) (by simp)
    have hl : AsR φ l.toArray l'.toArray := ⟨by have := h.1; simpa using this, fun j x y hx hy => h.2 (j + 1) x y (by simpa using hx) (by simpa using hy)⟩
    exact SR.bind' (sr_store (ha.add i) hv) fun _ _ _ he _ => sr_storeCells l l' (i + 1) (ha.mono he) (hl.mono he)
theorem AsR.ofList {c c' : Array Value} (h : AsR φ c c') : AsR φ c.toList.toArray c'.toList.toArray := by simpa using h
theorem sr_loadVar (t : TypeId) {a a' : Addr} (h : AddrR φ a a') : SR P VR φ (loadVar t a) (loadVar t a') := by
  refine SR.bindEq (sr_isAgg t) fun φ' b he => ?_
  cases b with
  | true =>
    refine SR.bindEq (sr_sizeOf t) fun φ'' n he' => ?_
    exact SR.bind' (sr_loadCells ((h.mono he).mono he') n) fun _ _ _ _ hc => .pure (.agg hc.1 hc.2)
  | false => exact sr_load (h.mono he)
theorem sr_storeVar (t : TypeId) {a a' : Addr} (h : AddrR φ a a') {v u : Value} (hv : VR φ v u) : SR P EqR φ (storeVar t a v) (storeVar t a' u) := by
  refine SR.bindEq (sr_sizeOf t) fun φ' n he => ?_
  have hc := hv.cells
  show SR P EqR φ' (if v.cells.size ≠ n then _ else _) (if u.cells.size ≠ n then _ else _)
  by_cases e : v.cells.size ≠ n
  · rw [if_pos e]; exact .halt
  · rw [if_neg e, if_neg (by rw [← hc.1]; exact e)]
    exact sr_storeCells _ _ 0 (h.mono he) ((hc.ofList).mono he)
theorem sr_loadAt (t : TypeId) {v u : Value} (h : VR φ v u) : SR P VR φ (Instr.loadAt t v) (Instr.loadAt t u) :=
  SR.bind' (sr_sureAddr h) fun _ _ _ _ ha => sr_loadVar t ha
theorem sr_storeAt (t : TypeId) {v u x y : Value} (h : VR φ v u) (hx : VR φ x y) : SR P EqR φ (Instr.storeAt t v x) (Instr.storeAt t u y) :=
  SR.bind' (sr_sureAddr h) fun _ _ _ he ha => sr_storeVar t ha (hx.mono he)
theorem sr_box (t : TypeId) {v u : Value} (h : VR φ v u) : SR P VR φ (Instr.box t v) (Instr.box t u) :=
  SR.bind' (sr_newVar t h) fun _ _ _ _ ha => .pure (.ptr ha)
theorem sr_alloc (G : Good P) (t : TypeId) (ht : hasT P t = true) (x y : Value) : SR P VR φ (Instr.alloc t true x) (Instr.alloc t true y) :=
  SR.bind' (sr_zero G t ht) fun _ a b _ hz => by
    obtain ⟨rfl, hp⟩ := hz
    exact SR.bind' (sr_newVar t hp.vr) fun _ _ _ _ ha => .pure (.ptr ha)
theorem sr_part (t : TypeId) {c c' : Array Value} (h : AsR φ c c') (off : Nat) : SR P VR φ (part t c off) (part t c' off) := by
  refine SR.bindEq (sr_isAgg t) fun φ' b he => ?_
  cases b with
  | true =>
    refine SR.bindEq (sr_sizeOf t) fun φ'' n he' => ?_
    have := ((h.mono he).mono he').extract off (off + n)
    exact .pure (.agg this.1 this.2)
  | false =>
    show SR P VR φ' (match c[off]? with | some v => _ | none => _) (match c'[off]? with | some v => _ | none => _)
    cases hc : c[off]? with
    | none => exact .halt
    | some v =>
      obtain ⟨u, hu, hr⟩ := h.get hc
      rw [hu]
      exact .pure (hr.mono he)
theorem sr_asAgg {v u : Value} (h : VR φ v u) : SR P AsR φ (asAgg v) (asAgg u) := by
  cases h <;> first | exact .pure ⟨‹_›, ‹_›⟩ | exact .halt
theorem sr_field (t : TypeId) {v u : Value} (h : VR φ v u) (f : Nat) : SR P VR φ (Instr.field t v f) (Instr.field t u f) := by
  refine SR.bind' (sr_underlying t) fun φ' d b he hab => ?_
  obtain ⟨rfl, _⟩ := hab
  cases d with
  | struct fs =>
    cases hf : fs[f]? with
    | none => simp only [hf]; exact .halt
    | some x => simp only [hf]; exact SR.bind' (sr_asAgg (h.mono he)) fun _ _ _ _ hc => sr_part _ hc _
  | _ => exact .halt
theorem sr_extract {v u : Value} (h : VR φ v u) (i : Nat) : SR P VR φ (Instr.extract v i) (Instr.extract u i) := by
  cases h <;> first | exact .halt | skip
  rename_i as as' h1 h2
  show SR P VR φ (match as[i]? with | some f => _ | none => _) (match as'[i]? with | some f => _ | none => _)
  cases hc : as[i]? with
  | none => exact .halt
  | some x =>
    obtain ⟨y, hy, hr⟩ := AsR.get ⟨h1, h2⟩ hc
    rw [hy]
    exact .pure hr
theorem sr_asIntOf {v u : Value} (h : VR φ v u) : SR P (fun _ a b => a = b ∧ v = .int a.1 a.2) φ (asIntOf v) (asIntOf u) := by
  cases h <;> first | exact .pure ⟨rfl, rfl⟩ | exact .halt
theorem sr_asInt {v u : Value} (h : VR φ v u) : SR P EqR φ (asInt v) (asInt u) :=
  SR.bind' (sr_asIntOf h) fun _ a b _ hab => by obtain ⟨rfl, _⟩ := hab; exact .pure rfl
theorem sr_asBool {v u : Value} (h : VR φ v u) : SR P EqR φ (asBool v) (asBool u) := by
  cases h <;> first | exact .pure rfl | exact .halt
end
end Go.Ab
