/- An evaluator of the model's code over an abstract heap: what an abstract heap stands for. -/
import Derived.Test.YtmhgicpjeeegcaaGreatAb1
namespace Go.Ab
open Go.RowKit

/-- Where the abstract blocks lie. -/
structure Phi where
  to : Nat → Option Nat
  size : Nat → Nat
  /-- Blocks that are not laid yet. -/
  gh : Nat → Bool
instance : CoeFun Phi (fun _ => Nat → Option Nat) := ⟨Phi.to⟩
structure Ext0 (φ φ' : Phi) : Prop where
  to : ∀ b c, φ b = some c → φ' b = some c
  sz : ∀ b c, φ b = some c → φ'.size b = φ.size b
structure Ext (φ φ' : Phi) : Prop extends Ext0 φ φ' where
  gh : φ'.gh = φ.gh
instance {φ φ' : Phi} : CoeFun (Ext φ φ') (fun _ => ∀ b c, φ b = some c → φ' b = some c) := ⟨fun h => h.to⟩
instance {φ φ' : Phi} : CoeFun (Ext0 φ φ') (fun _ => ∀ b c, φ b = some c → φ' b = some c) := ⟨Ext0.to⟩
instance {φ φ' : Phi} : Coe (Ext φ φ') (Ext0 φ φ') := ⟨Ext.toExt0⟩
theorem Ext.refl (φ : Phi) : Ext φ φ := ⟨⟨fun _ _ h => h, fun _ _ _ => rfl⟩, rfl⟩
theorem Ext.trans {φ φ' φ'' : Phi} (h : Ext φ φ') (h' : Ext φ' φ'') : Ext φ φ'' := ⟨⟨fun b c e => h'.to b c (h.to b c e), fun b c e => (h'.sz b c (h.to b c e)).trans (h.sz b c e)⟩, h'.gh.trans h.gh⟩

/-- From this number on a slice's capacity is only bounded from below: unk * (1 + the size of an element) + the bound. -/
def unk : Nat := 18446744073709551616
/-- The capacity k' of a slice that begins at o in a block of N cells. -/
def CapR (N o k k' : Nat) : Prop := (k < unk → k' = k) ∧ (unk ≤ k → k % unk ≤ k' ∧ o + k' * (k / unk - 1) ≤ N)
inductive FnR (φ : Phi) : Fn → Fn → Prop
  | same {f : Fn} (h : ∀ l, f ≠ .yield l) : FnR φ f f
  | yield {l l' : Nat} (h : φ l = some l') : FnR φ (.yield l) (.yield l')
inductive AddrR (φ : Phi) : Addr → Addr → Prop
  | mk {b c o : Nat} (h : φ b = some c) : AddrR φ ⟨b, o, none⟩ ⟨c, o, none⟩
inductive VR (φ : Phi) : Value → Value → Prop
  | bool {b : Bool} : VR φ (.bool b) (.bool b)
  | int {k : IntKind} {n : Int} : VR φ (.int k n) (.int k n)
  | string {s : ByteArray} : VR φ (.string s) (.string s)
  | ptrNil : VR φ (.pointer none) (.pointer none)
  | ptr {a a' : Addr} (h : AddrR φ a a') : VR φ (.pointer (some a)) (.pointer (some a'))
  | slNil {n k : Nat} (hk : k < unk) : VR φ (.slice none n k) (.slice none n k)
  | sl {a a' : Addr} {n k k' : Nat} (h : AddrR φ a a') (hk : CapR (φ.size a.block) a.off k k') : VR φ (.slice (some a) n k) (.slice (some a') n k')
  /-- An empty slice of which it is not known where it points. -/
  | amb {a : Addr} {k : Nat} : VR φ (.complex .f64 0 0) (.slice (some a) 0 k)
  | mapNil : VR φ (.map none) (.map none)
  | map {b c : Nat} (h : φ b = some c) : VR φ (.map (some b)) (.map (some c))
  | func {f f' : Fn} {as as' bs bs' : Array Value} (h : FnR φ f f') (h1 : as.size = as'.size) (h2 : ∀ (i : Nat) (x y : Value), as[i]? = some x → as'[i]? = some y → VR φ x y)
      (h3 : bs.size = bs'.size) (h4 : ∀ (i : Nat) (x y : Value), bs[i]? = some x → bs'[i]? = some y → VR φ x y) : VR φ (.func f as bs) (.func f' as' bs')
  | nilFunc : VR φ .nilFunc .nilFunc
  | iface {t : TypeId} {v u : Value} (h : VR φ v u) : VR φ (.iface t v) (.iface t u)
  | nilIface : VR φ .nilIface .nilIface
  | agg {as as' : Array Value} (h1 : as.size = as'.size) (h2 : ∀ (i : Nat) (x y : Value), as[i]? = some x → as'[i]? = some y → VR φ x y) : VR φ (.agg as) (.agg as')
  | tuple {as as' : Array Value} (h1 : as.size = as'.size) (h2 : ∀ (i : Nat) (x y : Value), as[i]? = some x → as'[i]? = some y → VR φ x y) : VR φ (.tuple as) (.tuple as')
/-- Rows of values. -/
def AsR (φ : Phi) (as bs : Array Value) : Prop := as.size = bs.size ∧ ∀ (i : Nat) (x y : Value), as[i]? = some x → bs[i]? = some y → VR φ x y

theorem FnR.mono0 {φ φ' : Phi} (h : Ext0 φ φ') {f g : Fn} (hf : FnR φ f g) : FnR φ' f g := by
  cases hf with
  | same h' => exact .same h'
  | yield h' => exact .yield (h _ _ h')
theorem FnR.mono {φ φ' : Phi} (h : Ext φ φ') {f g : Fn} (hf : FnR φ f g) : FnR φ' f g := FnR.mono0 h.toExt0 hf
theorem AddrR.mono0 {φ φ' : Phi} (h : Ext0 φ φ') {a b : Addr} (ha : AddrR φ a b) : AddrR φ' a b := by
  cases ha with
  | mk h' => exact .mk (h _ _ h')
theorem AddrR.mono {φ φ' : Phi} (h : Ext φ φ') {a b : Addr} (ha : AddrR φ a b) : AddrR φ' a b := AddrR.mono0 h.toExt0 ha
theorem VR.mono0 {φ φ' : Phi} (h : Ext0 φ φ') {v u : Value} (hv : VR φ v u) : VR φ' v u := by
  induction hv with
  | bool => exact .bool
  | int => exact .int
  | string => exact .string
  | ptrNil => exact .ptrNil
  | ptr h' => exact .ptr (h'.mono0 h)
  | slNil hk => exact .slNil hk
  | amb => exact .amb
  | @sl a a' _ _ _ h' hk =>
    refine .sl (h'.mono0 h) ?_
    cases h' with
    | mk hb => rw [h.sz _ _ hb]; exact hk
  | mapNil => exact .mapNil
  | map h' => exact .map (h _ _ h')
  | func hf h1 _ h3 _ ih1 ih2 => exact .func (hf.mono0 h) h1 ih1 h3 ih2
  | nilFunc => exact .nilFunc
  | iface _ ih => exact .iface ih
  | nilIface => exact .nilIface
  | agg h1 _ ih => exact .agg h1 ih
  | tuple h1 _ ih => exact .tuple h1 ih
theorem VR.mono {φ φ' : Phi} (h : Ext φ φ') {v u : Value} (hv : VR φ v u) : VR φ' v u := VR.mono0 h.toExt0 hv
theorem AsR.mono0 {φ φ' : Phi} (h : Ext0 φ φ') {as bs : Array Value} (ha : AsR φ as bs) : AsR φ' as bs := ⟨ha.1, fun i x y hx hy => (ha.2 i x y hx hy).mono0 h⟩
theorem AsR.mono {φ φ' : Phi} (h : Ext φ φ') {as bs : Array Value} (ha : AsR φ as bs) : AsR φ' as bs := AsR.mono0 h.toExt0 ha
theorem AsR.get {φ : Phi} {as bs : Array Value} (h : AsR φ as bs) {i : Nat} {x : Value} (hx : as[i]? = some x) : ∃ y, bs[i]? = some y ∧ VR φ x y := by
  have hi : i < as.size := by
    rcases Nat.lt_or_ge i as.size with h | h
    · exact h
    · rw [Array.getElem?_eq_none h] at hx; cases hx
  have hj : i < bs.size := h.1 ▸ hi
  exact ⟨bs[i], Array.getElem?_eq_getElem hj, h.2 i x _ hx (Array.getElem?_eq_getElem hj)⟩
theorem AsR.none {φ : Phi} {as bs : Array Value} (h : AsR φ as bs) {i : Nat} (hx : as[i]? = none) : bs[i]? = none := by
  rw [Array.getElem?_eq_none_iff] at hx ⊢
  rw [← h.1]; exact hx
theorem AsR.empty (φ : Phi) : AsR φ #[] #[] := ⟨rfl, fun i x y hx _ => by simp at hx⟩
theorem AsR.push {φ : Phi} {as bs : Array Value} (h : AsR φ as bs) {x y : Value} (hx : VR φ x y) : AsR φ (as.push x) (bs.push y) := by
  refine ⟨by simp [h.1], fun i a b ha hb => ?_⟩
  rw [Array.getElem?_push] at ha hb
  by_cases hi : i = as.size
  · rw [if_pos hi] at ha
    rw [if_pos (hi.trans h.1)] at hb
    injection ha with ha; injection hb with hb
    subst ha hb; exact hx
  · rw [if_neg hi] at ha
    rw [if_neg (fun e => hi (e.trans h.1.symm))] at hb
    exact h.2 i a b ha hb
theorem AsR.append {φ : Phi} {as bs cs ds : Array Value} (h : AsR φ as bs) (h' : AsR φ cs ds) : AsR φ (as ++ cs) (bs ++ ds) := by
  refine ⟨by simp [h.1, h'.1], fun i a b ha hb => ?_⟩
  rw [Array.getElem?_append] at ha hb
  by_cases hi : i < as.size
  · rw [if_pos hi] at ha
    rw [if_pos (h.1 ▸ hi)] at hb
    exact h.2 i a b ha hb
  · rw [if_neg hi] at ha
    rw [if_neg (h.1 ▸ hi)] at hb
    rw [h.1] at ha
    exact h'.2 _ a b ha hb
theorem AsR.extract {φ : Phi} {as bs : Array Value} (h : AsR φ as bs) (i j : Nat) : AsR φ (as.extract i j) (bs.extract i j) := by
  refine ⟨by simp [h.1], fun n a b ha hb => ?_⟩
  rw [Array.getElem?_extract] at ha hb
  split at ha
  · split at hb
    · exact h.2 _ a b ha hb
    · cases hb
  · cases ha
theorem AsR.set {φ : Phi} {as bs : Array Value} (h : AsR φ as bs) (i : Nat) {x y : Value} (hx : VR φ x y) : AsR φ (as.setIfInBounds i x) (bs.setIfInBounds i y) := by
  refine ⟨by simp [h.1], fun n a b ha hb => ?_⟩
  rw [Array.getElem?_setIfInBounds] at ha hb
  by_cases e : i = n
  · subst e
    by_cases hi : i < as.size
    · rw [if_pos rfl, if_pos hi] at ha
      rw [if_pos rfl, if_pos (h.1 ▸ hi)] at hb
      injection ha with ha; injection hb with hb
      subst ha hb; exact hx
    · rw [if_pos rfl, if_neg hi] at ha; cases ha
  · rw [if_neg e] at ha hb
    exact h.2 n a b ha hb
theorem AsR.list {φ : Phi} {l l' : List Value} (h : l.length = l'.length) (h2 : ∀ (i : Nat) (x y : Value), l[i]? = some x → l'[i]? = some y → VR φ x y) : AsR φ l.toArray l'.toArray := ⟨by simpa using h, fun i x y hx hy => h2 i x y (by simpa using hx) (by simpa using hy)⟩
theorem AsR.one {φ : Phi} {x y : Value} (h : VR φ x y) : AsR φ #[x] #[y] := (AsR.empty φ).push h

/-- A value without addresses stands for itself. -/
inductive Plain : Value → Prop
  | bool {b : Bool} : Plain (.bool b)
  | int {k : IntKind} {n : Int} : Plain (.int k n)
  | string {s : ByteArray} : Plain (.string s)
  | ptrNil : Plain (.pointer none)
  | slNil {n k : Nat} (hk : k < unk) : Plain (.slice none n k)
  | mapNil : Plain (.map none)
  | func {f : FuncId} : Plain (.func (.func f) #[] #[])
  | nilFunc : Plain .nilFunc
  | nilIface : Plain .nilIface
  | iface {t : TypeId} {v : Value} (h : Plain v) : Plain (.iface t v)
  | agg {as : Array Value} (h : ∀ (i : Nat) (x : Value), as[i]? = some x → Plain x) : Plain (.agg as)
  | tuple {as : Array Value} (h : ∀ (i : Nat) (x : Value), as[i]? = some x → Plain x) : Plain (.tuple as)
theorem Plain.vr {φ : Phi} {v : Value} (h : Plain v) : VR φ v v := by
  induction h with
  | bool => exact .bool
  | int => exact .int
  | string => exact .string
  | ptrNil => exact .ptrNil
  | slNil hk => exact .slNil hk
  | mapNil => exact .mapNil
  | func => exact .func (.same (fun _ e => by cases e)) rfl (fun i x y h => by simp at h) rfl (fun i x y h => by simp at h)
  | nilFunc => exact .nilFunc
  | nilIface => exact .nilIface
  | iface _ ih => exact .iface ih
  | agg _ ih => exact .agg rfl fun i x y hx hy => by rw [hx] at hy; injection hy with hy; subst hy; exact ih i x hx
  | tuple _ ih => exact .tuple rfl fun i x y hx hy => by rw [hx] at hy; injection hy with hy; subst hy; exact ih i x hx

/-! ### Objects -/
inductive TargetR (φ : Phi) : Target → Target → Prop
  | fn {f f' : Fn} {as bs : Array Value} (h : FnR φ f f') (h' : AsR φ as bs) : TargetR φ (.fn f as) (.fn f' bs)
  | nil : TargetR φ .nil .nil
  | builtin {b : Builtin} {ts : Array TypeId} {t : TypeId} {cs : Array Bool} : TargetR φ (.builtin b ts t cs) (.builtin b ts t cs)
  | collected {r r' : Nat} (h : φ r = some r') : TargetR φ (.collected r) (.collected r')
structure DefR (φ : Phi) (d d' : Deferred) : Prop where
  target : TargetR φ d.target d'.target
  args : AsR φ d.args d'.args
inductive DefsR (φ : Phi) : List Deferred → List Deferred → Prop
  | nil : DefsR φ [] []
  | cons {d d' : Deferred} {l l' : List Deferred} (h : DefR φ d d') (h' : DefsR φ l l') : DefsR φ (d :: l) (d' :: l')
structure EntryR (φ : Phi) (e e' : MapEntry) : Prop where
  plain : Plain e.key
  same : e'.key = e.key
  val : VR φ e.val e'.val
  born : e.born = e'.born
def EntriesR (φ : Phi) (as bs : Array MapEntry) : Prop := as.size = bs.size ∧ ∀ (i : Nat) (x y : MapEntry), as[i]? = some x → bs[i]? = some y → EntryR φ x y
inductive OR (φ : Phi) : Obj → Obj → Prop
  | map {es es' : Array MapEntry} {c : Nat} (h : EntriesR φ es es') : OR φ (.map es c) (.map es' c)
  | str {s : ByteArray} {p : Nat} : OR φ (.stringIter s p) (.stringIter s p)
  | iterNil {s : Nat} {seen : Array Nat} {st : Nat} : OR φ (.mapIter none s seen st) (.mapIter none s seen st)
  | iter {m m' : Nat} {s : Nat} {seen : Array Nat} {st : Nat} (h : φ m = some m') : OR φ (.mapIter (some m) s seen st) (.mapIter (some m') s seen st)
  | loop {l l' : Loop} (h1 : l.state = l'.state) (h2 : l.pending = l'.pending) (h4 : AsR φ l.tmps l'.tmps) (h5 : l.params = l'.params) (h6 : l.assign = l'.assign) (h7 : l.body = l'.body) (h8 : φ l.defers = some l'.defers) : OR φ (.loop l) (.loop l')
  | defsNone : OR φ (.deferred none) (.deferred none)
  | defs {l l' : List Deferred} (h : DefsR φ l l') : OR φ (.deferred (some l)) (.deferred (some l'))
theorem TargetR.mono0 {φ φ' : Phi} (h : Ext0 φ φ') {a b : Target} (x : TargetR φ a b) : TargetR φ' a b := by
  cases x with
  | fn h1 h2 => exact .fn (h1.mono0 h) (h2.mono0 h)
  | nil => exact .nil
  | builtin => exact .builtin
  | collected h1 => exact .collected (h _ _ h1)
theorem TargetR.mono {φ φ' : Phi} (h : Ext φ φ') {a b : Target} (x : TargetR φ a b) : TargetR φ' a b := TargetR.mono0 h.toExt0 x
theorem DefR.mono0 {φ φ' : Phi} (h : Ext0 φ φ') {a b : Deferred} (x : DefR φ a b) : DefR φ' a b := ⟨x.1.mono0 h, x.2.mono0 h⟩
theorem DefR.mono {φ φ' : Phi} (h : Ext φ φ') {a b : Deferred} (x : DefR φ a b) : DefR φ' a b := DefR.mono0 h.toExt0 x
theorem DefsR.mono0 {φ φ' : Phi} (h : Ext0 φ φ') {a b : List Deferred} (x : DefsR φ a b) : DefsR φ' a b := by
  induction x with
  | nil => exact .nil
  | cons h1 _ ih => exact .cons (h1.mono0 h) ih
theorem DefsR.mono {φ φ' : Phi} (h : Ext φ φ') {a b : List Deferred} (x : DefsR φ a b) : DefsR φ' a b := DefsR.mono0 h.toExt0 x
theorem EntryR.key {φ : Phi} {e e' : MapEntry} (h : EntryR φ e e') : VR φ e.key e'.key := by rw [h.same]; exact h.plain.vr
theorem EntryR.mono0 {φ φ' : Phi} (h : Ext0 φ φ') {a b : MapEntry} (x : EntryR φ a b) : EntryR φ' a b := ⟨x.1, x.2, x.3.mono0 h, x.4⟩
theorem EntryR.mono {φ φ' : Phi} (h : Ext φ φ') {a b : MapEntry} (x : EntryR φ a b) : EntryR φ' a b := EntryR.mono0 h.toExt0 x
theorem EntriesR.mono0 {φ φ' : Phi} (h : Ext0 φ φ') {a b : Array MapEntry} (x : EntriesR φ a b) : EntriesR φ' a b := ⟨x.1, fun i e e' h1 h2 => (x.2 i e e' h1 h2).mono0 h⟩
theorem EntriesR.mono {φ φ' : Phi} (h : Ext φ φ') {a b : Array MapEntry} (x : EntriesR φ a b) : EntriesR φ' a b := EntriesR.mono0 h.toExt0 x
theorem OR.mono0 {φ φ' : Phi} (h : Ext0 φ φ') {a b : Obj} (x : OR φ a b) : OR φ' a b := by
  cases x with
  | map h1 => exact .map (h1.mono0 h)
  | str => exact .str
  | iterNil => exact .iterNil
  | iter h1 => exact .iter (h _ _ h1)
  | loop h1 h2 h4 h5 h6 h7 h8 => exact .loop h1 h2 (h4.mono0 h) h5 h6 h7 (h _ _ h8)
  | defsNone => exact .defsNone
  | defs h1 => exact .defs (h1.mono0 h)
theorem OR.mono {φ φ' : Phi} (h : Ext φ φ') {a b : Obj} (x : OR φ a b) : OR φ' a b := OR.mono0 h.toExt0 x
theorem OR.noCells {φ : Phi} {a b : Obj} (x : OR φ a b) : (∀ c e f, a ≠ .cells c e f) ∧ ∀ c e f, b ≠ .cells c e f := by
  cases x <;> exact ⟨fun _ _ _ e => (by cases e), fun _ _ _ e => (by cases e)⟩

/-! ### Heaps -/
/-- A block. -/
inductive AObj where
  | cells (elem : TypeId) (n : Nat) (exact : Bool) (ro : Bool) (kin : List Nat) (c : T Value)
  | obj (o : Obj)
  | dead
structure AHeap where
  blocks : T AObj
  next : Nat
/-- The next number is free. -/
noncomputable def AHeap.room (h : AHeap) : Bool := match h.blocks.get h.next with
  | none => true
  | some _ => false
theorem AHeap.room_none {h : AHeap} (hr : h.room = true) : h.blocks.get h.next = none := by
  unfold AHeap.room at hr
  split at hr
  · assumption
  · cases hr

def RowR (φ : Phi) (n : Nat) (exact : Bool) (t : T Value) (arr : Array Value) : Prop :=
  n ≤ arr.size ∧ (exact = true → arr.size = n) ∧ ∀ i v, t.get i = some v → i < n ∧ ∃ u, arr[i]? = some u ∧ VR φ v u
def BlockR (φ : Phi) (w : World) (b : Nat) : AObj → Prop
  | .cells e n x _ _ t => ∃ c arr, φ b = some c ∧ w.heap[c]? = some (.cells arr e (0, 0)) ∧ RowR φ n x t arr ∧ arr.size = φ.size b
  | .obj o => ∃ c o', φ b = some c ∧ w.heap[c]? = some o' ∧ OR φ o o'
  | .dead => True
/-- Two blocks that may be one: the one is an elder state of the other, and is not written any more. -/
def KinR (h : AHeap) (b b' : Nat) : Prop := ∃ e n x ro kin t e' n' x' kin' t', h.blocks.get b = some (.cells e n x ro kin t) ∧ h.blocks.get b' = some (.cells e' n' x' true kin' t') ∧ b' ∈ kin ∧ n' ≤ n
structure HR (w0 : World) (base : Nat) (φ : Phi) (h : AHeap) (w : World) : Prop where
  blocks : ∀ b o, φ.gh b = false → h.blocks.get b = some o → BlockR φ w b o
  fresh : ∀ b, h.blocks.get b = none → φ b = none
  lo : ∀ b c, φ b = some c → base ≤ c ∧ c < w.heap.size
  apart : ∀ b b' c o o', φ b = some c → φ b' = some c → h.blocks.get b = some o → h.blocks.get b' = some o' → o ≠ .dead → o' ≠ .dead → b ≠ b' → KinR h b b' ∨ KinR h b' b
  below : Below base w0 w
  base_le : base ≤ w0.heap.size
  ghost : ∀ b, φ.gh b = true → φ b = none ∧ h.blocks.get b ≠ none
theorem HR.real {w0 : World} {base : Nat} {φ : Phi} {h : AHeap} {w : World} (H : HR w0 base φ h w) {b c : Nat} (hb : φ b = some c) : φ.gh b = false := by
  cases hg : φ.gh b with
  | false => rfl
  | true => rw [(H.ghost b hg).1] at hb; cases hb
theorem HR.free {w0 : World} {base : Nat} {φ : Phi} {h : AHeap} {w : World} (H : HR w0 base φ h w) (hr : h.room = true) : φ h.next = none := H.fresh _ (AHeap.room_none hr)
end Go.Ab
