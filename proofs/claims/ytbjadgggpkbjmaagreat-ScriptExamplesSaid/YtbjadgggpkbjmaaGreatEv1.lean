/- The evaluator, part 1. -/
import Derived.Calls
import Derived.Below
/- An evaluator of the model's code over an abstract heap: finite maps. -/
namespace Go.Ab

/-- A finite map on numbers, as a binary tree. -/
inductive T (α : Type) where
  | nil
  | node (l : T α) (v : Option α) (r : T α)
inductive Path where
  | e
  | l (p : Path)
  | r (p : Path)
def pathF : Nat → Nat → Path
  | 0, _ => .e
  | f + 1, n => match n with
    | 0 => .e
    | k + 1 => match k % 2 with
      | 0 => .l (pathF f (k / 2))
      | _ => .r (pathF f (k / 2))
def pathOf (n : Nat) : Path := pathF (n + 1) n

noncomputable section
namespace T
variable {α β : Type}
def getP (t : T α) : Path → Option α :=
  T.rec (motive := fun _ => Path → Option α) (fun _ => none) (fun _ v _ ihl ihr p => Path.casesOn (motive := fun _ => Option α) p v ihl ihr) t
def setP (a : α) (p : Path) : T α → (T α → β) → β :=
  Path.rec (motive := fun _ => T α → (T α → β) → β)
    (fun t k => T.casesOn (motive := fun _ => β) t (k (.node .nil (some a) .nil)) (fun l _ r => k (.node l (some a) r)))
    (fun _ ih t k => T.casesOn (motive := fun _ => β) t (ih .nil fun l => k (.node l none .nil)) (fun l v r => ih l fun l => k (.node l v r)))
    (fun _ ih t k => T.casesOn (motive := fun _ => β) t (ih .nil fun r => k (.node .nil none r)) (fun l v r => ih r fun r => k (.node l v r)))
    p
def get (t : T α) (n : Nat) : Option α := t.getP (pathOf n)
def setK (t : T α) (n : Nat) (a : α) (k : T α → β) : β := T.setP a (pathOf n) t k
def set (t : T α) (n : Nat) (a : α) : T α := t.setK n a id

theorem getP_nil (p : Path) : (T.nil : T α).getP p = none := rfl
theorem getP_e (l r : T α) (v : Option α) : (T.node l v r).getP .e = v := rfl
theorem getP_l (l r : T α) (v : Option α) (p : Path) : (T.node l v r).getP (.l p) = l.getP p := rfl
theorem getP_r (l r : T α) (v : Option α) (p : Path) : (T.node l v r).getP (.r p) = r.getP p := rfl

theorem setP_id (a : α) : ∀ (p : Path) {β : Type} (t : T α) (k : T α → β), setP a p t k = k (setP a p t id)
  | .e, _, .nil, _ => rfl
  | .e, _, .node _ _ _, _ => rfl
  | .l p, _, .nil, k => by
    show setP a p .nil (fun l => k (.node l none .nil)) = k (setP a p .nil fun l => T.node l none .nil)
    rw [setP_id a p, setP_id a p .nil fun l => T.node l none .nil]
  | .l p, _, .node l v r, k => by
    show setP a p l (fun l => k (.node l v r)) = k (setP a p l fun l => T.node l v r)
    rw [setP_id a p, setP_id a p l fun l => T.node l v r]
  | .r p, _, .nil, k => by
    show setP a p .nil (fun r => k (.node .nil none r)) = k (setP a p .nil fun r => T.node .nil none r)
    rw [setP_id a p, setP_id a p .nil fun r => T.node .nil none r]
  | .r p, _, .node l v r, k => by
    show setP a p r (fun r => k (.node l v r)) = k (setP a p r fun r => T.node l v r)
    rw [setP_id a p, setP_id a p r fun r => T.node l v r]
theorem setK_eq (t : T α) (n : Nat) (a : α) (k : T α → β) : t.setK n a k = k (t.set n a) := setP_id a _ t k

theorem setP_l (a : α) (p : Path) (t : T α) : setP a (.l p) t id = match t with
    | .nil => T.node (setP a p .nil id) none .nil
    | .node l v r => T.node (setP a p l id) v r := by
  cases t with
  | nil => exact setP_id a p .nil fun l => T.node l none .nil
  | node l v r => exact setP_id a p l fun l => T.node l v r
theorem setP_r (a : α) (p : Path) (t : T α) : setP a (.r p) t id = match t with
    | .nil => T.node .nil none (setP a p .nil id)
    | .node l v r => T.node l v (setP a p r id) := by
  cases t with
  | nil => exact setP_id a p .nil fun r => T.node .nil none r
  | node l v r => exact setP_id a p r fun r => T.node l v r
theorem getP_setP_same (a : α) : ∀ (p : Path) (t : T α), (setP a p t id).getP p = some a
  | .e, t => by cases t <;> rfl
  | .l p, t => by rw [setP_l]; cases t <;> exact getP_setP_same a p _
  | .r p, t => by rw [setP_r]; cases t <;> exact getP_setP_same a p _
theorem getP_setP_ne (a : α) : ∀ (p q : Path) (t : T α), q ≠ p → (setP a p t id).getP q = t.getP q
  | .e, q, t, h => by cases t <;> cases q <;> first | rfl | exact absurd rfl h
  | .l p, q, t, h => by
    rw [setP_l]
    cases t <;> cases q <;> first | rfl | exact getP_setP_ne a p _ _ (fun e => h (by rw [e]))
  | .r p, q, t, h => by
    rw [setP_r]
    cases t <;> cases q <;> first | rfl | exact getP_setP_ne a p _ _ (fun e => h (by rw [e]))
end T

theorem pathF_even (f k : Nat) (h : k % 2 = 0) : pathF (f + 1) (k + 1) = .l (pathF f (k / 2)) := by simp [pathF, h]
theorem pathF_odd (f k : Nat) (h : k % 2 = 1) : pathF (f + 1) (k + 1) = .r (pathF f (k / 2)) := by simp [pathF, h]
theorem pathF_inj : ∀ (f n g m : Nat), n < f → m < g → pathF f n = pathF g m → n = m
  | 0, _, _, _, h, _, _ => by omega
  | _ + 1, _, 0, _, _, h, _ => by omega
  | f + 1, 0, g + 1, 0, _, _, _ => rfl
  | f + 1, 0, g + 1, k + 1, _, _, h => by
    rcases Nat.mod_two_eq_zero_or_one k with e | e
    · rw [pathF_even _ _ e] at h; cases h
    · rw [pathF_odd _ _ e] at h; cases h
  | f + 1, j + 1, g + 1, 0, _, _, h => by
    rcases Nat.mod_two_eq_zero_or_one j with e | e
    · rw [pathF_even _ _ e] at h; cases h
    · rw [pathF_odd _ _ e] at h; cases h
  | f + 1, j + 1, g + 1, k + 1, hn, hm, h => by
    rcases Nat.mod_two_eq_zero_or_one j with e | e <;> rcases Nat.mod_two_eq_zero_or_one k with e' | e'
    · rw [pathF_even _ _ e, pathF_even _ _ e'] at h
      injection h with h
      have := pathF_inj f (j / 2) g (k / 2) (by omega) (by omega) h
      omega
    · rw [pathF_even _ _ e, pathF_odd _ _ e'] at h; cases h
    · rw [pathF_odd _ _ e, pathF_even _ _ e'] at h; cases h
    · rw [pathF_odd _ _ e, pathF_odd _ _ e'] at h
      injection h with h
      have := pathF_inj f (j / 2) g (k / 2) (by omega) (by omega) h
      omega
theorem pathOf_inj {n m : Nat} (h : pathOf n = pathOf m) : n = m := pathF_inj _ _ _ _ (by omega) (by omega) h
theorem T.get_set {α : Type} (t : T α) (n : Nat) (a : α) (m : Nat) : (t.set n a).get m = if m = n then some a else t.get m := by
  unfold T.set T.setK T.get
  by_cases h : m = n
  · subst h; rw [T.getP_setP_same, if_pos rfl]
  · rw [T.getP_setP_ne _ _ _ _ (fun e => h (pathOf_inj e)), if_neg h]
theorem T.get_nil {α : Type} (m : Nat) : (T.nil : T α).get m = none := rfl

def T.ofListFrom {α : Type} : List α → Nat → T α → T α
  | [], _, t => t
  | a :: l, i, t => T.ofListFrom l (i + 1) (t.set i a)
def T.ofList {α : Type} (l : List α) : T α := T.ofListFrom l 0 .nil
theorem T.get_ofListFrom {α : Type} : ∀ (l : List α) (i : Nat) (t : T α) (m : Nat), (T.ofListFrom l i t).get m = if i ≤ m ∧ m < i + l.length then l[m - i]? else t.get m
  | [], i, t, m => by
    have : ¬ (i ≤ m ∧ m < i + ([] : List α).length) := by simp
    rw [if_neg this]; rfl
  | a :: l, i, t, m => by
    rw [T.ofListFrom, T.get_ofListFrom l (i + 1), T.get_set]
    by_cases h : m = i
    · subst h
      rw [if_neg (by omega), if_pos rfl, if_pos (by simp)]
      simp
    · rw [if_neg h]
      by_cases h2 : i + 1 ≤ m ∧ m < i + 1 + l.length
      · rw [if_pos h2, if_pos (by simp; omega)]
        obtain ⟨k, rfl⟩ : ∃ k, m = i + 1 + k := ⟨m - (i + 1), by omega⟩
        have e1 : i + 1 + k - (i + 1) = k := by omega
        have e2 : i + 1 + k - i = k + 1 := by omega
        rw [e1, e2]; simp
      · rw [if_neg h2, if_neg (by simp; omega)]
theorem T.get_ofList {α : Type} (l : List α) (m : Nat) : (T.ofList l).get m = l[m]? := by
  rw [T.ofList, T.get_ofListFrom]
  by_cases h : m < l.length
  · rw [if_pos (by omega)]; simp
  · rw [if_neg (by omega), List.getElem?_eq_none (by omega)]; rfl
end
end Go.Ab

/- An evaluator of the model's code over an abstract heap: what an abstract heap stands for. -/
namespace Go.Ab
open Go.RowKit

/-- Where the abstract blocks lie. -/
structure Phi where
  to : Nat → Option Nat
  size : Nat → Nat
  /-- Blocks that are not laid yet. -/
  gh : Nat → Bool
instance : CoeFun Phi (fun _ => Nat → Option Nat) := ⟨Phi.to⟩
structure Ext0 (φ φ' : Phi) : Prop where
  to : ∀ b c, φ b = some c → φ' b = some c
  sz : ∀ b c, φ b = some c → φ'.size b = φ.size b
structure Ext (φ φ' : Phi) : Prop extends Ext0 φ φ' where
  gh : φ'.gh = φ.gh
instance {φ φ' : Phi} : CoeFun (Ext φ φ') (fun _ => ∀ b c, φ b = some c → φ' b = some c) := ⟨fun h => h.to⟩
instance {φ φ' : Phi} : CoeFun (Ext0 φ φ') (fun _ => ∀ b c, φ b = some c → φ' b = some c) := ⟨Ext0.to⟩
instance {φ φ' : Phi} : Coe (Ext φ φ') (Ext0 φ φ') := ⟨Ext.toExt0⟩
theorem Ext.refl (φ : Phi) : Ext φ φ := ⟨⟨fun _ _ h => h, fun _ _ _ => rfl⟩, rfl⟩
theorem Ext.trans {φ φ' φ'' : Phi} (h : Ext φ φ') (h' : Ext φ' φ'') : Ext φ φ'' := ⟨⟨fun b c e => h'.to b c (h.to b c e), fun b c e => (h'.sz b c (h.to b c e)).trans (h.sz b c e)⟩, h'.gh.trans h.gh⟩

/-- From this number on a slice's capacity is only bounded from below: unk * (1 + the size of an element) + the bound. -/
def unk : Nat := 18446744073709551616
/-- The capacity k' of a slice that begins at o in a block of N cells. -/
def CapR (N o k k' : Nat) : Prop := (k < unk → k' = k) ∧ (unk ≤ k → k % unk ≤ k' ∧ o + k' * (k / unk - 1) ≤ N)
inductive FnR (φ : Phi) : Fn → Fn → Prop
  | same {f : Fn} (h : ∀ l, f ≠ .yield l) : FnR φ f f
  | yield {l l' : Nat} (h : φ l = some l') : FnR φ (.yield l) (.yield l')
inductive AddrR (φ : Phi) : Addr → Addr → Prop
  | mk {b c o : Nat} (h : φ b = some c) : AddrR φ ⟨b, o, none⟩ ⟨c, o, none⟩
inductive VR (φ : Phi) : Value → Value → Prop
  | bool {b : Bool} : VR φ (.bool b) (.bool b)
  | int {k : IntKind} {n : Int} : VR φ (.int k n) (.int k n)
  | string {s : ByteArray} : VR φ (.string s) (.string s)
  | ptrNil : VR φ (.pointer none) (.pointer none)
  | ptr {a a' : Addr} (h : AddrR φ a a') : VR φ (.pointer (some a)) (.pointer (some a'))
  | slNil {n k : Nat} (hk : k < unk) : VR φ (.slice none n k) (.slice none n k)
  | sl {a a' : Addr} {n k k' : Nat} (h : AddrR φ a a') (hk : CapR (φ.size a.block) a.off k k') : VR φ (.slice (some a) n k) (.slice (some a') n k')
  /-- An empty slice of which it is not known where it points. -/
  | amb {a : Addr} {k : Nat} : VR φ (.complex .f64 0 0) (.slice (some a) 0 k)
  | mapNil : VR φ (.map none) (.map none)
  | map {b c : Nat} (h : φ b = some c) : VR φ (.map (some b)) (.map (some c))
  | func {f f' : Fn} {as as' bs bs' : Array Value} (h : FnR φ f f') (h1 : as.size = as'.size) (h2 : ∀ (i : Nat) (x y : Value), as[i]? = some x → as'[i]? = some y → VR φ x y)
      (h3 : bs.size = bs'.size) (h4 : ∀ (i : Nat) (x y : Value), bs[i]? = some x → bs'[i]? = some y → VR φ x y) : VR φ (.func f as bs) (.func f' as' bs')
  | nilFunc : VR φ .nilFunc .nilFunc
  | iface {t : TypeId} {v u : Value} (h : VR φ v u) : VR φ (.iface t v) (.iface t u)
  | nilIface : VR φ .nilIface .nilIface
  | agg {as as' : Array Value} (h1 : as.size = as'.size) (h2 : ∀ (i : Nat) (x y : Value), as[i]? = some x → as'[i]? = some y → VR φ x y) : VR φ (.agg as) (.agg as')
  | tuple {as as' : Array Value} (h1 : as.size = as'.size) (h2 : ∀ (i : Nat) (x y : Value), as[i]? = some x → as'[i]? = some y → VR φ x y) : VR φ (.tuple as) (.tuple as')
/-- Rows of values. -/
def AsR (φ : Phi) (as bs : Array Value) : Prop := as.size = bs.size ∧ ∀ (i : Nat) (x y : Value), as[i]? = some x → bs[i]? = some y → VR φ x y

theorem FnR.mono0 {φ φ' : Phi} (h : Ext0 φ φ') {f g : Fn} (hf : FnR φ f g) : FnR φ' f g := by
  cases hf with
  | same h' => exact .same h'
  | yield h' => exact .yield (h _ _ h')
theorem FnR.mono {φ φ' : Phi} (h : Ext φ φ') {f g : Fn} (hf : FnR φ f g) : FnR φ' f g := FnR.mono0 h.toExt0 hf
theorem AddrR.mono0 {φ φ' : Phi} (h : Ext0 φ φ') {a b : Addr} (ha : AddrR φ a b) : AddrR φ' a b := by
  cases ha with
  | mk h' => exact .mk (h _ _ h')
theorem AddrR.mono {φ φ' : Phi} (h : Ext φ φ') {a b : Addr} (ha : AddrR φ a b) : AddrR φ' a b := AddrR.mono0 h.toExt0 ha
theorem VR.mono0 {φ φ' : Phi} (h : Ext0 φ φ') {v u : Value} (hv : VR φ v u) : VR φ' v u := by
  induction hv with
  | bool => exact .bool
  | int => exact .int
  | string => exact .string
  | ptrNil => exact .ptrNil
  | ptr h' => exact .ptr (h'.mono0 h)
  | slNil hk => exact .slNil hk
  | amb => exact .amb
  | @sl a a' _ _ _ h' hk =>
    refine .sl (h'.mono0 h) ?_
    cases h' with
    | mk hb => rw [h.sz _ _ hb]; exact hk
  | mapNil => exact .mapNil
  | map h' => exact .map (h _ _ h')
  | func hf h1 _ h3 _ ih1 ih2 => exact .func (hf.mono0 h) h1 ih1 h3 ih2
  | nilFunc => exact .nilFunc
  | iface _ ih => exact .iface ih
  | nilIface => exact .nilIface
  | agg h1 _ ih => exact .agg h1 ih
  | tuple h1 _ ih => exact .tuple h1 ih
theorem VR.mono {φ φ' : Phi} (h : Ext φ φ') {v u : Value} (hv : VR φ v u) : VR φ' v u := VR.mono0 h.toExt0 hv
theorem AsR.mono0 {φ φ' : Phi} (h : Ext0 φ φ') {as bs : Array Value} (ha : AsR φ as bs) : AsR φ' as bs := ⟨ha.1, fun i x y hx hy => (ha.2 i x y hx hy).mono0 h⟩
theorem AsR.mono {φ φ' : Phi} (h : Ext φ φ') {as bs : Array Value} (ha : AsR φ as bs) : AsR φ' as bs := AsR.mono0 h.toExt0 ha
theorem AsR.get {φ : Phi} {as bs : Array Value} (h : AsR φ as bs) {i : Nat} {x : Value} (hx : as[i]? = some x) : ∃ y, bs[i]? = some y ∧ VR φ x y := by
  have hi : i < as.size := by
    rcases Nat.lt_or_ge i as.size with h | h
    · exact h
    · rw [Array.getElem?_eq_none h] at hx; cases hx
  have hj : i < bs.size := h.1 ▸ hi
  exact ⟨bs[i], Array.getElem?_eq_getElem hj, h.2 i x _ hx (Array.getElem?_eq_getElem hj)⟩
theorem AsR.none {φ : Phi} {as bs : Array Value} (h : AsR φ as bs) {i : Nat} (hx : as[i]? = none) : bs[i]? = none := by
  rw [Array.getElem?_eq_none_iff] at hx ⊢
  rw [← h.1]; exact hx
theorem AsR.empty (φ : Phi) : AsR φ #[] #[] := ⟨rfl, fun i x y hx _ => by simp at hx⟩
theorem AsR.push {φ : Phi} {as bs : Array Value} (h : AsR φ as bs) {x y : Value} (hx : VR φ x y) : AsR φ (as.push x) (bs.push y) := by
  refine ⟨by simp [h.1], fun i a b ha hb => ?_⟩
  rw [Array.getElem?_push] at ha hb
  by_cases hi : i = as.size
  · rw [if_pos hi] at ha
    rw [if_pos (hi.trans h.1)] at hb
    injection ha with ha; injection hb with hb
    subst ha hb; exact hx
  · rw [if_neg hi] at ha
    rw [if_neg (fun e => hi (e.trans h.1.symm))] at hb
    exact h.2 i a b ha hb
theorem AsR.append {φ : Phi} {as bs cs ds : Array Value} (h : AsR φ as bs) (h' : AsR φ cs ds) : AsR φ (as ++ cs) (bs ++ ds) := by
  refine ⟨by simp [h.1, h'.1], fun i a b ha hb => ?_⟩
  rw [Array.getElem?_append] at ha hb
  by_cases hi : i < as.size
  · rw [if_pos hi] at ha
    rw [if_pos (h.1 ▸ hi)] at hb
    exact h.2 i a b ha hb
  · rw [if_neg hi] at ha
    rw [if_neg (h.1 ▸ hi)] at hb
    rw [h.1] at ha
    exact h'.2 _ a b ha hb
theorem AsR.extract {φ : Phi} {as bs : Array Value} (h : AsR φ as bs) (i j : Nat) : AsR φ (as.extract i j) (bs.extract i j) := by
  refine ⟨by simp [h.1], fun n a b ha hb => ?_⟩
  rw [Array.getElem?_extract] at ha hb
  split at ha
  · split at hb
    · exact h.2 _ a b ha hb
    · cases hb
  · cases ha
theorem AsR.set {φ : Phi} {as bs : Array Value} (h : AsR φ as bs) (i : Nat) {x y : Value} (hx : VR φ x y) : AsR φ (as.setIfInBounds i x) (bs.setIfInBounds i y) := by
  refine ⟨by simp [h.1], fun n a b ha hb => ?_⟩
  rw [Array.getElem?_setIfInBounds] at ha hb
  by_cases e : i = n
  · subst e
    by_cases hi : i < as.size
    · rw [if_pos rfl, if_pos hi] at ha
      rw [if_pos rfl, if_pos (h.1 ▸ hi)] at hb
      injection ha with ha; injection hb with hb
      subst ha hb; exact hx
    · rw [if_pos rfl, if_neg hi] at ha; cases ha
  · rw [if_neg e] at ha hb
    exact h.2 n a b ha hb
theorem AsR.list {φ : Phi} {l l' : List Value} (h : l.length = l'.length) (h2 : ∀ (i : Nat) (x y : Value), l[i]? = some x → l'[i]? = some y → VR φ x y) : AsR φ l.toArray l'.toArray := ⟨by simpa using h, fun i x y hx hy => h2 i x y (by simpa using hx) (by simpa using hy)⟩
theorem AsR.one {φ : Phi} {x y : Value} (h : VR φ x y) : AsR φ #[x] #[y] := (AsR.empty φ).push h

/-- A value without addresses stands for itself. -/
inductive Plain : Value → Prop
  | bool {b : Bool} : Plain (.bool b)
  | int {k : IntKind} {n : Int} : Plain (.int k n)
  | string {s : ByteArray} : Plain (.string s)
  | ptrNil : Plain (.pointer none)
  | slNil {n k : Nat} (hk : k < unk) : Plain (.slice none n k)
  | mapNil : Plain (.map none)
  | func {f : FuncId} : Plain (.func (.func f) #[] #[])
  | nilFunc : Plain .nilFunc
  | nilIface : Plain .nilIface
  | iface {t : TypeId} {v : Value} (h : Plain v) : Plain (.iface t v)
  | agg {as : Array Value} (h : ∀ (i : Nat) (x : Value), as[i]? = some x → Plain x) : Plain (.agg as)
  | tuple {as : Array Value} (h : ∀ (i : Nat) (x : Value), as[i]? = some x → Plain x) : Plain (.tuple as)
theorem Plain.vr {φ : Phi} {v : Value} (h : Plain v) : VR φ v v := by
  induction h with
  | bool => exact .bool
  | int => exact .int
  | string => exact .string
  | ptrNil => exact .ptrNil
  | slNil hk => exact .slNil hk
  | mapNil => exact .mapNil
  | func => exact .func (.same (fun _ e => by cases e)) rfl (fun i x y h => by simp at h) rfl (fun i x y h => by simp at h)
  | nilFunc => exact .nilFunc
  | nilIface => exact .nilIface
  | iface _ ih => exact .iface ih
  | agg _ ih => exact .agg rfl fun i x y hx hy => by rw [hx] at hy; injection hy with hy; subst hy; exact ih i x hx
  | tuple _ ih => exact .tuple rfl fun i x y hx hy => by rw [hx] at hy; injection hy with hy; subst hy; exact ih i x hx

/-! ### Objects -/
inductive TargetR (φ : Phi) : Target → Target → Prop
  | fn {f f' : Fn} {as bs : Array Value} (h : FnR φ f f') (h' : AsR φ as bs) : TargetR φ (.fn f as) (.fn f' bs)
  | nil : TargetR φ .nil .nil
  | builtin {b : Builtin} {ts : Array TypeId} {t : TypeId} {cs : Array Bool} : TargetR φ (.builtin b ts t cs) (.builtin b ts t cs)
  | collected {r r' : Nat} (h : φ r = some r') : TargetR φ (.collected r) (.collected r')
structure DefR (φ : Phi) (d d' : Deferred) : Prop where
  target : TargetR φ d.target d'.target
  args : AsR φ d.args d'.args
inductive DefsR (φ : Phi) : List Deferred → List Deferred → Prop
  | nil : DefsR φ [] []
  | cons {d d' : Deferred} {l l' : List Deferred} (h : DefR φ d d') (h' : DefsR φ l l') : DefsR φ (d :: l) (d' :: l')
structure EntryR (φ : Phi) (e e' : MapEntry) : Prop where
  plain : Plain e.key
  same : e'.key = e.key
  val : VR φ e.val e'.val
  born : e.born = e'.born
def EntriesR (φ : Phi) (as bs : Array MapEntry) : Prop := as.size = bs.size ∧ ∀ (i : Nat) (x y : MapEntry), as[i]? = some x → bs[i]? = some y → EntryR φ x y
inductive OR (φ : Phi) : Obj → Obj → Prop
  | map {es es' : Array MapEntry} {c : Nat} (h : EntriesR φ es es') : OR φ (.map es c) (.map es' c)
  | str {s : ByteArray} {p : Nat} : OR φ (.stringIter s p) (.stringIter s p)
  | iterNil {s : Nat} {seen : Array Nat} {st : Nat} : OR φ (.mapIter none s seen st) (.mapIter none s seen st)
  | iter {m m' : Nat} {s : Nat} {seen : Array Nat} {st : Nat} (h : φ m = some m') : OR φ (.mapIter (some m) s seen st) (.mapIter (some m') s seen st)
  | loop {l l' : Loop} (h1 : l.state = l'.state) (h2 : l.pending = l'.pending) (h4 : AsR φ l.tmps l'.tmps) (h5 : l.params = l'.params) (h6 : l.assign = l'.assign) (h7 : l.body = l'.body) (h8 : φ l.defers = some l'.defers) : OR φ (.loop l) (.loop l')
  | defsNone : OR φ (.deferred none) (.deferred none)
  | defs {l l' : List Deferred} (h : DefsR φ l l') : OR φ (.deferred (some l)) (.deferred (some l'))
theorem TargetR.mono0 {φ φ' : Phi} (h : Ext0 φ φ') {a b : Target} (x : TargetR φ a b) : TargetR φ' a b := by
  cases x with
  | fn h1 h2 => exact .fn (h1.mono0 h) (h2.mono0 h)
  | nil => exact .nil
  | builtin => exact .builtin
  | collected h1 => exact .collected (h _ _ h1)
theorem TargetR.mono {φ φ' : Phi} (h : Ext φ φ') {a b : Target} (x : TargetR φ a b) : TargetR φ' a b := TargetR.mono0 h.toExt0 x
theorem DefR.mono0 {φ φ' : Phi} (h : Ext0 φ φ') {a b : Deferred} (x : DefR φ a b) : DefR φ' a b := ⟨x.1.mono0 h, x.2.mono0 h⟩
theorem DefR.mono {φ φ' : Phi} (h : Ext φ φ') {a b : Deferred} (x : DefR φ a b) : DefR φ' a b := DefR.mono0 h.toExt0 x
theorem DefsR.mono0 {φ φ' : Phi} (h : Ext0 φ φ') {a b : List Deferred} (x : DefsR φ a b) : DefsR φ' a b := by
  induction x with
  | nil => exact .nil
  | cons h1 _ ih => exact .cons (h1.mono0 h) ih
theorem DefsR.mono {φ φ' : Phi} (h : Ext φ φ') {a b : List Deferred} (x : DefsR φ a b) : DefsR φ' a b := DefsR.mono0 h.toExt0 x
theorem EntryR.key {φ : Phi} {e e' : MapEntry} (h : EntryR φ e e') : VR φ e.key e'.key := by rw [h.same]; exact h.plain.vr
theorem EntryR.mono0 {φ φ' : Phi} (h : Ext0 φ φ') {a b : MapEntry} (x : EntryR φ a b) : EntryR φ' a b := ⟨x.1, x.2, x.3.mono0 h, x.4⟩
theorem EntryR.mono {φ φ' : Phi} (h : Ext φ φ') {a b : MapEntry} (x : EntryR φ a b) : EntryR φ' a b := EntryR.mono0 h.toExt0 x
theorem EntriesR.mono0 {φ φ' : Phi} (h : Ext0 φ φ') {a b : Array MapEntry} (x : EntriesR φ a b) : EntriesR φ' a b := ⟨x.1, fun i e e' h1 h2 => (x.2 i e e' h1 h2).mono0 h⟩
theorem EntriesR.mono {φ φ' : Phi} (h : Ext φ φ') {a b : Array MapEntry} (x : EntriesR φ a b) : EntriesR φ' a b := EntriesR.mono0 h.toExt0 x
theorem OR.mono0 {φ φ' : Phi} (h : Ext0 φ φ') {a b : Obj} (x : OR φ a b) : OR φ' a b := by
  cases x with
  | map h1 => exact .map (h1.mono0 h)
  | str => exact .str
  | iterNil => exact .iterNil
  | iter h1 => exact .iter (h _ _ h1)
  | loop h1 h2 h4 h5 h6 h7 h8 => exact .loop h1 h2 (h4.mono0 h) h5 h6 h7 (h _ _ h8)
  | defsNone => exact .defsNone
  | defs h1 => exact .defs (h1.mono0 h)
theorem OR.mono {φ φ' : Phi} (h : Ext φ φ') {a b : Obj} (x : OR φ a b) : OR φ' a b := OR.mono0 h.toExt0 x
theorem OR.noCells {φ : Phi} {a b : Obj} (x : OR φ a b) : (∀ c e f, a ≠ .cells c e f) ∧ ∀ c e f, b ≠ .cells c e f := by
  cases x <;> exact ⟨fun _ _ _ e => (by cases e), fun _ _ _ e => (by cases e)⟩

/-! ### Heaps -/
/-- A block. -/
inductive AObj where
  | cells (elem : TypeId) (n : Nat) (exact : Bool) (ro : Bool) (kin : List Nat) (c : T Value)
  | obj (o : Obj)
  | dead
structure AHeap where
  blocks : T AObj
  next : Nat
/-- The next number is free. -/
noncomputable def AHeap.room (h : AHeap) : Bool := match h.blocks.get h.next with
  | none => true
  | some _ => false
theorem AHeap.room_none {h : AHeap} (hr : h.room = true) : h.blocks.get h.next = none := by
  unfold AHeap.room at hr
  split at hr
  · assumption
  · cases hr

def RowR (φ : Phi) (n : Nat) (exact : Bool) (t : T Value) (arr : Array Value) : Prop :=
  n ≤ arr.size ∧ (exact = true → arr.size = n) ∧ ∀ i v, t.get i = some v → i < n ∧ ∃ u, arr[i]? = some u ∧ VR φ v u
def BlockR (φ : Phi) (w : World) (b : Nat) : AObj → Prop
  | .cells e n x _ _ t => ∃ c arr, φ b = some c ∧ w.heap[c]? = some (.cells arr e (0, 0)) ∧ RowR φ n x t arr ∧ arr.size = φ.size b
  | .obj o => ∃ c o', φ b = some c ∧ w.heap[c]? = some o' ∧ OR φ o o'
  | .dead => True
/-- Two blocks that may be one: the one is an elder state of the other, and is not written any more. -/
def KinR (h : AHeap) (b b' : Nat) : Prop := ∃ e n x ro kin t e' n' x' kin' t', h.blocks.get b = some (.cells e n x ro kin t) ∧ h.blocks.get b' = some (.cells e' n' x' true kin' t') ∧ b' ∈ kin ∧ n' ≤ n
structure HR (w0 : World) (base : Nat) (φ : Phi) (h : AHeap) (w : World) : Prop where
  blocks : ∀ b o, φ.gh b = false → h.blocks.get b = some o → BlockR φ w b o
  fresh : ∀ b, h.blocks.get b = none → φ b = none
  lo : ∀ b c, φ b = some c → base ≤ c ∧ c < w.heap.size
  apart : ∀ b b' c o o', φ b = some c → φ b' = some c → h.blocks.get b = some o → h.blocks.get b' = some o' → o ≠ .dead → o' ≠ .dead → b ≠ b' → KinR h b b' ∨ KinR h b' b
  below : Below base w0 w
  base_le : base ≤ w0.heap.size
  ghost : ∀ b, φ.gh b = true → φ b = none ∧ h.blocks.get b ≠ none
theorem HR.real {w0 : World} {base : Nat} {φ : Phi} {h : AHeap} {w : World} (H : HR w0 base φ h w) {b c : Nat} (hb : φ b = some c) : φ.gh b = false := by
  cases hg : φ.gh b with
  | false => rfl
  | true => rw [(H.ghost b hg).1] at hb; cases hb
theorem HR.free {w0 : World} {base : Nat} {φ : Phi} {h : AHeap} {w : World} (H : HR w0 base φ h w) (hr : h.room = true) : φ h.next = none := H.fresh _ (AHeap.room_none hr)
end Go.Ab

/- An evaluator of the model's code over an abstract heap: a tree is run on an abstract heap; a tree that does the same on the heap that it stands for. -/
namespace Go.Ab
open Go.RowKit
noncomputable section

/-- Blocks that a write at i may reach besides: dead from now on. -/
def kill (t : T AObj) (i : Nat) : List Nat → T AObj
  | [] => t
  | k :: l => match t.get k with
    | some (.cells _ n _ _ _ _) => if i < n then kill (t.set k .dead) i l else kill t i l
    | _ => kill t i l
def aload (h : AHeap) (a : Addr) : Option Value :=
  match h.blocks.get a.block with
  | some (.cells _ _ _ _ _ c) => match a.spot with
    | none => c.get a.off
    | some _ => none
  | _ => none
def oneV : Value → Bool
  | .agg _ => false
  | .tuple _ => false
  | _ => true
def astore (h : AHeap) (a : Addr) (v : Value) : Option AHeap :=
  match h.blocks.get a.block with
  | some (.cells e n x false kin c) => match a.spot with
    | none => if a.off < n ∧ oneV v = true then some ⟨(kill h.blocks a.off kin).set a.block (.cells e n x false kin (c.set a.off v)), h.next⟩ else none
    | some _ => none
  | _ => none
def AHeap.push (h : AHeap) (o : AObj) : AHeap := ⟨h.blocks.set h.next o, h.next + 1⟩
def AHeap.put (h : AHeap) (b : Nat) (o : AObj) : AHeap := ⟨h.blocks.set b o, h.next⟩
def anew (o : Obj) : Option AObj :=
  match o with
  | .cells c e (0, 0) => some (.cells e c.size true false [] (T.ofList c.toList))
  | .map es c => some (.obj (.map es c))
  | .stringIter s p => some (.obj (.stringIter s p))
  | .mapIter m s seen st => some (.obj (.mapIter m s seen st))
  | .loop l => some (.obj (.loop l))
  | .deferred d => some (.obj (.deferred d))
  | _ => none
def isObj : Obj → Bool
  | .cells .. => false
  | _ => true

/-- The run of a tree on an abstract heap. -/
def arun (P : Program) {α : Type} (s : Sem α) : AHeap → Option (α × AHeap) :=
  Sem.rec (motive := fun _ => AHeap → Option (α × AHeap))
    (fun a h => some (a, h))
    (fun _ a _ ih h => Option.casesOn (motive := fun _ => Option (α × AHeap)) (aload h a) none (fun v => ih v h))
    (fun _ a v _ ih h => Option.casesOn (motive := fun _ => Option (α × AHeap)) (astore h a v) none ih)
    (fun o _ ih h => Option.casesOn (motive := fun _ => Option (α × AHeap)) (anew o) none (fun b => match h.room with
      | true => ih h.next (h.push b)
      | false => none))
    (fun r _ ih h => match h.blocks.get r with
      | some (.cells e n true _ _ _) => ih (some (e, n)) h
      | some (.obj _) => ih none h
      | _ => none)
    (fun _ _ _ _ _ => none)
    (fun a _ ih h => match h.blocks.get a.block with
      | some (.cells _ _ _ _ _ _) => ih false h
      | _ => none)
    (fun r _ ih h => match h.blocks.get r with
      | some (.obj o) => ih o h
      | _ => none)
    (fun r o _ ih h => match h.blocks.get r with
      | some (.obj _) => match isObj o with
        | true => ih (h.put r (.obj o))
        | false => none
      | _ => none)
    (fun q _ ih h => match q.forced with
      | true => ih 0 h
      | false => none)
    (fun _ _ _ _ => none)
    (fun _ ih h => ih P h)
    (fun _ _ ih h => ih h)
    (fun _ _ => none) s

section
variable {α β : Type}
theorem arun_pure (P : Program) (a : α) (h : AHeap) : arun P (.pure a) h = some (a, h) := rfl
theorem arun_load (P : Program) (m : Mode) (a : Addr) (k : Value → Sem α) (h : AHeap) : arun P (.load m a k) h = Option.casesOn (motive := fun _ => Option (α × AHeap)) (aload h a) none (fun v => arun P (k v) h) := rfl
theorem arun_store (P : Program) (m : Mode) (a : Addr) (v : Value) (k : Sem α) (h : AHeap) : arun P (.store m a v k) h = Option.casesOn (motive := fun _ => Option (α × AHeap)) (astore h a v) none (arun P k) := rfl
theorem arun_new (P : Program) (o : Obj) (k : Nat → Sem α) (h : AHeap) : arun P (.new o k) h = Option.casesOn (motive := fun _ => Option (α × AHeap)) (anew o) none (fun b => match h.room with
  | true => arun P (k h.next) (h.push b)
  | false => none) := rfl
end

theorem arun_bind (P : Program) {α β : Type} (s : Sem α) (f : α → Sem β) : ∀ h, arun P (s.bind f) h = match arun P s h with
    | some (a, h') => arun P (f a) h'
    | none => none := by
  induction s with
  | pure a => intro h; rfl
  | load m a k ih =>
    intro h
    rw [Sem.bind, arun_load, arun_load]
    cases aload h a with
    | none => rfl
    | some v => exact ih v h
  | store m a v k ih =>
    intro h
    rw [Sem.bind, arun_store, arun_store]
    cases astore h a v with
    | none => rfl
    | some h' => exact ih h'
  | new o k ih =>
    intro h
    rw [Sem.bind, arun_new, arun_new]
    cases anew o with
    | none => rfl
    | some b =>
      simp only
      cases h.room with
      | true => exact ih _ _
      | false => rfl
  | shape r k ih =>
    intro h
    show (match h.blocks.get r with
      | some (.cells e n true _ _ _) => arun P ((k (some (e, n))).bind f) h
      | some (.obj _) => arun P ((k none).bind f) h
      | _ => none) = match (match h.blocks.get r with
      | some (.cells e n true _ _ _) => arun P (k (some (e, n))) h
      | some (.obj _) => arun P (k none) h
      | _ => none) with
      | some (a, h') => arun P (f a) h'
      | none => none
    cases h.blocks.get r with
    | none => rfl
    | some x =>
      cases x with
      | cells e n x ro kin t => cases x <;> first | rfl | exact ih _ h
      | obj o => exact ih _ h
      | dead => rfl
  | freeze a n k ih => intro h; rfl
  | frozen a k ih =>
    intro h
    show (match h.blocks.get a.block with
      | some (.cells _ _ _ _ _ _) => arun P ((k false).bind f) h
      | _ => none) = match (match h.blocks.get a.block with
      | some (.cells _ _ _ _ _ _) => arun P (k false) h
      | _ => none) with
      | some (a, h') => arun P (f a) h'
      | none => none
    cases h.blocks.get a.block with
    | none => rfl
    | some x => cases x <;> first | rfl | exact ih _ h
  | getObj r k ih =>
    intro h
    show (match h.blocks.get r with
      | some (.obj o) => arun P ((k o).bind f) h
      | _ => none) = match (match h.blocks.get r with
      | some (.obj o) => arun P (k o) h
      | _ => none) with
      | some (a, h') => arun P (f a) h'
      | none => none
    cases h.blocks.get r with
    | none => rfl
    | some x => cases x <;> first | rfl | exact ih _ h
  | setObj r o k ih =>
    intro h
    show (match h.blocks.get r with
      | some (.obj _) => (match isObj o with
        | true => arun P (k.bind f) (h.put r (.obj o))
        | false => none)
      | _ => none) = match (match h.blocks.get r with
      | some (.obj _) => (match isObj o with
        | true => arun P k (h.put r (.obj o))
        | false => none)
      | _ => none) with
      | some (a, h') => arun P (f a) h'
      | none => none
    cases h.blocks.get r with
    | none => rfl
    | some x => cases x <;> first | rfl | (cases isObj o <;> first | rfl | exact ih _)
  | choose q k ih =>
    intro h
    show (match q.forced with
      | true => arun P ((k 0).bind f) h
      | false => none) = match (match q.forced with
      | true => arun P (k 0) h
      | false => none) with
      | some (a, h') => arun P (f a) h'
      | none => none
    cases q.forced <;> first | rfl | exact ih _ h
  | sys c k ih => intro h; rfl
  | program k ih => intro h; exact ih P h
  | mark m k ih => intro h; exact ih h
  | halt x => intro h; rfl
/-- A tree without a result on any abstract heap. -/
def Stops (P : Program) {α : Type} (s : Sem α) : Prop := ∀ h, arun P s h = none
theorem Stops.bind {P : Program} {α β : Type} {s : Sem α} (hs : Stops P s) (f : α → Sem β) : Stops P (s.bind f) := fun h => by rw [arun_bind, hs]
theorem Stops.then_ {P : Program} {α β : Type} (s : Sem α) {f : α → Sem β} (hf : ∀ a, Stops P (f a)) : Stops P (s.bind f) := fun h => by
  rw [arun_bind]
  cases arun P s h with
  | none => rfl
  | some x => exact hf _ _

/-! ### Trees that do the same -/
inductive SR (P : Program) {α β : Type} (R : Phi → α → β → Prop) : Phi → Sem α → Sem β → Prop
  | pure {φ : Phi} {a : α} {b : β} (h : R φ a b) : SR P R φ (.pure a) (.pure b)
  | load {φ : Phi} {m m' : Mode} {a a' : Addr} {k : Value → Sem α} {k' : Value → Sem β} (h : AddrR φ a a') (hk : ∀ v u, VR φ v u → SR P R φ (k v) (k' u)) : SR P R φ (.load m a k) (.load m' a' k')
  | store {φ : Phi} {m m' : Mode} {a a' : Addr} {v v' : Value} {k : Sem α} {k' : Sem β} (h : AddrR φ a a') (hv : VR φ v v') (hk : SR P R φ k k') : SR P R φ (.store m a v k) (.store m' a' v' k')
  | newRow {φ : Phi} {c c' : Array Value} {e : TypeId} {k : Nat → Sem α} {k' : Nat → Sem β} (h : AsR φ c c') (hk : ∀ φ' r r', Ext φ φ' → φ' r = some r' → SR P R φ' (k r) (k' r')) : SR P R φ (.new (.cells c e) k) (.new (.cells c' e) k')
  | newObj {φ : Phi} {o o' : Obj} {k : Nat → Sem α} {k' : Nat → Sem β} (h : OR φ o o') (hk : ∀ φ' r r', Ext φ φ' → φ' r = some r' → SR P R φ' (k r) (k' r')) : SR P R φ (.new o k) (.new o' k')
  | shape {φ : Phi} {r r' : Nat} {k : Option (TypeId × Nat) → Sem α} {k' : Option (TypeId × Nat) → Sem β} (h : φ r = some r') (hk : ∀ x, SR P R φ (k x) (k' x)) : SR P R φ (.shape r k) (.shape r' k')
  | frozen {φ : Phi} {a a' : Addr} {k : Bool → Sem α} {k' : Bool → Sem β} (h : AddrR φ a a') (hk : ∀ x, SR P R φ (k x) (k' x)) : SR P R φ (.frozen a k) (.frozen a' k')
  | getObj {φ : Phi} {r r' : Nat} {k : Obj → Sem α} {k' : Obj → Sem β} (h : φ r = some r') (hk : ∀ o o', OR φ o o' → SR P R φ (k o) (k' o')) : SR P R φ (.getObj r k) (.getObj r' k')
  | setObj {φ : Phi} {r r' : Nat} {o o' : Obj} {k : Sem α} {k' : Sem β} (h : φ r = some r') (ho : OR φ o o') (hk : SR P R φ k k') : SR P R φ (.setObj r o k) (.setObj r' o' k')
  | choose {φ : Phi} {q q' : Question} {k : Nat → Sem α} {k' : Nat → Sem β} (h : q.forced = true → q'.forced = true) (hk : q.forced = true → SR P R φ (k 0) (k' 0)) : SR P R φ (.choose q k) (.choose q' k')
  | program {φ : Phi} {k : Program → Sem α} {k' : Program → Sem β} (hk : SR P R φ (k P) (k' P)) : SR P R φ (.program k) (.program k')
  | mark {φ : Phi} {m m' : Mark} {k : Sem α} {k' : Sem β} (hk : SR P R φ k k') : SR P R φ (.mark m k) (.mark m' k')
  | halt {φ : Phi} {h : Halt} {s : Sem β} : SR P R φ (.halt h) s
  | freeze {φ : Phi} {a : Addr} {n : Nat} {k : Sem α} {s : Sem β} : SR P R φ (.freeze a n k) s
  | sys {φ : Phi} {c : Sys} {k : SysRet → Sem α} {s : Sem β} : SR P R φ (.sys c k) s
  | stops {φ : Phi} {s : Sem α} {s' : Sem β} (h : Stops P s) : SR P R φ s s'

theorem SR.bind {P : Program} {α β γ δ : Type} {R : Phi → α → β → Prop} {R' : Phi → γ → δ → Prop} {φ : Phi} {s : Sem α} {s' : Sem β} {f : α → Sem γ} {g : β → Sem δ}
    (h : SR P R φ s s') (hf : ∀ φ' a b, Ext φ φ' → R φ' a b → SR P R' φ' (f a) (g b)) : SR P R' φ (s.bind f) (s'.bind g) := by
  induction h with
  | pure h => exact hf _ _ _ (Ext.refl _) h
  | load h _ ih => exact .load h fun v u hv => ih v u hv hf
  | store h hv _ ih => exact .store h hv (ih hf)
  | newRow h _ ih => exact .newRow h fun φ' r r' he hr => ih φ' r r' he hr fun φ'' a b he' => hf φ'' a b (he.trans he')
  | newObj h _ ih => exact .newObj h fun φ' r r' he hr => ih φ' r r' he hr fun φ'' a b he' => hf φ'' a b (he.trans he')
  | shape h _ ih => exact .shape h fun x => ih x hf
  | frozen h _ ih => exact .frozen h fun x => ih x hf
  | getObj h _ ih => exact .getObj h fun o o' ho => ih o o' ho hf
  | setObj h ho _ ih => exact .setObj h ho (ih hf)
  | choose h _ ih => exact .choose h fun hq => ih hq hf
  | program _ ih => exact .program (ih hf)
  | mark _ ih => exact .mark (ih hf)
  | halt => exact .halt
  | freeze => exact .freeze
  | sys => exact .sys
  | stops h => exact .stops (h.bind f)
theorem SR.mono {P : Program} {α β : Type} {R R' : Phi → α → β → Prop} {φ : Phi} {s : Sem α} {s' : Sem β} (h : SR P R φ s s') (hr : ∀ φ a b, R φ a b → R' φ a b) : SR P R' φ s s' := by
  induction h with
  | pure h => exact .pure (hr _ _ _ h)
  | load h _ ih => exact .load h ih
  | store h hv _ ih => exact .store h hv ih
  | newRow h _ ih => exact .newRow h ih
  | newObj h _ ih => exact .newObj h ih
  | shape h _ ih => exact .shape h ih
  | frozen h _ ih => exact .frozen h ih
  | getObj h _ ih => exact .getObj h ih
  | setObj h ho _ ih => exact .setObj h ho ih
  | choose h _ ih => exact .choose h ih
  | program _ ih => exact .program ih
  | mark _ ih => exact .mark ih
  | halt => exact .halt
  | freeze => exact .freeze
  | sys => exact .sys
  | stops h => exact .stops h

/-! ### The steps on the heaps -/
theorem kill_or (i : Nat) : ∀ (l : List Nat) (t : T AObj) (b : Nat), (kill t i l).get b = t.get b ∨ (kill t i l).get b = some .dead
  | [], _, _ => .inl rfl
  | k :: l, t, b => by
    rw [kill]
    split
    · split
      · rcases kill_or i l (t.set k .dead) b with h | h
        · rw [h, T.get_set]
          split
          · exact .inr rfl
          · exact .inl rfl
        · exact .inr h
      · exact kill_or i l t b
    · exact kill_or i l t b
theorem kill_mem (i : Nat) : ∀ (l : List Nat) (t : T AObj) (b : Nat) (e : TypeId) (n : Nat) (x ro : Bool) (kin : List Nat) (c : T Value), b ∈ l → (kill t i l).get b = some (.cells e n x ro kin c) → n ≤ i
  | [], _, _, _, _, _, _, _, _, h, _ => by cases h
  | k :: l, t, b, e, n, x, ro, kin, c, h, hg => by
    rw [kill] at hg
    by_cases hb : b ∈ l
    · split at hg
      · split at hg
        · exact kill_mem i l _ b e n x ro kin c hb hg
        · exact kill_mem i l _ b e n x ro kin c hb hg
      · exact kill_mem i l _ b e n x ro kin c hb hg
    · have hk : b = k := by
        rcases List.mem_cons.1 h with h | h
        · exact h
        · exact absurd h hb
      subst hk
      split at hg
      · rename_i e0 n0 x0 ro0 kin0 c0 h0
        split at hg
        · rcases kill_or i l (t.set b .dead) b with h1 | h1
          · rw [h1, T.get_set, if_pos rfl] at hg; cases hg
          · rw [h1] at hg; cases hg
        · rename_i hlt
          rcases kill_or i l t b with h1 | h1
          · rw [h1, h0] at hg
            injection hg with hg
            injection hg with _ hn
            omega
          · rw [h1] at hg; cases hg
      · rename_i h0
        rcases kill_or i l t b with h1 | h1
        · rw [h1] at hg
          exact absurd hg (h0 _ _ _ _ _ _)
        · rw [h1] at hg; cases hg

section
variable {w0 w w' : World} {base : Nat} {φ φ' : Phi} {h : AHeap}
theorem BlockR.keep {b : Nat} {o : AObj} (hb : BlockR φ w b o) (he : Ext0 φ φ') (hk : ∀ c, φ b = some c → w'.heap[c]? = w.heap[c]?) : BlockR φ' w' b o := by
  cases o with
  | cells e n x ro kin t =>
    obtain ⟨c, arr, h1, h2, ⟨h3, h4, h5⟩, h6⟩ := hb
    exact ⟨c, arr, he _ _ h1, (hk c h1).trans h2, ⟨h3, h4, fun i v hv => by
      obtain ⟨hi, u, hu, hr⟩ := h5 i v hv
      exact ⟨hi, u, hu, hr.mono0 he⟩⟩, by rw [he.sz _ _ h1]; exact h6⟩
  | obj o =>
    obtain ⟨c, o', h1, h2, h3⟩ := hb
    exact ⟨c, o', he _ _ h1, (hk c h1).trans h2, h3.mono0 he⟩
  | dead => trivial

/-- The blocks with one more. -/
def Phi.more (φ : Phi) (n c N : Nat) : Phi := ⟨fun b => if b = n then some c else φ b, fun b => if b = n then N else φ.size b, φ.gh⟩
theorem more_to (φ : Phi) (n c N b : Nat) : (φ.more n c N) b = if b = n then some c else φ b := rfl
theorem more_size (φ : Phi) (n c N b : Nat) : (φ.more n c N).size b = if b = n then N else φ.size b := rfl
theorem ext_more (hf : φ h.next = none) (c N : Nat) : Ext φ (φ.more h.next c N) := ⟨⟨fun b d hb => by
  rw [more_to, if_neg (fun e => by rw [e, hf] at hb; cases hb)]
  exact hb, fun b d hb => by
  rw [more_size, if_neg (fun e => by rw [e, hf] at hb; cases hb)]⟩, rfl⟩
theorem HR.push (H : HR w0 base φ h w) (hroom : h.room = true) (o : Obj) (ob : AObj) (N : Nat) (hb : BlockR (φ.more h.next w.heap.size N) { w with heap := w.heap.push o } h.next ob) :
    HR w0 base (φ.more h.next w.heap.size N) (h.push ob) { w with heap := w.heap.push o } := by
  have hext := ext_more (H.free hroom) w.heap.size N
  have hold : ∀ c, c < w.heap.size → (w.heap.push o)[c]? = w.heap[c]? := fun c hc => by rw [Array.getElem?_push, if_neg (by omega)]
  have hgn : φ.gh h.next = false := by
    cases hg : φ.gh h.next with
    | false => rfl
    | true => exact absurd (AHeap.room_none hroom) (H.ghost _ hg).2
  refine ⟨fun b x hgb hx => ?_, fun b hb => ?_, fun b c hc => ?_, fun b b' c x x' h1 h2 h3 h4 h5 h6 h7 => ?_, ?_, ?_, fun b hgb => ?_⟩
  · rw [show (h.push ob).blocks = h.blocks.set h.next ob from rfl, T.get_set] at hx
    by_cases e : b = h.next
    · rw [if_pos e] at hx
      injection hx with hx
      subst hx e
      exact hb
    · rw [if_neg e] at hx
      exact (H.blocks b x hgb hx).keep hext fun c hc => hold c (H.lo b c hc).2
  · rw [show (h.push ob).blocks = h.blocks.set h.next ob from rfl, T.get_set] at hb
    by_cases e : b = h.next
    · rw [if_pos e] at hb; cases hb
    · rw [if_neg e] at hb
      rw [more_to, if_neg e]
      exact H.fresh b hb
  · rw [more_to] at hc
    have hs : (w.heap.push o).size = w.heap.size + 1 := by simp
    show base ≤ c ∧ c < (w.heap.push o).size
    rw [hs]
    by_cases e : b = h.next
    · rw [if_pos e] at hc
      injection hc with hc
      subst hc
      exact ⟨Nat.le_trans H.base_le H.below.size, by omega⟩
    · rw [if_neg e] at hc
      have := H.lo b c hc
      omega
  · have hne : ∀ b, φ.more h.next w.heap.size N b = some c → (b = h.next ∧ c = w.heap.size) ∨ (b ≠ h.next ∧ φ b = some c) := fun b hb => by
      rw [more_to] at hb
      by_cases e : b = h.next
      · rw [if_pos e] at hb; injection hb with hb; exact .inl ⟨e, hb.symm⟩
      · rw [if_neg e] at hb; exact .inr ⟨e, hb⟩
    rw [show (h.push ob).blocks = h.blocks.set h.next ob from rfl, T.get_set] at h3 h4
    rcases hne b h1 with ⟨e1, e2⟩ | ⟨e1, e2⟩ <;> rcases hne b' h2 with ⟨e3, e4⟩ | ⟨e3, e4⟩
    · exact absurd (e1.trans e3.symm) h7
    · have := (H.lo b' c e4).2; omega
    · have := (H.lo b c e2).2; omega
    · rw [if_neg e1] at h3
      rw [if_neg e3] at h4
      have hk : ∀ x y, KinR h x y → x ≠ h.next → y ≠ h.next → KinR (h.push ob) x y := fun x y hk hx hy => by
        obtain ⟨e, n, xx, ro, kin, t, e', n', x', kin', t', k1, k2, k3⟩ := hk
        refine ⟨e, n, xx, ro, kin, t, e', n', x', kin', t', ?_, ?_, k3⟩
        · show (h.blocks.set h.next ob).get x = _; rw [T.get_set, if_neg hx]; exact k1
        · show (h.blocks.set h.next ob).get y = _; rw [T.get_set, if_neg hy]; exact k2
      exact (H.apart b b' c x x' e2 e4 h3 h4 h5 h6 h7).imp (fun hk' => hk _ _ hk' e1 e3) (fun hk' => hk _ _ hk' e3 e1)
  · exact H.below.trans ⟨rfl, rfl, rfl, by show w.heap.size ≤ (w.heap.push o).size; simp, fun k hk => hold k (Nat.lt_of_lt_of_le hk (Nat.le_trans H.base_le H.below.size))⟩
  · exact H.base_le
  · obtain ⟨p1, p2⟩ := H.ghost b hgb
    have hne : b ≠ h.next := fun e => by rw [e] at hgb; rw [show (φ.more h.next w.heap.size N).gh = φ.gh from rfl] at hgb; rw [hgn] at hgb; cases hgb
    refine ⟨by rw [more_to, if_neg hne]; exact p1, ?_⟩
    rw [show (h.push ob).blocks = h.blocks.set h.next ob from rfl, T.get_set, if_neg hne]
    exact p2

theorem aload_sound (H : HR w0 base φ h w) {a a' : Addr} (ha : AddrR φ a a') {v : Value} (hv : aload h a = some v) : ∃ u, w.cell? a' = some u ∧ VR φ v u := by
  cases ha with
  | @mk b c o hb =>
    unfold aload at hv
    cases hg : h.blocks.get b with
    | none => simp [hg] at hv
    | some x =>
      cases x with
      | cells e n x ro kin t =>
        simp only [hg] at hv
        obtain ⟨c', arr, h1, h2, ⟨h3, h4, h5⟩, h6⟩ := H.blocks b _ (H.real hb) hg
        have : c' = c := Option.some.inj (h1.symm.trans hb)
        subst this
        obtain ⟨_, u, hu, hr⟩ := h5 o v hv
        exact ⟨u, by simp [World.cell?, h2, hu], hr⟩
      | obj o => simp [hg] at hv
      | dead => simp [hg] at hv

theorem oneV_of {v u : Value} (h : VR φ v u) (hv : oneV v = true) : (∀ c, u ≠ .agg c) ∧ ∀ c, u ≠ .tuple c := by
  cases h <;> first | (exfalso; revert hv; simp [oneV]; done) | exact ⟨fun _ e => (by cases e), fun _ e => (by cases e)⟩

theorem astore_sound (H : HR w0 base φ h w) {a a' : Addr} (ha : AddrR φ a a') {v v' : Value} (hvr : VR φ v v') {h' : AHeap} (hs : astore h a v = some h') :
    (∃ u, w.cell? a' = some u) ∧ w.frozen? a' = false ∧ oneV v = true ∧ HR w0 base φ h' (w.setCell a' v') := by
  cases ha with
  | @mk b c o hb =>
    unfold astore at hs
    cases hg : h.blocks.get b with
    | none => simp [hg] at hs
    | some x =>
      cases x with
      | obj o => simp [hg] at hs
      | dead => simp [hg] at hs
      | cells e n x ro kin t =>
        cases ro with
        | true => simp [hg] at hs
        | false =>
          simp only [hg] at hs
          split at hs
          case isFalse => cases hs
          case isTrue hc =>
            injection hs with hs
            obtain ⟨hn, hone⟩ := hc
            obtain ⟨c', arr, h1, h2, ⟨h3, h4, h5⟩, h6⟩ := H.blocks b _ (H.real hb) hg
            have : c' = c := Option.some.inj (h1.symm.trans hb)
            subst this
            have hcell : ∃ u, arr[o]? = some u := ⟨arr[o]'(by omega), Array.getElem?_eq_getElem (by omega)⟩
            obtain ⟨u, hu⟩ := hcell
            have hheap : ∀ k, (w.setCell ⟨c', o, none⟩ v').heap[k]? = if c' = k then some (.cells (arr.setIfInBounds o v') e (0, 0)) else w.heap[k]? := fun k => by
              simp only [World.setCell, Array.getElem?_modify]
              by_cases e : c' = k
              · subst e; simp [h2]
              · rw [if_neg e, if_neg e]
            refine ⟨⟨u, by simp [World.cell?, h2, hu]⟩, by simp [World.frozen?, h2], hone, ?_⟩
            subst hs
            -- what the blocks are now
            have hget : ∀ b2, b2 ≠ b → ∀ y, ((kill h.blocks o kin).set b (.cells e n x false kin (t.set o v))).get b2 = some y → y = .dead ∨ h.blocks.get b2 = some y := fun b2 hne y hy => by
              rw [T.get_set, if_neg hne] at hy
              rcases kill_or o kin h.blocks b2 with hk | hk
              · exact .inr (hk ▸ hy)
              · rw [hk] at hy; injection hy with hy; exact .inl hy.symm
            refine ⟨fun b2 y hgb hy => ?_, fun b2 hy => ?_, fun b2 c2 hb2 => ?_, fun b1 b2 c2 y1 y2 g1 g2 g3 g4 g5 g6 g7 => ?_, ?_, H.base_le, fun b2 hgb => ⟨(H.ghost b2 hgb).1, fun hy => ?_⟩⟩
            · by_cases hne : b2 = b
              · subst hne
                rw [T.get_set, if_pos rfl] at hy
                injection hy with hy
                subst hy
                refine ⟨c', arr.setIfInBounds o v', h1, by rw [hheap, if_pos rfl], ⟨by simpa using h3, fun hx => by simpa using h4 hx, fun i z hz => ?_⟩, by simpa using h6⟩
                rw [T.get_set] at hz
                by_cases hi : i = o
                · subst hi
                  rw [if_pos rfl] at hz
                  injection hz with hz
                  subst hz
                  exact ⟨hn, v', by rw [Array.getElem?_setIfInBounds, if_pos rfl, if_pos (by omega)], hvr⟩
                · rw [if_neg hi] at hz
                  obtain ⟨q1, u2, q2, q3⟩ := h5 i z hz
                  exact ⟨q1, u2, by rw [Array.getElem?_setIfInBounds, if_neg (fun e => hi e.symm)]; exact q2, q3⟩
              · rcases hget b2 hne y hy with rfl | hy2
                · trivial
                · have hB := H.blocks b2 y hgb hy2
                  cases y with
                  | dead => trivial
                  | obj o2 =>
                    obtain ⟨c2, o3, k1, k2, k3⟩ := hB
                    refine ⟨c2, o3, k1, ?_, k3⟩
                    rw [hheap, if_neg (fun e => by subst e; rw [h2] at k2; injection k2 with k2; exact (k3.noCells.2 _ _ _ k2.symm)), k2]
                  | cells e2 n2 x2 ro2 kin2 t2 =>
                    obtain ⟨c2, arr2, k1, k2, ⟨k3, k4, k5⟩, k6⟩ := hB
                    by_cases hcc : c' = c2
                    · subst hcc
                      rw [h2] at k2
                      injection k2 with k2
                      injection k2 with k2 k2'
                      subst k2 k2'
                      have hkin : b2 ∈ kin := by
                        rcases H.apart b b2 c' _ _ h1 k1 hg hy2 (by simp) (by simp) (fun e => hne e.symm) with hk | hk
                        · obtain ⟨_, _, _, _, _, _, _, _, _, _, _, m1, _, m3, _⟩ := hk
                          rw [hg] at m1; injection m1 with m1; injection m1 with _ _ _ _ m1; subst m1; exact m3
                        · obtain ⟨_, _, _, _, _, _, _, _, _, _, _, _, m2, _, _⟩ := hk
                          rw [hg] at m2; injection m2 with m2; injection m2 with _ _ _ m2; cases m2
                      have hle : n2 ≤ o := by
                        rw [T.get_set, if_neg hne] at hy
                        exact kill_mem o kin h.blocks b2 _ _ _ _ _ _ hkin hy
                      refine ⟨c', arr.setIfInBounds o v', k1, by rw [hheap, if_pos rfl], ⟨by simpa using k3, fun hx => by simpa using k4 hx, fun i z hz => ?_⟩, by simpa using k6⟩
                      obtain ⟨q1, u2, q2, q3⟩ := k5 i z hz
                      exact ⟨q1, u2, by rw [Array.getElem?_setIfInBounds, if_neg (by omega)]; exact q2, q3⟩
                    · exact ⟨c2, arr2, k1, by rw [hheap, if_neg hcc]; exact k2, ⟨k3, k4, k5⟩, k6⟩
            · have hy : ((kill h.blocks o kin).set b (.cells e n x false kin (t.set o v))).get b2 = none := hy
              rw [T.get_set] at hy
              by_cases hne : b2 = b
              · rw [if_pos hne] at hy; cases hy
              · rw [if_neg hne] at hy
                rcases kill_or o kin h.blocks b2 with hk | hk
                · rw [hk] at hy; exact H.fresh b2 hy
                · rw [hk] at hy; cases hy
            · have := H.lo b2 c2 hb2
              refine ⟨this.1, ?_⟩
              simpa [World.setCell] using this.2
            · have hold : ∀ bb y, ((kill h.blocks o kin).set b (.cells e n x false kin (t.set o v))).get bb = some y → y ≠ .dead → ∃ y0, h.blocks.get bb = some y0 ∧ y0 ≠ .dead := fun bb y hy hd => by
                by_cases hne : bb = b
                · subst hne; exact ⟨_, hg, by simp⟩
                · rcases hget bb hne y hy with rfl | hy
                  · exact absurd rfl hd
                  · exact ⟨y, hy, hd⟩
              obtain ⟨z1, hz1, hd1⟩ := hold b1 y1 g3 g5
              obtain ⟨z2, hz2, hd2⟩ := hold b2 y2 g4 g6
              have hk : ∀ x1 x2 w1 w2, ((kill h.blocks o kin).set b (.cells e n x false kin (t.set o v))).get x1 = some w1 → w1 ≠ .dead → ((kill h.blocks o kin).set b (.cells e n x false kin (t.set o v))).get x2 = some w2 → w2 ≠ .dead → KinR h x1 x2 → KinR ⟨(kill h.blocks o kin).set b (.cells e n x false kin (t.set o v)), h.next⟩ x1 x2 := by
                intro x1 x2 w1 w2 p1 p2 p3 p4 hk
                obtain ⟨e1, n1, xx1, ro1, kin1, t1, e2, n2, xx2, kin2, t2, m1, m2, m3⟩ := hk
                have hx2 : x2 ≠ b := fun e => by subst e; rw [hg] at m2; injection m2 with m2; injection m2 with _ _ _ m2; cases m2
                have f2 : ((kill h.blocks o kin).set b (.cells e n x false kin (t.set o v))).get x2 = some (.cells e2 n2 xx2 true kin2 t2) := by
                  rcases hget x2 hx2 w2 p3 with rfl | hh
                  · exact absurd rfl p4
                  · rw [p3]; rw [m2] at hh; exact hh.symm
                by_cases hx1 : x1 = b
                · subst hx1
                  rw [hg] at m1
                  injection m1 with m1
                  injection m1 with a1 a2 a3 a4 a5 a6
                  subst a1 a2 a3 a4 a5 a6
                  exact ⟨e, n, x, false, kin, t.set o v, e2, n2, xx2, kin2, t2, by show T.get _ _ = _; rw [T.get_set, if_pos rfl], f2, m3⟩
                · have f1 : ((kill h.blocks o kin).set b (.cells e n x false kin (t.set o v))).get x1 = some (.cells e1 n1 xx1 ro1 kin1 t1) := by
                    rcases hget x1 hx1 w1 p1 with rfl | hh
                    · exact absurd rfl p2
                    · rw [p1]; rw [m1] at hh; exact hh.symm
                  exact ⟨e1, n1, xx1, ro1, kin1, t1, e2, n2, xx2, kin2, t2, f1, f2, m3⟩
              exact (H.apart b1 b2 c2 z1 z2 g1 g2 hz1 hz2 hd1 hd2 g7).imp (hk _ _ _ _ g3 g5 g4 g6) (hk _ _ _ _ g4 g6 g3 g5)
            · exact H.below.setCell (H.lo b c' h1).1 v'
            · have hy : ((kill h.blocks o kin).set b (.cells e n x false kin (t.set o v))).get b2 = none := hy
              rw [T.get_set] at hy
              by_cases hne : b2 = b
              · rw [if_pos hne] at hy; cases hy
              · rw [if_neg hne] at hy
                rcases kill_or o kin h.blocks b2 with hk | hk
                · rw [hk] at hy; exact (H.ghost b2 hgb).2 hy
                · rw [hk] at hy; cases hy

theorem anew_obj (H : HR w0 base φ h w) (hroom : h.room = true) {o o' : Obj} (ho : OR φ o o') {ob : AObj} (hn : anew o = some ob) :
    HR w0 base (φ.more h.next w.heap.size 0) (h.push ob) { w with heap := w.heap.push o' } := by
  have hext := ext_more (H.free hroom) w.heap.size 0
  refine H.push hroom o' ob 0 ?_
  have hob : ob = .obj o := by
    cases ho <;> (simp only [anew] at hn; injection hn with hn; exact hn.symm)
  subst hob
  exact ⟨w.heap.size, o', by simp [more_to], by show (w.heap.push o')[w.heap.size]? = _; simp, ho.mono hext⟩
theorem anew_row (H : HR w0 base φ h w) (hroom : h.room = true) {c c' : Array Value} {e : TypeId} (hc : AsR φ c c') {ob : AObj} (hn : anew (.cells c e) = some ob) :
    HR w0 base (φ.more h.next w.heap.size c'.size) (h.push ob) { w with heap := w.heap.push (.cells c' e) } := by
  have hext := ext_more (H.free hroom) w.heap.size c'.size
  refine H.push hroom _ ob c'.size ?_
  simp only [anew] at hn
  injection hn with hn
  subst hn
  refine ⟨w.heap.size, c', by simp [more_to], by show (w.heap.push _)[w.heap.size]? = _; simp, ⟨Nat.le_of_eq hc.1, fun _ => hc.1.symm, fun i v hv => ?_⟩, by simp [more_size]⟩
  rw [T.get_ofList] at hv
  have hv' : c[i]? = some v := by simpa using hv
  have hi : i < c.size := by
    rcases Nat.lt_or_ge i c.size with hlt | hge
    · exact hlt
    · rw [Array.getElem?_eq_none hge] at hv'; cases hv'
  obtain ⟨u, hu, hr⟩ := hc.get hv'
  exact ⟨hi, u, hu, hr.mono hext⟩
theorem HR.putObj (H : HR w0 base φ h w) {r r' : Nat} (hr : φ r = some r') {o1 : Obj} (hg : h.blocks.get r = some (.obj o1)) {o o' : Obj} (ho : OR φ o o') :
    (∃ x, w.heap[r']? = some x ∧ ∀ c e f, x ≠ .cells c e f) ∧ HR w0 base φ (h.put r (.obj o)) { w with heap := w.heap.setIfInBounds r' o' } := by
  obtain ⟨c, o2, h1, h2, h3⟩ := H.blocks r _ (H.real hr) hg
  have : c = r' := Option.some.inj (h1.symm.trans hr)
  subst this
  have hlt := (H.lo r c h1).2
  have hheap : ∀ k, (w.heap.setIfInBounds c o')[k]? = if c = k then some o' else w.heap[k]? := fun k => by
    rw [Array.getElem?_setIfInBounds]
    by_cases e : c = k
    · subst e; simp [hlt]
    · rw [if_neg e, if_neg e]
  have hone : ∀ b2 y, b2 ≠ r → φ b2 = some c → h.blocks.get b2 = some y → y = .dead := fun b2 y hne hb2 hy => by
    apply Classical.byContradiction
    intro hd
    rcases H.apart r b2 c _ y h1 hb2 hg hy (by simp) hd (fun e => hne e.symm) with hk | hk
    · obtain ⟨_, _, _, _, _, _, _, _, _, _, _, m1, _, _, _⟩ := hk
      rw [hg] at m1; cases m1
    · obtain ⟨_, _, _, _, _, _, _, _, _, _, _, _, m1, _, _⟩ := hk
      rw [hg] at m1; cases m1
  refine ⟨⟨o2, h2, h3.noCells.2⟩, fun b2 y hgb hy => ?_, fun b2 hy => ?_, fun b2 c2 hb2 => ?_, fun b1 b2 c2 y1 y2 g1 g2 g3 g4 g5 g6 g7 => ?_, ?_, H.base_le, fun b2 hgb => ⟨(H.ghost b2 hgb).1, fun hy => ?_⟩⟩
  · rw [show (h.put r (.obj o)).blocks = h.blocks.set r (.obj o) from rfl, T.get_set] at hy
    by_cases e : b2 = r
    · rw [if_pos e] at hy
      injection hy with hy
      subst hy e
      exact ⟨c, o', h1, by show (w.heap.setIfInBounds c o')[c]? = _; rw [hheap, if_pos rfl], ho⟩
    · rw [if_neg e] at hy
      by_cases hd : y = .dead
      · subst hd; trivial
      · exact (H.blocks b2 y hgb hy).keep (Ext.refl _).toExt0 fun c2 hc2 => by
          show (w.heap.setIfInBounds c o')[c2]? = _
          rw [hheap, if_neg (fun ec => by subst ec; exact hd (hone b2 y e hc2 hy))]
  · rw [show (h.put r (.obj o)).blocks = h.blocks.set r (.obj o) from rfl, T.get_set] at hy
    by_cases e : b2 = r
    · rw [if_pos e] at hy; cases hy
    · rw [if_neg e] at hy; exact H.fresh b2 hy
  · have := H.lo b2 c2 hb2
    exact ⟨this.1, by show c2 < (w.heap.setIfInBounds c o').size; simpa using this.2⟩
  · rw [show (h.put r (.obj o)).blocks = h.blocks.set r (.obj o) from rfl, T.get_set] at g3 g4
    have hk : ∀ x y, KinR h x y → KinR (h.put r (.obj o)) x y := fun x y hk => by
      obtain ⟨e, n, xx, ro, kin, t, e', n', x', kin', t', k1, k2, k3⟩ := hk
      have hx : x ≠ r := fun e => by subst e; rw [hg] at k1; cases k1
      have hy : y ≠ r := fun e => by subst e; rw [hg] at k2; cases k2
      refine ⟨e, n, xx, ro, kin, t, e', n', x', kin', t', ?_, ?_, k3⟩
      · show (h.blocks.set r (.obj o)).get x = _; rw [T.get_set, if_neg hx]; exact k1
      · show (h.blocks.set r (.obj o)).get y = _; rw [T.get_set, if_neg hy]; exact k2
    have hold : ∀ bb y, (if bb = r then some (AObj.obj o) else h.blocks.get bb) = some y → y ≠ .dead → ∃ y0, h.blocks.get bb = some y0 ∧ y0 ≠ .dead := fun bb y hy hd => by
      by_cases e : bb = r
      · subst e; exact ⟨_, hg, by simp⟩
      · rw [if_neg e] at hy; exact ⟨y, hy, hd⟩
    obtain ⟨z1, hz1, hd1⟩ := hold b1 y1 g3 g5
    obtain ⟨z2, hz2, hd2⟩ := hold b2 y2 g4 g6
    exact (H.apart b1 b2 c2 z1 z2 g1 g2 hz1 hz2 hd1 hd2 g7).imp (hk _ _) (hk _ _)
  · exact H.below.trans ⟨rfl, rfl, rfl, by show w.heap.size ≤ (w.heap.setIfInBounds c o').size; simp, fun k hk => by
      show (w.heap.setIfInBounds c o')[k]? = _
      rw [hheap, if_neg (fun e => by subst e; have := (H.lo r c h1).1; omega)]⟩
  · rw [show (h.put r (.obj o)).blocks = h.blocks.set r (.obj o) from rfl, T.get_set] at hy
    by_cases e : b2 = r
    · rw [if_pos e] at hy; cases hy
    · rw [if_neg e] at hy; exact (H.ghost b2 hgb).2 hy
end

/-- What a tree does on an abstract heap, its like does on the heap that it stands for. -/
theorem arun_sound {P : Program} {α β : Type} {R : Phi → α → β → Prop} {w0 : World} {base : Nat} {φ : Phi} {s : Sem α} {s' : Sem β} (hs : SR P R φ s s') :
    ∀ {h h' : AHeap} {w : World} {a : α}, HR w0 base φ h w → arun P s h = some (a, h') → ∃ φ' b w', s'.run P w = .ok b w' ∧ R φ' a b ∧ HR w0 base φ' h' w' ∧ Ext φ φ' := by
  induction hs with
  | @pure φ a b hr =>
    intro h h' w a' H hrun
    cases hrun
    exact ⟨φ, b, w, rfl, hr, H, Ext.refl _⟩
  | @load φ m m' a a' k k' ha _ ih =>
    intro h h' w x H hrun
    rw [arun_load] at hrun
    cases hv : aload h a with
    | none => rw [hv] at hrun; cases hrun
    | some v =>
      rw [hv] at hrun
      obtain ⟨u, hu, hr⟩ := aload_sound H ha hv
      obtain ⟨φ', b, w', e, r⟩ := ih v u hr H hrun
      exact ⟨φ', b, w', by rw [Sem.run, hu]; exact e, r⟩
  | @store φ m m' a a' v v' k k' ha hvr _ ih =>
    intro h h' w x H hrun
    rw [arun_store] at hrun
    cases hv : astore h a v with
    | none => rw [hv] at hrun; cases hrun
    | some h1 =>
      rw [hv] at hrun
      obtain ⟨⟨u, hu⟩, hf, hone, H1⟩ := astore_sound H ha hvr hv
      obtain ⟨φ', b, w', e, r⟩ := ih H1 hrun
      refine ⟨φ', b, w', ?_, r⟩
      obtain ⟨n1, n2⟩ := oneV_of hvr hone
      have : Sem.run P (.store m' a' v' k') w = match w.cell? a' with
        | some _ => if w.frozen? a' then .halt (.unsupported (.unsafePointer "a write to bytes that a string shares")) w else k'.run P (w.setCell a' v')
        | none => match w.farStore P a' v' (m' == .atomic) with
          | .ok (w, _) => k'.run P w
          | .error h => .halt h w := by
        cases v' <;> first | rfl | exact absurd rfl (n1 _) | exact absurd rfl (n2 _)
      rw [this, hu]
      simp only [hf]
      exact e
  | @newRow φ c c' e k k' hc _ ih =>
    intro h h' w x H hrun
    rw [arun_new] at hrun
    cases hv : anew (.cells c e) with
    | none => rw [hv] at hrun; cases hrun
    | some ob =>
      rw [hv] at hrun
      simp only at hrun
      cases hroom : h.room with
      | false => rw [hroom] at hrun; cases hrun
      | true =>
      rw [hroom] at hrun
      have hext := ext_more (H.free hroom) w.heap.size c'.size
      obtain ⟨φ', b, w', e, r1, r2, r3⟩ := ih _ h.next w.heap.size hext (by simp [more_to]) (anew_row H hroom hc hv) hrun
      exact ⟨φ', b, w', e, r1, r2, hext.trans r3⟩
  | @newObj φ o o' k k' ho _ ih =>
    intro h h' w x H hrun
    rw [arun_new] at hrun
    cases hv : anew o with
    | none => rw [hv] at hrun; cases hrun
    | some ob =>
      rw [hv] at hrun
      simp only at hrun
      cases hroom : h.room with
      | false => rw [hroom] at hrun; cases hrun
      | true =>
      rw [hroom] at hrun
      have hext := ext_more (H.free hroom) w.heap.size 0
      obtain ⟨φ', b, w', e, r1, r2, r3⟩ := ih _ h.next w.heap.size hext (by simp [more_to]) (anew_obj H hroom ho hv) hrun
      exact ⟨φ', b, w', e, r1, r2, hext.trans r3⟩
  | @shape φ r r' k k' hr _ ih =>
    intro h h' w x H hrun
    have hrun' : (match h.blocks.get r with
      | some (.cells e n true _ _ _) => arun P (k (some (e, n))) h
      | some (.obj _) => arun P (k none) h
      | _ => none) = some (x, h') := hrun
    split at hrun'
    · rename_i e n ro kin t hg
      obtain ⟨c, arr, h1, h2, ⟨h3, h4, h5⟩, h6⟩ := H.blocks r _ (H.real hr) hg
      have : c = r' := Option.some.inj (h1.symm.trans hr)
      subst this
      have hsh : w.shape? c = some (e, n) := by simp [World.shape?, h2, h4 rfl]
      obtain ⟨φ', b, w', e, r1⟩ := ih _ H hrun'
      exact ⟨φ', b, w', by rw [Sem.run, hsh]; exact e, r1⟩
    · rename_i o hg
      obtain ⟨c, o', h1, h2, h3⟩ := H.blocks r _ (H.real hr) hg
      have : c = r' := Option.some.inj (h1.symm.trans hr)
      subst this
      have hsh : w.shape? c = none := by
        unfold World.shape?
        rw [h2]
        cases o' <;> first | rfl | exact absurd rfl (h3.noCells.2 _ _ _)
      obtain ⟨φ', b, w', e, r1⟩ := ih _ H hrun'
      exact ⟨φ', b, w', by rw [Sem.run, hsh]; exact e, r1⟩
    · cases hrun'
  | @frozen φ a a' k k' ha _ ih =>
    intro h h' w x H hrun
    have hrun' : (match h.blocks.get a.block with
      | some (.cells _ _ _ _ _ _) => arun P (k false) h
      | _ => none) = some (x, h') := hrun
    split at hrun'
    · rename_i e n xx ro kin t hg
      obtain ⟨c, arr, h1, h2, ⟨h3, h4, h5⟩, h6⟩ := H.blocks a.block _ (by cases ha with | mk hb => exact H.real hb) hg
      have hfz : w.frozen? a' = false := by
        cases ha with
        | mk hb =>
          have : _ = c := Option.some.inj (hb.symm.trans h1)
          subst this
          simp [World.frozen?, h2]
      obtain ⟨φ', b, w', e, r1⟩ := ih _ H hrun'
      exact ⟨φ', b, w', by rw [Sem.run, hfz]; exact e, r1⟩
    · cases hrun'
  | @getObj φ r r' k k' hr _ ih =>
    intro h h' w x H hrun
    have hrun' : (match h.blocks.get r with
      | some (.obj o) => arun P (k o) h
      | _ => none) = some (x, h') := hrun
    split at hrun'
    · rename_i o hg
      obtain ⟨c, o', h1, h2, h3⟩ := H.blocks r _ (H.real hr) hg
      have : c = r' := Option.some.inj (h1.symm.trans hr)
      subst this
      obtain ⟨φ', b, w', e, r1⟩ := ih o o' h3 H hrun'
      refine ⟨φ', b, w', ?_, r1⟩
      rw [Sem.run, h2]
      cases o' <;> first | exact e | exact absurd rfl (h3.noCells.2 _ _ _)
    · cases hrun'
  | @setObj φ r r' o o' k k' hr ho _ ih =>
    intro h h' w x H hrun
    have hrun' : (match h.blocks.get r with
      | some (.obj _) => (match isObj o with
        | true => arun P k (h.put r (.obj o))
        | false => none)
      | _ => none) = some (x, h') := hrun
    split at hrun'
    · rename_i o1 hg
      split at hrun'
      · obtain ⟨⟨y, hy, hyc⟩, H1⟩ := H.putObj hr hg ho
        obtain ⟨φ', b, w', e, r1⟩ := ih H1 hrun'
        refine ⟨φ', b, w', ?_, r1⟩
        rw [Sem.run, hy]
        cases y <;> first | exact e | exact absurd rfl (hyc _ _ _)
      · cases hrun'
    · cases hrun'
  | @choose φ q q' k k' hq _ ih =>
    intro h h' w x H hrun
    have hrun' : (match q.forced with
      | true => arun P (k 0) h
      | false => none) = some (x, h') := hrun
    split at hrun'
    · rename_i hf
      obtain ⟨φ', b, w', e, r1⟩ := ih hf H hrun'
      exact ⟨φ', b, w', by rw [Sem.run, if_pos (hq hf)]; exact e, r1⟩
    · cases hrun'
  | @program φ k k' _ ih =>
    intro h h' w x H hrun
    obtain ⟨φ', b, w', e, r1⟩ := ih H hrun
    exact ⟨φ', b, w', by rw [Sem.run]; exact e, r1⟩
  | @mark φ m m' k k' _ ih =>
    intro h h' w x H hrun
    obtain ⟨φ', b, w', e, r1⟩ := ih H hrun
    exact ⟨φ', b, w', by rw [Sem.run]; exact e, r1⟩
  | halt => intro h h' w x H hrun; cases hrun
  | freeze => intro h h' w x H hrun; cases hrun
  | sys => intro h h' w x H hrun; cases hrun
  | stops hst => intro h h' w x H hrun; rw [hst] at hrun; cases hrun
end
end Go.Ab
