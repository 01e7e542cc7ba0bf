/- An evaluator of the model's code over an abstract heap: finite maps. -/
import Derived.Calls
import Derived.Below
namespace Go.Ab

/-- A finite map on numbers, as a binary tree. -/
inductive T (α : Type) where
  | nil
  | node (l : T α) (v : Option α) (r : T α)
inductive Path where
  | e
  | l (p : Path)
  | r (p : Path)
def pathF : Nat → Nat → Path
  | 0, _ => .e
  | f + 1, n => match n with
    | 0 => .e
    | k + 1 => match k % 2 with
      | 0 => .l (pathF f (k / 2))
      | _ => .r (pathF f (k / 2))
def pathOf (n : Nat) : Path := pathF (n + 1) n

noncomputable section
namespace T
variable {α β : Type}
def getP (t : T α) : Path → Option α :=
  T.rec (motive := fun _ => Path → Option α) (fun _ => none) (fun _ v _ ihl ihr p => Path.casesOn (motive := fun _ => Option α) p v ihl ihr) t
def setP (a : α) (p : Path) : T α → (T α → β) → β :=
  Path.rec (motive := fun _ => T α → (T α → β) → β)
    (fun t k => T.casesOn (motive := fun _ => β) t (k (.node .nil (some a) .nil)) (fun l _ r => k (.node l (some a) r)))
    (fun _ ih t k => T.casesOn (motive := fun _ => β) t (ih .nil fun l => k (.node l none .nil)) (fun l v r => ih l fun l => k (.node l v r)))
    (fun _ ih t k => T.casesOn (motive := fun _ => β) t (ih .nil fun r => k (.node .nil none r)) (fun l v r => ih r fun r => k (.node l v r)))
    p
def get (t : T α) (n : Nat) : Option α := t.getP (pathOf n)
def setK (t : T α) (n : Nat) (a : α) (k : T α → β) : β := T.setP a (pathOf n) t k
def set (t : T α) (n : Nat) (a : α) : T α := t.setK n a id

theorem getP_nil (p : Path) : (T.nil : T α).getP p = none := rfl
theorem getP_e (l r : T α) (v : Option α) : (T.node l v r).getP .e = v := rfl
theorem getP_l (l r : T α) (v : Option α) (p : Path) : (T.node l v r).getP (.l p) = l.getP p := rfl
theorem getP_r (l r : T α) (v : Option α) (p : Path) : (T.node l v r).getP (.r p) = r.getP p := rfl

theorem setP_id (a : α) : ∀ (p : Path) {β : Type} (t : T α) (k : T α → β), setP a p t k = k (setP a p t id)
  | .e, _, .nil, _ => rfl
  | .e, _, .node _ _ _, _ => rfl
  | .l p, _, .nil, k => by
    show setP a p .nil (fun l => k (.node l none .nil)) = k (setP a p .nil fun l => T.node l none .nil)
    rw [setP_id a p, setP_id a p .nil fun l => T.node l none .nil]
  | .l p, _, .node l v r, k => by
    show setP a p l (fun l => k (.node l v r)) = k (setP a p l fun l => T.node l v r)
    rw [setP_id a p, setP_id a p l fun l => T.node l v r]
  | .r p, _, .nil, k => by
    show setP a p .nil (fun r => k (.node .nil none r)) = k (setP a p .nil fun r => T.node .nil none r)
    rw [setP_id a p, setP_id a p .nil fun r => T.node .nil none r]
  | .r p, _, .node l v r, k => by
    show setP a p r (fun r => k (.node l v r)) = k (setP a p r fun r => T.node l v r)
    rw [setP_id a p, setP_id a p r fun r => T.node l v r]
theorem setK_eq (t : T α) (n : Nat) (a : α) (k : T α → β) : t.setK n a k = k (t.set n a) := setP_id a _ t k

theorem setP_l (a : α) (p : Path) (t : T α) : setP a (.l p) t id = match t with
    | .nil => T.node (setP a p .nil id) none .nil
    | .node l v r => T.node (setP a p l id) v r := by
  cases t with
  | nil => exact setP_id a p .nil fun l => T.node l none .nil
  | node l v r => exact setP_id a p l fun l => T.node l v r
theorem setP_r (a : α) (p : Path) (t : T α) : setP a (.r p) t id = match t with
    | .nil => T.node .nil none (setP a p .nil id)
    | .node l v r => T.node l v (setP a p r id) := by
  cases t with
  | nil => exact setP_id a p .nil fun r => T.node .nil none r
  | node l v r => exact setP_id a p r fun r => T.node l v r
theorem getP_setP_same (a : α) : ∀ (p : Path) (t : T α), (setP a p t id).getP p = some a
  | .e, t => by cases t <;> rfl
  | .l p, t => by rw [setP_l]; cases t <;> exact getP_setP_same a p _
  | .r p, t => by rw [setP_r]; cases t <;> exact getP_setP_same a p _
theorem getP_setP_ne (a : α) : ∀ (p q : Path) (t : T α), q ≠ p → (setP a p t id).getP q = t.getP q
  | .e, q, t, h => by cases t <;> cases q <;> first | rfl | exact absurd rfl h
  | .l p, q, t, h => by
    rw [setP_l]
    cases t <;> cases q <;> first | rfl | exact getP_setP_ne a p _ _ (fun e => h (by rw [e]))
  | .r p, q, t, h => by
    rw [setP_r]
    cases t <;> cases q <;> first | rfl | exact getP_setP_ne a p _ _ (fun e => h (by rw [e]))
end T

theorem pathF_even (f k : Nat) (h : k % 2 = 0) : pathF (f + 1) (k + 1) = .l (pathF f (k / 2)) := by simp [pathF, h]
theorem pathF_odd (f k : Nat) (h : k % 2 = 1) : pathF (f + 1) (k + 1) = .r (pathF f (k / 2)) := by simp [pathF, h]
theorem pathF_inj : ∀ (f n g m : Nat), n < f → m < g → pathF f n = pathF g m → n = m
  | 0, _, _, _, h, _, _ => by omega
  | _ + 1, _, 0, _, _, h, _ => by omega
  | f + 1, 0, g + 1, 0, _, _, _ => rfl
  | f + 1, 0, g + 1, k + 1, _, _, h => by
    rcases Nat.mod_two_eq_zero_or_one k with e | e
    · rw [pathF_even _ _ e] at h; cases h
    · rw [pathF_odd _ _ e] at h; cases h
  | f + 1, j + 1, g + 1, 0, _, _, h => by
    rcases Nat.mod_two_eq_zero_or_one j with e | e
    · rw [pathF_even _ _ e] at h; cases h
    · rw [pathF_odd _ _ e] at h; cases h
  | f + 1, j + 1, g + 1, k + 1, hn, hm, h => by
    rcases Nat.mod_two_eq_zero_or_one j with e | e <;> rcases Nat.mod_two_eq_zero_or_one k with e' | e'
    · rw [pathF_even _ _ e, pathF_even _ _ e'] at h
      injection h with h
      have := pathF_inj f (j / 2) g (k / 2) (by omega) (by omega) h
      omega
    · rw [pathF_even _ _ e, pathF_odd _ _ e'] at h; cases h
    · rw [pathF_odd _ _ e, pathF_even _ _ e'] at h; cases h
    · rw [pathF_odd _ _ e, pathF_odd _ _ e'] at h
      injection h with h
      have := pathF_inj f (j / 2) g (k / 2) (by omega) (by omega) h
      omega
theorem pathOf_inj {n m : Nat} (h : pathOf n = pathOf m) : n = m := pathF_inj _ _ _ _ (by omega) (by omega) h
theorem T.get_set {α : Type} (t : T α) (n : Nat) (a : α) (m : Nat) : (t.set n a).get m = if m = n then some a else t.get m := by
  unfold T.set T.setK T.get
  by_cases h : m = n
  · subst h; rw [T.getP_setP_same, if_pos rfl]
  · rw [T.getP_setP_ne _ _ _ _ (fun e => h (pathOf_inj e)), if_neg h]
theorem T.get_nil {α : Type} (m : Nat) : (T.nil : T α).get m = none := rfl

def T.ofListFrom {α : Type} : List α → Nat → T α → T α
  | [], _, t => t
  | a :: l, i, t => T.ofListFrom l (i + 1) (t.set i a)
def T.ofList {α : Type} (l : List α) : T α := T.ofListFrom l 0 .nil
theorem T.get_ofListFrom {α : Type} : ∀ (l : List α) (i : Nat) (t : T α) (m : Nat), (T.ofListFrom l i t).get m = if i ≤ m ∧ m < i + l.length then l[m - i]? else t.get m
  | [], i, t, m => by
    have : ¬ (i ≤ m ∧ m < i + ([] : List α).length) := by simp
    rw [if_neg this]; rfl
  | a :: l, i, t, m => by
    rw [T.ofListFrom, T.get_ofListFrom l (i + 1), T.get_set]
    by_cases h : m = i
    · subst h
      rw [if_neg (by omega), if_pos rfl, if_pos (by simp)]
      simp
    · rw [if_neg h]
      by_cases h2 : i + 1 ≤ m ∧ m < i + 1 + l.length
      · rw [if_pos h2, if_pos (by simp; omega)]
        obtain ⟨k, rfl⟩ : ∃ k, m = i + 1 + k := ⟨m - (i + 1), by omega⟩
        have e1 : i + 1 + k - (i + 1) = k := by omega
        have e2 : i + 1 + k - i = k + 1 := by omega
        rw [e1, e2]; simp
      · rw [if_neg h2, if_neg (by simp; omega)]
theorem T.get_ofList {α : Type} (l : List α) (m : Nat) : (T.ofList l).get m = l[m]? := by
  rw [T.ofList, T.get_ofListFrom]
  by_cases h : m < l.length
  · rw [if_pos (by omega)]; simp
  · rw [if_neg (by omega), List.getElem?_eq_none (by omega)]; rfl
end
end Go.Ab
