/- A region that draws its order, by an invariant over what is listed. Keys of a map that is being laid. -/
import Derived.Test.YtcbhfhmpajamoaaDoorK5
import Derived.Orders
namespace Go.Proofs.YtcbhfhmpajamoaaDoor
open Go.RowKit

section
variable {P : Program} {ops : Array Oper} {Q : Exit → Act → World → Prop} {md : Region.Mode}

theorem ready_mem {listed : Array Bool} {i : Nat} (h : i ∈ Region.ready md ops listed) :
    ∃ o, ops[i]? = some o ∧ listed.getD i true = false ∧ ∀ e ∈ o.after, Region.binds md e = true → listed.getD e.on false = true := by
  unfold Region.ready at h
  rw [List.mem_filter] at h
  obtain ⟨h1, h2⟩ := h
  have hi : i < ops.size := List.mem_range.1 h1
  rw [Bool.and_eq_true] at h2
  refine ⟨ops[i], Array.getElem?_eq_getElem hi, by simpa using h2.1, fun e he hb => ?_⟩
  have h3 := h2.2
  rw [Array.getElem?_eq_getElem hi] at h3
  simp only [Option.map_some, Option.getD_some] at h3
  have h4 := (Array.all_eq_true_iff_forall_mem.1 h3) e he
  simpa [hb] using h4
theorem mem_ready {listed : Array Bool} {i : Nat} {o : Oper} (ho : ops[i]? = some o) (hl : listed.getD i true = false) (hd : ∀ e ∈ o.after, Region.binds md e = true → listed.getD e.on false = true) :
    i ∈ Region.ready md ops listed := by
  have hi : i < ops.size := by
    rcases Nat.lt_or_ge i ops.size with h | h
    · exact h
    · rw [Array.getElem?_eq_none h] at ho; cases ho
  unfold Region.ready
  rw [List.mem_filter]
  refine ⟨List.mem_range.2 hi, ?_⟩
  rw [Bool.and_eq_true]
  refine ⟨by simp only [hl, Bool.not_false], ?_⟩
  rw [ho]
  simp only [Option.map_some, Option.getD_some]
  refine Array.all_eq_true_iff_forall_mem.2 fun e he => ?_
  cases hb : Region.binds md e
  · rfl
  · simp [hd e he hb]

def unl (n : Nat) (listed : Array Bool) : Nat := ((List.range n).filter fun i => !listed.getD i true).length
theorem getD_size {listed : Array Bool} {i : Nat} (h : listed.getD i true = false) : i < listed.size := by
  rcases Nat.lt_or_ge i listed.size with hi | hi
  · exact hi
  · simp [Array.getD, Nat.not_lt.2 hi] at h
theorem getD_set {listed : Array Bool} {i j : Nat} (d : Bool) (h : i < listed.size) : (listed.setIfInBounds i true).getD j d = if i = j then true else listed.getD j d := by
  simp only [Array.getD_eq_getD_getElem?, Array.getElem?_setIfInBounds, h]
  by_cases e : i = j
  · subst e; simp [h]
  · simp [e]
theorem filter_lt {α : Type} {p q : α → Bool} : ∀ {l : List α}, (∀ x ∈ l, q x = true → p x = true) → (∃ x ∈ l, p x = true ∧ q x = false) → (l.filter q).length < (l.filter p).length
  | [], _, h => by obtain ⟨x, hx, _⟩ := h; cases hx
  | x :: l, h, h' => by
    have hle : ∀ {l : List α}, (∀ x ∈ l, q x = true → p x = true) → (l.filter q).length ≤ (l.filter p).length := by
      intro l
      induction l with
      | nil => intro _; simp
      | cons y l ih =>
        intro hh
        have := ih (fun z hz => hh z (by simp [hz]))
        have h1 := hh y (by simp)
        simp only [List.filter_cons]
        by_cases hq : q y = true
        · simp [hq, h1 hq]; omega
        · simp only [hq]
          by_cases hp : p y = true <;> simp [hp] <;> omega
    have hl := hle (fun z hz => h z (List.mem_cons_of_mem _ hz))
    obtain ⟨y, hy, h1, h2⟩ := h'
    simp only [List.filter_cons]
    rcases List.mem_cons.1 hy with rfl | hm
    · simp [h1, h2]; omega
    · have ih := filter_lt (fun z hz => h z (List.mem_cons_of_mem _ hz)) ⟨y, hm, h1, h2⟩
      have h3 := h x (by simp)
      by_cases hq : q x = true
      · simp [hq, h3 hq]; omega
      · simp only [hq]
        by_cases hp : p x = true <;> simp [hp] <;> omega
theorem unl_set {n : Nat} {listed : Array Bool} {i : Nat} (hi : i < n) (h : listed.getD i true = false) : unl n (listed.setIfInBounds i true) < unl n listed := by
  unfold unl
  refine filter_lt (fun x _ hx => ?_) ⟨i, List.mem_range.2 hi, by rw [h]; rfl, ?_⟩
  · rw [getD_set _ (getD_size h)] at hx
    by_cases e : i = x
    · simp [e] at hx
    · simpa [e] using hx
  · rw [getD_set _ (getD_size h)]; simp
def ClosedL (md : Region.Mode) (ops : Array Oper) (listed : Array Bool) : Prop :=
  ∀ j o, ops[j]? = some o → listed.getD j false = true → ∀ e ∈ o.after, Region.binds md e = true → listed.getD e.on false = true
theorem getD_ft {listed : Array Bool} {i : Nat} (h : i < listed.size) : listed.getD i true = listed.getD i false := by
  simp [Array.getD, h]
theorem all_listed {listed : Array Bool} (hs : listed.size = ops.size) (hdeps : ∀ (i : Nat) (o : Oper), ops[i]? = some o → ∀ e ∈ o.after, e.on < i) (hr : Region.ready md ops listed = []) :
    ∀ n i : Nat, i < n → i < ops.size → listed.getD i false = true := by
  intro n
  induction n with
  | zero => intro i hi; omega
  | succ n ih =>
    intro i hi hlt
    cases hl : listed.getD i false
    · exfalso
      have : i ∈ Region.ready md ops listed := mem_ready (Array.getElem?_eq_getElem hlt) (by rw [getD_ft (by omega)]; exact hl) fun e he _ => by
        have hd := hdeps i _ (Array.getElem?_eq_getElem hlt) e he
        exact ih e.on (by omega) (by omega)
      rw [hr] at this; cases this
    · rfl
/-- A REGION THAT DRAWS ITS ORDER, BY AN INVARIANT. -/
theorem wpAny_inv (Inv : Array Bool → Act → World → Prop)
    (hdeps : ∀ (i : Nat) (o : Oper), ops[i]? = some o → ∀ e ∈ o.after, e.on < i)
    (hstep : ∀ listed a w, ClosedL md ops listed → listed.size = ops.size → Inv listed a w → ∀ i o, ops[i]? = some o → listed.getD i true = false →
      (∀ e ∈ o.after, Region.binds md e = true → listed.getD e.on false = true) → ∀ K, (∀ a' w', Inv (listed.setIfInBounds i true) a' w' → K a' w') → wpOp P ops Q i K a w)
    (hend : ∀ listed a w, (∀ i, i < ops.size → listed.getD i false = true) → Inv listed a w → Q .normal a w) :
    ∀ fuel listed a w, ClosedL md ops listed → listed.size = ops.size → unl ops.size listed ≤ fuel → Inv listed a w → wpAny P md ops Q fuel listed a w := by
  intro fuel
  have hlt : ∀ {i : Nat} {o : Oper}, ops[i]? = some o → i < ops.size := fun {i o} ho => by
    rcases Nat.lt_or_ge i ops.size with h | h
    · exact h
    · rw [Array.getElem?_eq_none h] at ho; cases ho
  have hfin : ∀ listed a w, listed.size = ops.size → Region.ready md ops listed = [] → Inv listed a w → Q .normal a w := fun listed a w hs hr hi =>
    hend listed a w (fun i h => all_listed hs hdeps hr (i + 1) i (by omega) h) hi
  induction fuel with
  | zero =>
    intro listed a w hc hs hu hi
    have hr : Region.ready md ops listed = [] := by
      cases hr : Region.ready md ops listed with
      | nil => rfl
      | cons i r =>
        obtain ⟨o, ho, hl, _⟩ := ready_mem (md := md) (ops := ops) (listed := listed) (i := i) (by rw [hr]; simp)
        have := unl_set (hlt ho) hl
        omega
    exact ⟨hr, hfin _ _ _ hs hr hi⟩
  | succ fuel ih =>
    intro listed a w hc hs hu hi
    refine ⟨fun hr => hfin _ _ _ hs hr hi, fun i hm => ?_⟩
    obtain ⟨o, ho, hl, hd⟩ := ready_mem hm
    have hz := getD_size hl
    refine hstep listed a w hc hs hi i o ho hl hd _ fun a' w' hi' => ih _ _ _ ?_ ?_ ?_ hi'
    · intro j oj hj hlj e he hb
      rw [getD_set _ hz] at hlj ⊢
      split
      · rfl
      · by_cases hij : i = j
        · subst hij
          rw [ho] at hj; cases hj
          exact hd e he hb
        · rw [if_neg hij] at hlj
          exact hc j oj hj hlj e he hb
    · simpa using hs
    · have := unl_set (hlt ho) hl
      omega
theorem wpOp_run {i : Nat} {o : Oper} {K : Act → World → Prop} {a : Act} {w : World} (ho : ops[i]? = some o) (hg : o.guard = none) (h : o.wp P a w K Q) : wpOp P ops Q i K a w := by
  unfold wpOp
  rw [ho]
  simp only
  rw [if_pos (by simp [Region.wanted, hg])]
  exact .inl h
end
end Go.Proofs.YtcbhfhmpajamoaaDoor
