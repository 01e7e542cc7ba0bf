/- The evaluator, part 10. -/
import Derived.Test.YtbjadgggpkbjmaaGreatEv9
import Derived.OrdersIn
/- An evaluator of the model's code over an abstract heap: regions that draw their order, the proof. -/
namespace Go.Ab
open Go.RowKit
noncomputable section

/-! ### Frames and heaps behind a set of steps -/
theorem put_defers (a : AAct) (d : Option Tmp) (v : Value) : (a.put d v).defers = a.defers := by cases d <;> rfl
theorem put_get_ne {a : AAct} {d : Option Tmp} {v : Value} {t : Nat} (h : d ≠ some t) : (a.put d v).tmps.get t = a.tmps.get t := by
  cases d with
  | none => rfl
  | some d =>
    show (a.tmps.set d v).get t = _
    rw [T.get_set, if_neg (fun e => h (by rw [e]))]
theorem put_get_eq {a : AAct} {v : Value} {t : Nat} : (a.put (some t) v).tmps.get t = some v := by
  show (a.tmps.set t v).get t = _
  rw [T.get_set, if_pos rfl]
theorem frS_defers : ∀ (rs : List RStep) (i : Nat) (S : Nat → Bool) (a : AAct), (frS rs i S a).defers = a.defers
  | [], _, _, _ => rfl
  | r :: rs, i, S, a => by
    rw [frS, frS_defers rs]
    cases S i
    · rfl
    · exact put_defers _ _ _
theorem frS_congr {t : Nat} {S S' : Nat → Bool} : ∀ (rs : List RStep) (i : Nat) (a a' : AAct), a.tmps.get t = a'.tmps.get t →
    (∀ j r, rs[j]? = some r → r.o.dst = some t → S (i + j) = S' (i + j)) → (frS rs i S a).tmps.get t = (frS rs i S' a').tmps.get t
  | [], _, a, a', h, _ => h
  | r :: rs, i, a, a', h, hs => by
    rw [frS, frS]
    refine frS_congr rs (i + 1) _ _ ?_ fun j r' hj hd => by
      have := hs (j + 1) r' (by simpa using hj) hd
      rw [show i + 1 + j = i + (j + 1) by omega]; exact this
    by_cases hd : r.o.dst = some t
    · have h0 := hs 0 r rfl hd
      rw [Nat.add_zero] at h0
      rw [← h0]
      cases S i
      · exact h
      · simp only [hd, put_get_eq]
    · cases S i <;> cases S' i <;> simp only [put_get_ne hd, h]
theorem frS_last {t : Nat} {S : Nat → Bool} : ∀ (rs : List RStep) (i : Nat) (a : AAct) (k : Nat) (r : RStep), rs[k]? = some r → r.o.dst = some t → S (i + k) = true →
    (∀ j r', k < j → rs[j]? = some r' → r'.o.dst = some t → S (i + j) = false) → (frS rs i S a).tmps.get t = some r.v
  | [], _, _, _, _, h, _, _, _ => by simp at h
  | x :: rs, i, a, 0, r, h, hd, hS, hl => by
    have hx : x = r := by simpa using h
    subst hx
    rw [frS]
    rw [Nat.add_zero] at hS
    simp only [hS]
    rw [frS_congr (S' := fun _ => false) rs (i + 1) _ _ rfl fun j r' hj hd' => by
      have := hl (j + 1) r' (by omega) (by simpa using hj) hd'
      rw [show i + 1 + j = i + (j + 1) by omega]; exact this]
    have : ∀ (rs : List RStep) (i : Nat) (a : AAct), frS rs i (fun _ => false) a = a := by
      intro rs
      induction rs with
      | nil => intros; rfl
      | cons y rs ih => intro i a; rw [frS]; exact ih _ _
    rw [this, hd, put_get_eq]
  | x :: rs, i, a, k + 1, r, h, hd, hS, hl => by
    rw [frS]
    exact frS_last rs (i + 1) _ k r (by simpa using h) hd (by rw [show i + 1 + k = i + (k + 1) by omega]; exact hS) fun j r' hj hj' hd' => by
      have := hl (j + 1) r' (by omega) (by simpa using hj') hd'
      rw [show i + 1 + j = i + (j + 1) by omega]; exact this
theorem hS_congr {S S' : Nat → Bool} : ∀ (rs : List RStep) (i : Nat) (h : AHeap), (∀ j r, rs[j]? = some r → r.q = false → S (i + j) = S' (i + j)) → hS rs i S h = hS rs i S' h
  | [], _, _, _ => rfl
  | r :: rs, i, h, hs => by
    rw [hS, hS]
    have hrec := fun h => hS_congr (S := S) (S' := S') rs (i + 1) h fun j r' hj hq => by
      have := hs (j + 1) r' (by simpa using hj) hq
      rw [show i + 1 + j = i + (j + 1) by omega]; exact this
    cases hq : r.q with
    | true => simp only [Bool.not_true, Bool.and_false]; exact hrec _
    | false =>
      have h0 := hs 0 r rfl hq
      rw [Nat.add_zero] at h0
      rw [h0]
      exact hrec _
theorem hS_none : ∀ (rs : List RStep) (i : Nat) (S : Nat → Bool) (h : AHeap), (∀ j, i ≤ j → S j = false) → hS rs i S h = h
  | [], _, _, _, _ => rfl
  | r :: rs, i, S, h, hs => by
    rw [hS, hs i (Nat.le_refl _)]
    exact hS_none rs (i + 1) S h fun j hj => hs j (by omega)

theorem effsOf_mem : ∀ (rs : List RStep) (i j : Nat), j ∈ effsOf rs i ↔ ∃ k r, j = i + k ∧ rs[k]? = some r ∧ r.q = false
  | [], i, j => by simp [effsOf]
  | r :: rs, i, j => by
    rw [effsOf]
    have ih := effsOf_mem rs (i + 1) j
    constructor
    · intro h
      cases hq : r.q with
      | true =>
        rw [hq] at h
        obtain ⟨k, r', h1, h2, h3⟩ := ih.1 h
        exact ⟨k + 1, r', by omega, by simpa using h2, h3⟩
      | false =>
        rw [hq] at h
        rcases List.mem_cons.1 h with h | h
        · exact ⟨0, r, by omega, rfl, hq⟩
        · obtain ⟨k, r', h1, h2, h3⟩ := ih.1 h
          exact ⟨k + 1, r', by omega, by simpa using h2, h3⟩
    · rintro ⟨k, r', h1, h2, h3⟩
      cases k with
      | zero =>
        have : r = r' := by simpa using h2
        subst this
        rw [h3]
        exact List.mem_cons.2 (.inl (by omega))
      | succ k =>
        have := ih.2 ⟨k, r', by omega, by simpa using h2, h3⟩
        cases r.q
        · exact List.mem_cons_of_mem _ this
        · exact this

/-! ### The steps -/
structure StepOk (P : Program) (xt : XTab) (e : Env) (all : List Oper) (g : List (Nat × Nat × AObj)) (i : Nat) (r : RStep) : Prop where
  wt : r.wt = wantedE r.o all r.a
  off : r.wt = false → r.v = undef ∧ r.q = true ∧ isAl r.o.op = false
  laid : r.wt = true → isAl r.o.op = true → r.q = true ∧ ∃ b ob ob', findG g i = some (b, ob) ∧ layV P r.o r.a.eval b = some (r.v, ob')
  quiet : r.wt = true → isAl r.o.op = false → r.q = true → opQ P r.o r.a.eval r.h = some r.v
  loud : r.wt = true → r.q = false → opW P xt e r.o r.a.eval r.h = some (r.v, r.h1)

theorem stepsE_spec {P : Program} {xt : XTab} {e : Env} {all : List Oper} {g : List (Nat × Nat × AObj)} : ∀ (l : List Oper) (a : AAct) (h : AHeap) (rs : List RStep) (k : Nat), stepsE P (opW P xt) e all g l k a h = some rs →
    rs.length = l.length ∧ ∀ j r, rs[j]? = some r → l[j]? = some r.o ∧ r.a = frS rs k (fun m => decide (m < k + j)) a ∧ r.h = hS rs k (fun m => decide (m < k + j)) h ∧ StepOk P xt e all g (k + j) r
  | [], a, h, rs, k, hs => by
    rw [stepsE] at hs
    cases hs
    exact ⟨rfl, fun j r hj => by simp at hj⟩
  | o :: l, a, h, rs, k, hs => by
    have key : ∀ (x : RStep) (rs' : List RStep), x.o = o → x.a = a → x.h = h → StepOk P xt e all g k x → (x.q = true → x.h1 = h) → stepsE P (opW P xt) e all g l (k + 1) (a.put o.dst x.v) x.h1 = some rs' → rs = x :: rs' →
        rs.length = (o :: l).length ∧ ∀ j r, rs[j]? = some r → (o :: l)[j]? = some r.o ∧ r.a = frS rs k (fun m => decide (m < k + j)) a ∧ r.h = hS rs k (fun m => decide (m < k + j)) h ∧ StepOk P xt e all g (k + j) r := by
      intro x rs' hxo hxa hxh hok hq1 hs' he
      subst he
      obtain ⟨h1, h2⟩ := stepsE_spec l _ _ rs' (k + 1) hs'
      refine ⟨by simp [h1], fun j r hj => ?_⟩
      cases j with
      | zero =>
        have hx : x = r := by simpa using hj
        subst hx
        refine ⟨by simp [hxo], ?_, ?_, hok⟩
        · have : ∀ (rs : List RStep) (i : Nat) (S : Nat → Bool) (a : AAct), (∀ j, i ≤ j → S j = false) → frS rs i S a = a := by
            intro rs
            induction rs with
            | nil => intros; rfl
            | cons y rs ih => intro i S a hs; rw [frS, hs i (Nat.le_refl _)]; exact ih _ _ _ fun j hj => hs j (by omega)
          rw [this _ _ _ _ (fun j hj => by simp; omega), hxa]
        · rw [hS_none _ _ _ _ (fun j hj => by simp; omega), hxh]
      | succ j =>
        obtain ⟨g1, g2, g3, g4⟩ := h2 j r (by simpa using hj)
        refine ⟨by simpa using g1, ?_, ?_, by rw [show k + (j + 1) = k + 1 + j by omega]; exact g4⟩
        · rw [g2, frS, show decide (k < k + (j + 1)) = true by simp]
          simp only [hxo]
          rw [show (fun m => decide (m < k + 1 + j)) = fun m => decide (m < k + (j + 1)) from funext fun m => by rw [show k + 1 + j = k + (j + 1) by omega]]
        · rw [g3, hS, show decide (k < k + (j + 1)) = true by simp]
          rw [show (fun m => decide (m < k + 1 + j)) = fun m => decide (m < k + (j + 1)) from funext fun m => by rw [show k + 1 + j = k + (j + 1) by omega]]
          cases hq : x.q with
          | true => simp only [Bool.not_true, Bool.and_false, hq1 hq]
          | false => simp only [Bool.not_false, Bool.and_true]
    rw [stepsE] at hs
    cases hw : wantedE o all a with
    | false =>
      rw [hw] at hs
      simp only at hs
      cases hal : isAl o.op with
      | true => rw [hal] at hs; cases hs
      | false =>
        rw [hal] at hs
        simp only [Option.map_eq_some_iff] at hs
        obtain ⟨rs', hs', he⟩ := hs
        exact key _ rs' rfl rfl rfl ⟨hw.symm, fun _ => ⟨rfl, rfl, hal⟩, fun h => (by cases h), fun h => (by cases h), fun h => (by cases h)⟩ (fun _ => rfl) hs' he.symm
    | true =>
      rw [hw] at hs
      simp only at hs
      cases hal : isAl o.op with
      | true =>
        rw [hal] at hs
        simp only at hs
        split at hs <;> first | (cases hs; done) | skip
        rename_i b ob hg
        split at hs <;> first | (cases hs; done) | skip
        rename_i v ob' hv
        simp only [Option.map_eq_some_iff] at hs
        obtain ⟨rs', hs', he⟩ := hs
        exact key _ rs' rfl rfl rfl ⟨hw.symm, fun h => (by cases h), fun _ _ => ⟨rfl, b, ob, ob', hg, hv⟩, fun _ h => (by rw [hal] at h; cases h), fun _ h => (by cases h)⟩ (fun _ => rfl) hs' he.symm
      | false =>
        rw [hal] at hs
        simp only at hs
        split at hs
        · rename_i v hv
          simp only [Option.map_eq_some_iff] at hs
          obtain ⟨rs', hs', he⟩ := hs
          exact key _ rs' rfl rfl rfl ⟨hw.symm, fun h => (by cases h), fun _ h => (by rw [hal] at h; cases h), fun _ _ _ => hv, fun _ h => (by cases h)⟩ (fun _ => rfl) hs' he.symm
        · split at hs
          · rename_i v h1 hv
            simp only [Option.map_eq_some_iff] at hs
            obtain ⟨rs', hs', he⟩ := hs
            exact key _ rs' rfl rfl rfl ⟨hw.symm, fun h => (by cases h), fun _ h => (by rw [hal] at h; cases h), fun _ _ h => (by cases h), fun _ _ => hv⟩ (fun h => by cases h) hs' he.symm
          · cases hs

/-! ### What must come ahead -/
theorem maskOf_bit {acc : List Nat} {j : Nat} : ∀ (l : List Edge) (s : Nat), (l.foldl (fun s e => match Region.binds .any e with
  | true => s ||| (2 ^ e.on ||| acc.getD e.on 0)
  | false => s) s).testBit j = true → s.testBit j = true ∨ ∃ e ∈ l, Region.binds .any e = true ∧ (j = e.on ∨ (acc.getD e.on 0).testBit j = true)
  | [], s, h => .inl h
  | e :: l, s, h => by
    rw [List.foldl_cons] at h
    rcases maskOf_bit l _ h with h | ⟨x, hx, hb, hj⟩
    · cases hb : Region.binds .any e with
      | false => rw [hb] at h; exact .inl h
      | true =>
        rw [hb] at h
        simp only [Nat.testBit_or, Bool.or_eq_true, Nat.testBit_two_pow, decide_eq_true_eq] at h
        rcases h with h | h | h
        · exact .inl h
        · exact .inr ⟨e, List.mem_cons_self .., hb, .inl h.symm⟩
        · exact .inr ⟨e, List.mem_cons_self .., hb, .inr h⟩
    · exact .inr ⟨x, List.mem_cons_of_mem _ hx, hb, hj⟩
theorem masksGo_len : ∀ (l : List Oper) (acc : List Nat), (masksGo l acc).length = acc.length + l.length
  | [], acc => by simp [masksGo]
  | o :: l, acc => by rw [masksGo, masksGo_len l]; simp; omega
theorem masksGo_pre : ∀ (l : List Oper) (acc : List Nat) (i : Nat), i < acc.length → (masksGo l acc).getD i 0 = acc.getD i 0
  | [], acc, i, _ => rfl
  | o :: l, acc, i, h => by
    rw [masksGo, masksGo_pre l _ i (by simp; omega)]
    simp only [List.getD_eq_getElem?_getD]
    rw [List.getElem?_append_left h]
theorem masksGo_at : ∀ (l : List Oper) (acc : List Nat) (i : Nat) (o : Oper), l[i]? = some o → ∃ acc' : List Nat, (masksGo l acc).getD (acc.length + i) 0 = maskOf acc' o ∧
    ∀ k, k < acc'.length → (masksGo l acc).getD k 0 = acc'.getD k 0
  | [], acc, i, o, h => by simp at h
  | x :: l, acc, 0, o, h => by
    have hx : x = o := by simpa using h
    subst hx
    refine ⟨acc, ?_, fun k hk => masksGo_pre (x :: l) acc k hk⟩
    rw [masksGo, masksGo_pre l _ _ (by simp)]
    simp [List.getD_eq_getElem?_getD]
  | x :: l, acc, i + 1, o, h => by
    obtain ⟨acc', h1, h2⟩ := masksGo_at l (acc ++ [maskOf acc x]) i o (by simpa using h)
    rw [masksGo]
    refine ⟨acc', ?_, h2⟩
    rw [← h1]
    simp
    rw [show acc.length + 1 + i = acc.length + (i + 1) by omega]
theorem bf_edge {l : List Oper} {i j : Nat} {o : Oper} (ho : l[i]? = some o) (h : bf (masksOf l) i j = true) : ∃ e ∈ o.after, Region.binds .any e = true ∧ (j = e.on ∨ bf (masksOf l) e.on j = true) := by
  obtain ⟨acc, h1, h2⟩ := masksGo_at l [] i o ho
  unfold bf masksOf at h
  rw [List.length_nil, Nat.zero_add] at h1
  rw [h1] at h
  rcases maskOf_bit _ _ h with h | ⟨e, he, hb, hj⟩
  · simp at h
  · refine ⟨e, by simpa using he, hb, ?_⟩
    rcases hj with hj | hj
    · exact .inl hj
    · right
      unfold bf masksOf
      rw [h2 e.on]
      · exact hj
      · rcases Nat.lt_or_ge e.on acc.length with h | h
        · exact h
        · rw [List.getD_eq_getElem?_getD, List.getElem?_eq_none h] at hj
          simp at hj
theorem edgesOk_at : ∀ (l : List Oper) (k : Nat), edgesOk l k = true → ∀ j o, l[j]? = some o → ∀ e ∈ o.after, Region.binds .any e = true → e.on < k + j
  | [], _, _, j, o, h, _, _, _ => by simp at h
  | x :: l, k, hk, j, o, h, e, he, hb => by
    rw [edgesOk] at hk
    split at hk
    · rename_i hx
      cases j with
      | zero =>
        have hxo : x = o := by simpa using h
        subst hxo
        have := allB_iff hx e (by simpa using he)
        rw [hb] at this
        simpa using this
      | succ j =>
        have := edgesOk_at l (k + 1) hk j o (by simpa using h) e he hb
        omega
    · cases hk
theorem hasN_iff : ∀ {l : List Nat} {n : Nat}, hasN l n = true ↔ n ∈ l
  | [], n => by simp [hasN]
  | x :: l, n => by
    rw [hasN]
    cases h : Nat.beq x n with
    | true => have := Nat.eq_of_beq_eq_true h; simp [this]
    | false =>
      have : x ≠ n := fun e => by rw [e, Nat.beq_refl] at h; cases h
      simp only []
      rw [hasN_iff, List.mem_cons]
      exact ⟨.inr, fun h => h.resolve_left (fun e => this e.symm)⟩
theorem tmpsOk_at {l : List Oper} (h : tmpsOk l = true) {i j : Nat} {x y : Oper} (hi : l[i]? = some x) (hj : l[j]? = some y) (hlt : i < j)
    (hc : clash l x y = true) : bf (masksOf l) j i = true := by
  unfold tmpsOk at h
  have hjl : j < l.length := (List.getElem?_eq_some_iff.1 hj).1
  have h1 := allB_iff h j (List.mem_range.2 hjl)
  simp only [hj] at h1
  have h2 := allB_iff h1 i (List.mem_range.2 hlt)
  simp only [hi, hc] at h2
  simpa using h2
end
end Go.Ab
