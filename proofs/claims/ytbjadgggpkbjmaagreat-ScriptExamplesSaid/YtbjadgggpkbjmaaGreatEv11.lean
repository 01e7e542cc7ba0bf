/- The evaluator, part 11. -/
import Derived.Test.YtbjadgggpkbjmaaGreatEv10
/- An evaluator of the model's code over an abstract heap: regions that only read and lay new rows. -/
namespace Go.Ab
open Go.RowKit
noncomputable section

abbrev Als : Type := List (Nat × Nat × AObj)
/-- Different moments, different places, all of them free. -/
def AlsOk (t0 : T AObj) (als : Als) : Prop := als.Pairwise (fun x y => x.1 ≠ y.1 ∧ x.2.1 ≠ y.2.1) ∧ ∀ x ∈ als, t0.get x.2.1 = none
theorem hA_other {x : Nat} {S : Nat → Bool} : ∀ (als : Als) (t : T AObj), (∀ y ∈ als, S y.1 = true → y.2.1 ≠ x) → (hA als S t).get x = t.get x
  | [], _, _ => rfl
  | y :: l, t, h => by
    rw [hA, hA_other l _ fun z hz => h z (List.mem_cons_of_mem _ hz)]
    cases hS : S y.1 with
    | false => rfl
    | true =>
      have := h y (List.mem_cons_self ..) hS
      show (t.set y.2.1 y.2.2).get x = _
      rw [T.get_set, if_neg (fun e => this e.symm)]
theorem hA_mem {S : Nat → Bool} : ∀ (als : Als) (t : T AObj), als.Pairwise (fun x y => x.1 ≠ y.1 ∧ x.2.1 ≠ y.2.1) → ∀ y ∈ als, S y.1 = true → (hA als S t).get y.2.1 = some y.2.2
  | [], _, _, _, h, _ => by simp at h
  | z :: l, t, hp, y, hy, hS => by
    rw [hA]
    rw [List.pairwise_cons] at hp
    rcases List.mem_cons.1 hy with rfl | hy
    · rw [hA_other l _ fun x hx _ => (hp.1 x hx).2.symm, hS]
      show (t.set y.2.1 y.2.2).get y.2.1 = _
      rw [T.get_set, if_pos rfl]
    · exact hA_mem l _ hp.2 y hy hS
/-- Where two heaps of sets agree. -/
theorem hA_congr {S S' : Nat → Bool} : ∀ (als : Als) (t : T AObj), (∀ y ∈ als, S y.1 = S' y.1) → hA als S t = hA als S' t
  | [], _, _ => rfl
  | y :: l, t, h => by
    rw [hA, hA, h y (List.mem_cons_self ..)]
    exact hA_congr l _ fun z hz => h z (List.mem_cons_of_mem _ hz)
theorem pw_idx {als : Als} (hp : als.Pairwise (fun x y => x.1 ≠ y.1 ∧ x.2.1 ≠ y.2.1)) {x y : Nat × Nat × AObj} (hx : x ∈ als) (hy : y ∈ als) (h : x.1 = y.1) : x = y := by
  induction als with
  | nil => simp at hx
  | cons z l ih =>
    rw [List.pairwise_cons] at hp
    rcases List.mem_cons.1 hx with rfl | hx2
    · rcases List.mem_cons.1 hy with rfl | hy
      · rfl
      · exact absurd h (hp.1 y hy).1
    · rcases List.mem_cons.1 hy with hyz | hy2
      · rw [hyz] at h
        exact absurd h.symm (hp.1 x hx2).1
      · exact ih hp.2 hx2 hy2
theorem pw_place {als : Als} (hp : als.Pairwise (fun x y => x.1 ≠ y.1 ∧ x.2.1 ≠ y.2.1)) {x y : Nat × Nat × AObj} (hx : x ∈ als) (hy : y ∈ als) (h : x.2.1 = y.2.1) : x = y := by
  induction als with
  | nil => simp at hx
  | cons z l ih =>
    rw [List.pairwise_cons] at hp
    rcases List.mem_cons.1 hx with rfl | hx2
    · rcases List.mem_cons.1 hy with rfl | hy
      · rfl
      · exact absurd h (hp.1 y hy).2
    · rcases List.mem_cons.1 hy with hyz | hy2
      · rw [hyz] at h
        exact absurd h.symm (hp.1 x hx2).2
      · exact ih hp.2 hx2 hy2
/-- The heap of a set, with one row more. -/
theorem hA_add {t0 : T AObj} {als : Als} (ok : AlsOk t0 als) {S S' : Nat → Bool} {y : Nat × Nat × AObj} (hy : y ∈ als) (hS : ∀ k, S' k = (S k || decide (k = y.1))) (x : Nat) :
    (hA als S' t0).get x = ((hA als S t0).set y.2.1 y.2.2).get x := by
  rw [T.get_set]
  by_cases e : x = y.2.1
  · rw [if_pos e, e]
    exact hA_mem als t0 ok.1 y hy (by rw [hS]; simp)
  · rw [if_neg e]
    by_cases h : ∃ z ∈ als, S z.1 = true ∧ z.2.1 = x
    · obtain ⟨z, h1, h2, h3⟩ := h
      rw [← h3, hA_mem als t0 ok.1 z h1 h2, hA_mem als t0 ok.1 z h1 (by rw [hS, h2]; rfl)]
    · have h1 : ∀ z ∈ als, S z.1 = true → z.2.1 ≠ x := fun z hz hs he => h ⟨z, hz, hs, he⟩
      rw [hA_other als t0 h1, hA_other als t0 fun z hz hs => ?_]
      rw [hS] at hs
      simp only [Bool.or_eq_true, decide_eq_true_eq] at hs
      rcases hs with hs | hs
      · exact h1 z hz hs
      · have := pw_idx ok.1 hz hy hs
        subst this
        exact fun e' => e e'.symm
theorem hA_more {t0 : T AObj} {als pre post : Als} (ok : AlsOk t0 als) (he : als = pre ++ post) {S S' : Nat → Bool} (hS : ∀ k, S' k = true → S k = true) {n m : Nat} : More ⟨hA pre S' t0, n⟩ ⟨hA als S t0, m⟩ := by
  intro x y hxy
  have hxy : (hA pre S' t0).get x = some y := hxy
  show (hA als S t0).get x = some y
  have hpre : ∀ z ∈ pre, z ∈ als := fun z hz => by rw [he]; exact List.mem_append_left _ hz
  have hpp : pre.Pairwise (fun x y => x.1 ≠ y.1 ∧ x.2.1 ≠ y.2.1) := by have := ok.1; rw [he] at this; exact (List.pairwise_append.1 this).1
  by_cases h : ∃ z ∈ pre, S' z.1 = true ∧ z.2.1 = x
  · obtain ⟨z, h1, h2, h3⟩ := h
    rw [← h3] at hxy ⊢
    rw [hA_mem pre t0 hpp z h1 h2] at hxy
    rw [hA_mem als t0 ok.1 z (hpre z h1) (hS _ h2)]
    exact hxy
  · rw [hA_other pre t0 fun z hz hs he => h ⟨z, hz, hs, he⟩] at hxy
    rw [hA_other als t0 fun z hz _ he => ?_]
    · exact hxy
    · rw [← he, ok.2 z hz] at hxy; cases hxy

/-! ### The steps -/
structure AStep (P : Program) (all : List Oper) (ms : List Nat) (t0 : T AObj) (als : Als) (i : Nat) (r : RStep) : Prop where
  wt : r.wt = wantedE r.o all r.a
  off : r.wt = false → r.v = undef ∧ r.q = true
  quiet : r.wt = true → r.q = true → ∃ pre post n, als = pre ++ post ∧ opQ P r.o r.a.eval ⟨hA pre (bf ms i) t0, n⟩ = some r.v
  loud : r.wt = true → r.q = false → ∃ b ob, (i, b, ob) ∈ als ∧ tIn P r.o.op = true ∧ layV P r.o r.a.eval b = some (r.v, ob)
theorem freeAt_none {t : T AObj} {b : Nat} (h : freeAt t b = true) : t.get b = none := by
  unfold freeAt at h
  split at h
  · assumption
  · cases h
theorem consA_some {r : RStep} {x : Option (List RStep × Als × Nat)} {rs : List RStep} {als : Als} {n : Nat} (h : consA r x = some (rs, als, n)) : ∃ rs', rs = r :: rs' ∧ x = some (rs', als, n) := by
  unfold consA at h
  split at h
  · cases h; exact ⟨_, rfl, rfl⟩
  · cases h
def Acc (t0 : T AObj) (i b : Nat) (acc : Als) : Prop := AlsOk t0 acc ∧ ∀ x ∈ acc, x.1 < i ∧ x.2.1 < b
theorem Acc.snoc {t0 : T AObj} {i b : Nat} {acc : Als} (h : Acc t0 i b acc) {ob : AObj} (hf : t0.get b = none) : Acc t0 (i + 1) (b + 1) (acc ++ [(i, b, ob)]) := by
  refine ⟨⟨?_, fun x hx => ?_⟩, fun x hx => ?_⟩
  · rw [List.pairwise_append]
    refine ⟨h.1.1, by simp, fun x hx y hy => ?_⟩
    have hy' : y = (i, b, ob) := by simpa using hy
    subst hy'
    have := h.2 x hx
    exact ⟨by show x.1 ≠ i; omega, by show x.2.1 ≠ b; omega⟩
  · rcases List.mem_append.1 hx with hx | hx
    · exact h.1.2 x hx
    · have : x = (i, b, ob) := by simpa using hx
      subst this; exact hf
  · rcases List.mem_append.1 hx with hx | hx
    · have := h.2 x hx; omega
    · have : x = (i, b, ob) := by simpa using hx
      subst this; show i < i + 1 ∧ b < b + 1; omega
theorem Acc.next {t0 : T AObj} {i b : Nat} {acc : Als} (h : Acc t0 i b acc) : Acc t0 (i + 1) b acc := ⟨h.1, fun x hx => by have := h.2 x hx; omega⟩

theorem frS_none : ∀ (rs : List RStep) (i : Nat) (S : Nat → Bool) (a : AAct), (∀ j, i ≤ j → S j = false) → frS rs i S a = a
  | [], _, _, _, _ => rfl
  | r :: rs, i, S, a, hs => by rw [frS, hs i (Nat.le_refl _)]; exact frS_none rs _ _ _ fun j hj => hs j (by omega)

theorem stepsA_spec {P : Program} {all : List Oper} {ms : List Nat} {h0 : AHeap} : ∀ (l : List Oper) (i : Nat) (a : AAct) (b : Nat) (acc : Als) (rs : List RStep) (als : Als) (n : Nat),
    stepsA P all ms h0 l i a b acc = some (rs, als, n) → Acc h0.blocks i b acc →
    rs.length = l.length ∧ AlsOk h0.blocks als ∧ (∃ ext, als = acc ++ ext ∧ ∀ x ∈ ext, ∃ j r, x.1 = i + j ∧ rs[j]? = some r ∧ r.q = false) ∧
    ∀ j r, rs[j]? = some r → l[j]? = some r.o ∧ r.a = frS rs i (fun m => decide (m < i + j)) a ∧ AStep P all ms h0.blocks als (i + j) r
  | [], i, a, b, acc, rs, als, n, h, hacc => by
    rw [stepsA] at h
    cases h
    exact ⟨rfl, hacc.1, ⟨[], by simp, fun x hx => by simp at hx⟩, fun j r hj => by simp at hj⟩
  | o :: l, i, a, b, acc, rs, als, n, h, hacc => by
    -- one step and the rest
    have key : ∀ (x : RStep) (rs' : List RStep) (b' : Nat) (acc' : Als), x.o = o → x.a = a → rs = x :: rs' → stepsA P all ms h0 l (i + 1) (a.put o.dst x.v) b' acc' = some (rs', als, n) → Acc h0.blocks (i + 1) b' acc' →
        ((acc' = acc) ∨ (x.q = false ∧ ∃ y : Nat × Nat × AObj, y.1 = i ∧ acc' = acc ++ [y])) → (∀ ext, als = acc' ++ ext → AStep P all ms h0.blocks als i x) →
        rs.length = (o :: l).length ∧ AlsOk h0.blocks als ∧ (∃ ext, als = acc ++ ext ∧ ∀ x ∈ ext, ∃ j r, x.1 = i + j ∧ rs[j]? = some r ∧ r.q = false) ∧
        ∀ j r, rs[j]? = some r → (o :: l)[j]? = some r.o ∧ r.a = frS rs i (fun m => decide (m < i + j)) a ∧ AStep P all ms h0.blocks als (i + j) r := by
      intro x rs' b' acc' hxo hxa he hs hacc' hext hx
      subst he
      obtain ⟨g1, g2, ⟨ext, g3, g4⟩, g5⟩ := stepsA_spec l (i + 1) _ b' acc' rs' als n hs hacc'
      have g4' : ∀ y ∈ ext, ∃ j r, y.1 = i + j ∧ (x :: rs')[j]? = some r ∧ r.q = false := fun y hy => by
        obtain ⟨j, r, k1, k2, k3⟩ := g4 y hy
        exact ⟨j + 1, r, by omega, by simpa using k2, k3⟩
      refine ⟨by simp [g1], g2, ?_, fun j r hj => ?_⟩
      · rcases hext with rfl | ⟨hq, y, hy, rfl⟩
        · exact ⟨ext, g3, g4'⟩
        · refine ⟨y :: ext, by rw [g3]; simp, fun z hz => ?_⟩
          rcases List.mem_cons.1 hz with rfl | hz
          · exact ⟨0, x, hy, rfl, hq⟩
          · exact g4' z hz
      · cases j with
        | zero =>
          have hxr : x = r := by simpa using hj
          subst hxr
          refine ⟨by simp [hxo], ?_, hx ext g3⟩
          rw [frS_none _ _ _ _ (fun j hj => by simp; omega), hxa]
        | succ j =>
          obtain ⟨k1, k2, k3⟩ := g5 j r (by simpa using hj)
          refine ⟨by simpa using k1, ?_, by rw [show i + (j + 1) = i + 1 + j by omega]; exact k3⟩
          rw [k2, frS, show decide (i < i + (j + 1)) = true by simp]
          simp only [hxo]
          rw [show (fun m => decide (m < i + 1 + j)) = fun m => decide (m < i + (j + 1)) from funext fun m => by rw [show i + 1 + j = i + (j + 1) by omega]]
    rw [stepsA] at h
    cases hw : wantedE o all a with
    | false =>
      rw [hw] at h
      obtain ⟨rs', h1, h2⟩ := consA_some h
      exact key _ rs' b acc rfl rfl h1 h2 hacc.next (.inl rfl) fun ext _ => ⟨hw.symm, fun _ => ⟨rfl, rfl⟩, fun hh => (by cases hh), fun hh => (by cases hh)⟩
    | true =>
      rw [hw] at h
      simp only at h
      cases hl : layOp o.op with
      | true =>
        rw [hl] at h
        simp only at h
        split at h <;> first | (cases h; done) | skip
        rename_i v ob hv
        split at h <;> first | (cases h; done) | skip
        rename_i hc
        simp only [Bool.and_eq_true] at hc
        obtain ⟨rs', h1, h2⟩ := consA_some h
        refine key _ rs' (b + 1) (acc ++ [(i, b, ob)]) rfl rfl h1 h2 (hacc.snoc (freeAt_none hc.1)) (.inr ⟨rfl, (i, b, ob), rfl, rfl⟩) fun ext he => ⟨hw.symm, fun hh => (by cases hh), fun _ hh => (by cases hh), fun _ _ => ⟨b, ob, ?_, hc.2, hv⟩⟩
        rw [he]; simp
      | false =>
        rw [hl] at h
        simp only at h
        split at h <;> first | (cases h; done) | skip
        rename_i v hv
        obtain ⟨rs', h1, h2⟩ := consA_some h
        exact key _ rs' b acc rfl rfl h1 h2 hacc.next (.inl rfl) fun ext he => ⟨hw.symm, fun hh => (by cases hh), fun _ _ => ⟨acc, ext, b, he, hv⟩, fun _ hh => (by cases hh)⟩
end
end Go.Ab
