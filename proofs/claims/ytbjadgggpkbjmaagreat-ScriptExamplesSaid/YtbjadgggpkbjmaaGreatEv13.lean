/- The evaluator, part 13. -/
import Derived.Test.YtbjadgggpkbjmaaGreatEv12
/- An evaluator of the model's code over an abstract heap: regions that draw their order are sound. -/
namespace Go.Ab
open Go.RowKit
noncomputable section

/-- What is known of the frames. -/
structure KnownA (l : List Oper) (rs : List RStep) (a0 : AAct) : Prop where
  len : rs.length = l.length
  o : ∀ (j : Nat) (r : RStep), rs[j]? = some r → l[j]? = some r.o
  a : ∀ (j : Nat) (r : RStep), rs[j]? = some r → r.a = frS rs 0 (fun m => decide (m < j)) a0
  wt : ∀ (j : Nat) (r : RStep), rs[j]? = some r → r.wt = wantedE r.o l r.a
  edges : edgesOk l 0 = true
  tmps : tmpsOk l = true
/-- All that is known of the steps. -/
structure Known (P : Program) (xt : XTab) (e : Env) (l : List Oper) (g : Als) (rs : List RStep) (a0 : AAct) (h0 : AHeap) : Prop extends KnownA l rs a0 where
  h : ∀ (j : Nat) (r : RStep), rs[j]? = some r → r.h = hS rs 0 (fun m => decide (m < j)) h0
  ok : ∀ (j : Nat) (r : RStep), rs[j]? = some r → StepOk P xt e l g j r
  chain : chainOk (masksOf l) (effsOf rs 0) = true
  reads : ∀ (j : Nat) (r : RStep), rs[j]? = some r → readOk P (masksOf l) (effsOf rs 0) rs h0 j r = true
  gok : ∀ x ∈ g, ghostOk (masksOf l) (effsOf rs 0) rs h0 x = true

theorem readsOk_at {P : Program} {ms es : List Nat} {all : List RStep} {h0 : AHeap} : ∀ (rs : List RStep) (k : Nat), readsOk P ms es all h0 rs k = true → ∀ j r, rs[j]? = some r → readOk P ms es all h0 (k + j) r = true
  | [], _, _, j, r, h => by simp at h
  | x :: rs, k, hk, j, r, h => by
    rw [readsOk] at hk
    split at hk
    · rename_i hx
      cases j with
      | zero =>
        have : x = r := by simpa using h
        subst this
        exact hx
      | succ j =>
        have := readsOk_at rs (k + 1) hk j r (by simpa using h)
        rw [show k + (j + 1) = k + 1 + j by omega]; exact this
    · cases hk

theorem regM_known {P : Program} {xt : XTab} {e : Env} {l : List Oper} {a0 a' : AAct} {h h' : AHeap} (h1 : edgesOk l 0 = true ∧ tmpsOk l = true) (hr : regM P xt e l a0 h = some (a', h')) :
    ∃ g n rs, ghostsOf P h.blocks l 0 h.next [] = some (g, n) ∧ Known P xt e l g rs a0 ⟨hA g (fun _ => true) h.blocks, n⟩ ∧ a' = frS rs 0 (fun _ => true) a0 ∧ h' = hS rs 0 (fun _ => true) ⟨hA g (fun _ => true) h.blocks, n⟩ := by
  unfold regM at hr
  split at hr <;> first | (cases hr; done) | skip
  rename_i g n hg
  split at hr <;> first | (cases hr; done) | skip
  rename_i rs hrs
  simp only [] at hr
  split at hr <;> first | (cases hr; done) | skip
  rename_i h2
  simp only [Bool.and_eq_true] at h2
  cases hr
  obtain ⟨g1, g2⟩ := stepsE_spec l a0 _ rs 0 hrs
  refine ⟨g, n, rs, hg, ⟨⟨g1, fun j r hj => (g2 j r hj).1, fun j r hj => ?_, fun j r hj => (g2 j r hj).2.2.2.wt, h1.1, h1.2⟩, fun j r hj => ?_, fun j r hj => ?_, h2.1.1, fun j r hj => ?_, allB_iff h2.2⟩, rfl, rfl⟩
  · have := (g2 j r hj).2.1
    simpa using this
  · have := (g2 j r hj).2.2.1
    simpa using this
  · have := (g2 j r hj).2.2.2
    rw [Nat.zero_add] at this
    exact this
  · have := readsOk_at rs 0 h2.1.2 j r hj
    simpa using this

section
variable {P : Program} {xt : XTab} {e : Env} {l : List Oper} {g : Als} {rs : List RStep} {a0 : AAct} {h0 : AHeap}
/-- A set of steps that may have come, with a step that may come next. -/
structure Next (l : List Oper) (S : Nat → Bool) (i : Nat) : Prop where
  not : S i = false
  closed : ∀ j k, S j = true → bf (masksOf l) j k = true → S k = true
  ready : ∀ k, bf (masksOf l) i k = true → S k = true

theorem Known.op_at (K : Known P xt e l g rs a0 h0) {j : Nat} {r : RStep} (h : rs[j]? = some r) : l[j]? = some r.o := K.o j r h

theorem clash_l {x y : Oper} {t : Nat} (hd : x.dst = some t) (hl : t ∈ looks l y) : clash l x y = true := by
  unfold clash
  rw [hd]
  simp only [hasN_iff.2 hl, Bool.true_or]
theorem clash_r {x y : Oper} {t : Nat} (hd : y.dst = some t) (hl : t ∈ looks l x) : clash l x y = true := by
  unfold clash
  rw [hd]
  simp only [hasN_iff.2 hl, Bool.or_true]

/-- What a step looks at is as it was. -/
theorem KnownA.get (K : KnownA l rs a0) {S : Nat → Bool} {i : Nat} (N : Next l S i) {r : RStep} (hi : rs[i]? = some r) {t : Nat} (ht : t ∈ looks l r.o) :
    (frS rs 0 S a0).tmps.get t = r.a.tmps.get t := by
  rw [K.a i r hi]
  refine frS_congr rs 0 _ _ rfl fun j x hj hd => ?_
  rw [Nat.zero_add]
  rcases Nat.lt_trichotomy j i with h | h | h
  · rw [decide_eq_true h]
    exact N.ready j (tmpsOk_at K.tmps (K.o j x hj) (K.o i r hi) h (clash_l hd ht))
  · subst h
    rw [N.not]; simp
  · rw [decide_eq_false (by omega)]
    have hb := tmpsOk_at K.tmps (K.o i r hi) (K.o j x hj) h (clash_r hd ht)
    cases hS : S j with
    | false => rfl
    | true => have := N.closed j i hS hb; rw [N.not] at this; cases this

def add (S : Nat → Bool) (i : Nat) : Nat → Bool := fun j => S j || decide (j = i)
theorem KnownA.put (K : KnownA l rs a0) {S : Nat → Bool} {i : Nat} (N : Next l S i) {r : RStep} (hi : rs[i]? = some r) (t : Nat) :
    ((frS rs 0 S a0).put r.o.dst r.v).tmps.get t = (frS rs 0 (add S i) a0).tmps.get t := by
  by_cases hd : r.o.dst = some t
  · rw [hd, put_get_eq]
    refine (frS_last rs 0 a0 i r hi hd (by simp [add]) fun j x hlt hj hd' => ?_).symm
    rw [Nat.zero_add]
    have hb := tmpsOk_at K.tmps (K.o i r hi) (K.o j x hj) hlt (clash_r hd' (by unfold looks; rw [hd]; simp))
    have : S j = false := by
      cases hS : S j with
      | false => rfl
      | true => have := N.closed j i hS hb; rw [N.not] at this; cases this
    simp [add, this]; omega
  · rw [put_get_ne hd]
    refine frS_congr rs 0 _ _ rfl fun j x hj hd' => ?_
    rw [Nat.zero_add]
    have : j ≠ i := fun e => by subst e; rw [hi] at hj; cases hj; exact hd hd'
    simp [add, this]

theorem Known.eff (K : Known P xt e l g rs a0 h0) {j : Nat} {r : RStep} (h : rs[j]? = some r) (hq : r.q = false) : j ∈ effsOf rs 0 :=
  (effsOf_mem rs 0 j).2 ⟨j, r, by omega, h, hq⟩
theorem Known.before (K : Known P xt e l g rs a0 h0) {i j : Nat} (hi : i ∈ effsOf rs 0) (hj : j ∈ effsOf rs 0) (h : i < j) : bf (masksOf l) j i = true := by
  have h1 := allB_iff (allB_iff K.chain j hj) i hi
  have h2 : Nat.blt i j = true := by simpa using h
  rw [h2] at h1
  simpa using h1
/-- The heap at a step with an effect. -/
theorem Known.heap (K : Known P xt e l g rs a0 h0) {S : Nat → Bool} {i : Nat} (N : Next l S i) {r : RStep} (hi : rs[i]? = some r) (hq : r.q = false) : hS rs 0 S h0 = r.h := by
  rw [K.h i r hi]
  refine hS_congr rs 0 h0 fun j x hj hx => ?_
  rw [Nat.zero_add]
  rcases Nat.lt_trichotomy j i with h | h | h
  · rw [decide_eq_true h]
    exact N.ready j (K.before (K.eff hj hx) (K.eff hi hq) h)
  · subst h
    rw [N.not]; simp
  · rw [decide_eq_false (by omega)]
    cases hS : S j with
    | false => rfl
    | true => have := N.closed j i hS (K.before (K.eff hi hq) (K.eff hj hx) h); rw [N.not] at this; cases this
theorem hS_at : ∀ (rs : List RStep) (k : Nat) (h : AHeap) (i : Nat) (r : RStep) (S : Nat → Bool), rs[i]? = some r → r.q = false → S (k + i) = true → (∀ j, k + i < j → S j = false) → hS rs k S h = r.h1
  | [], _, _, _, _, _, h, _, _, _ => by simp at h
  | x :: rs, k, h, 0, r, S, hi, hq, h1, h2 => by
    have : x = r := by simpa using hi
    subst this
    rw [hS]
    rw [Nat.add_zero] at h1
    simp only [h1, hq, Bool.not_false, Bool.and_true]
    exact hS_none _ _ _ _ fun j hj => h2 j (by omega)
  | x :: rs, k, h, i + 1, r, S, hi, hq, h1, h2 => by
    rw [hS]
    exact hS_at rs (k + 1) _ i r S (by simpa using hi) hq (by rw [show k + 1 + i = k + (i + 1) by omega]; exact h1) fun j hj => h2 j (by omega)
theorem Known.heap1 (K : Known P xt e l g rs a0 h0) {S : Nat → Bool} {i : Nat} (N : Next l S i) {r : RStep} (hi : rs[i]? = some r) (hq : r.q = false) : hS rs 0 (add S i) h0 = r.h1 := by
  rw [← hS_at rs 0 h0 i r (fun m => decide (m ≤ i)) hi hq (by simp) (fun j hj => by simp; omega)]
  refine hS_congr rs 0 h0 fun j x hj hx => ?_
  rw [Nat.zero_add]
  rcases Nat.lt_trichotomy j i with h | h | h
  · rw [decide_eq_true (by omega : j ≤ i)]
    simp [add, N.ready j (K.before (K.eff hj hx) (K.eff hi hq) h)]
  · subst h
    simp [add]
  · rw [decide_eq_false (by omega)]
    have : S j = false := by
      cases hS : S j with
      | false => rfl
      | true => have := N.closed j i hS (K.before (K.eff hi hq) (K.eff hj hx) h); rw [N.not] at this; cases this
    simp [add, this]; omega
theorem Known.still (K : Known P xt e l g rs a0 h0) {S : Nat → Bool} {i : Nat} {r : RStep} (hi : rs[i]? = some r) (hq : r.q = true) : hS rs 0 (add S i) h0 = hS rs 0 S h0 := by
  refine hS_congr rs 0 h0 fun j x hj hx => ?_
  have : j ≠ i := fun e => by subst e; rw [hi] at hj; cases hj; rw [hq] at hx; cases hx
  simp [add, this]

/-- The greatest of a list's members that lie in a set, and one more. -/
theorem cut_of (S : Nat → Bool) : ∀ (es : List Nat), (∀ i ∈ es, ∀ j ∈ es, i < j → S j = true → S i = true) → ∃ m ∈ 0 :: es.map (· + 1), ∀ j ∈ es, S j = decide (j < m) := by
  intro es
  suffices H : ∀ (fs : List Nat), (∀ i ∈ fs, i ∈ es) → (∀ i ∈ es, ∀ j ∈ es, i < j → S j = true → S i = true) → ∃ m ∈ 0 :: es.map (· + 1), ∀ j ∈ fs, (S j = true → j < m) ∧ (∀ k, m = k + 1 → S k = true ∧ k ∈ es) from fun hd => by
    obtain ⟨m, hm, h⟩ := H es (fun _ h => h) hd
    refine ⟨m, hm, fun j hj => ?_⟩
    cases hS : S j with
    | true => exact (decide_eq_true ((h j hj).1 hS)).symm
    | false =>
      symm
      rw [decide_eq_false_iff_not]
      intro hlt
      cases m with
      | zero => omega
      | succ k =>
        obtain ⟨g1, g2⟩ := (h j hj).2 k rfl
        rcases Nat.lt_or_ge j k with h' | h'
        · have := hd j hj k g2 h' g1; rw [hS] at this; cases this
        · have : j = k := by omega
          subst this; rw [hS] at g1; cases g1
  intro fs
  induction fs with
  | nil => intro _ _; exact ⟨0, List.mem_cons_self .., fun j hj => by simp at hj⟩
  | cons x fs ih =>
    intro hin hd
    obtain ⟨m, hm, h⟩ := ih (fun i hi => hin i (List.mem_cons_of_mem _ hi)) hd
    have hxe := hin x (List.mem_cons_self ..)
    by_cases hx : S x = true ∧ m ≤ x
    · refine ⟨x + 1, List.mem_cons_of_mem _ (List.mem_map.2 ⟨x, hxe, rfl⟩), fun j hj => ⟨fun hS => ?_, fun k hk => ?_⟩⟩
      · rcases List.mem_cons.1 hj with h' | h'
        · omega
        · have := (h j h').1 hS; omega
      · have : k = x := by omega
        subst this
        exact ⟨hx.1, hxe⟩
    · cases m with
      | zero =>
        refine ⟨0, hm, fun j hj => ⟨fun hS => ?_, fun k hk => by omega⟩⟩
        rcases List.mem_cons.1 hj with h' | h'
        · subst h'; exact absurd ⟨hS, Nat.zero_le _⟩ hx
        · exact (h j h').1 hS
      | succ m =>
        cases fs with
        | nil =>
          by_cases hS : S x = true
          · exact ⟨x + 1, List.mem_cons_of_mem _ (List.mem_map.2 ⟨x, hxe, rfl⟩), fun j hj => by
              have : j = x := by simpa using hj
              subst this
              exact ⟨fun _ => by omega, fun k hk => by
                have : k = j := by omega
                subst this; exact ⟨hS, hxe⟩⟩⟩
          · exact ⟨0, List.mem_cons_self .., fun j hj => by
              have : j = x := by simpa using hj
              subst this
              exact ⟨fun h => absurd h hS, fun k hk => by omega⟩⟩
        | cons y fs =>
          have hy := (h y (List.mem_cons_self ..)).2
          refine ⟨m + 1, hm, fun j hj => ⟨fun hS => ?_, hy⟩⟩
          rcases List.mem_cons.1 hj with h' | h'
          · subst h'
            have : ¬ (m + 1 ≤ j) := fun h => hx ⟨hS, h⟩
            omega
          · exact (h j h').1 hS

theorem Known.read (K : Known P xt e l g rs a0 h0) {S : Nat → Bool} {i : Nat} (N : Next l S i) {r : RStep} (hi : rs[i]? = some r) (hw : r.wt = true) (hal : isAl r.o.op = false) (hq : r.q = true) :
    opQ P r.o r.a.eval (hS rs 0 S h0) = some r.v := by
  obtain ⟨m, hm, hcut⟩ := cut_of S (effsOf rs 0) fun x hx y hy hlt hS => N.closed y x hS (K.before hx hy hlt)
  have heq : hS rs 0 S h0 = hS rs 0 (fun j => Nat.blt j m) h0 := hS_congr rs 0 h0 fun j x hj hx => by
    rw [Nat.zero_add, hcut j (K.eff hj hx)]
    cases h : Nat.blt j m with
    | true => exact decide_eq_true (by simpa using h)
    | false => exact decide_eq_false (fun h' => by have : Nat.blt j m = true := by simpa using h'
                                                   rw [h] at this; cases this)
  cases hf : hfree r.o.op with
  | true =>
    rw [opQ_free hf r.a.eval _ r.h]
    exact (K.ok i r hi).quiet hw hal hq
  | false =>
  have hr := K.reads i r hi
  unfold readOk at hr
  rw [hq, hw, hf, hal] at hr
  have h1 := allB_iff hr m hm
  simp only [Bool.or_eq_true] at h1
  rcases h1 with (h1 | h1) | h1
  · rw [← (K.ok i r hi).quiet hw hal hq, K.h i r hi]
    congr 1
    refine hS_congr rs 0 h0 fun j x hj hx => ?_
    rw [Nat.zero_add, hcut j (K.eff hj hx)]
    have h2 := allB_iff h1 j (K.eff hj hx)
    simp only [beq_iff_eq] at h2
    by_cases h3 : j < i
    · have : Nat.blt j m = true := by rw [h2]; simpa using h3
      rw [decide_eq_true h3]; exact decide_eq_true (by simpa using this)
    · rw [decide_eq_false h3]
      refine decide_eq_false fun h4 => h3 ?_
      have : Nat.blt j m = true := by simpa using h4
      rw [h2] at this
      simpa using this
  · exfalso
    rw [Bool.not_eq_true'] at h1
    have : allB (fun j => match Nat.blt j m with
        | true => !bf (masksOf l) j i
        | false => !bf (masksOf l) i j) (effsOf rs 0) = true := by
      have mk : ∀ (f : Nat → Bool) (l : List Nat), (∀ x ∈ l, f x = true) → allB f l = true := by
        intro f l
        induction l with
        | nil => intro _; rfl
        | cons x l ih => intro h; rw [allB, h x (List.mem_cons_self ..)]; exact ih fun y hy => h y (List.mem_cons_of_mem _ hy)
      refine mk _ _ fun j hj => ?_
      have hc := hcut j hj
      cases hb : Nat.blt j m with
      | true =>
        have hlt : j < m := by simpa using hb
        rw [decide_eq_true hlt] at hc
        cases hbf : bf (masksOf l) j i with
        | false => rfl
        | true => have := N.closed j i hc hbf; rw [N.not] at this; cases this
      | false =>
        have hlt : ¬ j < m := fun h => by
          have : Nat.blt j m = true := by simpa using h
          rw [hb] at this; cases this
        rw [decide_eq_false hlt] at hc
        cases hbf : bf (masksOf l) i j with
        | false => rfl
        | true => have := N.ready j hbf; rw [hc] at this; cases this
    exact absurd (h1.symm.trans this) (by simp)
  · rw [heq]
    split at h1
    · rename_i v hv
      rw [hv, valEq2_eq h1]
    · cases h1
/-- A variable that was not laid yet is as it will be laid. -/
theorem Known.ghost (K : Known P xt e l g rs a0 h0) {S : Nat → Bool} {x : Nat × Nat × AObj} (N : Next l S x.1) (hx : x ∈ g) : (hS rs 0 S h0).blocks.get x.2.1 = some x.2.2 := by
  obtain ⟨m, hm, hcut⟩ := cut_of S (effsOf rs 0) fun i hi j hj hlt hS => N.closed j i hS (K.before hi hj hlt)
  have heq : hS rs 0 S h0 = hS rs 0 (fun j => Nat.blt j m) h0 := hS_congr rs 0 h0 fun j r hj hr => by
    rw [Nat.zero_add, hcut j (K.eff hj hr)]
    cases h : Nat.blt j m with
    | true => exact decide_eq_true (by simpa using h)
    | false => exact decide_eq_false (fun h' => by have : Nat.blt j m = true := by simpa using h'
                                                   rw [h] at this; cases this)
  have h1 := allB_iff (K.gok x hx) m hm
  simp only [Bool.or_eq_true] at h1
  rcases h1 with h1 | h1
  · exfalso
    obtain ⟨j, hj, h2⟩ := anyB_iff h1
    simp only [Bool.and_eq_true] at h2
    have hlt : j < m := by simpa using h2.1
    have hSj : S j = true := by rw [hcut j hj]; exact decide_eq_true hlt
    have := N.closed j x.1 hSj h2.2
    rw [N.not] at this; cases this
  · rw [heq]; exact sameAt_eq h1

section
variable {w0 : World} {base : Nat}
/-- A step that may come next does what the family of heaps says. -/
def StepProp (P : Program) (w0 : World) (base : Nat) (l : List Oper) (rs : List RStep) (HS : (Nat → Bool) → AHeap) (GH : (Nat → Bool) → Nat → Bool) : Prop :=
  ∀ S i r, Next l S i → rs[i]? = some r → (r.wt = false → r.v = undef ∧ (∀ b, (HS (add S i)).blocks.get b = (HS S).blocks.get b) ∧ GH (add S i) = GH S) ∧
    (r.wt = true → ∀ φ w (act : Act) (next : Act → World → Prop) (Q : Exit → Act → World → Prop) (r0 : Option Nat), φ.gh = GH S → noDefer r.o.op = true → (∀ x ∈ r.o.op.operands, VR φ (r.a.eval x) (act.eval x)) → HR w0 base φ (HS S) w →
      (∀ φ' u w', Ext0 φ φ' → φ'.gh = GH (add S i) → VR φ' r.v u → HR w0 base φ' (HS (add S i)) w' → next (act.put r.o.dst u) w') → r.o.wpIn (Fr r0) 0 P act w next Q)
def CongProp (l : List Oper) (HS : (Nat → Bool) → AHeap) (GH : (Nat → Bool) → Nat → Bool) : Prop := ∀ S S', (∀ j, j < l.length → S j = S' j) → (∀ b, (HS S).blocks.get b = (HS S').blocks.get b) ∧ GH S = GH S'
/-- A step by the evaluator of operations. -/
theorem step_opW (hop : OpS P w0 base (opW P xt) e) {HS : (Nat → Bool) → AHeap} {GH : (Nat → Bool) → Nat → Bool} {S S' : Nat → Bool} {r : RStep} {n : Nat} {h1 : AHeap} (hv : opW P xt e r.o r.a.eval ⟨(HS S).blocks, n⟩ = some (r.v, h1)) (hb : ∀ b, (HS S').blocks.get b = h1.blocks.get b) (hg : GH S' = GH S) :
    ∀ φ w (act : Act) (next : Act → World → Prop) (Q : Exit → Act → World → Prop) (r0 : Option Nat), φ.gh = GH S → noDefer r.o.op = true → (∀ x ∈ r.o.op.operands, VR φ (r.a.eval x) (act.eval x)) → HR w0 base φ (HS S) w →
      (∀ φ' u w', Ext0 φ φ' → φ'.gh = GH S' → VR φ' r.v u → HR w0 base φ' (HS S') w' → next (act.put r.o.dst u) w') → r.o.wpIn (Fr r0) 0 P act w next Q := by
  intro φ w act next Q r0 hgh hd hops hh hn
  refine hop r.o r.a.eval _ r.v h1 φ w act next Q r0 hv hd hops (hh.same fun _ => rfl) fun φ' u w' he hvu hh' => ?_
  exact hn φ' u w' he.toExt0 (by rw [he.gh, hgh, hg]) hvu (hh'.same hb)

theorem Known.steps (hop : OpS P w0 base (opW P xt) e) {h : AHeap} {n : Nat} (hg : ghostsOf P h.blocks l 0 h.next [] = some (g, n)) {gh0 : Nat → Bool} (h0g : ∀ b, gh0 b = true → h.blocks.get b ≠ none) (K : Known P xt e l g rs a0 h0) :
    StepProp P w0 base l rs (fun S => hS rs 0 S h0) (fun S b => gh0 b || anyG g S b) := by
  obtain ⟨gok, ext, ge, gs⟩ := ghostsOf_spec l 0 h.next [] g n hg ⟨⟨by simp, fun x hx => by simp at hx⟩, fun x hx => by simp at hx⟩
  have ge : g = ext := by simpa using ge
  intro S i r N hr
  -- a step that lays no variable of the region
  have noG : isAl r.o.op = false → (fun b => gh0 b || anyG g (add S i) b) = fun b => gh0 b || anyG g S b := fun hal => funext fun b => by
    have : anyG g (add S i) b = anyG g S b := by
      rw [Bool.eq_iff_iff, anyG_iff, anyG_iff]
      constructor
      · rintro ⟨x, hx, h1, h2⟩
        refine ⟨x, hx, h1, ?_⟩
        unfold add at h2
        rw [Bool.or_eq_false_iff] at h2
        exact h2.1
      · rintro ⟨x, hx, h1, h2⟩
        refine ⟨x, hx, h1, ?_⟩
        unfold add
        rw [h2]
        rw [Bool.false_or, decide_eq_false_iff_not]
        intro e
        obtain ⟨j, o, k1, k2, k3, _⟩ := gs x (by rw [← ge]; exact hx)
        have hj : j = i := by omega
        subst hj
        rw [K.o j r hr] at k2
        cases k2
        rw [hal] at k3; cases k3
    rw [this]
  refine ⟨fun hw => ?_, fun hw => ?_⟩
  · obtain ⟨hv, hq, hal⟩ := (K.ok i r hr).off hw
    exact ⟨hv, fun b => by show (hS rs 0 (add S i) h0).blocks.get b = _; rw [K.still hr hq], noG hal⟩
  · cases hal : isAl r.o.op with
    | false =>
      cases hq : r.q with
      | true => exact step_opW hop (HS := fun S => hS rs 0 S h0) (GH := fun S b => gh0 b || anyG g S b) (S := S) (S' := add S i) (n := (hS rs 0 S h0).next) (h1 := hS rs 0 S h0) (opQ_opV (K.read N hr hw hal hq)) (fun b => by show (hS rs 0 (add S i) h0).blocks.get b = _; rw [K.still hr hq]) (noG hal)
      | false =>
        refine step_opW hop (HS := fun S => hS rs 0 S h0) (GH := fun S b => gh0 b || anyG g S b) (S := S) (S' := add S i) (n := (hS rs 0 S h0).next) (h1 := r.h1) ?_ (fun b => by show (hS rs 0 (add S i) h0).blocks.get b = _; rw [K.heap1 N hr hq]) (noG hal)
        show opW P xt e r.o r.a.eval (hS rs 0 S h0) = _
        rw [K.heap N hr hq]
        exact (K.ok i r hr).loud hw hq
    | true =>
      obtain ⟨hq, b, ob, ob', hfg, hlv⟩ := (K.ok i r hr).laid hw hal
      have hx := findG_mem hfg
      obtain ⟨j, o, k1, k2, k3, k4, v', k5⟩ := gs _ (by rw [← ge]; exact hx)
      have hj : j = i := by
        have : i = 0 + j := k1
        omega
      subst hj
      rw [K.o j r hr] at k2
      cases k2
      rw [layV_al hal r.a.eval (fun _ => undef) b] at hlv
      have k5' : layV P r.o (fun _ => undef) b = some (v', ob) := k5
      rw [k5'] at hlv
      cases hlv
      have k6 : layV P r.o r.a.eval b = some (r.v, ob) := by rw [layV_al hal r.a.eval (fun _ => undef) b]; exact k5'
      intro φ w act next Q r0 hgh hd hops hh hn
      have hgb : φ.gh b = true := by
        rw [hgh]
        show (gh0 b || anyG g S b) = true
        rw [anyG_iff.2 ⟨(j, b, ob), hx, rfl, N.not⟩, Bool.or_true]
      have hout := hh.out hgb
      have hroom : (⟨(hS rs 0 S h0).blocks.del b, b⟩ : AHeap).room = true := by
        unfold AHeap.room
        rw [show ((hS rs 0 S h0).blocks.del b).get b = none from by rw [T.get_del, if_pos rfl]]
      have hops' : r.o.op.operands = #[] := by
        cases ho : r.o.op <;> rw [ho] at hal <;> first | (cases hal; done) | rfl
      refine hop r.o r.a.eval _ r.v _ _ w act next Q r0 (layV_opW (h := ⟨(hS rs 0 S h0).blocks.del b, b⟩) k4 hroom k6) hd (fun x hx => by rw [hops'] at hx; simp at hx) hout fun φ' u w' he hvu hh' => ?_
      have hget : ∀ x, (hS rs 0 (add S j) h0).blocks.get x = ((⟨(hS rs 0 S h0).blocks.del b, b⟩ : AHeap).push ob).blocks.get x := fun x => by
        rw [K.still hr hq]
        show (hS rs 0 S h0).blocks.get x = (((hS rs 0 S h0).blocks.del b).set b ob).get x
        rw [T.get_set, T.get_del]
        by_cases ex : x = b
        · rw [if_pos ex, ex]
          exact K.ghost (x := (j, b, ob)) N hx
        · rw [if_neg ex, if_neg ex]
      refine hn φ' u w' ⟨fun b c hb => he.to b c hb, fun b c hb => he.sz b c hb⟩ ?_ hvu (hh'.same hget)
      rw [he.gh]
      funext x
      show (φ.gh x && !decide (x = b)) = (gh0 x || anyG g (add S j) x)
      rw [hgh]
      show ((gh0 x || anyG g S x) && !decide (x = b)) = (gh0 x || anyG g (add S j) x)
      by_cases ex : x = b
      · have e1 : gh0 x = false := by
          cases hq2 : gh0 x with
          | false => rfl
          | true => exact absurd (by rw [ex]; exact gok.2 _ hx) (h0g x hq2)
        have e2 : anyG g (add S j) x = false := by
          cases hq2 : anyG g (add S j) x with
          | false => rfl
          | true =>
            obtain ⟨y, hy, y1, y2⟩ := anyG_iff.1 hq2
            have : y = (j, b, ob) := pw_place gok.1 hy hx (by rw [y1, ex])
            subst this
            unfold add at y2
            simp at y2
        rw [e1, e2]; simp [ex]
      · have e2 : anyG g (add S j) x = anyG g S x := by
          rw [Bool.eq_iff_iff, anyG_iff, anyG_iff]
          constructor
          · rintro ⟨y, hy, h1, h2⟩
            unfold add at h2
            rw [Bool.or_eq_false_iff] at h2
            exact ⟨y, hy, h1, h2.1⟩
          · rintro ⟨y, hy, h1, h2⟩
            refine ⟨y, hy, h1, ?_⟩
            unfold add
            rw [h2, Bool.false_or, decide_eq_false_iff_not]
            intro e
            have := pw_idx gok.1 hy hx e
            subst this
            exact ex h1.symm
        rw [e2]; simp [ex]
end
end

theorem actR_congr {φ : Phi} {n : Nat} {a b : AAct} {c : Act} (h : ActR φ n a c) (ht : ∀ t, a.tmps.get t = b.tmps.get t) (hd : a.defers = b.defers) : ActR φ n b c :=
  ⟨h.size, fun i => by rw [← ht i]; exact h.tmp i, by rw [← hd]; exact h.defers⟩

theorem wantedE_congr {o : Oper} {l : List Oper} {a b : AAct} (h : ∀ t ∈ looks l o, a.tmps.get t = b.tmps.get t) : wantedE o l a = wantedE o l b := by
  unfold wantedE
  cases hg : o.guard with
  | none => rfl
  | some g =>
    obtain ⟨j, want⟩ := g
    simp only []
    cases ho : l[j]? with
    | none => rfl
    | some o' =>
      simp only []
      cases hd : o'.dst with
      | none => rfl
      | some d =>
        simp only []
        rw [h d (by unfold looks; rw [hg]; simp [ho, hd])]

section
variable {P : Program} {w0 : World} {base : Nat} {xt : XTab} {e : Env}
structure Mid (HS : (Nat → Bool) → AHeap) (GH : (Nat → Bool) → Nat → Bool) (w0 : World) (base : Nat) (l : List Oper) (rs : List RStep) (a0 : AAct) (φ0 : Phi) (n : Nat) (listed : Array Bool) (act : Act) (w : World) : Prop where
  size : listed.size = l.length
  closed : ∀ j k, listed.getD j false = true → bf (masksOf l) j k = true → listed.getD k false = true
  here : ∃ φ, Ext0 φ0 φ ∧ φ.gh = GH (fun j => listed.getD j false) ∧ ActR φ n (frS rs 0 (fun j => listed.getD j false) a0) act ∧ HR w0 base φ (HS fun j => listed.getD j false) w

theorem all_listed {l : List Oper} {ops : Array Oper} (hl : ops.toList = l) (hed : edgesOk l 0 = true) {listed : Array Bool} (hs : listed.size = l.length)
    (hr : Region.ready .any ops listed = []) : ∀ j, j < l.length → listed.getD j false = true := by
  intro j
  induction j using Nat.strongRecOn with
  | _ j ih =>
    intro hj
    cases hb : listed.getD j false with
    | true => rfl
    | false =>
      exfalso
      have hlt : j < ops.size := by rw [← hl] at hj; simpa using hj
      have : j ∈ Region.ready .any ops listed := by
        rw [mem_ready]
        refine ⟨?_, ops[j], by simp, fun ed he hbi => ?_⟩
        · rw [Array.getD_eq_getD_getElem?] at hb ⊢
          rw [Array.getElem?_eq_getElem (by omega)] at hb ⊢
          exact hb
        · have h1 := edgesOk_at l 0 hed j ops[j] (by rw [← hl]; simp) ed he hbi
          exact ih ed.on (by omega) (by omega)
      rw [hr] at this
      cases this

theorem getD_set {listed : Array Bool} {i : Nat} (hi : i < listed.size) (j : Nat) : (listed.setIfInBounds i true).getD j false = add (fun j => listed.getD j false) i j := by
  unfold add
  rw [Array.getD_eq_getD_getElem?, Array.getElem?_setIfInBounds]
  by_cases h : i = j
  · subst h
    simp [hi]
  · rw [if_neg h, ← Array.getD_eq_getD_getElem?]
    rw [decide_eq_false (fun e : j = i => h e.symm), Bool.or_false]

theorem region_go (hop : OpS P w0 base (opW P xt) e) {r0 : Option Nat} {ops : Array Oper} {l : List Oper} (hl : ops.toList = l) {rs : List RStep} {a0 : AAct} (K : KnownA l rs a0) {HS : (Nat → Bool) → AHeap} {GH : (Nat → Bool) → Nat → Bool} (hst : StepProp P w0 base l rs HS GH) (hcg : CongProp l HS GH) {h' : AHeap} (hfin : ∀ b, h'.blocks.get b = (HS fun _ => true).blocks.get b)
    {n : Nat} (hok : ∀ o ∈ l, operOk n o = true) {φ0 : Phi} (hgf : GH (fun _ => true) = φ0.gh) : ∀ (fuel : Nat) (listed : Array Bool) (act : Act) (w : World), listed.toList.countP (fun b => !b) ≤ fuel → Mid HS GH w0 base l rs a0 φ0 n listed act w →
      wpAnyIn (Fr r0) 0 P .any ops (CodePost w0 base φ0 n .normal (frS rs 0 (fun _ => true) a0) h') fuel listed act w := by
  have fin : ∀ (listed : Array Bool) (act : Act) (w : World), Mid HS GH w0 base l rs a0 φ0 n listed act w → (∀ j, j < l.length → listed.getD j false = true) →
      CodePost w0 base φ0 n .normal (frS rs 0 (fun _ => true) a0) h' .normal act w := by
    intro listed act w M hall
    obtain ⟨φ, he, hgh, ha, hh⟩ := M.here
    have hall' := hcg (fun j => listed.getD j false) (fun _ => true) hall
    refine ⟨φ, rfl, actR_congr ha (fun t => ?_) (by rw [frS_defers, frS_defers]), ?_, ⟨he, by rw [hgh, hall'.2, hgf]⟩⟩
    · refine frS_congr rs 0 _ _ rfl fun j r hj _ => ?_
      rw [Nat.zero_add]
      exact hall j (by rw [← K.len]; exact (List.getElem?_eq_some_iff.1 hj).1)
    · exact hh.same fun b => (hfin b).trans (hall'.1 b).symm
  intro fuel
  induction fuel with
  | zero =>
    intro listed act w hc M
    have hall : ∀ j, j < l.length → listed.getD j false = true := fun j hj => by
      have h1 := List.countP_eq_zero.1 (Nat.le_zero.1 hc)
      have hlt : j < listed.size := by rw [M.size]; exact hj
      have h2 := h1 listed[j] (by simp)
      rw [Array.getD_eq_getD_getElem?, Array.getElem?_eq_getElem hlt]
      simpa using h2
    refine ⟨?_, fin _ _ _ M hall⟩
    cases hr : Region.ready .any ops listed with
    | nil => rfl
    | cons x xs =>
      have hx : x ∈ Region.ready .any ops listed := by rw [hr]; exact List.mem_cons_self ..
      rw [mem_ready] at hx
      obtain ⟨hx1, o, ho, _⟩ := hx
      have hlt : x < ops.size := (Array.getElem?_eq_some_iff.1 ho).1
      have hlt' : x < l.length := by rw [← hl]; simpa using hlt
      have := hall x hlt'
      rw [Array.getD_eq_getD_getElem?, Array.getElem?_eq_getElem (by rw [M.size]; exact hlt')] at this hx1
      rw [Option.getD_some] at this hx1
      rw [this] at hx1
      cases hx1
  | succ fuel ih =>
    intro listed act w hc M
    refine ⟨fun hr => fin _ _ _ M (all_listed hl K.edges M.size hr), fun i hi => ?_⟩
    rw [mem_ready] at hi
    obtain ⟨hi1, o, ho, hedge⟩ := hi
    have hlt : i < ops.size := (Array.getElem?_eq_some_iff.1 ho).1
    have hlt' : i < l.length := by rw [← hl]; simpa using hlt
    have hls : i < listed.size := by rw [M.size]; exact hlt'
    have hnot : listed.getD i false = false := by
      rw [Array.getD_eq_getD_getElem?, Array.getElem?_eq_getElem hls] at hi1 ⊢
      exact hi1
    have hlo : l[i]? = some o := by rw [← hl]; simpa using ho
    have N : Next l (fun j => listed.getD j false) i := ⟨hnot, M.closed, fun k hk => by
      obtain ⟨ed, he, hb, hj⟩ := bf_edge hlo hk
      have := hedge ed he hb
      rcases hj with rfl | hj
      · exact this
      · exact M.closed _ _ this hj⟩
    obtain ⟨r, hr⟩ : ∃ r, rs[i]? = some r := ⟨rs[i]'(by rw [K.len]; exact hlt'), List.getElem?_eq_getElem _⟩
    have hro : r.o = o := by have := K.o i r hr; rw [hlo] at this; cases this; rfl
    have hoperok := hok o (List.mem_of_getElem? hlo)
    obtain ⟨k1, k2, k3⟩ := operOk_parts hoperok
    obtain ⟨φ, he, hgh, ha, hh⟩ := M.here
    have hc' : (listed.setIfInBounds i true).toList.countP (fun b => !b) ≤ fuel := by
      rw [Array.toList_setIfInBounds, List.countP_set (by simpa using hls)]
      have : listed.toList[i]'(by simpa using hls) = false := by
        rw [Array.getD_eq_getD_getElem?, Array.getElem?_eq_getElem hls] at hnot
        simpa using hnot
      rw [this]
      simp only [Bool.not_false, if_true, Bool.not_true, Bool.false_eq_true, if_false]
      omega
    have M' : ∀ φ' act' w', Ext0 φ φ' → φ'.gh = GH (add (fun j => listed.getD j false) i) → ActR φ' n (frS rs 0 (add (fun j => listed.getD j false) i) a0) act' → HR w0 base φ' (HS (add (fun j => listed.getD j false) i)) w' →
        Mid HS GH w0 base l rs a0 φ0 n (listed.setIfInBounds i true) act' w' := by
      intro φ' act' w' he' hg' ha' hh'
      have hfun : (fun j => (listed.setIfInBounds i true).getD j false) = add (fun j => listed.getD j false) i := funext (getD_set hls)
      refine ⟨by simp [M.size], fun j k hj hk => ?_, φ', he.trans he', by rw [hfun]; exact hg', by rw [hfun]; exact ha', by rw [hfun]; exact hh'⟩
      rw [getD_set hls] at hj ⊢
      unfold add at hj ⊢
      simp only [Bool.or_eq_true, decide_eq_true_eq] at hj ⊢
      rcases hj with hj | hj
      · exact .inl (M.closed j k hj hk)
      · subst hj; exact .inl (N.ready k hk)
    unfold wpOpIn
    rw [ho]
    simp only []
    have hwant : Region.wanted o (yielded ops act.tmps) = r.wt := by
      rw [wanted_eq ha o ops, hl, K.wt i r hr, hro]
      exact wantedE_congr fun t ht => K.get N hr (by rw [hro]; exact ht)
    rw [hwant]
    cases hw : r.wt with
    | false =>
      simp only [Bool.false_eq_true, if_false]
      obtain ⟨hv, hb, hg⟩ := (hst _ i r N hr).1 hw
      refine ⟨fun _ _ => trivial, ih _ _ _ hc' (M' φ _ _ (Ext.refl _).toExt0 (by rw [hgh, hg]) ?_ (hh.same hb))⟩
      refine actR_congr (ha.put k1 vr_undef) (fun t => ?_) (by rw [put_defers, frS_defers, frS_defers])
      have := K.put N hr t
      rw [hro, hv] at this
      exact this
    | true =>
      simp only [if_true]
      have hops : ∀ x ∈ o.op.operands, VR φ (r.a.eval x) (act.eval x) := fun x hx => by
        have h1 := ha.eval (k3 x hx)
        have : (frS rs 0 (fun j => listed.getD j false) a0).eval x = r.a.eval x := by
          cases x with
          | tmp t =>
            show ((frS rs 0 (fun j => listed.getD j false) a0).tmps.get t).getD undef = (r.a.tmps.get t).getD undef
            rw [K.get N hr (by
              unfold looks
              rw [hro]
              exact List.mem_append_left _ (List.mem_append_left _ (List.mem_filterMap.2 ⟨.tmp t, by simpa using hx, rfl⟩)))]
          | _ => rfl
        rw [this] at h1
        exact h1
      have hstep := (hst _ i r N hr).2 hw φ w act
      rw [hro] at hstep
      refine hstep _ _ r0 hgh k2 hops hh fun φ' u w' he' hg' hvu hh' => ?_
      refine ih _ _ _ hc' (M' φ' _ _ he' hg' (actR_congr ((ha.mono0 he').put k1 hvu) (fun t => ?_) (by rw [put_defers, frS_defers, frS_defers])) hh')
      have := K.put N hr t
      rw [hro] at this
      exact this

theorem none_listed {n : Nat} (j : Nat) : (Array.replicate n false).getD j false = false := by
  simp only [Array.getD_eq_getD_getElem?, Array.getElem?_replicate]
  split <;> rfl
theorem region_core (hm : P.follows .mixedOrders = true) (hop : OpS P w0 base (opW P xt) e) {id : Nat} {ops : Array Oper} {l : List Oper} (hl : ops.toList = l) {rs : List RStep} {a : AAct} (K : KnownA l rs a) {HS : (Nat → Bool) → AHeap} {GH : (Nat → Bool) → Nat → Bool} (hst : StepProp P w0 base l rs HS GH) (hcg : CongProp l HS GH)
    {h' : AHeap} (hfin : ∀ b, h'.blocks.get b = (HS fun _ => true).blocks.get b) {φ : Phi} {n : Nat} {w : World} {act : Act} {r : Option Nat} (hok : allB (operOk n) l = true) (ha : ActR φ n a act) (hgf : GH (fun _ => true) = φ.gh) (hh : ∀ k, HR w0 base ⟨φ.to, φ.size, GH fun _ => false⟩ (HS fun _ => false) { w with drawn := k }) :
    (Code.region id ops true).wpIn (Fr r) 0 P (CodePost w0 base φ n .normal (frS rs 0 (fun _ => true) a) h') act w := by
  have hlen : ops.size = l.length := by rw [← hl]; simp
  have h0 := hcg (fun j => (Array.replicate ops.size false).getD j false) (fun _ => false) fun j _ => none_listed j
  refine wpIn_region_any hm (region_go hop hl K hst hcg hfin (allB_iff hok) hgf ops.size _ _ _ ?_ ⟨by simp [hlen], fun j k hj => ?_, ⟨φ.to, φ.size, GH fun _ => false⟩, ⟨fun _ _ h => h, fun _ _ _ => rfl⟩, h0.2.symm, ?_, (hh _).same h0.1⟩)
  · exact Nat.le_trans (List.countP_le_length) (by simp)
  · rw [none_listed] at hj; cases hj
  · have he0 : Ext0 φ ⟨φ.to, φ.size, GH fun _ => false⟩ := ⟨fun _ _ h => h, fun _ _ _ => rfl⟩
    refine actR_congr (ha.mono0 he0) (fun t => ?_) (by rw [frS_defers])
    rw [frS_none rs 0 _ a fun j _ => none_listed j]
theorem laid_steps (hop : OpS P w0 base (opW P xt) e) {l : List Oper} {rs : List RStep} {a0 : AAct} {h0 : AHeap} {als : Als} {n : Nat} (hs : stepsA P l (masksOf l) h0 l 0 a0 h0.next [] = some (rs, als, n)) (h1 : edgesOk l 0 = true ∧ tmpsOk l = true) :
    KnownA l rs a0 ∧ ∀ gh : Nat → Bool, StepProp P w0 base l rs (fun S => ⟨hA als S h0.blocks, n⟩) (fun _ => gh) := by
  obtain ⟨g1, g2, ⟨ext, g3, g4⟩, g5⟩ := stepsA_spec l 0 a0 h0.next [] rs als n hs ⟨⟨by simp, fun x hx => by simp at hx⟩, fun x hx => by simp at hx⟩
  have g3' : als = ext := by simpa using g3
  refine ⟨⟨g1, fun j r hj => (g5 j r hj).1, fun j r hj => by have := (g5 j r hj).2.1; simpa using this, fun j r hj => (g5 j r hj).2.2.wt, h1.1, h1.2⟩, fun gh S i r N hr => ?_⟩
  have A := (g5 i r hr).2.2
  rw [Nat.zero_add] at A
  -- a quiet step lays nothing
  have still : r.q = true → ∀ b, (hA als (add S i) h0.blocks).get b = (hA als S h0.blocks).get b := fun hq b => by
    rw [hA_congr (S := add S i) (S' := S) als h0.blocks fun y hy => ?_]
    obtain ⟨j, r', k1, k2, k3⟩ := g4 y (by rw [← g3']; exact hy)
    have : y.1 ≠ i := fun e => by
      have : j = i := by omega
      subst this
      rw [hr] at k2; cases k2; rw [hq] at k3; cases k3
    simp [add, this]
  refine ⟨fun hw => ⟨(A.off hw).1, still (A.off hw).2, rfl⟩, fun hw => ?_⟩
  cases hq : r.q with
  | true =>
    obtain ⟨pre, post, m, k1, k2⟩ := A.quiet hw hq
    exact step_opW hop (HS := fun S => ⟨hA als S h0.blocks, n⟩) (GH := fun _ => gh) (n := n) (h1 := ⟨hA als S h0.blocks, n⟩) (opQ_opV (opQ_more (hA_more g2 k1 fun k hk => N.ready k hk) k2)) (still hq) rfl
  | false =>
    obtain ⟨b, ob, k1, k2, k3⟩ := A.loud hw hq
    have hfree : (hA als S h0.blocks).get b = none := by
      rw [hA_other als h0.blocks fun y hy hS he => ?_]
      · exact g2.2 _ k1
      · have := pw_place g2.1 hy k1 he
        subst this
        rw [N.not] at hS; cases hS
    have hroom : (⟨hA als S h0.blocks, b⟩ : AHeap).room = true := by
      unfold AHeap.room
      rw [show (⟨hA als S h0.blocks, b⟩ : AHeap).blocks.get (⟨hA als S h0.blocks, b⟩ : AHeap).next = none from hfree]
    exact step_opW hop (HS := fun S => ⟨hA als S h0.blocks, n⟩) (GH := fun _ => gh) (n := b) (layV_opW k2 hroom k3) (fun x => hA_add g2 (y := (i, b, ob)) k1 (S := S) (S' := add S i) (fun k => rfl) x) rfl
theorem reg_sound (hm : P.follows .mixedOrders = true) (hop : OpS P w0 base (opW P xt) e) : RegS P w0 base (regE P xt) e := by
  intro id ops a h a' h' φ n w act r hv hok ha hh
  unfold regE at hv
  split at hv <;> first | (cases hv; done) | skip
  rename_i h1
  simp only [Bool.and_eq_true] at h1
  split at hv
  · unfold regA at hv
    split at hv <;> first | (cases hv; done) | skip
    rename_i rs als m hs
    cases hv
    obtain ⟨K, hst⟩ := laid_steps hop hs h1
    refine region_core hm hop rfl K (hst φ.gh) (fun S S' hSS => ⟨fun b => ?_, rfl⟩) (fun b => rfl) hok ha rfl fun k => (hh.drew k).same fun b => ?_
    · obtain ⟨_, _, ⟨ext, g3, g4⟩, _⟩ := stepsA_spec ops.toList 0 a h.next [] rs als m hs ⟨⟨by simp, fun x hx => by simp at hx⟩, fun x hx => by simp at hx⟩
      show (hA als S h.blocks).get b = (hA als S' h.blocks).get b
      rw [hA_congr (S := S) (S' := S') als h.blocks fun y hy => ?_]
      obtain ⟨j, r', k1, k2, _⟩ := g4 y (by have : als = ext := by simpa using g3
                                            rw [← this]; exact hy)
      have := (List.getElem?_eq_some_iff.1 k2).1
      exact hSS y.1 (by rw [← K.len]; omega)
    · show (hA als (fun _ => false) h.blocks).get b = h.blocks.get b
      exact hA_other als h.blocks fun y _ hS => by cases hS
  · obtain ⟨g, m, rs, hg, K, rfl, rfl⟩ := regM_known h1 hv
    obtain ⟨gok, ext, ge, gs⟩ := ghostsOf_spec ops.toList 0 h.next [] g m hg ⟨⟨by simp, fun x hx => by simp at hx⟩, fun x hx => by simp at hx⟩
    have ge : g = ext := by simpa using ge
    refine region_core hm hop rfl K.toKnownA (K.steps hop hg (gh0 := φ.gh) fun b hb => (hh.ghost b hb).2) (fun S S' hSS => ⟨fun b => ?_, ?_⟩) (fun b => rfl) hok ha ?_ fun k => ?_
    · show (hS rs 0 S _).blocks.get b = (hS rs 0 S' _).blocks.get b
      rw [hS_congr (S := S) (S' := S') rs 0 _ fun j r' hj _ => ?_]
      rw [Nat.zero_add]
      exact hSS j (by rw [← K.len]; exact (List.getElem?_eq_some_iff.1 hj).1)
    · funext b
      have : anyG g S b = anyG g S' b := by
        have hx : ∀ x ∈ g, S x.1 = S' x.1 := fun x hx => by
          obtain ⟨j, o, k1, k2, _⟩ := gs x (by rw [← ge]; exact hx)
          exact hSS x.1 (by have := (List.getElem?_eq_some_iff.1 k2).1; omega)
        rw [Bool.eq_iff_iff, anyG_iff, anyG_iff]
        exact ⟨fun ⟨x, q1, q2, q3⟩ => ⟨x, q1, q2, by rw [← hx x q1]; exact q3⟩, fun ⟨x, q1, q2, q3⟩ => ⟨x, q1, q2, by rw [hx x q1]; exact q3⟩⟩
      show (φ.gh b || anyG g S b) = (φ.gh b || anyG g S' b)
      rw [this]
    · funext b
      have : anyG g (fun _ => true) b = false := by
        cases hq : anyG g (fun _ => true) b with
        | false => rfl
        | true => obtain ⟨_, _, _, q⟩ := anyG_iff.1 hq; cases q
      show (φ.gh b || anyG g (fun _ => true) b) = φ.gh b
      rw [this, Bool.or_false]
    · have := (hh.drew k).ghosts gok m
      refine this.same fun b => ?_
      show (hS rs 0 (fun _ => false) _).blocks.get b = _
      rw [hS_none rs 0 _ _ fun j _ => rfl]
end
end
end Go.Ab
