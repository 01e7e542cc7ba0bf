/- The evaluator, part 12. -/
import Derived.Test.YtbjadgggpkbjmaaGreatEv11
/- An evaluator of the model's code over an abstract heap: variables that lie in the abstract heap before they are laid. -/
namespace Go.Ab
open Go.RowKit
noncomputable section

theorem Ext0.trans {φ φ' φ'' : Phi} (h : Ext0 φ φ') (h' : Ext0 φ' φ'') : Ext0 φ φ'' := ⟨fun b c e => h'.to b c (h.to b c e), fun b c e => (h'.sz b c (h.to b c e)).trans (h.sz b c e)⟩
def T.delP {α : Type} : Path → T α → T α
  | .e, .nil => .nil
  | .e, .node l _ r => .node l none r
  | .l _, .nil => .nil
  | .l p, .node l v r => .node (T.delP p l) v r
  | .r _, .nil => .nil
  | .r p, .node l v r => .node l v (T.delP p r)
theorem T.getP_delP_same {α : Type} : ∀ (p : Path) (t : T α), (T.delP p t).getP p = none
  | .e, .nil => rfl
  | .e, .node _ _ _ => rfl
  | .l _, .nil => rfl
  | .l p, .node l _ _ => T.getP_delP_same p l
  | .r _, .nil => rfl
  | .r p, .node _ _ r => T.getP_delP_same p r
theorem T.getP_delP_ne {α : Type} : ∀ (p q : Path) (t : T α), q ≠ p → (T.delP p t).getP q = t.getP q
  | .e, q, .nil, _ => rfl
  | .e, q, .node _ _ _, h => by cases q <;> first | rfl | exact absurd rfl h
  | .l _, q, .nil, _ => rfl
  | .l p, q, .node l _ _, h => by cases q <;> first | rfl | exact T.getP_delP_ne p _ l (fun e => h (by rw [e]))
  | .r _, q, .nil, _ => rfl
  | .r p, q, .node _ _ r, h => by cases q <;> first | rfl | exact T.getP_delP_ne p _ r (fun e => h (by rw [e]))
def T.del {α : Type} (t : T α) (n : Nat) : T α := T.delP (pathOf n) t
theorem T.get_del {α : Type} (t : T α) (n m : Nat) : (t.del n).get m = if m = n then none else t.get m := by
  by_cases e : m = n
  · rw [if_pos e, e]; exact T.getP_delP_same _ _
  · rw [if_neg e]; exact T.getP_delP_ne _ _ _ (fun h => e (pathOf_inj h))

/-! ### The variables that a region lays -/
theorem findG_mem : ∀ {g : Als} {i : Nat} {y : Nat × AObj}, findG g i = some y → (i, y.1, y.2) ∈ g
  | [], _, _, h => by cases h
  | x :: l, i, y, h => by
    rw [findG] at h
    split at h
    · rename_i hb
      have := Nat.eq_of_beq_eq_true hb
      cases h
      rw [← this]
      exact List.mem_cons_self ..
    · exact List.mem_cons_of_mem _ (findG_mem h)
theorem layV_al {P : Program} {o : Oper} (h : isAl o.op = true) (ρ ρ' : Operand → Value) (b : Nat) : layV P o ρ b = layV P o ρ' b := by
  obtain ⟨dst, op, type, pos, after, guard⟩ := o
  cases op <;> first | rfl | cases h
theorem ghostsOf_spec {P : Program} {t0 : T AObj} : ∀ (l : List Oper) (i b : Nat) (acc g : Als) (n : Nat), ghostsOf P t0 l i b acc = some (g, n) → Acc t0 i b acc →
    AlsOk t0 g ∧ ∃ ext, g = acc ++ ext ∧ ∀ x ∈ ext, ∃ j o, x.1 = i + j ∧ l[j]? = some o ∧ isAl o.op = true ∧ tIn P o.op = true ∧ ∃ v, layV P o (fun _ => undef) x.2.1 = some (v, x.2.2)
  | [], i, b, acc, g, n, h, ha => by
    rw [ghostsOf] at h
    cases h
    exact ⟨ha.1, [], by simp, fun x hx => by simp at hx⟩
  | o :: l, i, b, acc, g, n, h, ha => by
    rw [ghostsOf] at h
    cases hal : isAl o.op with
    | false =>
      rw [hal] at h
      obtain ⟨g1, ext, g2, g3⟩ := ghostsOf_spec l (i + 1) b acc g n h ha.next
      refine ⟨g1, ext, g2, fun x hx => ?_⟩
      obtain ⟨j, o', k1, k2, k3⟩ := g3 x hx
      exact ⟨j + 1, o', by omega, by simpa using k2, k3⟩
    | true =>
      rw [hal] at h
      simp only at h
      split at h <;> first | (cases h; done) | skip
      rename_i v ob hv
      split at h <;> first | (cases h; done) | skip
      rename_i hc
      simp only [Bool.and_eq_true] at hc
      obtain ⟨g1, ext, g2, g3⟩ := ghostsOf_spec l (i + 1) (b + 1) _ g n h (ha.snoc (freeAt_none hc.1))
      refine ⟨g1, (i, b, ob) :: ext, by rw [g2]; simp, fun x hx => ?_⟩
      rcases List.mem_cons.1 hx with rfl | hx
      · exact ⟨0, o, rfl, rfl, hal, hc.2, v, hv⟩
      · obtain ⟨j, o', k1, k2, k3⟩ := g3 x hx
        exact ⟨j + 1, o', by omega, by simpa using k2, k3⟩

def anyG (g : Als) (S : Nat → Bool) (b : Nat) : Bool := g.any fun x => decide (x.2.1 = b) && !S x.1
theorem anyG_iff {g : Als} {S : Nat → Bool} {b : Nat} : anyG g S b = true ↔ ∃ x ∈ g, x.2.1 = b ∧ S x.1 = false := by
  unfold anyG
  rw [List.any_eq_true]
  constructor
  · rintro ⟨x, hx, h⟩
    simp only [Bool.and_eq_true, decide_eq_true_eq, Bool.not_eq_true'] at h
    exact ⟨x, hx, h⟩
  · rintro ⟨x, hx, h1, h2⟩
    exact ⟨x, hx, by simp [h1, h2]⟩
theorem HR.ghosts {w0 : World} {base : Nat} {φ : Phi} {h : AHeap} {w : World} (H : HR w0 base φ h w) {g : Als} (ok : AlsOk h.blocks g) (n : Nat) :
    HR w0 base ⟨φ.to, φ.size, fun b => φ.gh b || anyG g (fun _ => false) b⟩ ⟨hA g (fun _ => true) h.blocks, n⟩ w := by
  have real : ∀ b, (∀ x ∈ g, x.2.1 ≠ b) → (hA g (fun _ => true) h.blocks).get b = h.blocks.get b := fun b hb => hA_other g h.blocks fun y hy _ => hb y hy
  have known : ∀ b c, φ b = some c → ∀ x ∈ g, x.2.1 ≠ b := fun b c hb x hx e => by
    rw [← e, H.fresh _ (ok.2 x hx)] at hb; cases hb
  have more : ∀ b, (hA g (fun _ => true) h.blocks).get b = none → h.blocks.get b = none := fun b hb => by
    by_cases e : ∃ x ∈ g, x.2.1 = b
    · obtain ⟨x, hx, e⟩ := e
      rw [← e, hA_mem g h.blocks ok.1 x hx rfl] at hb; cases hb
    · rw [real b fun x hx he => e ⟨x, hx, he⟩] at hb; exact hb
  have kin : ∀ b b', (∀ x ∈ g, x.2.1 ≠ b) → (∀ x ∈ g, x.2.1 ≠ b') → KinR h b b' → KinR ⟨hA g (fun _ => true) h.blocks, n⟩ b b' := fun b b' h1 h2 hk => by
    obtain ⟨e1, n1, x1, r1, k1, t1, e2, n2, x2, k2, t2, m1, m2, m3⟩ := hk
    exact ⟨e1, n1, x1, r1, k1, t1, e2, n2, x2, k2, t2, (real b h1).trans m1, (real b' h2).trans m2, m3⟩
  refine ⟨fun b o hg hb => ?_, fun b hb => H.fresh b (more b hb), H.lo, fun b b' c o o' h1 h2 h3 h4 h5 h6 h7 => ?_, H.below, H.base_le, fun b hg => ?_⟩
  · have hg : (φ.gh b || anyG g (fun _ => false) b) = false := hg
    rw [Bool.or_eq_false_iff] at hg
    have hn : ∀ x ∈ g, x.2.1 ≠ b := fun x hx e => by
      have := (anyG_iff (S := fun _ => false)).2 ⟨x, hx, e, rfl⟩
      rw [hg.2] at this; cases this
    have hb : (hA g (fun _ => true) h.blocks).get b = some o := hb
    rw [real b hn] at hb
    exact (H.blocks b o hg.1 hb).keep ⟨fun _ _ h => h, fun _ _ _ => rfl⟩ fun _ _ => rfl
  · have e1 := known b c h1
    have e2 := known b' c h2
    exact (H.apart b b' c o o' h1 h2 ((real b e1).symm.trans h3) ((real b' e2).symm.trans h4) h5 h6 h7).imp (kin _ _ e1 e2) (kin _ _ e2 e1)
  · have hg : (φ.gh b || anyG g (fun _ => false) b) = true := hg
    rw [Bool.or_eq_true] at hg
    rcases hg with hg | hg
    · exact ⟨(H.ghost b hg).1, fun hb => (H.ghost b hg).2 (more b hb)⟩
    · obtain ⟨x, hx, e, _⟩ := anyG_iff.1 hg
      refine ⟨by rw [← e]; exact H.fresh _ (ok.2 x hx), fun hb => ?_⟩
      have hb : (hA g (fun _ => true) h.blocks).get b = none := hb
      rw [← e, hA_mem g h.blocks ok.1 x hx rfl] at hb; cases hb
/-- A variable that is about to be laid is taken out. -/
theorem HR.out {w0 : World} {base : Nat} {φ : Phi} {h : AHeap} {w : World} (H : HR w0 base φ h w) {b : Nat} (hg : φ.gh b = true) :
    HR w0 base ⟨φ.to, φ.size, fun x => φ.gh x && !decide (x = b)⟩ ⟨h.blocks.del b, b⟩ w := by
  have hb := (H.ghost b hg).1
  have real : ∀ x, x ≠ b → (h.blocks.del b).get x = h.blocks.get x := fun x hx => by rw [T.get_del, if_neg hx]
  have ne : ∀ x c, φ x = some c → x ≠ b := fun x c hx e => by rw [e, hb] at hx; cases hx
  have kin : ∀ x y, x ≠ b → y ≠ b → KinR h x y → KinR ⟨h.blocks.del b, b⟩ x y := fun x y h1 h2 hk => by
    obtain ⟨e1, n1, x1, r1, k1, t1, e2, n2, x2, k2, t2, m1, m2, m3⟩ := hk
    exact ⟨e1, n1, x1, r1, k1, t1, e2, n2, x2, k2, t2, (real x h1).trans m1, (real y h2).trans m2, m3⟩
  refine ⟨fun x o hgx hx => ?_, fun x hx => ?_, H.lo, fun x y c o o' h1 h2 h3 h4 h5 h6 h7 => ?_, H.below, H.base_le, fun x hgx => ?_⟩
  · have hx : (h.blocks.del b).get x = some o := hx
    rw [T.get_del] at hx
    by_cases e : x = b
    · rw [if_pos e] at hx; cases hx
    · rw [if_neg e] at hx
      have hgx : (φ.gh x && !decide (x = b)) = false := hgx
      have : φ.gh x = false := by
        cases hq : φ.gh x with
        | false => rfl
        | true => rw [hq] at hgx; simp [e] at hgx
      exact (H.blocks x o this hx).keep ⟨fun _ _ h => h, fun _ _ _ => rfl⟩ fun _ _ => rfl
  · have hx : (h.blocks.del b).get x = none := hx
    rw [T.get_del] at hx
    by_cases e : x = b
    · show φ x = none; rw [e]; exact hb
    · rw [if_neg e] at hx; exact H.fresh x hx
  · have e1 := ne x c h1
    have e2 := ne y c h2
    exact (H.apart x y c o o' h1 h2 ((real x e1).symm.trans h3) ((real y e2).symm.trans h4) h5 h6 h7).imp (kin _ _ e1 e2) (kin _ _ e2 e1)
  · have hgx : (φ.gh x && !decide (x = b)) = true := hgx
    simp only [Bool.and_eq_true, Bool.not_eq_true', decide_eq_false_iff_not] at hgx
    exact ⟨(H.ghost x hgx.1).1, by show (h.blocks.del b).get x ≠ none; rw [real x hgx.2]; exact (H.ghost x hgx.1).2⟩
end
end Go.Ab
