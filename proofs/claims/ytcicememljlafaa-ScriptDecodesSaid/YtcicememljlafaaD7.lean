/- Decode, by the program: its contract. -/
import Derived.Test.YtcicememljlafaaD6
namespace Go.Proofs.Ytcicememljlafaa
open Go.RowKit
open Runes (bs bt)

theorem dOp_kind {o : OpV} {l r : List Int} (hl : BL l) (h : dOp l = some (o, r)) : 0 ≤ o.kind := by
  unfold dOp at h
  simp only [Option.bind_eq_some_iff] at h
  obtain ⟨⟨k, l1⟩, h1, h2⟩ := h
  obtain ⟨e1, v0, v1, b1⟩ := dNum_some hl h1
  dsimp only at h2
  split at h2
  · rename_i hk
    obtain ⟨e2, b2, _, t2, q2⟩ := dFs_some (fieldsOf k) (fun f hf => by have := (fieldsOf_bd k).2 f hf; unfold in5; omega) (fields_nodup k) b1 h2
    have q : o.kind = k := q2
    rw [q]; omega
  · cases h2
theorem dOps_kind (n : Nat) : ∀ {p : List OpV} {l r : List Int}, BL l → dOps n l = some (p, r) → ∀ o ∈ p, 0 ≤ o.kind := by
  induction n with
  | zero =>
    intro p l r hl h
    simp only [dOps, Option.some.injEq, Prod.mk.injEq] at h
    obtain ⟨rfl, rfl⟩ := h
    exact fun o ho => by cases ho
  | succ n ih =>
    intro p l r hl h
    simp only [dOps, Option.bind_eq_some_iff, Option.map_eq_some_iff] at h
    obtain ⟨⟨p1, l1⟩, h1, ⟨o, l2⟩, h2, h3⟩ := h
    simp only [Prod.mk.injEq] at h3
    obtain ⟨rfl, rfl⟩ := h3
    obtain ⟨e1, b1, n1, t1⟩ := dOps_some n hl h1
    intro q hq
    rcases List.mem_append.1 hq with hq | hq
    · exact ih hl h1 q hq
    · simp at hq; subst hq; exact dOp_kind b1 h2
theorem dProgs_kind (n : Nat) : ∀ {p : List (List OpV)} {l r : List Int}, BL l → dProgs n l = some (p, r) → ∀ q ∈ p, ∀ o ∈ q, 0 ≤ o.kind := by
  induction n with
  | zero =>
    intro p l r hl h
    simp only [dProgs, Option.some.injEq, Prod.mk.injEq] at h
    obtain ⟨rfl, rfl⟩ := h
    exact fun o ho => by cases ho
  | succ n ih =>
    intro p l r hl h
    simp only [dProgs, Option.bind_eq_some_iff, Option.map_eq_some_iff] at h
    obtain ⟨⟨p1, l1⟩, h1, ⟨v, l2⟩, h2, ⟨u, l3⟩, h3, h4⟩ := h
    simp only [Prod.mk.injEq] at h4
    obtain ⟨rfl, rfl⟩ := h4
    obtain ⟨e1, b1, n1, t1⟩ := dProgs_some n hl h1
    obtain ⟨e2, v0, v1, b2⟩ := dNum_some b1 h2
    intro q hq
    rcases List.mem_append.1 hq with hq | hq
    · exact ih hl h1 q hq
    · simp at hq; subst hq; exact dOps_kind _ b2 h3
theorem encOps_ge (p : List OpV) : p.length ≤ (encOps p).length := by
  induction p with
  | nil => simp
  | cons o p ih => simp only [encOps, List.flatMap_cons, List.length_append, encOp, num_len, List.length_cons] at *; omega
theorem encProgs_ge (ps : List (List OpV)) : ps.length ≤ (encProgs ps).length ∧ ∀ p ∈ ps, p.length ≤ (encProgs ps).length := by
  induction ps with
  | nil => exact ⟨by simp, fun p hp => by cases hp⟩
  | cons q ps ih =>
    have hq := encOps_ge q
    have e : (encProgs (q :: ps)).length = 2 + (encOps q).length + (encProgs ps).length := by simp [encProgs, encProg, num_len]; omega
    refine ⟨by rw [e]; simp only [List.length_cons]; omega, fun p hp => ?_⟩
    rw [e]
    rcases List.mem_cons.1 hp with rfl | hp
    · omega
    · have := ih.2 p hp; omega
theorem dScr_sz {s : ScrV} {l r : List Int} (hl : BL l) (hm : l.length ≤ 65536) (h : dScr l = some (s, r)) : ScrSz s := by
  obtain ⟨e, _, _, _⟩ := dScr_some hl h
  have hlen : (encScr s).length ≤ 65536 := by
    have : ((encScr s) ++ r).length = l.length := by rw [e]
    rw [List.length_append] at this; omega
  rw [encScr_len] at hlen
  obtain ⟨g1, g2⟩ := encProgs_ge s.progs
  refine ⟨by omega, by omega, fun p hp => by have := g2 p hp; omega, by omega, ?_⟩
  unfold dScr at h
  simp only [Option.bind_eq_some_iff, Option.map_eq_some_iff] at h
  obtain ⟨⟨c, l1⟩, h1, ⟨ps, l2⟩, h2, ⟨ks, l3⟩, h3, h4⟩ := h
  simp only [Prod.mk.injEq] at h4
  obtain ⟨rfl, rfl⟩ := h4
  exact dProgs_kind _ (dCfg_some hl h1).2.1 h2
/-- DECODE: the valid script with that encoding, or none. -/
theorem scriptDecode (l : List Int) (w : World) (hl : BL l) (hs : l.length ≤ 9223372036854775807) : Calls Try.prog 18 #[.string (bs l)] w (DecodeRes l w) := by
  by_cases hm : l.length ≤ 65536
  · cases hd : dScr l with
    | none => exact dec_form l w hm hl hd
    | some sr => obtain ⟨s, r⟩ := sr; exact dec_yes l r s w (dScr_sz hl hm hd) hm hl hd
  · exact dec_long l w hm hs
end Go.Proofs.Ytcicememljlafaa
