/- Walks: Decode, by the program: the deferred closure. -/
import Derived.Test.YtcicememljlafaaD4
import Derived.Recover
import Derived.Defers
namespace Go.Proofs.Ytcicememljlafaa
open Go.RowKit
open Runes (bs bt)

theorem set_same {w : World} {b i : Nat} {cs : Array Value} {t : TypeId} {fr : Nat × Nat} {v : Value} (hb : w.heap[b]? = some (.cells cs t fr)) (hi : cs[i]? = some v) : w.setCell ⟨b, i, none⟩ v = w := by
  have hh : (w.setCell ⟨b, i, none⟩ v).heap = w.heap := by
    apply Array.ext_getElem?
    intro k
    by_cases hk : k = b
    · subst hk
      have e : (w.setCell ⟨k, i, none⟩ v).heap[k]? = some (.cells (cs.setIfInBounds i v) t fr) := by simp [World.setCell, Array.getElem?_modify, hb]
      rw [e, hb]
      congr 2
      apply Array.ext_getElem?
      intro j
      rw [Array.getElem?_setIfInBounds]
      split
      · rename_i e; subst e
        split
        · exact hi.symm
        · rename_i h; rw [Array.getElem?_eq_none (by omega)]
      · rfl
    · rw [heap_setCell_other _ _ _ _ hk]
  unfold World.setCell at hh ⊢
  cases w
  simp_all
theorem frame18 (p q : Addr) (v : Value) : (#[Value.pointer (some p), Value.pointer (some q)] ++ ((Array.replicate 16 undef).setIfInBounds 3 v).setIfInBounds 0 v : Array Value) = #[.pointer (some p), .pointer (some q), v, undef, undef, v, undef, undef, undef, undef, undef, undef, undef, undef, undef, undef, undef, undef] := by
  rfl
set_option maxHeartbeats 1000000 in
theorem catch_idle (p q : Addr) (w : World) :
    CallsD Try.prog 44 #[.pointer (some p), .pointer (some q)] .returning w fun e u' w' => e = .returned (.tuple #[]) ∧ u' = .returning ∧ w' = w := by
  refine callsD_of_wpS Try.func44 rfl fun c₀ cs hu => ?_
  refine wpS_seq ?_
  generalize hQ : Exit.thenS (Code.wpS Try.prog _ _) _ = QQ
  apply wpS_region
  simp [wpOpsS, go_sem, recoverD, hu, Try.ntmps44]
  rw [frame18, ← hQ]
  simp only [Exit.thenS]
  clear hQ
  refine wpS_of_wp ?_
  go_wp2
  cases c₀
  simp_all [bodyPostS, results, Try.results44]
@[go_sem] theorem ta33 (w : World) (v : Value) : (Instr.typeAssert (.iface 33 v) 20 33 true).run Try.prog w = .ok (.tuple #[v, .bool true]) w := by kernel_rfl
set_option maxHeartbeats 1000000 in
set_option maxRecDepth 100000 in
theorem catch_form (b q : Nat) (older : List PanicEntry) (w : World) (hb : w.heap[b]? = some zeroScr) (hc : w.cell? ⟨q, 0, none⟩ = some (.int .i64 0)) (hz : w.frozen? ⟨q, 0, none⟩ = false) (hne : b ≠ q) :
    CallsD Try.prog 44 #[.pointer (some ⟨b, 0, none⟩), .pointer (some ⟨q, 0, none⟩)] (.panicking ({ v := .iface 33 (.int .i64 4), recovered := false } :: older)) w fun e u' w' =>
      e = .returned (.tuple #[]) ∧ u' = .panicking ({ v := .iface 33 (.int .i64 4), recovered := true } :: older) ∧ w' = w.setCell ⟨q, 0, none⟩ (.int .i64 4) := by
  refine callsD_of_wpS Try.func44 rfl fun c₀ cs hu => ?_
  refine wpS_seq ?_
  generalize hQ : Exit.thenS (Code.wpS Try.prog _ _) _ = QQ
  apply wpS_region
  simp [wpOpsS, go_sem, recoverD, hu, Try.ntmps44]
  rw [frame18, ← hQ]
  simp only [Exit.thenS]
  clear hQ
  have qz0 : w.cell? ⟨b, 0, none⟩ = some (.int .i64 0) := by rw [cell_of_row _ _ 0 _ _ _ hb]; rfl
  have z0 : w.frozen? ⟨b, 0, none⟩ = false := (show ElemT w b 28 from ⟨_, hb⟩).frozen 0
  have qz1 : w.cell? ⟨b, 1, none⟩ = some (.int .u64 0) := by rw [cell_of_row _ _ 1 _ _ _ hb]; rfl
  have z1 : w.frozen? ⟨b, 1, none⟩ = false := (show ElemT w b 28 from ⟨_, hb⟩).frozen 1
  have qz2 : w.cell? ⟨b, 2, none⟩ = some (.int .i64 0) := by rw [cell_of_row _ _ 2 _ _ _ hb]; rfl
  have z2 : w.frozen? ⟨b, 2, none⟩ = false := (show ElemT w b 28 from ⟨_, hb⟩).frozen 2
  have qz3 : w.cell? ⟨b, 3, none⟩ = some (.int .i64 0) := by rw [cell_of_row _ _ 3 _ _ _ hb]; rfl
  have z3 : w.frozen? ⟨b, 3, none⟩ = false := (show ElemT w b 28 from ⟨_, hb⟩).frozen 3
  have qz4 : w.cell? ⟨b, 4, none⟩ = some (.int .i64 0) := by rw [cell_of_row _ _ 4 _ _ _ hb]; rfl
  have z4 : w.frozen? ⟨b, 4, none⟩ = false := (show ElemT w b 28 from ⟨_, hb⟩).frozen 4
  have qz5 : w.cell? ⟨b, 5, none⟩ = some (.int .i64 0) := by rw [cell_of_row _ _ 5 _ _ _ hb]; rfl
  have z5 : w.frozen? ⟨b, 5, none⟩ = false := (show ElemT w b 28 from ⟨_, hb⟩).frozen 5
  have qz6 : w.cell? ⟨b, 6, none⟩ = some (.int .i64 0) := by rw [cell_of_row _ _ 6 _ _ _ hb]; rfl
  have z6 : w.frozen? ⟨b, 6, none⟩ = false := (show ElemT w b 28 from ⟨_, hb⟩).frozen 6
  have qz7 : w.cell? ⟨b, 7, none⟩ = some (.string ⟨#[]⟩) := by rw [cell_of_row _ _ 7 _ _ _ hb]; rfl
  have z7 : w.frozen? ⟨b, 7, none⟩ = false := (show ElemT w b 28 from ⟨_, hb⟩).frozen 7
  have qz8 : w.cell? ⟨b, 8, none⟩ = some (.slice none 0 0) := by rw [cell_of_row _ _ 8 _ _ _ hb]; rfl
  have z8 : w.frozen? ⟨b, 8, none⟩ = false := (show ElemT w b 28 from ⟨_, hb⟩).frozen 8
  have qz9 : w.cell? ⟨b, 9, none⟩ = some (.slice none 0 0) := by rw [cell_of_row _ _ 9 _ _ _ hb]; rfl
  have z9 : w.frozen? ⟨b, 9, none⟩ = false := (show ElemT w b 28 from ⟨_, hb⟩).frozen 9
  have HB := Lib.hid hb
  clear hb
  refine wpS_of_wp ?_
  go_wp2
  have hb := HB.out
  clear qz0 qz1 qz2 qz3 qz4 qz5 qz6 qz7 qz8 qz9 z0 z1 z2 z3 z4 z5 z6 z7 z8 z9
  unfold zeroScr at hb
  rw [set_same hb (i := 0) (v := (.int .i64 0)) rfl, set_same hb (i := 1) (v := (.int .u64 0)) rfl, set_same hb (i := 2) (v := (.int .i64 0)) rfl, set_same hb (i := 3) (v := (.int .i64 0)) rfl, set_same hb (i := 4) (v := (.int .i64 0)) rfl, set_same hb (i := 5) (v := (.int .i64 0)) rfl, set_same hb (i := 6) (v := (.int .i64 0)) rfl, set_same hb (i := 7) (v := (.string ⟨#[]⟩)) rfl, set_same hb (i := 8) (v := (.slice none 0 0)) rfl, set_same hb (i := 9) (v := (.slice none 0 0)) rfl]
  clear HB hb hc hz
  generalize w.setCell ⟨q, 0, none⟩ (.int .i64 4) = w2
  cases c₀
  simp_all [bodyPostS, results, Try.results44]
end Go.Proofs.Ytcicememljlafaa
