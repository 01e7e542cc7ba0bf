/- text.Op's drawn region, whatever its order. -/
import Derived.Test.YtcbhfhmpajamoaaDoorO3
namespace Go.Proofs.YtcbhfhmpajamoaaDoor
open Go.RowKit

noncomputable def dep (i j : Nat) : Bool := match ops8[i]? with
  | some o => o.after.toList.any fun e => e.on == j && Region.binds .any e
  | none => false
theorem dep_of {i j : Nat} {o : Oper} (h : dep i j = true) (ho : ops8[i]? = some o) : ∃ e ∈ o.after, Region.binds .any e = true ∧ e.on = j := by
  unfold dep at h
  rw [ho] at h
  obtain ⟨e, he, h2⟩ := List.any_eq_true.1 h
  rw [Bool.and_eq_true] at h2
  exact ⟨e, by simpa using he, h2.2, by simpa using h2.1⟩
theorem closed_dep {l : Array Bool} (hc : ClosedL .any ops8 l) {i j : Nat} (hi : i < 34) (hd : dep i j = true) (h : l.getD i false = true) : l.getD j false = true := by
  have hs : ops8.size = 34 := by kernel_rfl
  obtain ⟨e, he, hb, rfl⟩ := dep_of hd (Array.getElem?_eq_getElem (by omega))
  exact hc i _ (Array.getElem?_eq_getElem (by omega)) h e he hb
theorem open_dep {l : Array Bool} (hc : ClosedL .any ops8 l) {i j : Nat} (hi : i < 34) (hd : dep i j = true) (h : l.getD j false = false) : l.getD i false = false := by
  cases hl : l.getD i false
  · rfl
  · rw [closed_dep hc hi hd hl] at h; cases h
theorem dep28 : (List.range 28).all (fun j => j == 0 || dep 28 j) = true := by kernel_rfl
theorem dep_tail : dep 30 28 = true ∧ dep 30 29 = true ∧ dep 31 30 = true ∧ dep 32 31 = true ∧ dep 32 0 = true ∧ dep 33 32 = true := by
  refine ⟨?_, ?_, ?_, ?_, ?_, ?_⟩ <;> kernel_rfl
theorem no28 {l : Array Bool} (hc : ClosedL .any ops8 l) {k : Nat} (h0 : k ≠ 0) (hk : k < 28) (h : l.getD k false = false) : l.getD 28 false = false := by
  have := (List.all_eq_true.1 dep28) k (List.mem_range.2 hk)
  simp only [beq_iff_eq, h0, Bool.or_eq_true, false_or] at this
  exact open_dep hc (by omega) this h
theorem no_of28 {l : Array Bool} (hc : ClosedL .any ops8 l) (h : l.getD 28 false = false) : l.getD 30 false = false ∧ l.getD 31 false = false ∧ l.getD 32 false = false ∧ l.getD 33 false = false := by
  obtain ⟨d1, _, d3, d4, _, d6⟩ := dep_tail
  have h30 := open_dep hc (by omega) d1 h
  have h31 := open_dep hc (by omega) d3 h30
  have h32 := open_dep hc (by omega) d4 h31
  exact ⟨h30, h31, h32, open_dep hc (by omega) d6 h32⟩
theorem no32 {l : Array Bool} (hc : ClosedL .any ops8 l) {k : Nat} (hk : k < 32) (hl : l.getD k true = false) : l.getD 32 false = false := by
  have h : l.getD k false = false := by rw [← getD_ft (getD_size hl)]; exact hl
  obtain ⟨d1, d2, d3, d4, d5, d6⟩ := dep_tail
  by_cases h0 : k = 0
  · subst h0; exact open_dep hc (by omega) d5 h
  by_cases h28 : k < 28
  · exact (no_of28 hc (no28 hc h0 h28 h)).2.2.1
  · have : k = 28 ∨ k = 29 ∨ k = 30 ∨ k = 31 := by omega
    rcases this with rfl | rfl | rfl | rfl
    · exact (no_of28 hc h).2.2.1
    · exact open_dep hc (by omega) d4 (open_dep hc (by omega) d3 (open_dep hc (by omega) d2 h))
    · exact open_dep hc (by omega) d4 (open_dep hc (by omega) d3 h)
    · exact open_dep hc (by omega) d4 h
theorem deps_lt : (List.range 34).all (fun i => match ops8[i]? with | some o => o.after.all (fun e => decide (e.on < i)) | none => false) = true := by kernel_rfl
theorem wp_of_run {P : Program} {o : Oper} {a : Act} {w w' : World} {v : Value} {K : Act → World → Prop} {Q : Exit → Act → World → Prop} {d : Tmp} (hr : (execOp a.eval o).run P w = .ok (.value v) w') (hd : o.dst = some d) (hK : K (a.put (some d) v) w') : o.wp P a w K Q := by
  unfold Oper.wp; rw [hr]; show K (a.put o.dst v) w'; rw [hd]; exact hK
theorem wrap_u32 {x : Int} (h1 : 0 ≤ x) (h2 : x ≤ 4294967295) : IntKind.i64.wrap x = x := by
  have e : x % (2 ^ IntKind.i64.bits : Int) = x := Int.emod_eq_of_lt h1 (by show x < (2 : Int) ^ 64; omega)
  unfold IntKind.wrap
  simp only [e]
  refine if_neg ?_
  have h3 : ¬ x ≥ (2 : Int) ^ (IntKind.i64.bits - 1) := by show ¬ x ≥ (2 : Int) ^ 63; omega
  simp [h3]

theorem op8_0 : ∃ o, ops8[0]? = some o ∧ o.dst = some 28 ∧ o.guard = none ∧ o.op = .move (.tmp 7) := ⟨_, rfl, rfl, rfl, rfl⟩
theorem op8_1 : ∃ o, ops8[1]? = some o ∧ o.dst = some 29 ∧ o.guard = none ∧ o.op = .makeMap 54 none := ⟨_, rfl, rfl, rfl, rfl⟩
theorem op8_2 : ∃ o, ops8[2]? = some o ∧ o.dst = some 30 ∧ o.guard = none ∧ o.op = .fieldAddr 24 (.tmp 1) 1 := ⟨_, rfl, rfl, rfl, rfl⟩
theorem op8_3 : ∃ o, ops8[3]? = some o ∧ o.dst = some 31 ∧ o.guard = none ∧ o.op = .load 3 (.tmp 30) := ⟨_, rfl, rfl, rfl, rfl⟩
theorem op8_4 : ∃ o, ops8[4]? = some o ∧ o.dst = some 32 ∧ o.guard = none ∧ o.op = .call { callee := .value (.func 15), args := #[.tmp 31], argTypes := #[3] } := ⟨_, rfl, rfl, rfl, rfl⟩
theorem op8_5 : ∃ o, ops8[5]? = some o ∧ o.dst = none ∧ o.guard = none ∧ o.op = .insert 54 (.tmp 29) (.const (.int .i32 115)) (.tmp 32) := ⟨_, rfl, rfl, rfl, rfl⟩
theorem op8_6 : ∃ o, ops8[6]? = some o ∧ o.dst = some 33 ∧ o.guard = none ∧ o.op = .fieldAddr 24 (.tmp 1) 2 := ⟨_, rfl, rfl, rfl, rfl⟩
theorem op8_7 : ∃ o, ops8[7]? = some o ∧ o.dst = some 34 ∧ o.guard = none ∧ o.op = .load 3 (.tmp 33) := ⟨_, rfl, rfl, rfl, rfl⟩
theorem op8_8 : ∃ o, ops8[8]? = some o ∧ o.dst = some 35 ∧ o.guard = none ∧ o.op = .call { callee := .value (.func 15), args := #[.tmp 34], argTypes := #[3] } := ⟨_, rfl, rfl, rfl, rfl⟩
theorem op8_9 : ∃ o, ops8[9]? = some o ∧ o.dst = none ∧ o.guard = none ∧ o.op = .insert 54 (.tmp 29) (.const (.int .i32 97)) (.tmp 35) := ⟨_, rfl, rfl, rfl, rfl⟩
theorem op8_10 : ∃ o, ops8[10]? = some o ∧ o.dst = some 36 ∧ o.guard = none ∧ o.op = .fieldAddr 24 (.tmp 1) 3 := ⟨_, rfl, rfl, rfl, rfl⟩
theorem op8_11 : ∃ o, ops8[11]? = some o ∧ o.dst = some 37 ∧ o.guard = none ∧ o.op = .load 3 (.tmp 36) := ⟨_, rfl, rfl, rfl, rfl⟩
theorem op8_12 : ∃ o, ops8[12]? = some o ∧ o.dst = some 38 ∧ o.guard = none ∧ o.op = .call { callee := .value (.func 15), args := #[.tmp 37], argTypes := #[3] } := ⟨_, rfl, rfl, rfl, rfl⟩
theorem op8_13 : ∃ o, ops8[13]? = some o ∧ o.dst = none ∧ o.guard = none ∧ o.op = .insert 54 (.tmp 29) (.const (.int .i32 110)) (.tmp 38) := ⟨_, rfl, rfl, rfl, rfl⟩
theorem op8_14 : ∃ o, ops8[14]? = some o ∧ o.dst = some 39 ∧ o.guard = none ∧ o.op = .fieldAddr 24 (.tmp 1) 4 := ⟨_, rfl, rfl, rfl, rfl⟩
theorem op8_15 : ∃ o, ops8[15]? = some o ∧ o.dst = some 40 ∧ o.guard = none ∧ o.op = .load 22 (.tmp 39) := ⟨_, rfl, rfl, rfl, rfl⟩
theorem op8_16 : ∃ o, ops8[16]? = some o ∧ o.dst = some 41 ∧ o.guard = none ∧ o.op = .convert 22 3 (.tmp 40) := ⟨_, rfl, rfl, rfl, rfl⟩
theorem op8_17 : ∃ o, ops8[17]? = some o ∧ o.dst = some 42 ∧ o.guard = none ∧ o.op = .call { callee := .value (.func 15), args := #[.tmp 41], argTypes := #[3] } := ⟨_, rfl, rfl, rfl, rfl⟩
theorem op8_18 : ∃ o, ops8[18]? = some o ∧ o.dst = none ∧ o.guard = none ∧ o.op = .insert 54 (.tmp 29) (.const (.int .i32 105)) (.tmp 42) := ⟨_, rfl, rfl, rfl, rfl⟩
theorem op8_19 : ∃ o, ops8[19]? = some o ∧ o.dst = some 43 ∧ o.guard = none ∧ o.op = .fieldAddr 24 (.tmp 1) 5 := ⟨_, rfl, rfl, rfl, rfl⟩
theorem op8_20 : ∃ o, ops8[20]? = some o ∧ o.dst = some 44 ∧ o.guard = none ∧ o.op = .load 5 (.tmp 43) := ⟨_, rfl, rfl, rfl, rfl⟩
theorem op8_21 : ∃ o, ops8[21]? = some o ∧ o.dst = some 45 ∧ o.guard = none ∧ o.op = .convert 5 3 (.tmp 44) := ⟨_, rfl, rfl, rfl, rfl⟩
theorem op8_22 : ∃ o, ops8[22]? = some o ∧ o.dst = some 46 ∧ o.guard = none ∧ o.op = .call { callee := .value (.func 15), args := #[.tmp 45], argTypes := #[3] } := ⟨_, rfl, rfl, rfl, rfl⟩
theorem op8_23 : ∃ o, ops8[23]? = some o ∧ o.dst = none ∧ o.guard = none ∧ o.op = .insert 54 (.tmp 29) (.const (.int .i32 103)) (.tmp 46) := ⟨_, rfl, rfl, rfl, rfl⟩
theorem op8_24 : ∃ o, ops8[24]? = some o ∧ o.dst = some 47 ∧ o.guard = none ∧ o.op = .fieldAddr 24 (.tmp 1) 6 := ⟨_, rfl, rfl, rfl, rfl⟩
theorem op8_25 : ∃ o, ops8[25]? = some o ∧ o.dst = some 48 ∧ o.guard = none ∧ o.op = .load 9 (.tmp 47) := ⟨_, rfl, rfl, rfl, rfl⟩
theorem op8_26 : ∃ o, ops8[26]? = some o ∧ o.dst = some 49 ∧ o.guard = none ∧ o.op = .call { callee := .value (.func 16), args := #[.tmp 48], argTypes := #[9] } := ⟨_, rfl, rfl, rfl, rfl⟩
theorem op8_27 : ∃ o, ops8[27]? = some o ∧ o.dst = none ∧ o.guard = none ∧ o.op = .insert 54 (.tmp 29) (.const (.int .i32 116)) (.tmp 49) := ⟨_, rfl, rfl, rfl, rfl⟩
theorem op8_28 : ∃ o, ops8[28]? = some o ∧ o.dst = some 50 ∧ o.guard = none ∧ o.op = .move (.tmp 29) := ⟨_, rfl, rfl, rfl, rfl⟩
theorem op8_29 : ∃ o, ops8[29]? = some o ∧ o.dst = some 51 ∧ o.guard = none ∧ o.op = .move (.tmp 9) := ⟨_, rfl, rfl, rfl, rfl⟩
theorem op8_30 : ∃ o, ops8[30]? = some o ∧ o.dst = some 52 ∧ o.guard = none ∧ o.op = .lookup 54 (.tmp 50) (.tmp 51) false := ⟨_, rfl, rfl, rfl, rfl⟩
theorem op8_31 : ∃ o, ops8[31]? = some o ∧ o.dst = some 53 ∧ o.guard = none ∧ o.op = .buildSlice 51 1 #[(0, .tmp 52)] := ⟨_, rfl, rfl, rfl, rfl⟩
theorem op8_32 : ∃ o, ops8[32]? = some o ∧ o.dst = some 54 ∧ o.guard = none ∧ o.op = .call { callee := .builtin .append, args := #[.tmp 28, .tmp 53], argTypes := #[51, 51] } := ⟨_, rfl, rfl, rfl, rfl⟩
theorem op8_33 : ∃ o, ops8[33]? = some o ∧ o.dst = some 7 ∧ o.guard = none ∧ o.op = .assign (.tmp 54) := ⟨_, rfl, rfl, rfl, rfl⟩
theorem step8_0 {g : G8} (G : g.Ok) {Q : Exit → Act → World → Prop} {l : Array Bool} {a : Act} {w : World} (hc : ClosedL .any ops8 l) (hs : l.size = 34) (h : In8 g l a w) (hl : l.getD 0 true = false)
    (hd : ∀ j, dep 0 j = true → l.getD j false = true) {K : Act → World → Prop} (hK : ∀ a' w', In8 g (l.setIfInBounds 0 true) a' w' → K a' w') : wpOp Tryd.prog ops8 Q 0 K a w := by
  obtain ⟨o, ho, h1, h2, h3⟩ := op8_0
  refine wpOp_run ho h2 ?_

  have h32 := no32 hc (k := 0) (by omega) hl
  have e : a.tmps.getD 7 undef = g.v7 := h.s7 (open_dep hc (by omega) dep_tail.2.2.2.2.2 h32)
  have hr : (execOp a.eval o).run Tryd.prog w = .ok (.value g.v7) w := by
    simp only [execOp, h3, Act.eval, e]
    rfl
  exact wp_of_run hr h1 (hK _ _ (h.put (k := 0) rfl hs hl (by decide) (by decide) h32 (Below.refl _ _)))
theorem step8_1 {g : G8} (G : g.Ok) {Q : Exit → Act → World → Prop} {l : Array Bool} {a : Act} {w : World} (hc : ClosedL .any ops8 l) (hs : l.size = 34) (h : In8 g l a w) (hl : l.getD 1 true = false)
    (hd : ∀ j, dep 1 j = true → l.getD j false = true) {K : Act → World → Prop} (hK : ∀ a' w', In8 g (l.setIfInBounds 1 true) a' w' → K a' w') : wpOp Tryd.prog ops8 Q 1 K a w := by
  obtain ⟨o, ho, h1, h2, h3⟩ := op8_1
  refine wpOp_run ho h2 ?_

  have hr : (execOp a.eval o).run Tryd.prog w = .ok (.value (.map (some w.heap.size))) (w.alloc (.map #[] 0)) := by
    simp only [execOp, h3]
    rfl
  refine wp_of_run hr h1 (hK _ _ (h.made hl fun k hk => ?_))
  have hl' : l.getD 1 false = false := by rw [← getD_ft (getD_size hl)]; exact hl
  have h28 := no28 hc (k := 1) (by omega) (by omega) hl'
  rcases hk with rfl | rfl | rfl | rfl | rfl | rfl | rfl | rfl
  · exact open_dep hc (by omega) (by kernel_rfl : dep 5 1 = true) hl'
  · exact open_dep hc (by omega) (by kernel_rfl : dep 9 1 = true) hl'
  · exact open_dep hc (by omega) (by kernel_rfl : dep 13 1 = true) hl'
  · exact open_dep hc (by omega) (by kernel_rfl : dep 18 1 = true) hl'
  · exact open_dep hc (by omega) (by kernel_rfl : dep 23 1 = true) hl'
  · exact open_dep hc (by omega) (by kernel_rfl : dep 27 1 = true) hl'
  · exact h28
  · exact (no_of28 hc h28).2.2.1
theorem step8_2 {g : G8} (G : g.Ok) {Q : Exit → Act → World → Prop} {l : Array Bool} {a : Act} {w : World} (hc : ClosedL .any ops8 l) (hs : l.size = 34) (h : In8 g l a w) (hl : l.getD 2 true = false)
    (hd : ∀ j, dep 2 j = true → l.getD j false = true) {K : Act → World → Prop} (hK : ∀ a' w', In8 g (l.setIfInBounds 2 true) a' w' → K a' w') : wpOp Tryd.prog ops8 Q 2 K a w := by
  obtain ⟨o, ho, h1, h2, h3⟩ := op8_2
  refine wpOp_run ho h2 ?_

  have h32 := no32 hc (k := 2) (by omega) hl
  have e : a.tmps.getD 1 undef = .pointer (some ⟨g.q0, 0, none⟩) := (h.old 1 (by omega) (by omega)).trans G.t1
  have e2 : a.eval (.tmp 1) = .pointer (some ⟨g.q0, 0, none⟩) := e
  have hr : (execOp a.eval o).run Tryd.prog w = .ok (.value (.pointer (some ⟨g.q0, 1, none⟩))) w := by
    simp only [execOp, h3, e2]
    go_simp
  exact wp_of_run hr h1 (hK _ _ (h.put (k := 2) rfl hs hl (by decide) (by decide) h32 (Below.refl _ _)))
theorem step8_3 {g : G8} (G : g.Ok) {Q : Exit → Act → World → Prop} {l : Array Bool} {a : Act} {w : World} (hc : ClosedL .any ops8 l) (hs : l.size = 34) (h : In8 g l a w) (hl : l.getD 3 true = false)
    (hd : ∀ j, dep 3 j = true → l.getD j false = true) {K : Act → World → Prop} (hK : ∀ a' w', In8 g (l.setIfInBounds 3 true) a' w' → K a' w') : wpOp Tryd.prog ops8 Q 3 K a w := by
  obtain ⟨o, ho, h1, h2, h3⟩ := op8_3
  refine wpOp_run ho h2 ?_

  have h32 := no32 hc (k := 3) (by omega) hl
  have e : a.tmps.getD 30 undef = _ := h.val 2 _ rfl (hd 2 (by kernel_rfl))
  have e2 : a.eval (.tmp 30) = .pointer (some ⟨g.q0, 1, none⟩) := e
  have hop := G.op.keep ((h.pre h32).block g.q0 (World.block_lt_of_cell? _ _ G.op.c0))
  have hcl : w.cell? ⟨g.q0, 1, none⟩ = some (.int .i64 g.o.slot) := by have := hop.c1; rw [Nat.zero_add] at this; exact this
  have hr : (execOp a.eval o).run Tryd.prog w = .ok (.value (.int .i64 g.o.slot)) w := by
    simp only [execOp, h3, e2]
    go_simp
  exact wp_of_run hr h1 (hK _ _ (h.put (k := 3) rfl hs hl (by decide) (by decide) h32 (Below.refl _ _)))
theorem step8_4 {g : G8} (G : g.Ok) {Q : Exit → Act → World → Prop} {l : Array Bool} {a : Act} {w : World} (hc : ClosedL .any ops8 l) (hs : l.size = 34) (h : In8 g l a w) (hl : l.getD 4 true = false)
    (hd : ∀ j, dep 4 j = true → l.getD j false = true) {K : Act → World → Prop} (hK : ∀ a' w', In8 g (l.setIfInBounds 4 true) a' w' → K a' w') : wpOp Tryd.prog ops8 Q 4 K a w := by
  obtain ⟨o, ho, h1, h2, h3⟩ := op8_4
  refine wpOp_run ho h2 ?_

  have h32 := no32 hc (k := 4) (by omega) hl
  have e : a.tmps.getD 31 undef = _ := h.val 3 _ rfl (hd 3 (by kernel_rfl))
  have e2 : a.tmps[31]?.getD undef = .int .i64 g.o.slot := by simpa only [Array.getD_eq_getD_getElem?] using e
  have hr : (execOp a.eval o).run Tryd.prog w = .ok (.enter 15 #[.int .i64 g.o.slot]) w := by
    simp only [execOp, h3]
    go_simp
  have hb : 0 ≤ g.o.slot ∧ g.o.slot ≤ 4294967295 := ⟨G.plain.slot.1, by have := G.plain.slot.2; omega⟩
  have hI := itoaFn g.o.slot.toNat (by omega) w (G.tab.below (h.pre h32))
  rw [Int.toNat_of_nonneg hb.1] at hI
  unfold Oper.wp
  rw [hr]
  refine hI.mono ?_
  rintro e w' ⟨rfl, hbw⟩
  show K (a.put o.dst _) w'
  rw [h1, ← G.v115]
  exact hK _ _ (h.put (k := 4) rfl hs hl (by decide) (by decide) h32 hbw)
theorem step8_5 {g : G8} (G : g.Ok) {Q : Exit → Act → World → Prop} {l : Array Bool} {a : Act} {w : World} (hc : ClosedL .any ops8 l) (hs : l.size = 34) (h : In8 g l a w) (hl : l.getD 5 true = false)
    (hd : ∀ j, dep 5 j = true → l.getD j false = true) {K : Act → World → Prop} (hK : ∀ a' w', In8 g (l.setIfInBounds 5 true) a' w' → K a' w') : wpOp Tryd.prog ops8 Q 5 K a w := by
  obtain ⟨o, ho, h1, h2, h3⟩ := op8_5
  refine wpOp_run ho h2 ?_

  have hl' : l.getD 5 false = false := by rw [← getD_ft (getD_size hl)]; exact hl
  have h28 := no28 hc (k := 5) (by omega) (by omega) hl'
  obtain ⟨_, h31, h32, h33⟩ := no_of28 hc h28
  obtain ⟨b, b1, b2, b3, _⟩ := h.mp (hd 1 (by kernel_rfl))
  have e2 : a.eval (.tmp 29) = .map (some b) := b1
  have e3 : a.eval (.tmp 32) = .string (g.V 115) := h.val 4 _ rfl (hd 4 (by kernel_rfl))
  obtain ⟨w', hrun, hbw, _, _, hm⟩ := run_insert b3 115 (by simp [insOf, hl']) g.w8.heap.size b2
  have hr : (execOp a.eval o).run Tryd.prog w = .ok .skip w' := by
    simp only [execOp, h3, e2, e3]
    simp only [Act.eval, Sem.run_bind, hrun, Result.andThen]
    rfl
  unfold Oper.wp
  rw [hr]
  show K (a.put o.dst undef) w'
  rw [h1]
  refine hK _ _ (h.laid 5 115 b hl (by omega) h31 h32 h33 (fun y => ?_) b1 hbw hm)
  have hsz := getD_size hl
  simp only [insOf, getD_set _ hsz]
  by_cases hy : y = 115
  · subst hy; simp
  · have hyb : (y == 115) = false := by simpa using hy
    simp only [hyb]
    simp
theorem step8_6 {g : G8} (G : g.Ok) {Q : Exit → Act → World → Prop} {l : Array Bool} {a : Act} {w : World} (hc : ClosedL .any ops8 l) (hs : l.size = 34) (h : In8 g l a w) (hl : l.getD 6 true = false)
    (hd : ∀ j, dep 6 j = true → l.getD j false = true) {K : Act → World → Prop} (hK : ∀ a' w', In8 g (l.setIfInBounds 6 true) a' w' → K a' w') : wpOp Tryd.prog ops8 Q 6 K a w := by
  obtain ⟨o, ho, h1, h2, h3⟩ := op8_6
  refine wpOp_run ho h2 ?_

  have h32 := no32 hc (k := 6) (by omega) hl
  have e : a.tmps.getD 1 undef = .pointer (some ⟨g.q0, 0, none⟩) := (h.old 1 (by omega) (by omega)).trans G.t1
  have e2 : a.eval (.tmp 1) = .pointer (some ⟨g.q0, 0, none⟩) := e
  have hr : (execOp a.eval o).run Tryd.prog w = .ok (.value (.pointer (some ⟨g.q0, 2, none⟩))) w := by
    simp only [execOp, h3, e2]
    go_simp
  exact wp_of_run hr h1 (hK _ _ (h.put (k := 6) rfl hs hl (by decide) (by decide) h32 (Below.refl _ _)))
theorem step8_7 {g : G8} (G : g.Ok) {Q : Exit → Act → World → Prop} {l : Array Bool} {a : Act} {w : World} (hc : ClosedL .any ops8 l) (hs : l.size = 34) (h : In8 g l a w) (hl : l.getD 7 true = false)
    (hd : ∀ j, dep 7 j = true → l.getD j false = true) {K : Act → World → Prop} (hK : ∀ a' w', In8 g (l.setIfInBounds 7 true) a' w' → K a' w') : wpOp Tryd.prog ops8 Q 7 K a w := by
  obtain ⟨o, ho, h1, h2, h3⟩ := op8_7
  refine wpOp_run ho h2 ?_

  have h32 := no32 hc (k := 7) (by omega) hl
  have e : a.tmps.getD 33 undef = _ := h.val 6 _ rfl (hd 6 (by kernel_rfl))
  have e2 : a.eval (.tmp 33) = .pointer (some ⟨g.q0, 2, none⟩) := e
  have hop := G.op.keep ((h.pre h32).block g.q0 (World.block_lt_of_cell? _ _ G.op.c0))
  have hcl : w.cell? ⟨g.q0, 2, none⟩ = some (.int .i64 g.o.pos) := by have := hop.c2; rw [Nat.zero_add] at this; exact this
  have hr : (execOp a.eval o).run Tryd.prog w = .ok (.value (.int .i64 g.o.pos)) w := by
    simp only [execOp, h3, e2]
    go_simp
  exact wp_of_run hr h1 (hK _ _ (h.put (k := 7) rfl hs hl (by decide) (by decide) h32 (Below.refl _ _)))
theorem step8_8 {g : G8} (G : g.Ok) {Q : Exit → Act → World → Prop} {l : Array Bool} {a : Act} {w : World} (hc : ClosedL .any ops8 l) (hs : l.size = 34) (h : In8 g l a w) (hl : l.getD 8 true = false)
    (hd : ∀ j, dep 8 j = true → l.getD j false = true) {K : Act → World → Prop} (hK : ∀ a' w', In8 g (l.setIfInBounds 8 true) a' w' → K a' w') : wpOp Tryd.prog ops8 Q 8 K a w := by
  obtain ⟨o, ho, h1, h2, h3⟩ := op8_8
  refine wpOp_run ho h2 ?_

  have h32 := no32 hc (k := 8) (by omega) hl
  have e : a.tmps.getD 34 undef = _ := h.val 7 _ rfl (hd 7 (by kernel_rfl))
  have e2 : a.tmps[34]?.getD undef = .int .i64 g.o.pos := by simpa only [Array.getD_eq_getD_getElem?] using e
  have hr : (execOp a.eval o).run Tryd.prog w = .ok (.enter 15 #[.int .i64 g.o.pos]) w := by
    simp only [execOp, h3]
    go_simp
  have hb : 0 ≤ g.o.pos ∧ g.o.pos ≤ 4294967295 := ⟨G.plain.pos.1, by have := G.plain.pos.2; omega⟩
  have hI := itoaFn g.o.pos.toNat (by omega) w (G.tab.below (h.pre h32))
  rw [Int.toNat_of_nonneg hb.1] at hI
  unfold Oper.wp
  rw [hr]
  refine hI.mono ?_
  rintro e w' ⟨rfl, hbw⟩
  show K (a.put o.dst _) w'
  rw [h1, ← G.v97]
  exact hK _ _ (h.put (k := 8) rfl hs hl (by decide) (by decide) h32 hbw)
theorem step8_9 {g : G8} (G : g.Ok) {Q : Exit → Act → World → Prop} {l : Array Bool} {a : Act} {w : World} (hc : ClosedL .any ops8 l) (hs : l.size = 34) (h : In8 g l a w) (hl : l.getD 9 true = false)
    (hd : ∀ j, dep 9 j = true → l.getD j false = true) {K : Act → World → Prop} (hK : ∀ a' w', In8 g (l.setIfInBounds 9 true) a' w' → K a' w') : wpOp Tryd.prog ops8 Q 9 K a w := by
  obtain ⟨o, ho, h1, h2, h3⟩ := op8_9
  refine wpOp_run ho h2 ?_

  have hl' : l.getD 9 false = false := by rw [← getD_ft (getD_size hl)]; exact hl
  have h28 := no28 hc (k := 9) (by omega) (by omega) hl'
  obtain ⟨_, h31, h32, h33⟩ := no_of28 hc h28
  obtain ⟨b, b1, b2, b3, _⟩ := h.mp (hd 1 (by kernel_rfl))
  have e2 : a.eval (.tmp 29) = .map (some b) := b1
  have e3 : a.eval (.tmp 35) = .string (g.V 97) := h.val 8 _ rfl (hd 8 (by kernel_rfl))
  obtain ⟨w', hrun, hbw, _, _, hm⟩ := run_insert b3 97 (by simp [insOf, hl']) g.w8.heap.size b2
  have hr : (execOp a.eval o).run Tryd.prog w = .ok .skip w' := by
    simp only [execOp, h3, e2, e3]
    simp only [Act.eval, Sem.run_bind, hrun, Result.andThen]
    rfl
  unfold Oper.wp
  rw [hr]
  show K (a.put o.dst undef) w'
  rw [h1]
  refine hK _ _ (h.laid 9 97 b hl (by omega) h31 h32 h33 (fun y => ?_) b1 hbw hm)
  have hsz := getD_size hl
  simp only [insOf, getD_set _ hsz]
  by_cases hy : y = 97
  · subst hy; simp
  · have hyb : (y == 97) = false := by simpa using hy
    simp only [hyb]
    simp
theorem step8_10 {g : G8} (G : g.Ok) {Q : Exit → Act → World → Prop} {l : Array Bool} {a : Act} {w : World} (hc : ClosedL .any ops8 l) (hs : l.size = 34) (h : In8 g l a w) (hl : l.getD 10 true = false)
    (hd : ∀ j, dep 10 j = true → l.getD j false = true) {K : Act → World → Prop} (hK : ∀ a' w', In8 g (l.setIfInBounds 10 true) a' w' → K a' w') : wpOp Tryd.prog ops8 Q 10 K a w := by
  obtain ⟨o, ho, h1, h2, h3⟩ := op8_10
  refine wpOp_run ho h2 ?_

  have h32 := no32 hc (k := 10) (by omega) hl
  have e : a.tmps.getD 1 undef = .pointer (some ⟨g.q0, 0, none⟩) := (h.old 1 (by omega) (by omega)).trans G.t1
  have e2 : a.eval (.tmp 1) = .pointer (some ⟨g.q0, 0, none⟩) := e
  have hr : (execOp a.eval o).run Tryd.prog w = .ok (.value (.pointer (some ⟨g.q0, 3, none⟩))) w := by
    simp only [execOp, h3, e2]
    go_simp
  exact wp_of_run hr h1 (hK _ _ (h.put (k := 10) rfl hs hl (by decide) (by decide) h32 (Below.refl _ _)))
theorem step8_11 {g : G8} (G : g.Ok) {Q : Exit → Act → World → Prop} {l : Array Bool} {a : Act} {w : World} (hc : ClosedL .any ops8 l) (hs : l.size = 34) (h : In8 g l a w) (hl : l.getD 11 true = false)
    (hd : ∀ j, dep 11 j = true → l.getD j false = true) {K : Act → World → Prop} (hK : ∀ a' w', In8 g (l.setIfInBounds 11 true) a' w' → K a' w') : wpOp Tryd.prog ops8 Q 11 K a w := by
  obtain ⟨o, ho, h1, h2, h3⟩ := op8_11
  refine wpOp_run ho h2 ?_

  have h32 := no32 hc (k := 11) (by omega) hl
  have e : a.tmps.getD 36 undef = _ := h.val 10 _ rfl (hd 10 (by kernel_rfl))
  have e2 : a.eval (.tmp 36) = .pointer (some ⟨g.q0, 3, none⟩) := e
  have hop := G.op.keep ((h.pre h32).block g.q0 (World.block_lt_of_cell? _ _ G.op.c0))
  have hcl : w.cell? ⟨g.q0, 3, none⟩ = some (.int .i64 g.o.num) := by have := hop.c3; rw [Nat.zero_add] at this; exact this
  have hr : (execOp a.eval o).run Tryd.prog w = .ok (.value (.int .i64 g.o.num)) w := by
    simp only [execOp, h3, e2]
    go_simp
  exact wp_of_run hr h1 (hK _ _ (h.put (k := 11) rfl hs hl (by decide) (by decide) h32 (Below.refl _ _)))
theorem step8_12 {g : G8} (G : g.Ok) {Q : Exit → Act → World → Prop} {l : Array Bool} {a : Act} {w : World} (hc : ClosedL .any ops8 l) (hs : l.size = 34) (h : In8 g l a w) (hl : l.getD 12 true = false)
    (hd : ∀ j, dep 12 j = true → l.getD j false = true) {K : Act → World → Prop} (hK : ∀ a' w', In8 g (l.setIfInBounds 12 true) a' w' → K a' w') : wpOp Tryd.prog ops8 Q 12 K a w := by
  obtain ⟨o, ho, h1, h2, h3⟩ := op8_12
  refine wpOp_run ho h2 ?_

  have h32 := no32 hc (k := 12) (by omega) hl
  have e : a.tmps.getD 37 undef = _ := h.val 11 _ rfl (hd 11 (by kernel_rfl))
  have e2 : a.tmps[37]?.getD undef = .int .i64 g.o.num := by simpa only [Array.getD_eq_getD_getElem?] using e
  have hr : (execOp a.eval o).run Tryd.prog w = .ok (.enter 15 #[.int .i64 g.o.num]) w := by
    simp only [execOp, h3]
    go_simp
  have hb : 0 ≤ g.o.num ∧ g.o.num ≤ 4294967295 := ⟨G.plain.num.1, by have := G.plain.num.2; omega⟩
  have hI := itoaFn g.o.num.toNat (by omega) w (G.tab.below (h.pre h32))
  rw [Int.toNat_of_nonneg hb.1] at hI
  unfold Oper.wp
  rw [hr]
  refine hI.mono ?_
  rintro e w' ⟨rfl, hbw⟩
  show K (a.put o.dst _) w'
  rw [h1, ← G.v110]
  exact hK _ _ (h.put (k := 12) rfl hs hl (by decide) (by decide) h32 hbw)
theorem step8_13 {g : G8} (G : g.Ok) {Q : Exit → Act → World → Prop} {l : Array Bool} {a : Act} {w : World} (hc : ClosedL .any ops8 l) (hs : l.size = 34) (h : In8 g l a w) (hl : l.getD 13 true = false)
    (hd : ∀ j, dep 13 j = true → l.getD j false = true) {K : Act → World → Prop} (hK : ∀ a' w', In8 g (l.setIfInBounds 13 true) a' w' → K a' w') : wpOp Tryd.prog ops8 Q 13 K a w := by
  obtain ⟨o, ho, h1, h2, h3⟩ := op8_13
  refine wpOp_run ho h2 ?_

  have hl' : l.getD 13 false = false := by rw [← getD_ft (getD_size hl)]; exact hl
  have h28 := no28 hc (k := 13) (by omega) (by omega) hl'
  obtain ⟨_, h31, h32, h33⟩ := no_of28 hc h28
  obtain ⟨b, b1, b2, b3, _⟩ := h.mp (hd 1 (by kernel_rfl))
  have e2 : a.eval (.tmp 29) = .map (some b) := b1
  have e3 : a.eval (.tmp 38) = .string (g.V 110) := h.val 12 _ rfl (hd 12 (by kernel_rfl))
  obtain ⟨w', hrun, hbw, _, _, hm⟩ := run_insert b3 110 (by simp [insOf, hl']) g.w8.heap.size b2
  have hr : (execOp a.eval o).run Tryd.prog w = .ok .skip w' := by
    simp only [execOp, h3, e2, e3]
    simp only [Act.eval, Sem.run_bind, hrun, Result.andThen]
    rfl
  unfold Oper.wp
  rw [hr]
  show K (a.put o.dst undef) w'
  rw [h1]
  refine hK _ _ (h.laid 13 110 b hl (by omega) h31 h32 h33 (fun y => ?_) b1 hbw hm)
  have hsz := getD_size hl
  simp only [insOf, getD_set _ hsz]
  by_cases hy : y = 110
  · subst hy; simp
  · have hyb : (y == 110) = false := by simpa using hy
    simp only [hyb]
    simp
theorem step8_14 {g : G8} (G : g.Ok) {Q : Exit → Act → World → Prop} {l : Array Bool} {a : Act} {w : World} (hc : ClosedL .any ops8 l) (hs : l.size = 34) (h : In8 g l a w) (hl : l.getD 14 true = false)
    (hd : ∀ j, dep 14 j = true → l.getD j false = true) {K : Act → World → Prop} (hK : ∀ a' w', In8 g (l.setIfInBounds 14 true) a' w' → K a' w') : wpOp Tryd.prog ops8 Q 14 K a w := by
  obtain ⟨o, ho, h1, h2, h3⟩ := op8_14
  refine wpOp_run ho h2 ?_

  have h32 := no32 hc (k := 14) (by omega) hl
  have e : a.tmps.getD 1 undef = .pointer (some ⟨g.q0, 0, none⟩) := (h.old 1 (by omega) (by omega)).trans G.t1
  have e2 : a.eval (.tmp 1) = .pointer (some ⟨g.q0, 0, none⟩) := e
  have hr : (execOp a.eval o).run Tryd.prog w = .ok (.value (.pointer (some ⟨g.q0, 4, none⟩))) w := by
    simp only [execOp, h3, e2]
    go_simp
  exact wp_of_run hr h1 (hK _ _ (h.put (k := 14) rfl hs hl (by decide) (by decide) h32 (Below.refl _ _)))
theorem step8_15 {g : G8} (G : g.Ok) {Q : Exit → Act → World → Prop} {l : Array Bool} {a : Act} {w : World} (hc : ClosedL .any ops8 l) (hs : l.size = 34) (h : In8 g l a w) (hl : l.getD 15 true = false)
    (hd : ∀ j, dep 15 j = true → l.getD j false = true) {K : Act → World → Prop} (hK : ∀ a' w', In8 g (l.setIfInBounds 15 true) a' w' → K a' w') : wpOp Tryd.prog ops8 Q 15 K a w := by
  obtain ⟨o, ho, h1, h2, h3⟩ := op8_15
  refine wpOp_run ho h2 ?_

  have h32 := no32 hc (k := 15) (by omega) hl
  have e : a.tmps.getD 39 undef = _ := h.val 14 _ rfl (hd 14 (by kernel_rfl))
  have e2 : a.eval (.tmp 39) = .pointer (some ⟨g.q0, 4, none⟩) := e
  have hop := G.op.keep ((h.pre h32).block g.q0 (World.block_lt_of_cell? _ _ G.op.c0))
  have hcl : w.cell? ⟨g.q0, 4, none⟩ = some (.int .u32 g.o.id) := by have := hop.c4; rw [Nat.zero_add] at this; exact this
  have hr : (execOp a.eval o).run Tryd.prog w = .ok (.value (.int .u32 g.o.id)) w := by
    simp only [execOp, h3, e2]
    go_simp
  exact wp_of_run hr h1 (hK _ _ (h.put (k := 15) rfl hs hl (by decide) (by decide) h32 (Below.refl _ _)))
theorem step8_16 {g : G8} (G : g.Ok) {Q : Exit → Act → World → Prop} {l : Array Bool} {a : Act} {w : World} (hc : ClosedL .any ops8 l) (hs : l.size = 34) (h : In8 g l a w) (hl : l.getD 16 true = false)
    (hd : ∀ j, dep 16 j = true → l.getD j false = true) {K : Act → World → Prop} (hK : ∀ a' w', In8 g (l.setIfInBounds 16 true) a' w' → K a' w') : wpOp Tryd.prog ops8 Q 16 K a w := by
  obtain ⟨o, ho, h1, h2, h3⟩ := op8_16
  refine wpOp_run ho h2 ?_

  have h32 := no32 hc (k := 16) (by omega) hl
  have e : a.tmps.getD 40 undef = _ := h.val 15 _ rfl (hd 15 (by kernel_rfl))
  have e2 : a.eval (.tmp 40) = .int .u32 g.o.id := e
  have hw := wrap_u32 G.ty.1 G.ty.2.1
  have hr : (execOp a.eval o).run Tryd.prog w = .ok (.value (.int .i64 g.o.id)) w := by
    simp only [execOp, h3, e2]
    go_simp
    try rw [hw]
  exact wp_of_run hr h1 (hK _ _ (h.put (k := 16) rfl hs hl (by decide) (by decide) h32 (Below.refl _ _)))
theorem step8_17 {g : G8} (G : g.Ok) {Q : Exit → Act → World → Prop} {l : Array Bool} {a : Act} {w : World} (hc : ClosedL .any ops8 l) (hs : l.size = 34) (h : In8 g l a w) (hl : l.getD 17 true = false)
    (hd : ∀ j, dep 17 j = true → l.getD j false = true) {K : Act → World → Prop} (hK : ∀ a' w', In8 g (l.setIfInBounds 17 true) a' w' → K a' w') : wpOp Tryd.prog ops8 Q 17 K a w := by
  obtain ⟨o, ho, h1, h2, h3⟩ := op8_17
  refine wpOp_run ho h2 ?_

  have h32 := no32 hc (k := 17) (by omega) hl
  have e : a.tmps.getD 41 undef = _ := h.val 16 _ rfl (hd 16 (by kernel_rfl))
  have e2 : a.tmps[41]?.getD undef = .int .i64 g.o.id := by simpa only [Array.getD_eq_getD_getElem?] using e
  have hr : (execOp a.eval o).run Tryd.prog w = .ok (.enter 15 #[.int .i64 g.o.id]) w := by
    simp only [execOp, h3]
    go_simp
  have hb : 0 ≤ g.o.id ∧ g.o.id ≤ 4294967295 := ⟨G.ty.1, by have := G.ty.2.1; omega⟩
  have hI := itoaFn g.o.id.toNat (by omega) w (G.tab.below (h.pre h32))
  rw [Int.toNat_of_nonneg hb.1] at hI
  unfold Oper.wp
  rw [hr]
  refine hI.mono ?_
  rintro e w' ⟨rfl, hbw⟩
  show K (a.put o.dst _) w'
  rw [h1, ← G.v105]
  exact hK _ _ (h.put (k := 17) rfl hs hl (by decide) (by decide) h32 hbw)
theorem step8_18 {g : G8} (G : g.Ok) {Q : Exit → Act → World → Prop} {l : Array Bool} {a : Act} {w : World} (hc : ClosedL .any ops8 l) (hs : l.size = 34) (h : In8 g l a w) (hl : l.getD 18 true = false)
    (hd : ∀ j, dep 18 j = true → l.getD j false = true) {K : Act → World → Prop} (hK : ∀ a' w', In8 g (l.setIfInBounds 18 true) a' w' → K a' w') : wpOp Tryd.prog ops8 Q 18 K a w := by
  obtain ⟨o, ho, h1, h2, h3⟩ := op8_18
  refine wpOp_run ho h2 ?_

  have hl' : l.getD 18 false = false := by rw [← getD_ft (getD_size hl)]; exact hl
  have h28 := no28 hc (k := 18) (by omega) (by omega) hl'
  obtain ⟨_, h31, h32, h33⟩ := no_of28 hc h28
  obtain ⟨b, b1, b2, b3, _⟩ := h.mp (hd 1 (by kernel_rfl))
  have e2 : a.eval (.tmp 29) = .map (some b) := b1
  have e3 : a.eval (.tmp 42) = .string (g.V 105) := h.val 17 _ rfl (hd 17 (by kernel_rfl))
  obtain ⟨w', hrun, hbw, _, _, hm⟩ := run_insert b3 105 (by simp [insOf, hl']) g.w8.heap.size b2
  have hr : (execOp a.eval o).run Tryd.prog w = .ok .skip w' := by
    simp only [execOp, h3, e2, e3]
    simp only [Act.eval, Sem.run_bind, hrun, Result.andThen]
    rfl
  unfold Oper.wp
  rw [hr]
  show K (a.put o.dst undef) w'
  rw [h1]
  refine hK _ _ (h.laid 18 105 b hl (by omega) h31 h32 h33 (fun y => ?_) b1 hbw hm)
  have hsz := getD_size hl
  simp only [insOf, getD_set _ hsz]
  by_cases hy : y = 105
  · subst hy; simp
  · have hyb : (y == 105) = false := by simpa using hy
    simp only [hyb]
    simp
theorem step8_19 {g : G8} (G : g.Ok) {Q : Exit → Act → World → Prop} {l : Array Bool} {a : Act} {w : World} (hc : ClosedL .any ops8 l) (hs : l.size = 34) (h : In8 g l a w) (hl : l.getD 19 true = false)
    (hd : ∀ j, dep 19 j = true → l.getD j false = true) {K : Act → World → Prop} (hK : ∀ a' w', In8 g (l.setIfInBounds 19 true) a' w' → K a' w') : wpOp Tryd.prog ops8 Q 19 K a w := by
  obtain ⟨o, ho, h1, h2, h3⟩ := op8_19
  refine wpOp_run ho h2 ?_

  have h32 := no32 hc (k := 19) (by omega) hl
  have e : a.tmps.getD 1 undef = .pointer (some ⟨g.q0, 0, none⟩) := (h.old 1 (by omega) (by omega)).trans G.t1
  have e2 : a.eval (.tmp 1) = .pointer (some ⟨g.q0, 0, none⟩) := e
  have hr : (execOp a.eval o).run Tryd.prog w = .ok (.value (.pointer (some ⟨g.q0, 5, none⟩))) w := by
    simp only [execOp, h3, e2]
    go_simp
  exact wp_of_run hr h1 (hK _ _ (h.put (k := 19) rfl hs hl (by decide) (by decide) h32 (Below.refl _ _)))
theorem step8_20 {g : G8} (G : g.Ok) {Q : Exit → Act → World → Prop} {l : Array Bool} {a : Act} {w : World} (hc : ClosedL .any ops8 l) (hs : l.size = 34) (h : In8 g l a w) (hl : l.getD 20 true = false)
    (hd : ∀ j, dep 20 j = true → l.getD j false = true) {K : Act → World → Prop} (hK : ∀ a' w', In8 g (l.setIfInBounds 20 true) a' w' → K a' w') : wpOp Tryd.prog ops8 Q 20 K a w := by
  obtain ⟨o, ho, h1, h2, h3⟩ := op8_20
  refine wpOp_run ho h2 ?_

  have h32 := no32 hc (k := 20) (by omega) hl
  have e : a.tmps.getD 43 undef = _ := h.val 19 _ rfl (hd 19 (by kernel_rfl))
  have e2 : a.eval (.tmp 43) = .pointer (some ⟨g.q0, 5, none⟩) := e
  have hop := G.op.keep ((h.pre h32).block g.q0 (World.block_lt_of_cell? _ _ G.op.c0))
  have hcl : w.cell? ⟨g.q0, 5, none⟩ = some (.int .u8 g.o.grav) := by have := hop.c5; rw [Nat.zero_add] at this; exact this
  have hr : (execOp a.eval o).run Tryd.prog w = .ok (.value (.int .u8 g.o.grav)) w := by
    simp only [execOp, h3, e2]
    go_simp
  exact wp_of_run hr h1 (hK _ _ (h.put (k := 20) rfl hs hl (by decide) (by decide) h32 (Below.refl _ _)))
theorem step8_21 {g : G8} (G : g.Ok) {Q : Exit → Act → World → Prop} {l : Array Bool} {a : Act} {w : World} (hc : ClosedL .any ops8 l) (hs : l.size = 34) (h : In8 g l a w) (hl : l.getD 21 true = false)
    (hd : ∀ j, dep 21 j = true → l.getD j false = true) {K : Act → World → Prop} (hK : ∀ a' w', In8 g (l.setIfInBounds 21 true) a' w' → K a' w') : wpOp Tryd.prog ops8 Q 21 K a w := by
  obtain ⟨o, ho, h1, h2, h3⟩ := op8_21
  refine wpOp_run ho h2 ?_

  have h32 := no32 hc (k := 21) (by omega) hl
  have e : a.tmps.getD 44 undef = _ := h.val 20 _ rfl (hd 20 (by kernel_rfl))
  have e2 : a.eval (.tmp 44) = .int .u8 g.o.grav := e
  have hw := wrap_u32 G.ty.2.2.1 (by have := G.ty.2.2.2; omega)
  have hr : (execOp a.eval o).run Tryd.prog w = .ok (.value (.int .i64 g.o.grav)) w := by
    simp only [execOp, h3, e2]
    go_simp
    try rw [hw]
  exact wp_of_run hr h1 (hK _ _ (h.put (k := 21) rfl hs hl (by decide) (by decide) h32 (Below.refl _ _)))
theorem step8_22 {g : G8} (G : g.Ok) {Q : Exit → Act → World → Prop} {l : Array Bool} {a : Act} {w : World} (hc : ClosedL .any ops8 l) (hs : l.size = 34) (h : In8 g l a w) (hl : l.getD 22 true = false)
    (hd : ∀ j, dep 22 j = true → l.getD j false = true) {K : Act → World → Prop} (hK : ∀ a' w', In8 g (l.setIfInBounds 22 true) a' w' → K a' w') : wpOp Tryd.prog ops8 Q 22 K a w := by
  obtain ⟨o, ho, h1, h2, h3⟩ := op8_22
  refine wpOp_run ho h2 ?_

  have h32 := no32 hc (k := 22) (by omega) hl
  have e : a.tmps.getD 45 undef = _ := h.val 21 _ rfl (hd 21 (by kernel_rfl))
  have e2 : a.tmps[45]?.getD undef = .int .i64 g.o.grav := by simpa only [Array.getD_eq_getD_getElem?] using e
  have hr : (execOp a.eval o).run Tryd.prog w = .ok (.enter 15 #[.int .i64 g.o.grav]) w := by
    simp only [execOp, h3]
    go_simp
  have hb : 0 ≤ g.o.grav ∧ g.o.grav ≤ 4294967295 := ⟨G.ty.2.2.1, by have := G.ty.2.2.2; omega⟩
  have hI := itoaFn g.o.grav.toNat (by omega) w (G.tab.below (h.pre h32))
  rw [Int.toNat_of_nonneg hb.1] at hI
  unfold Oper.wp
  rw [hr]
  refine hI.mono ?_
  rintro e w' ⟨rfl, hbw⟩
  show K (a.put o.dst _) w'
  rw [h1, ← G.v103]
  exact hK _ _ (h.put (k := 22) rfl hs hl (by decide) (by decide) h32 hbw)
theorem step8_23 {g : G8} (G : g.Ok) {Q : Exit → Act → World → Prop} {l : Array Bool} {a : Act} {w : World} (hc : ClosedL .any ops8 l) (hs : l.size = 34) (h : In8 g l a w) (hl : l.getD 23 true = false)
    (hd : ∀ j, dep 23 j = true → l.getD j false = true) {K : Act → World → Prop} (hK : ∀ a' w', In8 g (l.setIfInBounds 23 true) a' w' → K a' w') : wpOp Tryd.prog ops8 Q 23 K a w := by
  obtain ⟨o, ho, h1, h2, h3⟩ := op8_23
  refine wpOp_run ho h2 ?_

  have hl' : l.getD 23 false = false := by rw [← getD_ft (getD_size hl)]; exact hl
  have h28 := no28 hc (k := 23) (by omega) (by omega) hl'
  obtain ⟨_, h31, h32, h33⟩ := no_of28 hc h28
  obtain ⟨b, b1, b2, b3, _⟩ := h.mp (hd 1 (by kernel_rfl))
  have e2 : a.eval (.tmp 29) = .map (some b) := b1
  have e3 : a.eval (.tmp 46) = .string (g.V 103) := h.val 22 _ rfl (hd 22 (by kernel_rfl))
  obtain ⟨w', hrun, hbw, _, _, hm⟩ := run_insert b3 103 (by simp [insOf, hl']) g.w8.heap.size b2
  have hr : (execOp a.eval o).run Tryd.prog w = .ok .skip w' := by
    simp only [execOp, h3, e2, e3]
    simp only [Act.eval, Sem.run_bind, hrun, Result.andThen]
    rfl
  unfold Oper.wp
  rw [hr]
  show K (a.put o.dst undef) w'
  rw [h1]
  refine hK _ _ (h.laid 23 103 b hl (by omega) h31 h32 h33 (fun y => ?_) b1 hbw hm)
  have hsz := getD_size hl
  simp only [insOf, getD_set _ hsz]
  by_cases hy : y = 103
  · subst hy; simp
  · have hyb : (y == 103) = false := by simpa using hy
    simp only [hyb]
    simp
theorem step8_24 {g : G8} (G : g.Ok) {Q : Exit → Act → World → Prop} {l : Array Bool} {a : Act} {w : World} (hc : ClosedL .any ops8 l) (hs : l.size = 34) (h : In8 g l a w) (hl : l.getD 24 true = false)
    (hd : ∀ j, dep 24 j = true → l.getD j false = true) {K : Act → World → Prop} (hK : ∀ a' w', In8 g (l.setIfInBounds 24 true) a' w' → K a' w') : wpOp Tryd.prog ops8 Q 24 K a w := by
  obtain ⟨o, ho, h1, h2, h3⟩ := op8_24
  refine wpOp_run ho h2 ?_

  have h32 := no32 hc (k := 24) (by omega) hl
  have e : a.tmps.getD 1 undef = .pointer (some ⟨g.q0, 0, none⟩) := (h.old 1 (by omega) (by omega)).trans G.t1
  have e2 : a.eval (.tmp 1) = .pointer (some ⟨g.q0, 0, none⟩) := e
  have hr : (execOp a.eval o).run Tryd.prog w = .ok (.value (.pointer (some ⟨g.q0, 6, none⟩))) w := by
    simp only [execOp, h3, e2]
    go_simp
  exact wp_of_run hr h1 (hK _ _ (h.put (k := 24) rfl hs hl (by decide) (by decide) h32 (Below.refl _ _)))
theorem step8_25 {g : G8} (G : g.Ok) {Q : Exit → Act → World → Prop} {l : Array Bool} {a : Act} {w : World} (hc : ClosedL .any ops8 l) (hs : l.size = 34) (h : In8 g l a w) (hl : l.getD 25 true = false)
    (hd : ∀ j, dep 25 j = true → l.getD j false = true) {K : Act → World → Prop} (hK : ∀ a' w', In8 g (l.setIfInBounds 25 true) a' w' → K a' w') : wpOp Tryd.prog ops8 Q 25 K a w := by
  obtain ⟨o, ho, h1, h2, h3⟩ := op8_25
  refine wpOp_run ho h2 ?_

  have h32 := no32 hc (k := 25) (by omega) hl
  have e : a.tmps.getD 47 undef = _ := h.val 24 _ rfl (hd 24 (by kernel_rfl))
  have e2 : a.eval (.tmp 47) = .pointer (some ⟨g.q0, 6, none⟩) := e
  have hop := G.op.keep ((h.pre h32).block g.q0 (World.block_lt_of_cell? _ _ G.op.c0))
  have hcl : w.cell? ⟨g.q0, 6, none⟩ = some (.string g.o.text) := by have := hop.c6; rw [Nat.zero_add] at this; exact this
  have hr : (execOp a.eval o).run Tryd.prog w = .ok (.value (.string g.o.text)) w := by
    simp only [execOp, h3, e2]
    go_simp
  exact wp_of_run hr h1 (hK _ _ (h.put (k := 25) rfl hs hl (by decide) (by decide) h32 (Below.refl _ _)))
theorem step8_26 {g : G8} (G : g.Ok) {Q : Exit → Act → World → Prop} {l : Array Bool} {a : Act} {w : World} (hc : ClosedL .any ops8 l) (hs : l.size = 34) (h : In8 g l a w) (hl : l.getD 26 true = false)
    (hd : ∀ j, dep 26 j = true → l.getD j false = true) {K : Act → World → Prop} (hK : ∀ a' w', In8 g (l.setIfInBounds 26 true) a' w' → K a' w') : wpOp Tryd.prog ops8 Q 26 K a w := by
  obtain ⟨o, ho, h1, h2, h3⟩ := op8_26
  refine wpOp_run ho h2 ?_

  have h32 := no32 hc (k := 26) (by omega) hl
  have e : a.tmps.getD 48 undef = _ := h.val 25 _ rfl (hd 25 (by kernel_rfl))
  have e2 : a.tmps[48]?.getD undef = .string g.o.text := by simpa only [Array.getD_eq_getD_getElem?] using e
  have hr : (execOp a.eval o).run Tryd.prog w = .ok (.enter 16 #[.string g.o.text]) w := by
    simp only [execOp, h3]
    go_simp
  have hI := quoteFn g.o.text w (by have := G.plain.text; omega)
  unfold Oper.wp
  rw [hr]
  refine hI.mono ?_
  rintro e w' ⟨rfl, hbw⟩
  show K (a.put o.dst _) w'
  rw [h1, ← G.v116]
  exact hK _ _ (h.put (k := 26) rfl hs hl (by decide) (by decide) h32 hbw)
theorem step8_27 {g : G8} (G : g.Ok) {Q : Exit → Act → World → Prop} {l : Array Bool} {a : Act} {w : World} (hc : ClosedL .any ops8 l) (hs : l.size = 34) (h : In8 g l a w) (hl : l.getD 27 true = false)
    (hd : ∀ j, dep 27 j = true → l.getD j false = true) {K : Act → World → Prop} (hK : ∀ a' w', In8 g (l.setIfInBounds 27 true) a' w' → K a' w') : wpOp Tryd.prog ops8 Q 27 K a w := by
  obtain ⟨o, ho, h1, h2, h3⟩ := op8_27
  refine wpOp_run ho h2 ?_

  have hl' : l.getD 27 false = false := by rw [← getD_ft (getD_size hl)]; exact hl
  have h28 := no28 hc (k := 27) (by omega) (by omega) hl'
  obtain ⟨_, h31, h32, h33⟩ := no_of28 hc h28
  obtain ⟨b, b1, b2, b3, _⟩ := h.mp (hd 1 (by kernel_rfl))
  have e2 : a.eval (.tmp 29) = .map (some b) := b1
  have e3 : a.eval (.tmp 49) = .string (g.V 116) := h.val 26 _ rfl (hd 26 (by kernel_rfl))
  obtain ⟨w', hrun, hbw, _, _, hm⟩ := run_insert b3 116 (by simp [insOf, hl']) g.w8.heap.size b2
  have hr : (execOp a.eval o).run Tryd.prog w = .ok .skip w' := by
    simp only [execOp, h3, e2, e3]
    simp only [Act.eval, Sem.run_bind, hrun, Result.andThen]
    rfl
  unfold Oper.wp
  rw [hr]
  show K (a.put o.dst undef) w'
  rw [h1]
  refine hK _ _ (h.laid 27 116 b hl (by omega) h31 h32 h33 (fun y => ?_) b1 hbw hm)
  have hsz := getD_size hl
  simp only [insOf, getD_set _ hsz]
  by_cases hy : y = 116
  · subst hy; simp
  · have hyb : (y == 116) = false := by simpa using hy
    simp only [hyb]
    simp
theorem step8_28 {g : G8} (G : g.Ok) {Q : Exit → Act → World → Prop} {l : Array Bool} {a : Act} {w : World} (hc : ClosedL .any ops8 l) (hs : l.size = 34) (h : In8 g l a w) (hl : l.getD 28 true = false)
    (hd : ∀ j, dep 28 j = true → l.getD j false = true) {K : Act → World → Prop} (hK : ∀ a' w', In8 g (l.setIfInBounds 28 true) a' w' → K a' w') : wpOp Tryd.prog ops8 Q 28 K a w := by
  obtain ⟨o, ho, h1, h2, h3⟩ := op8_28
  refine wpOp_run ho h2 ?_

  have hr : (execOp a.eval o).run Tryd.prog w = .ok (.value (a.tmps.getD 29 undef)) w := by
    simp only [execOp, h3, Act.eval]
    rfl
  exact wp_of_run hr h1 (hK _ _ (h.moved hl (hd 1 (by kernel_rfl))))
theorem step8_29 {g : G8} (G : g.Ok) {Q : Exit → Act → World → Prop} {l : Array Bool} {a : Act} {w : World} (hc : ClosedL .any ops8 l) (hs : l.size = 34) (h : In8 g l a w) (hl : l.getD 29 true = false)
    (hd : ∀ j, dep 29 j = true → l.getD j false = true) {K : Act → World → Prop} (hK : ∀ a' w', In8 g (l.setIfInBounds 29 true) a' w' → K a' w') : wpOp Tryd.prog ops8 Q 29 K a w := by
  obtain ⟨o, ho, h1, h2, h3⟩ := op8_29
  refine wpOp_run ho h2 ?_

  have h32 := no32 hc (k := 29) (by omega) hl
  have e : a.tmps.getD 9 undef = .int .i32 g.f := (h.old 9 (by omega) (by omega)).trans G.t9
  have hr : (execOp a.eval o).run Tryd.prog w = .ok (.value (.int .i32 g.f)) w := by
    simp only [execOp, h3, Act.eval, e]
    rfl
  exact wp_of_run hr h1 (hK _ _ (h.put (k := 29) rfl hs hl (by decide) (by decide) h32 (Below.refl _ _)))
theorem step8_30 {g : G8} (G : g.Ok) {Q : Exit → Act → World → Prop} {l : Array Bool} {a : Act} {w : World} (hc : ClosedL .any ops8 l) (hs : l.size = 34) (h : In8 g l a w) (hl : l.getD 30 true = false)
    (hd : ∀ j, dep 30 j = true → l.getD j false = true) {K : Act → World → Prop} (hK : ∀ a' w', In8 g (l.setIfInBounds 30 true) a' w' → K a' w') : wpOp Tryd.prog ops8 Q 30 K a w := by
  obtain ⟨o, ho, h1, h2, h3⟩ := op8_30
  refine wpOp_run ho h2 ?_

  have h32 := no32 hc (k := 30) (by omega) hl
  have h28 := hd 28 (by kernel_rfl)
  have hall : ∀ k, 1 ≤ k → k < 28 → l.getD k false = true := fun k k1 k2 => by
    cases hk : l.getD k false
    · rw [no28 hc (by omega) k2 hk] at h28; cases h28
    · rfl
  obtain ⟨b, b1, b2, b3, b4⟩ := h.mp (hall 1 (by omega) (by omega))
  have e2 : a.eval (.tmp 50) = .map (some b) := b4 h28
  have e3 : a.eval (.tmp 51) = .int .i32 g.f := h.val 29 _ rfl (hd 29 (by kernel_rfl))
  have hrun := run_look b3 g.f (by
    have h5 := hall 5 (by omega) (by omega); have h9 := hall 9 (by omega) (by omega); have h13 := hall 13 (by omega) (by omega)
    have h18 := hall 18 (by omega) (by omega); have h23 := hall 23 (by omega) (by omega); have h27 := hall 27 (by omega) (by omega)
    rcases G.fs with e | e | e | e | e | e <;> simp [insOf, e, h5, h9, h13, h18, h23, h27])
  have hr : (execOp a.eval o).run Tryd.prog w = .ok (.value (.string (g.V g.f))) w := by
    simp only [execOp, h3, e2, e3, Sem.run_bind, hrun, Result.andThen]
    rfl
  exact wp_of_run hr h1 (hK _ _ (h.put (k := 30) rfl hs hl (by decide) (by decide) h32 (Below.refl _ _)))
theorem step8_31 {g : G8} (G : g.Ok) {Q : Exit → Act → World → Prop} {l : Array Bool} {a : Act} {w : World} (hc : ClosedL .any ops8 l) (hs : l.size = 34) (h : In8 g l a w) (hl : l.getD 31 true = false)
    (hd : ∀ j, dep 31 j = true → l.getD j false = true) {K : Act → World → Prop} (hK : ∀ a' w', In8 g (l.setIfInBounds 31 true) a' w' → K a' w') : wpOp Tryd.prog ops8 Q 31 K a w := by
  obtain ⟨o, ho, h1, h2, h3⟩ := op8_31
  refine wpOp_run ho h2 ?_

  have e : a.tmps.getD 52 undef = _ := h.val 30 _ rfl (hd 30 (by kernel_rfl))
  have e2 : a.tmps[52]?.getD undef = .string (g.V g.f) := by simpa only [Array.getD_eq_getD_getElem?] using e
  have hr : (execOp a.eval o).run Tryd.prog w = .ok (.value (.slice (some ⟨w.heap.size, 0, none⟩) 1 1)) (w.alloc (.cells #[.string (g.V g.f)] 9)) := by
    simp only [execOp, h3]
    go_simp
  exact wp_of_run hr h1 (hK _ _ (h.box hl (no32 hc (by omega) hl)))
theorem step8_32 {g : G8} (G : g.Ok) {Q : Exit → Act → World → Prop} {l : Array Bool} {a : Act} {w : World} (hc : ClosedL .any ops8 l) (hs : l.size = 34) (h : In8 g l a w) (hl : l.getD 32 true = false)
    (hd : ∀ j, dep 32 j = true → l.getD j false = true) {K : Act → World → Prop} (hK : ∀ a' w', In8 g (l.setIfInBounds 32 true) a' w' → K a' w') : wpOp Tryd.prog ops8 Q 32 K a w := by
  obtain ⟨o, ho, h1, h2, h3⟩ := op8_32
  refine wpOp_run ho h2 ?_

  have h31 := hd 31 (by kernel_rfl)
  have h32 : l.getD 32 false = false := by rw [← getD_ft (getD_size hl)]; exact hl
  have h33 := open_dep hc (by omega) dep_tail.2.2.2.2.2 h32
  obtain ⟨r, r1, r2, r3⟩ := h.bl h31
  have e28 : a.eval (.tmp 28) = g.v7 := h.val 0 _ rfl (hd 0 (by kernel_rfl))
  have hB := h.pre h32
  have hown : w.ownsRow g.base 9 1 g.v7 g.n g.L := own_grown G.own hB
  obtain ⟨i0, hi, hz0, hz1, hz2⟩ := info_parts str_info
  have hv7 : ∀ q, g.v7.ownBlock = some q → q < g.w8.heap.size := fun q hq => (World.ownsRow.lt G.own q hq).2
  refine wp_append_lies w (.tmp 28) (.tmp 53) 51 h3 g.base 9 i0 (.string ⟨#[]⟩) 1 16 Tryd.underlying51 hi hz0 hz1 hz2 rfl (by decide) g.v7 g.n g.L e28 hown ⟨r, 0, none⟩ 1 1 [.string (g.V g.f)] r1 rfl (fun j u hu => ?_) (one_str _) (by omega)
    (by have := G.nl; unfold maxLen; omega) (by have := G.nl; omega) (by have := hB.size; have := G.bsz; omega) _ rfl ?_
  · match j, hu with
    | 0, hu => simp only [List.getElem?_cons_zero, Option.some.injEq] at hu; subst hu; exact r2
    | j + 1, hu => simp at hu
  · intro q cap w' hown' hg _ _
    rw [h1]
    exact hK _ _ (h.added hl h33 hown' hg hv7)
theorem step8_33 {g : G8} (G : g.Ok) {Q : Exit → Act → World → Prop} {l : Array Bool} {a : Act} {w : World} (hc : ClosedL .any ops8 l) (hs : l.size = 34) (h : In8 g l a w) (hl : l.getD 33 true = false)
    (hd : ∀ j, dep 33 j = true → l.getD j false = true) {K : Act → World → Prop} (hK : ∀ a' w', In8 g (l.setIfInBounds 33 true) a' w' → K a' w') : wpOp Tryd.prog ops8 Q 33 K a w := by
  obtain ⟨o, ho, h1, h2, h3⟩ := op8_33
  refine wpOp_run ho h2 ?_

  have hr : (execOp a.eval o).run Tryd.prog w = .ok (.value (a.tmps.getD 54 undef)) w := by
    simp only [execOp, h3, Act.eval]
    rfl
  exact wp_of_run hr h1 (hK _ _ (h.done hl))
set_option maxHeartbeats 0 in
/-- The region, whatever its order. -/
theorem region8 (g : G8) (G : g.Ok) {Q : Exit → Act → World → Prop} (hQ : ∀ l a w, (∀ i, i < 34 → l.getD i false = true) → In8 g l a w → Q .normal a w) :
    wpAny Tryd.prog .any ops8 Q 34 (Array.replicate 34 false) ⟨g.T, []⟩ g.w8 := by
  have hsz : ops8.size = 34 := by kernel_rfl
  have hno : ∀ i, (Array.replicate 34 false).getD i false = false := fun i => by (simp only [Array.getD_eq_getD_getElem?, Array.getElem?_replicate]; split <;> rfl)
  refine wpAny_inv (In8 g) ?deps ?step (fun l a w hall hi => hQ l a w (fun i hi34 => hall i (by omega)) hi) 34 _ _ _ ?closed (by rw [hsz]; rfl) ?unl ?init
  case deps =>
    intro i o ho e he
    have hi : i < 34 := by
      rcases Nat.lt_or_ge i 34 with h | h
      · exact h
      · rw [Array.getElem?_eq_none (by omega)] at ho; cases ho
    have h1 := (List.all_eq_true.1 deps_lt) i (List.mem_range.2 hi)
    rw [ho] at h1
    simpa using (Array.all_eq_true_iff_forall_mem.1 h1) e he
  case closed => intro j o hj hl; rw [hno] at hl; cases hl
  case unl => rw [hsz]; decide
  case init =>
    refine ⟨G.sz, rfl, fun _ _ _ => rfl, fun _ _ => rfl, fun _ => G.t7, fun k v _ hl => ?_, fun hl => ?_, fun hl => ?_, fun _ => Below.refl _ _, fun hl => ?_, fun hl => ?_⟩ <;> (rw [hno] at hl; cases hl)
  case step =>
    intro l a w hc hs hi i o ho hl hd K hK
    rw [hsz] at hs
    have hi34 : i < 34 := by have := getD_size hl; omega
    have hd' : ∀ j, dep i j = true → l.getD j false = true := fun j hj => by
      obtain ⟨e, he, hb, rfl⟩ := dep_of hj ho
      exact hd e he hb
    clear hd ho
    match i, hi34, hl, hd', hK with
    | 0, _, hl, hd, hK => exact step8_0 G hc hs hi hl hd hK
    | 1, _, hl, hd, hK => exact step8_1 G hc hs hi hl hd hK
    | 2, _, hl, hd, hK => exact step8_2 G hc hs hi hl hd hK
    | 3, _, hl, hd, hK => exact step8_3 G hc hs hi hl hd hK
    | 4, _, hl, hd, hK => exact step8_4 G hc hs hi hl hd hK
    | 5, _, hl, hd, hK => exact step8_5 G hc hs hi hl hd hK
    | 6, _, hl, hd, hK => exact step8_6 G hc hs hi hl hd hK
    | 7, _, hl, hd, hK => exact step8_7 G hc hs hi hl hd hK
    | 8, _, hl, hd, hK => exact step8_8 G hc hs hi hl hd hK
    | 9, _, hl, hd, hK => exact step8_9 G hc hs hi hl hd hK
    | 10, _, hl, hd, hK => exact step8_10 G hc hs hi hl hd hK
    | 11, _, hl, hd, hK => exact step8_11 G hc hs hi hl hd hK
    | 12, _, hl, hd, hK => exact step8_12 G hc hs hi hl hd hK
    | 13, _, hl, hd, hK => exact step8_13 G hc hs hi hl hd hK
    | 14, _, hl, hd, hK => exact step8_14 G hc hs hi hl hd hK
    | 15, _, hl, hd, hK => exact step8_15 G hc hs hi hl hd hK
    | 16, _, hl, hd, hK => exact step8_16 G hc hs hi hl hd hK
    | 17, _, hl, hd, hK => exact step8_17 G hc hs hi hl hd hK
    | 18, _, hl, hd, hK => exact step8_18 G hc hs hi hl hd hK
    | 19, _, hl, hd, hK => exact step8_19 G hc hs hi hl hd hK
    | 20, _, hl, hd, hK => exact step8_20 G hc hs hi hl hd hK
    | 21, _, hl, hd, hK => exact step8_21 G hc hs hi hl hd hK
    | 22, _, hl, hd, hK => exact step8_22 G hc hs hi hl hd hK
    | 23, _, hl, hd, hK => exact step8_23 G hc hs hi hl hd hK
    | 24, _, hl, hd, hK => exact step8_24 G hc hs hi hl hd hK
    | 25, _, hl, hd, hK => exact step8_25 G hc hs hi hl hd hK
    | 26, _, hl, hd, hK => exact step8_26 G hc hs hi hl hd hK
    | 27, _, hl, hd, hK => exact step8_27 G hc hs hi hl hd hK
    | 28, _, hl, hd, hK => exact step8_28 G hc hs hi hl hd hK
    | 29, _, hl, hd, hK => exact step8_29 G hc hs hi hl hd hK
    | 30, _, hl, hd, hK => exact step8_30 G hc hs hi hl hd hK
    | 31, _, hl, hd, hK => exact step8_31 G hc hs hi hl hd hK
    | 32, _, hl, hd, hK => exact step8_32 G hc hs hi hl hd hK
    | 33, _, hl, hd, hK => exact step8_33 G hc hs hi hl hd hK
    | i + 34, hi34, _, _, _ => exact absurd hi34 (by omega)
end Go.Proofs.YtcbhfhmpajamoaaDoor
