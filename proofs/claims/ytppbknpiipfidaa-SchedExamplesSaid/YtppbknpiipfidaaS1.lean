import Derived.Test.YtppbknpiipfidaaG2
import Derived.BigRegion
import Derived.Maps.AppendAt
namespace Go.Proofs.Ytppbknpiipfidaa
open Go.RowKit

/-- How often j occurs. -/
def num (xs : List Int) (j : Nat) : Int := (xs.filter (· == (j : Int))).length
theorem num_nil (j : Nat) : num [] j = 0 := rfl
theorem num_snoc (xs : List Int) (x : Int) (j : Nat) : num (xs ++ [x]) j = num xs j + if x = j then 1 else 0 := by
  unfold num
  rw [List.filter_append]
  by_cases h : x = j <;> simp [h, List.filter_cons]
theorem num_bd (xs : List Int) (j : Nat) : 0 ≤ num xs j ∧ num xs j ≤ xs.length := by
  unfold num; have := List.length_filter_le (· == (j : Int)) xs; omega

/-- A schedule at block b: its threads, its counts, its list. -/
structure Sch (w : World) (b base : Nat) (t : Int) (v : Value) (xs : List Int) : Prop where
  hd : w.cell? ⟨b, 0, none⟩ = some (.int .i64 t)
  st : ∀ j, j < 16 → w.cell? ⟨b, 1 + j, none⟩ = some (.int .i64 (num xs j))
  ch : w.cell? ⟨b, 17, none⟩ = some v
  fr : ∀ o, w.frozen? ⟨b, o, none⟩ = false
  own : w.ownsRow base 3 1 v xs.length (xs.map (Value.int .i64))
  ne : v.ownBlock ≠ some b

/-- What a Pick leaves: the schedule with one thread more; only block b and the list's own block may have been written; the list is in its old block or in a new one. -/
def PickRes (b base : Nat) (t : Int) (v : Value) (xs : List Int) (c : Int) (w : World) (e : Ending) (w' : World) : Prop :=
  e = .returned (.tuple #[.int .i64 c, .int .i64 0]) ∧ ∃ v', Sch w' b base t v' (xs ++ [c]) ∧ w'.os = w.os ∧ w'.tape = w.tape ∧ w'.output = w.output ∧ w.heap.size ≤ w'.heap.size ∧
    (∀ k, k < w.heap.size → k ≠ b → some k ≠ v.ownBlock → w'.heap[k]? = w.heap[k]?) ∧ (v'.ownBlock = v.ownBlock ∨ ∃ k, v'.ownBlock = some k ∧ w.heap.size ≤ k)

set_option maxHeartbeats 800000 in
theorem pick_post {w w1 : World} {b base c : Nat} {t : Int} {v v1 : Value} {xs : List Int} {o : Obj} (h : Sch w b base t v xs) (hc2 : c < 16) (hbase : base ≤ w.heap.size)
    (hown1 : w1.ownsRow base 3 1 v1 (xs.length + 1) (xs.map (Value.int .i64) ++ [.int .i64 (c : Int)]))
    (hg1 : ((w.setCell ⟨b, 1 + c, none⟩ (.int .i64 (num xs c + 1))).alloc o).grownBy w1 v.ownBlock)
    (hat : v1.ownBlock = v.ownBlock ∨ v1.ownBlock = some ((w.setCell ⟨b, 1 + c, none⟩ (.int .i64 (num xs c + 1))).alloc o).heap.size) :
    PickRes b base t v xs c w (.returned (.tuple #[.int .i64 c, .int .i64 0])) (w1.setCell ⟨b, 17, none⟩ v1) := by
  have hb : b < w.heap.size := World.block_lt_of_cell? w _ h.hd
  have hs : ((w.setCell ⟨b, 1 + c, none⟩ (.int .i64 (num xs c + 1))).alloc o).heap.size = w.heap.size + 1 := by simp
  rw [hs] at hat
  have hblk : w1.heap[b]? = (w.setCell ⟨b, 1 + c, none⟩ (.int .i64 (num xs c + 1))).heap[b]? :=
    (hg1.block b (by rw [hs]; omega) (fun e => h.ne e.symm)).trans (Below.heap_alloc _ o b (by simpa using hb))
  have hcell : ∀ i, w1.cell? ⟨b, i, none⟩ = (w.setCell ⟨b, 1 + c, none⟩ (.int .i64 (num xs c + 1))).cell? ⟨b, i, none⟩ := fun i => World.cell?_of_block (a := ⟨b, i, none⟩) hblk
  have hfr : ∀ i, w1.frozen? ⟨b, i, none⟩ = false := fun i => (World.frozen?_of_block (a := ⟨b, i, none⟩) hblk).trans (by rw [World.frozen?_setCell]; exact h.fr i)
  have hne1 : v1.ownBlock ≠ some b := by
    rcases hat with e | e <;> rw [e]
    · exact h.ne
    · intro e; injection e; omega
  have hg2 : w1.grownBy (w1.setCell ⟨b, 17, none⟩ v1) (some b) := ⟨rfl, rfl, rfl, by simp, fun k _ hk => Below.heap_setCell _ _ _ _ (fun e => hk (by rw [e]))⟩
  refine ⟨rfl, v1, ⟨?_, ?_, ?_, ?_, ?_, hne1⟩, hg1.os, hg1.tape, hg1.output, ?_, ?_, ?_⟩
  · rw [World.cell?_setCell_other _ _ _ _ (by simp), hcell, World.cell?_setCell_other _ _ _ _ (by simp)]; exact h.hd
  · intro j hj
    rw [World.cell?_setCell_other _ _ _ _ (by simp), hcell, num_snoc]
    by_cases e : c = j
    · subst e
      rw [World.cell?_setCell_same _ _ _ (h.st c hc2)]; simp
    · rw [World.cell?_setCell_other _ _ _ _ (by simp), h.st j hj, if_neg (by omega)]; simp
  · have h17 : w1.cell? ⟨b, 17, none⟩ = some v := by rw [hcell, World.cell?_setCell_other _ _ _ _ (by simp)]; exact h.ch
    rw [World.cell?_setCell_same _ _ _ h17]
  · intro i; rw [World.frozen?_setCell]; exact hfr i
  · have := hown1.kept hg2 (Or.inr hne1)
    rw [List.length_append, List.map_append]; exact this
  · have := hg1.size; rw [hs] at this; simp; omega
  · intro k hk hkb hkv
    rw [Below.heap_setCell _ _ _ _ hkb, hg1.block k (by rw [hs]; omega) hkv, Below.heap_alloc _ o k (by simpa using hk), Below.heap_setCell _ _ _ _ hkb]
  · rcases hat with e | e
    · exact .inl e
    · exact .inr ⟨_, e, by omega⟩

theorem pick_walk (b base c : Nat) (t p : Int) (v : Value) (xs : List Int) (w : World) (h1 : 1 ≤ t) (h2 : t ≤ 16) (h : Sch w b base t v xs) (hx : xs.length ≤ 300) (hbase : base ≤ w.heap.size) (hc : p % t = (c : Int)) (hc2 : c < 16) :
    Calls Try.prog 23 #[.pointer (some ⟨b, 0, none⟩), .int .i64 p] w (PickRes b base t v xs c w) := by
  obtain ⟨i0, hi, hz0, hz1, hz2⟩ := info_parts int_info
  have hc0 : w.cell? ⟨b, 0, none⟩ = some (.int .i64 t) := h.hd
  have hcs : w.cell? ⟨b, 1 + c, none⟩ = some (.int .i64 (num xs c)) := h.st c hc2
  have hch : w.cell? ⟨b, 17, none⟩ = some v := h.ch
  have hf1 : w.frozen? ⟨b, 1 + c, none⟩ = false := h.fr _
  have hf2 : w.frozen? ⟨b, 17, none⟩ = false := h.fr _
  have hne1 : (⟨b, 1 + c, none⟩ : Addr) ≠ ⟨b, 17, none⟩ := by intro e; injection e; omega
  have hci : (c : Int) < 16 := by omega
  obtain ⟨n0, n1⟩ := num_bd xs c
  have HC := Lib.hid hc
  clear hc
  have H := Lib.hid h
  have hg0 : w.grownBy (w.setCell ⟨b, 1 + c, none⟩ (.int .i64 (num xs c + 1))) (some b) := ⟨rfl, rfl, rfl, by simp, fun k _ hk => Below.heap_setCell _ _ _ _ (fun e => hk (by rw [e]))⟩
  have HO := Lib.hid (h.own.kept hg0 (Or.inr h.ne))
  clear h hg0
  generalize hq : num xs c = q at *
  have HQ := Lib.hid hq
  clear hq
  go_enter Try.func23, Try.ntmps23
  go_wp2_with fail
  refine (chosen1 t p _ h1 h2).mono ?_
  rintro e w' ⟨rfl, rfl⟩
  rw [HC.out]
  go_wp2_with fail
  go_region
  go_wp2_with (at_builtin; go_loud (refine wpList_append_own_at _ rfl _ _ 23 rfl base 3 i0 (.int .i64 0) 1 8 Try.underlying23 hi hz0 hz1 hz2 rfl (by decide) v _ _ rfl (by exact HO.out.alloc _) ⟨w.heap.size, 0, none⟩ 1 1 [.int .i64 (c : Int)] rfl rfl ?c2 (one_one _) ?c3 ?c4 ?c5 ?_))
  case c2 =>
    intro j u hj
    have := news_one (w.setCell ⟨b, 1 + c, none⟩ (.int .i64 (q + 1))) c j u hj
    rw [show (w.setCell ⟨b, 1 + c, none⟩ (.int .i64 (q + 1))).heap.size = w.heap.size by simp] at this
    exact this
  case c3 => unfold maxLen; omega
  case c4 => omega
  case c5 => simp; omega
  intro v1 w1 hown1 hg1 _ hat1
  obtain ⟨A1, cap1, rfl⟩ := own_slice hown1
  have hb : b < w.heap.size := World.block_lt_of_cell? w _ hc0
  have hblk : w1.heap[b]? = (w.setCell ⟨b, 1 + c, none⟩ (.int .i64 (q + 1))).heap[b]? :=
    (hg1.block b (by simp; omega) (fun e => H.out.ne e.symm)).trans (Below.heap_alloc _ _ b (by simpa using hb))
  have h17 : w1.cell? ⟨b, 17, none⟩ = some v := by rw [World.cell?_of_block (a := ⟨b, 17, none⟩) hblk, World.cell?_setCell_other _ _ _ _ hne1]; exact hch
  have hfr : w1.frozen? ⟨b, 17, none⟩ = false := by rw [World.frozen?_of_block (a := ⟨b, 17, none⟩) hblk, World.frozen?_setCell]; exact hf2
  have HP := Lib.hid (pick_post (o := .cells #[.int .i64 c] 3) H.out hc2 hbase hown1 (by rw [HQ.out]; exact ⟨hg1.os, hg1.tape, hg1.output, hg1.size, hg1.block⟩) (by simpa using hat1))
  clear hown1 hg1 hat1 hblk hcs hch hf1 hf2 hc0
  go_wp2
  go_ret2
  exact HP.out

theorem new_yes (t : Int) (w : World) (h1 : 1 ≤ t) (h2 : t ≤ 16) :
    Calls Try.prog 22 #[.int .i64 t] w fun e w' => e = .returned (.tuple #[.pointer (some ⟨w.heap.size, 0, none⟩), .int .i64 0]) ∧ Sch w' w.heap.size (w.heap.size + 1) t (.slice none 0 0) [] ∧ Below w.heap.size w w' := by
  go_enter Try.func22, Try.ntmps22
  go_wp2_with ((with_reducible refine (valid_yes t _ h1 h2).mono ?_); rintro e w' ⟨rfl, rfl⟩)
  go_ret2
  refine ⟨rfl, ⟨?_, ?_, ?_, ?_, World.ownsRow_nil _ _ _ _, by simp [Value.ownBlock]⟩, (Below.refl _ _).alloc (Nat.le_refl _) _⟩
  · rw [World.cell?_alloc_at _ _ _ _ rfl]; rfl
  · intro j hj
    rw [World.cell?_alloc_at _ _ _ _ rfl, num_nil]
    rcases (show j = 0 ∨ j = 1 ∨ j = 2 ∨ j = 3 ∨ j = 4 ∨ j = 5 ∨ j = 6 ∨ j = 7 ∨ j = 8 ∨ j = 9 ∨ j = 10 ∨ j = 11 ∨ j = 12 ∨ j = 13 ∨ j = 14 ∨ j = 15 by omega) with rfl | rfl | rfl | rfl | rfl | rfl | rfl | rfl | rfl | rfl | rfl | rfl | rfl | rfl | rfl | rfl <;> rfl
  · rw [World.cell?_alloc_at _ _ _ _ rfl]; rfl
  · intro o; exact World.frozen?_alloc_at _ _ _ _ rfl
theorem new_no (t : Int) (w : World) (h : ¬ (1 ≤ t ∧ t ≤ 16)) : Calls Try.prog 22 #[.int .i64 t] w (PairRes (.pointer none) 2 w) := by
  have H := Lib.hid h
  clear h
  go_enter Try.func22, Try.ntmps22
  go_wp2_with ((with_reducible refine (valid_no t _ H.out).mono ?_); rintro e w' ⟨rfl, rfl⟩)
  go_ret2
  exact ⟨rfl, rfl⟩
theorem total_walk (b base : Nat) (t : Int) (v : Value) (xs : List Int) (w : World) (h : Sch w b base t v xs) : Calls Try.prog 25 #[.pointer (some ⟨b, 0, none⟩)] w fun e w' => e = .returned (.int .i64 xs.length) ∧ w = w' := by
  have hch : w.cell? ⟨b, 17, none⟩ = some v := h.ch
  obtain ⟨A1, cap1, rfl⟩ := own_slice h.own
  clear h
  go_enter Try.func25, Try.ntmps25
  go_wp2
  go_ret
  exact ⟨rfl, rfl⟩
theorem steps_in (b base j : Nat) (t : Int) (v : Value) (xs : List Int) (w : World) (h : Sch w b base t v xs) (hj : (j : Int) < t) (ht : t ≤ 16) : Calls Try.prog 24 #[.pointer (some ⟨b, 0, none⟩), .int .i64 j] w fun e w' => e = .returned (.int .i64 (num xs j)) ∧ w = w' := by
  have hc0 : w.cell? ⟨b, 0, none⟩ = some (.int .i64 t) := h.hd
  have hcs : w.cell? ⟨b, 1 + j, none⟩ = some (.int .i64 (num xs j)) := h.st j (by omega)
  have hji : (j : Int) < 16 := by omega
  clear h
  generalize num xs j = q at *
  go_enter Try.func24, Try.ntmps24
  go_wp2
  go_ret
  exact ⟨rfl, rfl⟩
theorem steps_out (b base : Nat) (j t : Int) (v : Value) (xs : List Int) (w : World) (h : Sch w b base t v xs) (hj : j < 0 ∨ t ≤ j) (ht : 1 ≤ t) : Calls Try.prog 24 #[.pointer (some ⟨b, 0, none⟩), .int .i64 j] w fun e w' => e = .returned (.int .i64 0) ∧ w = w' := by
  have hc0 : w.cell? ⟨b, 0, none⟩ = some (.int .i64 t) := h.hd
  clear h
  rcases hj with hj | hj
  all_goals
    go_enter Try.func24, Try.ntmps24
    go_wp2
    go_ret
    exact ⟨rfl, rfl⟩
end Go.Proofs.Ytppbknpiipfidaa
