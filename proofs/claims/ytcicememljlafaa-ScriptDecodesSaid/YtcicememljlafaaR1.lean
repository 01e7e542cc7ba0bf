/- Reading from a string, byte by byte: next, letter, word. -/
import Derived.Test.YtcicememljlafaaBld2
namespace Go.Proofs.Ytcicememljlafaa
open Go.RowKit

theorem toList_empty (s : ByteArray) : s.toList.isEmpty = decide (s.size = 0) := by
  rw [ByteArray.toList_eq]
  obtain ⟨⟨l⟩⟩ := s
  cases l <;> simp [ByteArray.size]
theorem wrap64_small {x : Int} (h1 : -9223372036854775808 ≤ x) (h2 : x ≤ 9223372036854775807) : wrap64 x = x := by unfold wrap64; omega
theorem ret_int {k : IntKind} {a b : Int} (h : a = b) : Ending.returned (.int k a) = .returned (.int k b) := by rw [h]

/-- The next byte, 0 if there is none; the rest. -/
def hd (s : ByteArray) : Int := if h : 0 < s.size then ((s[0]'h).toNat : Int) else 0
def tl (s : ByteArray) : ByteArray := if 0 < s.size then s.extract 1 s.size else s
theorem hd_bd (s : ByteArray) : 0 ≤ hd s ∧ hd s ≤ 255 := by
  unfold hd
  split
  · have := UInt8.toNat_lt (s[0]); omega
  · omega
theorem tl_size (s : ByteArray) : (tl s).size = s.size - 1 := by
  unfold tl
  split
  · simp
  · omega
def tlN (s : ByteArray) : Nat → ByteArray
  | 0 => s
  | k + 1 => tl (tlN s k)
theorem tlN_size (s : ByteArray) (k : Nat) : (tlN s k).size = s.size - k := by
  induction k with
  | zero => rfl
  | succ k ih => simp only [tlN]; rw [tl_size, ih]; omega

/-- The box in which the rest lies. -/
structure StrBox (w : World) (b : Nat) (t : TypeId) (s : ByteArray) : Prop where
  cell : w.cell? ⟨b, 0, none⟩ = some (.string s)
  elem : ElemT w b t
def NextRes (b : Nat) (t : TypeId) (s : ByteArray) (v : Value) (w : World) (e : Ending) (w' : World) : Prop :=
  e = .returned v ∧ StrBox w' b t s ∧ w.grownBy w' (some b)

theorem StrBox.set {w : World} {b : Nat} {t : TypeId} {s : ByteArray} (h : StrBox w b t s) (s' : ByteArray) : StrBox (w.setCell ⟨b, 0, none⟩ (.string s')) b t s' ∧ w.grownBy (w.setCell ⟨b, 0, none⟩ (.string s')) (some b) :=
  ⟨⟨set_cell_at _ h.cell, h.elem.set _ _ rfl⟩, set_grown _ _ _ _⟩

set_option maxHeartbeats 400000 in
theorem nextFn (n : Int) (b : Nat) (t : TypeId) (s : ByteArray) (w : World) (h : StrBox w b t s) (hm : s.size ≤ 3000) (h1 : 1 ≤ n) (h2 : n ≤ 200) :
    Calls Try.prog 26 #[.int .i64 n, .pointer (some ⟨b, 0, none⟩)] w (NextRes b t (tl s) (.int .i64 (hd s % n)) w) := by
  have hc := h.cell
  have hf := h.elem.frozen 0
  have HS := Lib.hid (h.set (s.extract 1 s.size))
  have HR := Lib.hid h
  clear h
  by_cases hs : 0 < s.size
  · have hse : s.toList.isEmpty = false := by rw [toList_empty, decide_eq_false_iff_not]; omega
    have hsi : (0 : Int) < (s.size : Int) := by omega
    have HD : Hid (hd s = ((s[0]'hs).toNat : Int)) := by show _ = _; simp [hd, hs]
    have HT : Hid (tl s = s.extract 1 s.size) := by show _ = _; simp [tl, hs]
    have hb := UInt8.toNat_lt (s[0]'hs)
    go_enter Try.func26, Try.ntmps26
    go_wp2
    go_ret
    refine ⟨?_, ?_⟩
    · rw [HD.out]
      exact ret_int rfl
    · rw [HT.out]; exact HS.out
  · have hse : s.toList.isEmpty = true := by rw [toList_empty, decide_eq_true_eq]; omega
    have HD : Hid (hd s % n = 0) := by show _ = _; simp [hd, hs]
    have HT : Hid (tl s = s) := by show _ = _; simp [tl, hs]
    clear hs
    go_enter Try.func26, Try.ntmps26
    go_wp2
    go_ret
    exact ⟨ret_int HD.out.symm, by rw [HT.out]; exact HR.out, World.grownBy.refl _ _⟩

set_option maxHeartbeats 400000 in
theorem refNext (n : Int) (b : Nat) (t : TypeId) (s : ByteArray) (w : World) (h : StrBox w b t s) (hm : s.size ≤ 3000) (h1 : 1 ≤ n) (h2 : n ≤ 200) :
    Calls Try.prog 30 #[.pointer (some ⟨b, 0, none⟩), .int .i64 n] w (NextRes b t (tl s) (.int .i64 (hd s % n)) w) := by
  have hc := h.cell
  have hf := h.elem.frozen 0
  have HS := Lib.hid (h.set (s.extract 1 s.size))
  have HR := Lib.hid h
  clear h
  by_cases hs : 0 < s.size
  · have hse : s.toList.isEmpty = false := by rw [toList_empty, decide_eq_false_iff_not]; omega
    have hsi : (0 : Int) < (s.size : Int) := by omega
    have HD : Hid (hd s = ((s[0]'hs).toNat : Int)) := by show _ = _; simp [hd, hs]
    have HT : Hid (tl s = s.extract 1 s.size) := by show _ = _; simp [tl, hs]
    have hb := UInt8.toNat_lt (s[0]'hs)
    go_enter Try.func30, Try.ntmps30
    go_wp2
    go_ret
    refine ⟨?_, ?_⟩
    · rw [HD.out]
      exact ret_int rfl
    · rw [HT.out]; exact HS.out
  · have hse : s.toList.isEmpty = true := by rw [toList_empty, decide_eq_true_eq]; omega
    have HD : Hid (hd s % n = 0) := by show _ = _; simp [hd, hs]
    have HT : Hid (tl s = s) := by show _ = _; simp [tl, hs]
    clear hs
    go_enter Try.func30, Try.ntmps30
    go_wp2
    go_ret
    exact ⟨ret_int HD.out.symm, by rw [HT.out]; exact HR.out, World.grownBy.refl _ _⟩

/-- The letters. -/
def letterOf (n : Int) : ByteArray :=
  if n = 0 then ⟨#[97]⟩ else if n = 1 then ⟨#[98]⟩ else if n = 2 then ⟨#[99]⟩ else if n = 3 then ⟨#[100]⟩ else if n = 4 then ⟨#[10]⟩ else if n = 5 then ⟨#[195, 169]⟩ else if n = 6 then ⟨#[226, 130, 172]⟩ else ⟨#[240, 144, 141, 136]⟩
theorem idx0 (w : World) : (Instr.index 79 (.agg #[.string ⟨#[97]⟩, .string ⟨#[98]⟩, .string ⟨#[99]⟩, .string ⟨#[100]⟩, .string ⟨#[10]⟩, .string ⟨#[195, 169]⟩, .string ⟨#[226, 130, 172]⟩, .string ⟨#[240, 144, 141, 136]⟩]) (.int .i64 0)).run Try.prog w = .ok (.string ⟨#[97]⟩) w := by kernel_rfl
theorem idx1 (w : World) : (Instr.index 79 (.agg #[.string ⟨#[97]⟩, .string ⟨#[98]⟩, .string ⟨#[99]⟩, .string ⟨#[100]⟩, .string ⟨#[10]⟩, .string ⟨#[195, 169]⟩, .string ⟨#[226, 130, 172]⟩, .string ⟨#[240, 144, 141, 136]⟩]) (.int .i64 1)).run Try.prog w = .ok (.string ⟨#[98]⟩) w := by kernel_rfl
theorem idx2 (w : World) : (Instr.index 79 (.agg #[.string ⟨#[97]⟩, .string ⟨#[98]⟩, .string ⟨#[99]⟩, .string ⟨#[100]⟩, .string ⟨#[10]⟩, .string ⟨#[195, 169]⟩, .string ⟨#[226, 130, 172]⟩, .string ⟨#[240, 144, 141, 136]⟩]) (.int .i64 2)).run Try.prog w = .ok (.string ⟨#[99]⟩) w := by kernel_rfl
theorem idx3 (w : World) : (Instr.index 79 (.agg #[.string ⟨#[97]⟩, .string ⟨#[98]⟩, .string ⟨#[99]⟩, .string ⟨#[100]⟩, .string ⟨#[10]⟩, .string ⟨#[195, 169]⟩, .string ⟨#[226, 130, 172]⟩, .string ⟨#[240, 144, 141, 136]⟩]) (.int .i64 3)).run Try.prog w = .ok (.string ⟨#[100]⟩) w := by kernel_rfl
theorem idx4 (w : World) : (Instr.index 79 (.agg #[.string ⟨#[97]⟩, .string ⟨#[98]⟩, .string ⟨#[99]⟩, .string ⟨#[100]⟩, .string ⟨#[10]⟩, .string ⟨#[195, 169]⟩, .string ⟨#[226, 130, 172]⟩, .string ⟨#[240, 144, 141, 136]⟩]) (.int .i64 4)).run Try.prog w = .ok (.string ⟨#[10]⟩) w := by kernel_rfl
theorem idx5 (w : World) : (Instr.index 79 (.agg #[.string ⟨#[97]⟩, .string ⟨#[98]⟩, .string ⟨#[99]⟩, .string ⟨#[100]⟩, .string ⟨#[10]⟩, .string ⟨#[195, 169]⟩, .string ⟨#[226, 130, 172]⟩, .string ⟨#[240, 144, 141, 136]⟩]) (.int .i64 5)).run Try.prog w = .ok (.string ⟨#[195, 169]⟩) w := by kernel_rfl
theorem idx6 (w : World) : (Instr.index 79 (.agg #[.string ⟨#[97]⟩, .string ⟨#[98]⟩, .string ⟨#[99]⟩, .string ⟨#[100]⟩, .string ⟨#[10]⟩, .string ⟨#[195, 169]⟩, .string ⟨#[226, 130, 172]⟩, .string ⟨#[240, 144, 141, 136]⟩]) (.int .i64 6)).run Try.prog w = .ok (.string ⟨#[226, 130, 172]⟩) w := by kernel_rfl
theorem idx7 (w : World) : (Instr.index 79 (.agg #[.string ⟨#[97]⟩, .string ⟨#[98]⟩, .string ⟨#[99]⟩, .string ⟨#[100]⟩, .string ⟨#[10]⟩, .string ⟨#[195, 169]⟩, .string ⟨#[226, 130, 172]⟩, .string ⟨#[240, 144, 141, 136]⟩]) (.int .i64 7)).run Try.prog w = .ok (.string ⟨#[240, 144, 141, 136]⟩) w := by kernel_rfl
set_option maxRecDepth 100000 in
theorem letterFn (n : Int) (w : World) (h1 : 0 ≤ n) (h2 : n < 8) : Calls Try.prog 28 #[.int .i64 n] w fun e w' => e = .returned (.string (letterOf n)) ∧ w = w' := by
  have hn : n = 0 ∨ n = 1 ∨ n = 2 ∨ n = 3 ∨ n = 4 ∨ n = 5 ∨ n = 6 ∨ n = 7 := by omega
  clear h1 h2
  rcases hn with rfl | rfl | rfl | rfl | rfl | rfl | rfl | rfl
  · have hi := idx0
    go_enter Try.func28, Try.ntmps28
    go_wp2
    go_ret
    exact ⟨rfl, rfl⟩
  · have hi := idx1
    go_enter Try.func28, Try.ntmps28
    go_wp2
    go_ret
    exact ⟨rfl, rfl⟩
  · have hi := idx2
    go_enter Try.func28, Try.ntmps28
    go_wp2
    go_ret
    exact ⟨rfl, rfl⟩
  · have hi := idx3
    go_enter Try.func28, Try.ntmps28
    go_wp2
    go_ret
    exact ⟨rfl, rfl⟩
  · have hi := idx4
    go_enter Try.func28, Try.ntmps28
    go_wp2
    go_ret
    exact ⟨rfl, rfl⟩
  · have hi := idx5
    go_enter Try.func28, Try.ntmps28
    go_wp2
    go_ret
    exact ⟨rfl, rfl⟩
  · have hi := idx6
    go_enter Try.func28, Try.ntmps28
    go_wp2
    go_ret
    exact ⟨rfl, rfl⟩
  · have hi := idx7
    go_enter Try.func28, Try.ntmps28
    go_wp2
    go_ret
    exact ⟨rfl, rfl⟩
/-- The text of k letters that are read from s. -/
def letT (s : ByteArray) : Nat → ByteArray
  | 0 => ByteArray.empty
  | k + 1 => letT s k ++ letterOf (hd (tlN s k) % 8)
theorem letT_succ (s : ByteArray) (k : Nat) : letT s (k + 1) = letT s k ++ letterOf (hd (tlN s k) % 8) := rfl
theorem tlN_succ (s : ByteArray) (k : Nat) : tlN s (k + 1) = tl (tlN s k) := rfl
theorem letterOf_size (n : Int) : (letterOf n).size ≤ 4 := by
  unfold letterOf
  repeat' split
  all_goals decide
theorem letT_size (s : ByteArray) (k : Nat) : (letT s k).size ≤ 4 * k := by
  induction k with
  | zero => simp [letT]
  | succ k ih =>
    simp only [letT, ByteArray.size_append]
    have := letterOf_size (hd (tlN s k) % 8)
    omega
theorem grown_trans {a b c : World} {q : Nat} (h : a.grownBy b (some q)) (k : b.grownBy c (some q)) : a.grownBy c (some q) :=
  ⟨k.os.trans h.os, k.tape.trans h.tape, k.output.trans h.output, Nat.le_trans h.size k.size, fun i hi hne => (k.block i (Nat.lt_of_lt_of_le hi h.size) hne).trans (h.block i hi hne)⟩
theorem StrBox.grownN {w w' : World} {b : Nat} {t : TypeId} {s : ByteArray} (h : StrBox w b t s) (hk : w'.heap[b]? = w.heap[b]?) : StrBox w' b t s :=
  ⟨(World.cell?_of_block (a := ⟨b, 0, none⟩) hk).trans h.cell, h.elem.keep hk⟩

set_option maxHeartbeats 800000 in
set_option maxRecDepth 100000 in
theorem wordFn (most : Int) (b f : Nat) (t : TypeId) (s : ByteArray) (w : World) (h : StrBox w b t s) (hf : w.cell? ⟨f, 0, none⟩ = some (.func (.func 26) #[] #[.pointer (some ⟨b, 0, none⟩)])) (hfb : f ≠ b) (hm : s.size ≤ 3000) (h1 : 1 ≤ most) (h2 : most ≤ 40) :
    Calls Try.prog 27 #[.int .i64 most, .pointer (some ⟨f, 0, none⟩)] w (NextRes b t (tlN (tl s) (hd s % most).toNat) (.string (letT (tl s) (hd s % most).toNat)) w) := by
  have H1 := Lib.hid (nextFn most b t s w h hm h1 (by omega))
  have hlt := World.block_lt_of_cell? w ⟨f, 0, none⟩ hf
  have hm0 := Int.emod_nonneg (hd s) (show most ≠ 0 by omega)
  have hml := Int.emod_lt_of_pos (hd s) (show 0 < most by omega)
  have hts := tl_size s
  obtain ⟨m, hm2⟩ := Int.eq_ofNat_of_zero_le hm0
  have HM := Lib.hid hm2
  rw [hm2] at H1 ⊢
  rw [Int.toNat_natCast]
  clear h hm2 hm0
  have hmb : m < 40 := by have := HM.out; omega
  clear hml
  generalize tl s = s1 at *
  have hs1 : s1.size ≤ 3000 := by omega
  clear hts
  go_enter Try.func27, Try.ntmps27
  go_wp2_with fail
  refine H1.out.mono ?_
  rintro e w1 ⟨rfl, hb1, hg1⟩
  go_wp2
  go_loopw [4, 8] (fun tx i wr => ∃ k : Nat, k ≤ m ∧ i = .int .i64 k ∧ tx = .string (letT s1 k) ∧ StrBox wr b t (tlN s1 k) ∧ w.grownBy wr (some b)) (fun _ i _ => m - (intOf i).toNat)
  case atStart => exact ⟨0, Nat.zero_le _, rfl, rfl, hb1, hg1⟩
  case round =>
    obtain ⟨k, hk, rfl, rfl, hbx, hgx⟩ := hrel
    by_cases hlt2 : k < m
    · have hff : wr.cell? ⟨f, 0, none⟩ = some (.func (.func 26) #[] #[.pointer (some ⟨b, 0, none⟩)]) := (World.cell?_of_block (a := ⟨f, 0, none⟩) (hgx.block f hlt (by intro e; injection e; contradiction))).trans hf
      have hz := tlN_size s1 k
      have H2 := Lib.hid (nextFn 8 b t (tlN s1 k) wr hbx (by omega) (by omega) (by omega))
      have hq0 := Int.emod_nonneg (hd (tlN s1 k)) (show (8 : Int) ≠ 0 by omega)
      have hql := Int.emod_lt_of_pos (hd (tlN s1 k)) (show (0 : Int) < 8 by omega)
      have HL := Lib.hid (letT_succ s1 k)
      have HTS := Lib.hid (tlN_succ s1 k)
      have hsz := letT_size s1 k
      clear hbx hz
      generalize hd (tlN s1 k) % 8 = q at *
      generalize tl (tlN s1 k) = s2 at *
      generalize letT s1 k = tx at *
      have hlo := letterOf_size q
      go_wp2_with fail
      refine H2.out.mono ?_
      rintro e w2 ⟨rfl, hb2, hg2⟩
      have hff2 : w2.cell? ⟨f, 0, none⟩ = some (.func (.func 26) #[] #[.pointer (some ⟨b, 0, none⟩)]) := (World.cell?_of_block (a := ⟨f, 0, none⟩) (hg2.block f (Nat.lt_of_lt_of_le hlt hgx.size) (by intro e; injection e; contradiction))).trans hff
      go_wp2_with ((with_reducible refine (letterFn q _ hq0 hql).mono ?_); rintro e w' ⟨rfl, rfl⟩)
      go_roundw
      case rel => exact ⟨k + 1, by omega, by go_num, by rw [HL.out], by rw [HTS.out]; exact hb2, grown_trans hgx hg2⟩
      case measure => simp [intOf]; omega
    · obtain rfl : k = m := by omega
      go_wp2
      go_ret
      exact ⟨rfl, hbx, hgx⟩

/-- The reference's letters: the same text out of the same bytes. -/
theorem idx_at (w : World) (b : Nat) (q : Int) (h0 : 0 ≤ q) (h8 : q < 8)
    (hc : ∀ j u, ([⟨#[97]⟩, ⟨#[98]⟩, ⟨#[99]⟩, ⟨#[100]⟩, ⟨#[10]⟩, ⟨#[195, 169]⟩, ⟨#[226, 130, 172]⟩, ⟨#[240, 144, 141, 136]⟩] : List ByteArray)[j]? = some u → w.cell? ⟨b, j, none⟩ = some (.string u)) :
    w.cell? ⟨b, q.toNat, none⟩ = some (.string (letterOf q)) := by
  have hn : q = 0 ∨ q = 1 ∨ q = 2 ∨ q = 3 ∨ q = 4 ∨ q = 5 ∨ q = 6 ∨ q = 7 := by omega
  rcases hn with rfl | rfl | rfl | rfl | rfl | rfl | rfl | rfl
  all_goals exact hc _ _ rfl

abbrev lettersObj : Obj := .cells #[.string ⟨#[97]⟩, .string ⟨#[98]⟩, .string ⟨#[99]⟩, .string ⟨#[100]⟩, .string ⟨#[10]⟩, .string ⟨#[195, 169]⟩, .string ⟨#[226, 130, 172]⟩, .string ⟨#[240, 144, 141, 136]⟩] 79
set_option maxHeartbeats 800000 in
set_option maxRecDepth 100000 in
theorem refLetters (m : Nat) (b : Nat) (t : TypeId) (s1 : ByteArray) (w : World) (h : StrBox w b t s1) (hs1 : s1.size ≤ 3000) (hmb : m < 40) :
    Calls Try.prog 31 #[.pointer (some ⟨b, 0, none⟩), .int .i64 m] w (NextRes b t (tlN s1 m) (.string (letT s1 m)) w) := by
  have HS := Lib.hid h
  have hbl := h.elem.lt
  clear h
  go_enter Try.func31, Try.ntmps31
  go_wp2
  go_loopw [6, 7] (fun tx i wr => ∃ k : Nat, k ≤ m ∧ i = .int .i64 k ∧ tx = .string (letT s1 k) ∧ StrBox wr b t (tlN s1 k) ∧ (w.alloc lettersObj).grownBy wr (some b)) (fun _ i _ => m - (intOf i).toNat)
  case atStart => exact ⟨0, Nat.zero_le _, rfl, rfl, HS.out.grownN (Below.heap_alloc _ _ _ hbl), World.grownBy.refl _ _⟩
  case round =>
    obtain ⟨k, hk, rfl, rfl, hbx, hgx⟩ := hrel
    by_cases hlt2 : k < m
    · have hz := tlN_size s1 k
      have H2 := Lib.hid (refNext 8 b t (tlN s1 k) wr hbx (by omega) (by omega) (by omega))
      have hq0 := Int.emod_nonneg (hd (tlN s1 k)) (show (8 : Int) ≠ 0 by omega)
      have hql := Int.emod_lt_of_pos (hd (tlN s1 k)) (show (0 : Int) < 8 by omega)
      have HL := Lib.hid (letT_succ s1 k)
      have HTS := Lib.hid (tlN_succ s1 k)
      have hsz := letT_size s1 k
      clear hbx hz
      generalize hd (tlN s1 k) % 8 = q at *
      generalize tl (tlN s1 k) = s2 at *
      generalize letT s1 k = tx at *
      have hlo := letterOf_size q
      go_wp2_with fail
      refine H2.out.mono ?_
      rintro e w2 ⟨rfl, hb2, hg2⟩
      have hgw := grown_trans hgx hg2
      have hcell : w2.cell? ⟨w.heap.size, q.toNat, none⟩ = some (.string (letterOf q)) := by
        refine idx_at w2 w.heap.size q hq0 hql fun j u hj => ?_
        rw [World.cell?_of_block (a := ⟨w.heap.size, j, none⟩) (hgw.block w.heap.size (by simp) (by intro e; injection e; omega)), World.cell?_alloc_at _ _ _ _ rfl]
        match j, hj with
        | 0, hj | 1, hj | 2, hj | 3, hj | 4, hj | 5, hj | 6, hj | 7, hj => simp at hj; subst hj; rfl
        | j + 8, hj => simp at hj
      go_wp2
      go_roundw
      case rel => exact ⟨k + 1, by omega, by go_num, by rw [HL.out], by rw [HTS.out]; exact hb2, hgw⟩
      case measure => simp [intOf]; omega
    · obtain rfl : k = m := by omega
      go_wp2
      go_ret
      have hga : w.grownBy (w.alloc lettersObj) (some b) := ⟨rfl, rfl, rfl, by simp, fun q hq _ => Below.heap_alloc _ _ _ hq⟩
      exact ⟨rfl, hbx, grown_trans hga hgx⟩
end Go.Proofs.Ytcicememljlafaa
