/- Merged texts: R1, R2, R3. -/
import Derived.Test.YtbjadgggpkbjmaaGreatGa
import Derived.Deep.DeepCutAuto
namespace Go.Proofs.YtbjadgggpkbjmaaGreat
open Go.RowKit

theorem toList_empty (s : ByteArray) : s.toList.isEmpty = decide (s.size = 0) := by
  rw [ByteArray.toList_eq]
  obtain ⟨⟨l⟩⟩ := s
  cases l <;> simp [ByteArray.size]
theorem wrap64_small {x : Int} (h1 : -9223372036854775808 ≤ x) (h2 : x ≤ 9223372036854775807) : wrap64 x = x := by unfold wrap64; omega
theorem ret_int {k : IntKind} {a b : Int} (h : a = b) : Ending.returned (.int k a) = .returned (.int k b) := by rw [h]

/-- The next byte, 0 if there is none; the rest. -/
def hd (s : ByteArray) : Int := if h : 0 < s.size then ((s[0]'h).toNat : Int) else 0
def tl (s : ByteArray) : ByteArray := if 0 < s.size then s.extract 1 s.size else s
theorem hd_bd (s : ByteArray) : 0 ≤ hd s ∧ hd s ≤ 255 := by
  unfold hd
  split
  · have := UInt8.toNat_lt (s[0]); omega
  · omega
theorem tl_size (s : ByteArray) : (tl s).size = s.size - 1 := by
  unfold tl
  split
  · simp
  · omega
def tlN (s : ByteArray) : Nat → ByteArray
  | 0 => s
  | k + 1 => tl (tlN s k)
theorem tlN_size (s : ByteArray) (k : Nat) : (tlN s k).size = s.size - k := by
  induction k with
  | zero => rfl
  | succ k ih => simp only [tlN]; rw [tl_size, ih]; omega

/-- The box in which the rest lies. -/
structure StrBox (w : World) (b : Nat) (t : TypeId) (s : ByteArray) : Prop where
  cell : w.cell? ⟨b, 0, none⟩ = some (.string s)
  elem : ElemT w b t
def NextRes (b : Nat) (t : TypeId) (s : ByteArray) (v : Value) (w : World) (e : Ending) (w' : World) : Prop :=
  e = .returned v ∧ StrBox w' b t s ∧ w.grownBy w' (some b)

theorem StrBox.set {w : World} {b : Nat} {t : TypeId} {s : ByteArray} (h : StrBox w b t s) (s' : ByteArray) : StrBox (w.setCell ⟨b, 0, none⟩ (.string s')) b t s' ∧ w.grownBy (w.setCell ⟨b, 0, none⟩ (.string s')) (some b) :=
  ⟨⟨set_cell_at _ h.cell, h.elem.set _ _ rfl⟩, set_grown _ _ _ _⟩

set_option maxHeartbeats 400000 in
theorem nextFn (n : Int) (b : Nat) (t : TypeId) (s : ByteArray) (w : World) (h : StrBox w b t s) (hm : s.size ≤ 3000) (h1 : 1 ≤ n) (h2 : n ≤ 200) :
    Calls Tryz.prog 10 #[.int .i64 n, .pointer (some ⟨b, 0, none⟩)] w (NextRes b t (tl s) (.int .i64 (hd s % n)) w) := by
  have hc := h.cell
  have hf := h.elem.frozen 0
  have HS := Lib.hid (h.set (s.extract 1 s.size))
  have HR := Lib.hid h
  clear h
  by_cases hs : 0 < s.size
  · have hse : s.toList.isEmpty = false := by rw [toList_empty, decide_eq_false_iff_not]; omega
    have hsi : (0 : Int) < (s.size : Int) := by omega
    have HD : Hid (hd s = ((s[0]'hs).toNat : Int)) := by show _ = _; simp [hd, hs]
    have HT : Hid (tl s = s.extract 1 s.size) := by show _ = _; simp [tl, hs]
    have hb := UInt8.toNat_lt (s[0]'hs)
    go_enter Tryz.func10, Tryz.ntmps10
    go_wp2
    go_ret
    refine ⟨?_, ?_⟩
    · rw [HD.out]
      exact ret_int rfl
    · rw [HT.out]; exact HS.out
  · have hse : s.toList.isEmpty = true := by rw [toList_empty, decide_eq_true_eq]; omega
    have HD : Hid (hd s % n = 0) := by show _ = _; simp [hd, hs]
    have HT : Hid (tl s = s) := by show _ = _; simp [tl, hs]
    clear hs
    go_enter Tryz.func10, Tryz.ntmps10
    go_wp2
    go_ret
    exact ⟨ret_int HD.out.symm, by rw [HT.out]; exact HR.out, World.grownBy.refl _ _⟩

/-- The letters. -/
def letterOf (n : Int) : ByteArray :=
  if n = 0 then ⟨#[97]⟩ else if n = 1 then ⟨#[98]⟩ else if n = 2 then ⟨#[99]⟩ else if n = 3 then ⟨#[100]⟩ else if n = 4 then ⟨#[10]⟩ else if n = 5 then ⟨#[195, 169]⟩ else if n = 6 then ⟨#[226, 130, 172]⟩ else ⟨#[240, 144, 141, 136]⟩
theorem idx0 (w : World) : (Instr.index 81 (.agg #[.string ⟨#[97]⟩, .string ⟨#[98]⟩, .string ⟨#[99]⟩, .string ⟨#[100]⟩, .string ⟨#[10]⟩, .string ⟨#[195, 169]⟩, .string ⟨#[226, 130, 172]⟩, .string ⟨#[240, 144, 141, 136]⟩]) (.int .i64 0)).run Tryz.prog w = .ok (.string ⟨#[97]⟩) w := by kernel_rfl
theorem idx1 (w : World) : (Instr.index 81 (.agg #[.string ⟨#[97]⟩, .string ⟨#[98]⟩, .string ⟨#[99]⟩, .string ⟨#[100]⟩, .string ⟨#[10]⟩, .string ⟨#[195, 169]⟩, .string ⟨#[226, 130, 172]⟩, .string ⟨#[240, 144, 141, 136]⟩]) (.int .i64 1)).run Tryz.prog w = .ok (.string ⟨#[98]⟩) w := by kernel_rfl
theorem idx2 (w : World) : (Instr.index 81 (.agg #[.string ⟨#[97]⟩, .string ⟨#[98]⟩, .string ⟨#[99]⟩, .string ⟨#[100]⟩, .string ⟨#[10]⟩, .string ⟨#[195, 169]⟩, .string ⟨#[226, 130, 172]⟩, .string ⟨#[240, 144, 141, 136]⟩]) (.int .i64 2)).run Tryz.prog w = .ok (.string ⟨#[99]⟩) w := by kernel_rfl
theorem idx3 (w : World) : (Instr.index 81 (.agg #[.string ⟨#[97]⟩, .string ⟨#[98]⟩, .string ⟨#[99]⟩, .string ⟨#[100]⟩, .string ⟨#[10]⟩, .string ⟨#[195, 169]⟩, .string ⟨#[226, 130, 172]⟩, .string ⟨#[240, 144, 141, 136]⟩]) (.int .i64 3)).run Tryz.prog w = .ok (.string ⟨#[100]⟩) w := by kernel_rfl
theorem idx4 (w : World) : (Instr.index 81 (.agg #[.string ⟨#[97]⟩, .string ⟨#[98]⟩, .string ⟨#[99]⟩, .string ⟨#[100]⟩, .string ⟨#[10]⟩, .string ⟨#[195, 169]⟩, .string ⟨#[226, 130, 172]⟩, .string ⟨#[240, 144, 141, 136]⟩]) (.int .i64 4)).run Tryz.prog w = .ok (.string ⟨#[10]⟩) w := by kernel_rfl
theorem idx5 (w : World) : (Instr.index 81 (.agg #[.string ⟨#[97]⟩, .string ⟨#[98]⟩, .string ⟨#[99]⟩, .string ⟨#[100]⟩, .string ⟨#[10]⟩, .string ⟨#[195, 169]⟩, .string ⟨#[226, 130, 172]⟩, .string ⟨#[240, 144, 141, 136]⟩]) (.int .i64 5)).run Tryz.prog w = .ok (.string ⟨#[195, 169]⟩) w := by kernel_rfl
theorem idx6 (w : World) : (Instr.index 81 (.agg #[.string ⟨#[97]⟩, .string ⟨#[98]⟩, .string ⟨#[99]⟩, .string ⟨#[100]⟩, .string ⟨#[10]⟩, .string ⟨#[195, 169]⟩, .string ⟨#[226, 130, 172]⟩, .string ⟨#[240, 144, 141, 136]⟩]) (.int .i64 6)).run Tryz.prog w = .ok (.string ⟨#[226, 130, 172]⟩) w := by kernel_rfl
theorem idx7 (w : World) : (Instr.index 81 (.agg #[.string ⟨#[97]⟩, .string ⟨#[98]⟩, .string ⟨#[99]⟩, .string ⟨#[100]⟩, .string ⟨#[10]⟩, .string ⟨#[195, 169]⟩, .string ⟨#[226, 130, 172]⟩, .string ⟨#[240, 144, 141, 136]⟩]) (.int .i64 7)).run Tryz.prog w = .ok (.string ⟨#[240, 144, 141, 136]⟩) w := by kernel_rfl
set_option maxRecDepth 100000 in
theorem letterFn (n : Int) (w : World) (h1 : 0 ≤ n) (h2 : n < 8) : Calls Tryz.prog 12 #[.int .i64 n] w fun e w' => e = .returned (.string (letterOf n)) ∧ w = w' := by
  have hn : n = 0 ∨ n = 1 ∨ n = 2 ∨ n = 3 ∨ n = 4 ∨ n = 5 ∨ n = 6 ∨ n = 7 := by omega
  clear h1 h2
  rcases hn with rfl | rfl | rfl | rfl | rfl | rfl | rfl | rfl
  · have hi := idx0
    go_enter Tryz.func12, Tryz.ntmps12
    go_wp2
    go_ret
    exact ⟨rfl, rfl⟩
  · have hi := idx1
    go_enter Tryz.func12, Tryz.ntmps12
    go_wp2
    go_ret
    exact ⟨rfl, rfl⟩
  · have hi := idx2
    go_enter Tryz.func12, Tryz.ntmps12
    go_wp2
    go_ret
    exact ⟨rfl, rfl⟩
  · have hi := idx3
    go_enter Tryz.func12, Tryz.ntmps12
    go_wp2
    go_ret
    exact ⟨rfl, rfl⟩
  · have hi := idx4
    go_enter Tryz.func12, Tryz.ntmps12
    go_wp2
    go_ret
    exact ⟨rfl, rfl⟩
  · have hi := idx5
    go_enter Tryz.func12, Tryz.ntmps12
    go_wp2
    go_ret
    exact ⟨rfl, rfl⟩
  · have hi := idx6
    go_enter Tryz.func12, Tryz.ntmps12
    go_wp2
    go_ret
    exact ⟨rfl, rfl⟩
  · have hi := idx7
    go_enter Tryz.func12, Tryz.ntmps12
    go_wp2
    go_ret
    exact ⟨rfl, rfl⟩
/-- The text of k letters that are read from s. -/
def letT (s : ByteArray) : Nat → ByteArray
  | 0 => ByteArray.empty
  | k + 1 => letT s k ++ letterOf (hd (tlN s k) % 8)
theorem letT_succ (s : ByteArray) (k : Nat) : letT s (k + 1) = letT s k ++ letterOf (hd (tlN s k) % 8) := rfl
theorem tlN_succ (s : ByteArray) (k : Nat) : tlN s (k + 1) = tl (tlN s k) := rfl
theorem letterOf_size (n : Int) : (letterOf n).size ≤ 4 := by
  unfold letterOf
  repeat' split
  all_goals decide
theorem letT_size (s : ByteArray) (k : Nat) : (letT s k).size ≤ 4 * k := by
  induction k with
  | zero => simp [letT]
  | succ k ih =>
    simp only [letT, ByteArray.size_append]
    have := letterOf_size (hd (tlN s k) % 8)
    omega
theorem grown_trans {a b c : World} {q : Nat} (h : a.grownBy b (some q)) (k : b.grownBy c (some q)) : a.grownBy c (some q) :=
  ⟨k.os.trans h.os, k.tape.trans h.tape, k.output.trans h.output, Nat.le_trans h.size k.size, fun i hi hne => (k.block i (Nat.lt_of_lt_of_le hi h.size) hne).trans (h.block i hi hne)⟩
theorem StrBox.grownN {w w' : World} {b : Nat} {t : TypeId} {s : ByteArray} (h : StrBox w b t s) (hk : w'.heap[b]? = w.heap[b]?) : StrBox w' b t s :=
  ⟨(World.cell?_of_block (a := ⟨b, 0, none⟩) hk).trans h.cell, h.elem.keep hk⟩

set_option maxHeartbeats 800000 in
set_option maxRecDepth 100000 in
theorem wordFn (most : Int) (b f : Nat) (t : TypeId) (s : ByteArray) (w : World) (h : StrBox w b t s) (hf : w.cell? ⟨f, 0, none⟩ = some (.func (.func 10) #[] #[.pointer (some ⟨b, 0, none⟩)])) (hfb : f ≠ b) (hm : s.size ≤ 3000) (h1 : 1 ≤ most) (h2 : most ≤ 40) :
    Calls Tryz.prog 11 #[.int .i64 most, .pointer (some ⟨f, 0, none⟩)] w (NextRes b t (tlN (tl s) (hd s % most).toNat) (.string (letT (tl s) (hd s % most).toNat)) w) := by
  have H1 := Lib.hid (nextFn most b t s w h hm h1 (by omega))
  have hlt := World.block_lt_of_cell? w ⟨f, 0, none⟩ hf
  have hm0 := Int.emod_nonneg (hd s) (show most ≠ 0 by omega)
  have hml := Int.emod_lt_of_pos (hd s) (show 0 < most by omega)
  have hts := tl_size s
  obtain ⟨m, hm2⟩ := Int.eq_ofNat_of_zero_le hm0
  have HM := Lib.hid hm2
  rw [hm2] at H1 ⊢
  rw [Int.toNat_natCast]
  clear h hm2 hm0
  have hmb : m < 40 := by have := HM.out; omega
  clear hml
  generalize tl s = s1 at *
  have hs1 : s1.size ≤ 3000 := by omega
  clear hts
  go_enter Tryz.func11, Tryz.ntmps11
  go_wp2_with fail
  refine H1.out.mono ?_
  rintro e w1 ⟨rfl, hb1, hg1⟩
  go_wp2
  go_loopw [4, 8] (fun tx i wr => ∃ k : Nat, k ≤ m ∧ i = .int .i64 k ∧ tx = .string (letT s1 k) ∧ StrBox wr b t (tlN s1 k) ∧ w.grownBy wr (some b)) (fun _ i _ => m - (intOf i).toNat)
  case atStart => exact ⟨0, Nat.zero_le _, rfl, rfl, hb1, hg1⟩
  case round =>
    obtain ⟨k, hk, rfl, rfl, hbx, hgx⟩ := hrel
    by_cases hlt2 : k < m
    · have hff : wr.cell? ⟨f, 0, none⟩ = some (.func (.func 10) #[] #[.pointer (some ⟨b, 0, none⟩)]) := (World.cell?_of_block (a := ⟨f, 0, none⟩) (hgx.block f hlt (by intro e; injection e; contradiction))).trans hf
      have hz := tlN_size s1 k
      have H2 := Lib.hid (nextFn 8 b t (tlN s1 k) wr hbx (by omega) (by omega) (by omega))
      have hq0 := Int.emod_nonneg (hd (tlN s1 k)) (show (8 : Int) ≠ 0 by omega)
      have hql := Int.emod_lt_of_pos (hd (tlN s1 k)) (show (0 : Int) < 8 by omega)
      have HL := Lib.hid (letT_succ s1 k)
      have HTS := Lib.hid (tlN_succ s1 k)
      have hsz := letT_size s1 k
      clear hbx hz
      generalize hd (tlN s1 k) % 8 = q at *
      generalize tl (tlN s1 k) = s2 at *
      generalize letT s1 k = tx at *
      have hlo := letterOf_size q
      go_wp2_with fail
      refine H2.out.mono ?_
      rintro e w2 ⟨rfl, hb2, hg2⟩
      have hff2 : w2.cell? ⟨f, 0, none⟩ = some (.func (.func 10) #[] #[.pointer (some ⟨b, 0, none⟩)]) := (World.cell?_of_block (a := ⟨f, 0, none⟩) (hg2.block f (Nat.lt_of_lt_of_le hlt hgx.size) (by intro e; injection e; contradiction))).trans hff
      go_wp2_with ((with_reducible refine (letterFn q _ hq0 hql).mono ?_); rintro e w' ⟨rfl, rfl⟩)
      go_roundw
      case rel => exact ⟨k + 1, by omega, by go_num, by rw [HL.out], by rw [HTS.out]; exact hb2, grown_trans hgx hg2⟩
      case measure => simp [intOf]; omega
    · obtain rfl : k = m := by omega
      go_wp2
      go_ret
      exact ⟨rfl, hbx, hgx⟩

/-- The reference's letters: the same text out of the same bytes. -/
theorem idx_at (w : World) (b : Nat) (q : Int) (h0 : 0 ≤ q) (h8 : q < 8)
    (hc : ∀ j u, ([⟨#[97]⟩, ⟨#[98]⟩, ⟨#[99]⟩, ⟨#[100]⟩, ⟨#[10]⟩, ⟨#[195, 169]⟩, ⟨#[226, 130, 172]⟩, ⟨#[240, 144, 141, 136]⟩] : List ByteArray)[j]? = some u → w.cell? ⟨b, j, none⟩ = some (.string u)) :
    w.cell? ⟨b, q.toNat, none⟩ = some (.string (letterOf q)) := by
  have hn : q = 0 ∨ q = 1 ∨ q = 2 ∨ q = 3 ∨ q = 4 ∨ q = 5 ∨ q = 6 ∨ q = 7 := by omega
  rcases hn with rfl | rfl | rfl | rfl | rfl | rfl | rfl | rfl
  all_goals exact hc _ _ rfl

abbrev lettersObj : Obj := .cells #[.string ⟨#[97]⟩, .string ⟨#[98]⟩, .string ⟨#[99]⟩, .string ⟨#[100]⟩, .string ⟨#[10]⟩, .string ⟨#[195, 169]⟩, .string ⟨#[226, 130, 172]⟩, .string ⟨#[240, 144, 141, 136]⟩] 81
end Go.Proofs.YtbjadgggpkbjmaaGreat
namespace Go.Proofs.YtbjadgggpkbjmaaGreat
open Go.RowKit

/-- The fields that a kind of operation uses (0 slot, 1 at, 2 count, 3 id, 4 gravity, 5 text). -/
def fieldsOf (k : Int) : List Int :=
  if k = 1 then [1, 5] else if k = 2 then [1, 2] else if k = 3 then [1, 3, 4] else if k = 4 then [3] else if k = 5 then [] else if k = 6 then [0] else if k = 7 then [0, 1, 2] else if k = 8 then [0, 2] else if k = 9 then [0, 2] else if k = 10 then [0, 3]
  else if k = 11 then [0, 1] else if k = 12 then [0, 2] else if k = 13 then [0] else []
/-- One field of an operation is read. -/
def stepF (f : Int) (x : OpV × ByteArray) : OpV × ByteArray :=
  if f = 0 then ({ x.1 with slot := hd x.2 % 4 }, tl x.2)
  else if f = 1 then ({ x.1 with pos := hd x.2 % 64 }, tl x.2)
  else if f = 2 then ({ x.1 with num := hd x.2 % 32 }, tl x.2)
  else if f = 3 then ({ x.1 with id := hd x.2 % 4 }, tl x.2)
  else if f = 4 then ({ x.1 with grav := hd x.2 % 2 }, tl x.2)
  else ({ x.1 with text := letT (tl x.2) (hd x.2 % 16).toNat }, tlN (tl x.2) (hd x.2 % 16).toNat)
def foldF (fs : List Int) (x : OpV × ByteArray) : OpV × ByteArray := fs.foldl (fun x f => stepF f x) x
def op0 (k : Int) : OpV := ⟨k, 0, 0, 0, 0, 0, ByteArray.empty⟩
def readOp (s : ByteArray) : OpV × ByteArray := foldF (fieldsOf (1 + hd s % 16)) (op0 (1 + hd s % 16), tl s)
def opsN (s : ByteArray) : Nat → List OpV × ByteArray
  | 0 => ([], s)
  | k + 1 => ((opsN s k).1 ++ [(readOp (opsN s k).2).1], (readOp (opsN s k).2).2)
def progsN (s : ByteArray) : Nat → List (List OpV) × ByteArray
  | 0 => ([], s)
  | k + 1 => ((progsN s k).1 ++ [(opsN (tl (progsN s k).2) (hd (progsN s k).2 % 8).toNat).1], (opsN (tl (progsN s k).2) (hd (progsN s k).2 % 8).toNat).2)
def picksN (s : ByteArray) (c : Int) (k : Nat) : List Int := (List.range k).map fun i => hd (tlN s i) % (c + 1)
def readCfg (s : ByteArray) : CfgV :=
  ⟨16 + hd s % 112, 1 + hd (tlN s 1) % 8, hd (tlN s 2) % 4, hd (tlN s 3) % 4, 1 + hd (tlN s 4) % 4, 1 + hd (tlN s 5) % 4, 1 + hd (tlN s 6) % 4, letT (tl (tlN s 7)) (hd (tlN s 7) % 32).toNat⟩
def restCfg (s : ByteArray) : ByteArray := tlN (tl (tlN s 7)) (hd (tlN s 7) % 32).toNat
def restProgs (s : ByteArray) : ByteArray := (progsN (restCfg s) (hd (tlN s 2) % 4).toNat).2
def readScr (s : ByteArray) : ScrV :=
  ⟨readCfg s, (progsN (restCfg s) (hd (tlN s 2) % 4).toNat).1, picksN (restProgs s) (hd (tlN s 2) % 4) (restProgs s).size⟩

theorem stepF_size (f : Int) (x : OpV × ByteArray) : (stepF f x).2.size ≤ x.2.size := by
  unfold stepF
  repeat' split
  all_goals (first | (rw [tl_size]; omega) | (simp only []; rw [tlN_size, tl_size]; omega) | (simp only []; rw [tl_size]; omega))
theorem foldF_size (fs : List Int) (x : OpV × ByteArray) : (foldF fs x).2.size ≤ x.2.size := by
  induction fs generalizing x with
  | nil => exact Nat.le_refl _
  | cons f fs ih => exact Nat.le_trans (ih (stepF f x)) (stepF_size f x)
theorem readOp_size (s : ByteArray) : (readOp s).2.size ≤ s.size := by
  have := foldF_size (fieldsOf (1 + hd s % 16)) (op0 (1 + hd s % 16), tl s)
  have h := tl_size s
  unfold readOp
  simp only at this
  omega
theorem opsN_size (s : ByteArray) (k : Nat) : (opsN s k).2.size ≤ s.size := by
  induction k with
  | zero => exact Nat.le_refl _
  | succ k ih => exact Nat.le_trans (readOp_size _) ih
theorem opsN_len (s : ByteArray) (k : Nat) : (opsN s k).1.length = k := by
  induction k with
  | zero => rfl
  | succ k ih => simp only [opsN, List.length_append, ih]; rfl
theorem progsN_size (s : ByteArray) (k : Nat) : (progsN s k).2.size ≤ s.size := by
  induction k with
  | zero => exact Nat.le_refl _
  | succ k ih =>
    have h1 := opsN_size (tl (progsN s k).2) (hd (progsN s k).2 % 8).toNat
    have h2 := tl_size (progsN s k).2
    simp only [progsN]; omega
theorem progsN_len (s : ByteArray) (k : Nat) : (progsN s k).1.length = k := by
  induction k with
  | zero => rfl
  | succ k ih => simp only [progsN, List.length_append, ih]; rfl
theorem foldF_snoc (fs : List Int) (f : Int) (x : OpV × ByteArray) : foldF (fs ++ [f]) x = stepF f (foldF fs x) := by simp [foldF]
def FB (l : List Int) : Prop := l.length ≤ 3 ∧ ∀ f ∈ l, 0 ≤ f ∧ f ≤ 5
theorem FB.ite {c : Prop} [Decidable c] {a b : List Int} (ha : FB a) (hb : FB b) : FB (if c then a else b) := by split <;> assumption
theorem fieldsOf_bd (k : Int) : FB (fieldsOf k) := by
  unfold fieldsOf
  repeat (refine FB.ite (by unfold FB; decide) ?_)
  unfold FB; decide
theorem readOp_kind (s : ByteArray) : 1 ≤ 1 + hd s % 16 ∧ 1 + hd s % 16 ≤ 16 := by
  have := Int.emod_nonneg (hd s) (show (16 : Int) ≠ 0 by omega)
  have := Int.emod_lt_of_pos (hd s) (show (0 : Int) < 16 by omega)
  omega
end Go.Proofs.YtbjadgggpkbjmaaGreat
namespace Go.Proofs.YtbjadgggpkbjmaaGreat
open Go.RowKit

/-- A slice of small numbers. -/
def U8s (w : World) (A : Option Addr) (xs : List Int) : Prop :=
  0 < xs.length → ∃ b o, A = some ⟨b, o, none⟩ ∧ ElemT w b 60 ∧ ∀ j, j < xs.length → w.cell? ⟨b, o + j, none⟩ = some (.int .u8 (xs.getD j 0))
def FieldsRes (k : Int) (w : World) (e : Ending) (w' : World) : Prop :=
  ∃ A c, e = .returned (.slice A (fieldsOf k).length c) ∧ U8s w' A (fieldsOf k) ∧ w.grownBy w' none
theorem grown_alloc {w w' : World} {row : Option Nat} (h : w.grownBy w' row) (o : Obj) : w.grownBy (w'.alloc o) row :=
  ⟨h.os, h.tape, h.output, Nat.le_trans h.size (by simp), fun q hq hr => (Below.heap_alloc _ _ _ (Nat.lt_of_lt_of_le hq h.size)).trans (h.block q hq hr)⟩
theorem heap_new {w : World} {q : Nat} (o : Obj) (h : q = w.heap.size) : (w.alloc o).heap[q]? = some o := by subst h; exact heap_alloc_new w o
theorem heap_old {w : World} {q : Nat} {x o : Obj} (h : w.heap[q]? = some x) : (w.alloc o).heap[q]? = some x := by
  have hlt : q < w.heap.size := by
    rcases Nat.lt_or_ge q w.heap.size with hlt | hge
    · exact hlt
    · rw [Array.getElem?_eq_none hge] at h; cases h
  rw [Below.heap_alloc _ _ _ hlt]; exact h
theorem u8s_of {w : World} {b : Nat} {xs : List Int} (h : w.heap[b]? = some (.cells (xs.map (Value.int .u8)).toArray 60 (0, 0))) : U8s w (some ⟨b, 0, none⟩) xs := fun _ => by
  refine ⟨b, 0, rfl, ⟨_, h⟩, fun j hj => ?_⟩
  simp [World.cell?, h, hj]

/-- The table of the fields, in memory. -/
abbrev tabW (w : World) : World := ((((((((((((((((w.alloc (.cells #[.int .u8 1, .int .u8 5] 60)).alloc (.cells #[.int .u8 1, .int .u8 2] 60)).alloc (.cells #[.int .u8 1, .int .u8 3, .int .u8 4] 60)).alloc (.cells #[.int .u8 3] 60)).alloc (.cells #[] 60)).alloc (.cells #[.int .u8 0] 60)).alloc (.cells #[.int .u8 0, .int .u8 1, .int .u8 2] 60)).alloc (.cells #[.int .u8 0, .int .u8 2] 60)).alloc (.cells #[.int .u8 0, .int .u8 2] 60)).alloc (.cells #[.int .u8 0, .int .u8 3] 60)).alloc (.cells #[.int .u8 0, .int .u8 1] 60)).alloc (.cells #[.int .u8 0, .int .u8 2] 60)).alloc (.cells #[.int .u8 0] 60)).alloc (.cells #[] 60)).alloc (.cells #[] 60)).alloc (.cells #[] 60)).alloc (.cells #[.slice (some ⟨w.heap.size, 0, none⟩) 2 2, .slice (some ⟨w.heap.size + 1, 0, none⟩) 2 2, .slice (some ⟨w.heap.size + 1 + 1, 0, none⟩) 3 3, .slice (some ⟨w.heap.size + 1 + 1 + 1, 0, none⟩) 1 1, .slice (some ⟨w.heap.size + 1 + 1 + 1 + 1, 0, none⟩) 0 0, .slice (some ⟨w.heap.size + 1 + 1 + 1 + 1 + 1, 0, none⟩) 1 1, .slice (some ⟨w.heap.size + 1 + 1 + 1 + 1 + 1 + 1, 0, none⟩) 3 3, .slice (some ⟨w.heap.size + 1 + 1 + 1 + 1 + 1 + 1 + 1, 0, none⟩) 2 2, .slice (some ⟨w.heap.size + 1 + 1 + 1 + 1 + 1 + 1 + 1 + 1, 0, none⟩) 2 2, .slice (some ⟨w.heap.size + 1 + 1 + 1 + 1 + 1 + 1 + 1 + 1 + 1, 0, none⟩) 2 2, .slice (some ⟨w.heap.size + 1 + 1 + 1 + 1 + 1 + 1 + 1 + 1 + 1 + 1, 0, none⟩) 2 2, .slice (some ⟨w.heap.size + 1 + 1 + 1 + 1 + 1 + 1 + 1 + 1 + 1 + 1 + 1, 0, none⟩) 2 2, .slice (some ⟨w.heap.size + 1 + 1 + 1 + 1 + 1 + 1 + 1 + 1 + 1 + 1 + 1 + 1, 0, none⟩) 1 1, .slice (some ⟨w.heap.size + 1 + 1 + 1 + 1 + 1 + 1 + 1 + 1 + 1 + 1 + 1 + 1 + 1, 0, none⟩) 0 0, .slice (some ⟨w.heap.size + 1 + 1 + 1 + 1 + 1 + 1 + 1 + 1 + 1 + 1 + 1 + 1 + 1 + 1, 0, none⟩) 0 0, .slice (some ⟨w.heap.size + 1 + 1 + 1 + 1 + 1 + 1 + 1 + 1 + 1 + 1 + 1 + 1 + 1 + 1 + 1, 0, none⟩) 0 0] 82)
def TabRes (w : World) (v : Value) (wx : World) : Prop :=
  ∃ g, v = .pointer (some ⟨g, 0, none⟩) ∧ w.grownBy wx none ∧ ∀ k : Int, 1 ≤ k → k ≤ 16 → ∃ A c, wx.cell? ⟨g, k.toNat - 1, none⟩ = some (.slice A (fieldsOf k).length c) ∧ U8s wx A (fieldsOf k)
set_option maxRecDepth 100000 in
theorem tab_ok (w : World) : TabRes w (.pointer (some ⟨w.heap.size + 1 + 1 + 1 + 1 + 1 + 1 + 1 + 1 + 1 + 1 + 1 + 1 + 1 + 1 + 1 + 1, 0, none⟩)) (tabW w) := by
  refine ⟨_, rfl, ?_, fun k h1 h2 => ?_⟩
  · repeat (refine grown_alloc ?_ _)
    exact World.grownBy.refl _ _
  · have hc : ∀ i u, (#[.slice (some ⟨w.heap.size, 0, none⟩) 2 2, .slice (some ⟨w.heap.size + 1, 0, none⟩) 2 2, .slice (some ⟨w.heap.size + 1 + 1, 0, none⟩) 3 3, .slice (some ⟨w.heap.size + 1 + 1 + 1, 0, none⟩) 1 1, .slice (some ⟨w.heap.size + 1 + 1 + 1 + 1, 0, none⟩) 0 0, .slice (some ⟨w.heap.size + 1 + 1 + 1 + 1 + 1, 0, none⟩) 1 1, .slice (some ⟨w.heap.size + 1 + 1 + 1 + 1 + 1 + 1, 0, none⟩) 3 3, .slice (some ⟨w.heap.size + 1 + 1 + 1 + 1 + 1 + 1 + 1, 0, none⟩) 2 2, .slice (some ⟨w.heap.size + 1 + 1 + 1 + 1 + 1 + 1 + 1 + 1, 0, none⟩) 2 2, .slice (some ⟨w.heap.size + 1 + 1 + 1 + 1 + 1 + 1 + 1 + 1 + 1, 0, none⟩) 2 2, .slice (some ⟨w.heap.size + 1 + 1 + 1 + 1 + 1 + 1 + 1 + 1 + 1 + 1, 0, none⟩) 2 2, .slice (some ⟨w.heap.size + 1 + 1 + 1 + 1 + 1 + 1 + 1 + 1 + 1 + 1 + 1, 0, none⟩) 2 2, .slice (some ⟨w.heap.size + 1 + 1 + 1 + 1 + 1 + 1 + 1 + 1 + 1 + 1 + 1 + 1, 0, none⟩) 1 1, .slice (some ⟨w.heap.size + 1 + 1 + 1 + 1 + 1 + 1 + 1 + 1 + 1 + 1 + 1 + 1 + 1, 0, none⟩) 0 0, .slice (some ⟨w.heap.size + 1 + 1 + 1 + 1 + 1 + 1 + 1 + 1 + 1 + 1 + 1 + 1 + 1 + 1, 0, none⟩) 0 0, .slice (some ⟨w.heap.size + 1 + 1 + 1 + 1 + 1 + 1 + 1 + 1 + 1 + 1 + 1 + 1 + 1 + 1 + 1, 0, none⟩) 0 0] : Array Value)[i]? = some u → (tabW w).cell? ⟨w.heap.size + 1 + 1 + 1 + 1 + 1 + 1 + 1 + 1 + 1 + 1 + 1 + 1 + 1 + 1 + 1 + 1, i, none⟩ = some u := by
      intro i u hu
      rw [World.cell?_alloc_at _ _ _ _ (by simp)]
      exact hu
    have hk : k = 1 ∨ k = 2 ∨ k = 3 ∨ k = 4 ∨ k = 5 ∨ k = 6 ∨ k = 7 ∨ k = 8 ∨ k = 9 ∨ k = 10 ∨ k = 11 ∨ k = 12 ∨ k = 13 ∨ k = 14 ∨ k = 15 ∨ k = 16 := by omega
    rcases hk with rfl | rfl | rfl | rfl | rfl | rfl | rfl | rfl | rfl | rfl | rfl | rfl | rfl | rfl | rfl | rfl
    · refine ⟨_, _, hc 0 _ rfl, ?_⟩
      refine u8s_of (xs := [1, 5]) ?_
      repeat (first | (refine heap_new _ ?_; (simp; done)) | refine heap_old ?_)
    · refine ⟨_, _, hc 1 _ rfl, ?_⟩
      refine u8s_of (xs := [1, 2]) ?_
      repeat (first | (refine heap_new _ ?_; (simp; done)) | refine heap_old ?_)
    · refine ⟨_, _, hc 2 _ rfl, ?_⟩
      refine u8s_of (xs := [1, 3, 4]) ?_
      repeat (first | (refine heap_new _ ?_; (simp; done)) | refine heap_old ?_)
    · refine ⟨_, _, hc 3 _ rfl, ?_⟩
      refine u8s_of (xs := [3]) ?_
      repeat (first | (refine heap_new _ ?_; (simp; done)) | refine heap_old ?_)
    · refine ⟨_, _, hc 4 _ rfl, ?_⟩
      exact fun h => absurd h (by decide)
    · refine ⟨_, _, hc 5 _ rfl, ?_⟩
      refine u8s_of (xs := [0]) ?_
      repeat (first | (refine heap_new _ ?_; (simp; done)) | refine heap_old ?_)
    · refine ⟨_, _, hc 6 _ rfl, ?_⟩
      refine u8s_of (xs := [0, 1, 2]) ?_
      repeat (first | (refine heap_new _ ?_; (simp; done)) | refine heap_old ?_)
    · refine ⟨_, _, hc 7 _ rfl, ?_⟩
      refine u8s_of (xs := [0, 2]) ?_
      repeat (first | (refine heap_new _ ?_; (simp; done)) | refine heap_old ?_)
    · refine ⟨_, _, hc 8 _ rfl, ?_⟩
      refine u8s_of (xs := [0, 2]) ?_
      repeat (first | (refine heap_new _ ?_; (simp; done)) | refine heap_old ?_)
    · refine ⟨_, _, hc 9 _ rfl, ?_⟩
      refine u8s_of (xs := [0, 3]) ?_
      repeat (first | (refine heap_new _ ?_; (simp; done)) | refine heap_old ?_)
    · refine ⟨_, _, hc 10 _ rfl, ?_⟩
      refine u8s_of (xs := [0, 1]) ?_
      repeat (first | (refine heap_new _ ?_; (simp; done)) | refine heap_old ?_)
    · refine ⟨_, _, hc 11 _ rfl, ?_⟩
      refine u8s_of (xs := [0, 2]) ?_
      repeat (first | (refine heap_new _ ?_; (simp; done)) | refine heap_old ?_)
    · refine ⟨_, _, hc 12 _ rfl, ?_⟩
      refine u8s_of (xs := [0]) ?_
      repeat (first | (refine heap_new _ ?_; (simp; done)) | refine heap_old ?_)
    · refine ⟨_, _, hc 13 _ rfl, ?_⟩
      exact fun h => absurd h (by decide)
    · refine ⟨_, _, hc 14 _ rfl, ?_⟩
      exact fun h => absurd h (by decide)
    · refine ⟨_, _, hc 15 _ rfl, ?_⟩
      exact fun h => absurd h (by decide)

set_option maxHeartbeats 800000 in
set_option maxRecDepth 100000 in
theorem fieldsFn (k : Int) (w : World) (h1 : 1 ≤ k) (h2 : k ≤ 16) : Calls Tryz.prog 13 #[.int .u8 k] w (FieldsRes k w) := by
  go_enter Tryz.func13, Tryz.ntmps13
  go_upto_region 1 with fail
  go_cut [3] (fun s3 wx => TabRes w s3 wx)
  case first =>
    go_wp2_with fail
    go_meet
    exact tab_ok w
  case rest =>
    obtain ⟨g, rfl, hg, ht⟩ := hcut
    obtain ⟨A, c, hcell, hu⟩ := ht k h1 h2
    have HU := Lib.hid hu
    have HG := Lib.hid hg
    clear hu hg ht
    have HL := Lib.hid (rfl : (fieldsOf k).length = (fieldsOf k).length)
    generalize hl : (fieldsOf k).length = n at hcell
    have HN := Lib.hid hl
    clear hl HL
    have hk0 : 0 ≤ k - 1 := by omega
    have hk1 : k - 1 < 16 := by omega
    go_wp2
    go_ret
    exact ⟨A, c, by rw [HN.out]; rfl, HU.out, HG.out⟩
end Go.Proofs.YtbjadgggpkbjmaaGreat
