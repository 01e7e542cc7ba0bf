/- What reading a script comes to, and the states of a reading. -/
import Derived.Test.YtcicememljlafaaR1
namespace Go.Proofs.Ytcicememljlafaa
open Go.RowKit

/-- The fields that a kind of operation uses (0 slot, 1 at, 2 count, 3 id, 4 gravity, 5 text). -/
def fieldsOf (k : Int) : List Int :=
  if k = 1 then [1, 5] else if k = 2 then [1, 2] else if k = 3 then [1, 3, 4] else if k = 4 then [3] else if k = 5 then [] else if k = 6 then [0] else if k = 7 then [0, 1, 2] else if k = 8 then [0, 2] else if k = 9 then [0, 2] else if k = 10 then [0, 3]
  else if k = 11 then [0, 1] else if k = 12 then [0, 2] else if k = 13 then [0] else []
/-- One field of an operation is read. -/
def stepF (f : Int) (x : OpV × ByteArray) : OpV × ByteArray :=
  if f = 0 then ({ x.1 with slot := hd x.2 % 4 }, tl x.2)
  else if f = 1 then ({ x.1 with pos := hd x.2 % 64 }, tl x.2)
  else if f = 2 then ({ x.1 with num := hd x.2 % 32 }, tl x.2)
  else if f = 3 then ({ x.1 with id := hd x.2 % 4 }, tl x.2)
  else if f = 4 then ({ x.1 with grav := hd x.2 % 2 }, tl x.2)
  else ({ x.1 with text := letT (tl x.2) (hd x.2 % 16).toNat }, tlN (tl x.2) (hd x.2 % 16).toNat)
def foldF (fs : List Int) (x : OpV × ByteArray) : OpV × ByteArray := fs.foldl (fun x f => stepF f x) x
def op0 (k : Int) : OpV := ⟨k, 0, 0, 0, 0, 0, ByteArray.empty⟩
def readOp (s : ByteArray) : OpV × ByteArray := foldF (fieldsOf (1 + hd s % 16)) (op0 (1 + hd s % 16), tl s)
def opsN (s : ByteArray) : Nat → List OpV × ByteArray
  | 0 => ([], s)
  | k + 1 => ((opsN s k).1 ++ [(readOp (opsN s k).2).1], (readOp (opsN s k).2).2)
def progsN (s : ByteArray) : Nat → List (List OpV) × ByteArray
  | 0 => ([], s)
  | k + 1 => ((progsN s k).1 ++ [(opsN (tl (progsN s k).2) (hd (progsN s k).2 % 8).toNat).1], (opsN (tl (progsN s k).2) (hd (progsN s k).2 % 8).toNat).2)
def picksN (s : ByteArray) (c : Int) (k : Nat) : List Int := (List.range k).map fun i => hd (tlN s i) % (c + 1)
def readCfg (s : ByteArray) : CfgV :=
  ⟨16 + hd s % 112, 1 + hd (tlN s 1) % 8, hd (tlN s 2) % 4, hd (tlN s 3) % 4, 1 + hd (tlN s 4) % 4, 1 + hd (tlN s 5) % 4, 1 + hd (tlN s 6) % 4, letT (tl (tlN s 7)) (hd (tlN s 7) % 32).toNat⟩
def restCfg (s : ByteArray) : ByteArray := tlN (tl (tlN s 7)) (hd (tlN s 7) % 32).toNat
def restProgs (s : ByteArray) : ByteArray := (progsN (restCfg s) (hd (tlN s 2) % 4).toNat).2
def readScr (s : ByteArray) : ScrV :=
  ⟨readCfg s, (progsN (restCfg s) (hd (tlN s 2) % 4).toNat).1, picksN (restProgs s) (hd (tlN s 2) % 4) (restProgs s).size⟩

theorem stepF_size (f : Int) (x : OpV × ByteArray) : (stepF f x).2.size ≤ x.2.size := by
  unfold stepF
  repeat' split
  all_goals (first | (rw [tl_size]; omega) | (simp only []; rw [tlN_size, tl_size]; omega) | (simp only []; rw [tl_size]; omega))
theorem foldF_size (fs : List Int) (x : OpV × ByteArray) : (foldF fs x).2.size ≤ x.2.size := by
  induction fs generalizing x with
  | nil => exact Nat.le_refl _
  | cons f fs ih => exact Nat.le_trans (ih (stepF f x)) (stepF_size f x)
theorem readOp_size (s : ByteArray) : (readOp s).2.size ≤ s.size := by
  have := foldF_size (fieldsOf (1 + hd s % 16)) (op0 (1 + hd s % 16), tl s)
  have h := tl_size s
  unfold readOp
  simp only at this
  omega
theorem opsN_size (s : ByteArray) (k : Nat) : (opsN s k).2.size ≤ s.size := by
  induction k with
  | zero => exact Nat.le_refl _
  | succ k ih => exact Nat.le_trans (readOp_size _) ih
theorem opsN_len (s : ByteArray) (k : Nat) : (opsN s k).1.length = k := by
  induction k with
  | zero => rfl
  | succ k ih => simp only [opsN, List.length_append, ih]; rfl
theorem progsN_size (s : ByteArray) (k : Nat) : (progsN s k).2.size ≤ s.size := by
  induction k with
  | zero => exact Nat.le_refl _
  | succ k ih =>
    have h1 := opsN_size (tl (progsN s k).2) (hd (progsN s k).2 % 8).toNat
    have h2 := tl_size (progsN s k).2
    simp only [progsN]; omega
theorem progsN_len (s : ByteArray) (k : Nat) : (progsN s k).1.length = k := by
  induction k with
  | zero => rfl
  | succ k ih => simp only [progsN, List.length_append, ih]; rfl
theorem foldF_snoc (fs : List Int) (f : Int) (x : OpV × ByteArray) : foldF (fs ++ [f]) x = stepF f (foldF fs x) := by simp [foldF]
def FB (l : List Int) : Prop := l.length ≤ 3 ∧ ∀ f ∈ l, 0 ≤ f ∧ f ≤ 5
theorem FB.ite {c : Prop} [Decidable c] {a b : List Int} (ha : FB a) (hb : FB b) : FB (if c then a else b) := by split <;> assumption
theorem fieldsOf_bd (k : Int) : FB (fieldsOf k) := by
  unfold fieldsOf
  repeat (refine FB.ite (by unfold FB; decide) ?_)
  unfold FB; decide
theorem readOp_kind (s : ByteArray) : 1 ≤ 1 + hd s % 16 ∧ 1 + hd s % 16 ≤ 16 := by
  have := Int.emod_nonneg (hd s) (show (16 : Int) ≠ 0 by omega)
  have := Int.emod_lt_of_pos (hd s) (show (0 : Int) < 16 by omega)
  omega
end Go.Proofs.Ytcicememljlafaa
