/- Words for memory used by these claims: a slice of ints that reads as a list of numbers; a result that is such a slice and an error number. -/
import Derived.Test.YtppbknpiipfidaaRows
import Derived.WalkKit
import Derived.WalkSpells
import Derived.WalkLawsBesides
import Derived.Deep.QuietTactic
import Derived.BigQuiet
import Derived.Lib.Hide
import Derived.Deep.AppendLies
import Derived.Deep.Draws
import Derived.Maps.AppendAt
namespace Go.Proofs.Ytppbknpiipfidaa
open Go.RowKit

/-- The slice '.slice A n c' with n = xs.length reads as the numbers xs, in blocks below B. -/
def Ints (w : World) (B : Nat) (A : Option Addr) (xs : List Int) : Prop :=
  0 < xs.length → ∃ b o, A = some ⟨b, o, none⟩ ∧ b < B ∧ ∀ j, j < xs.length → w.cell? ⟨b, o + j, none⟩ = some (.int .i64 (xs.getD j 0))

theorem Ints.nil_ (w : World) (B : Nat) (A : Option Addr) : Ints w B A [] := fun h => absurd h (by simp)
theorem Ints.below {w w' : World} {B B' : Nat} {A : Option Addr} {xs : List Int} (h : Ints w B A xs) (hb : Below B w w') (hB : B ≤ B') : Ints w' B' A xs := fun hx => by
  obtain ⟨b, o, rfl, hlt, hc⟩ := h hx
  exact ⟨b, o, rfl, by omega, fun j hj => (hb.cell (p := ⟨b, o + j, none⟩) hlt).trans (hc j hj)⟩
theorem Ints.drewN {w : World} {B : Nat} {A : Option Addr} {xs : List Int} (h : Ints w B A xs) (k : Nat) : Ints (w.drewN k) B A xs := h
theorem Ints.of_own {w : World} {base : Nat} {e : TypeId} {A : Option Addr} {n c : Nat} {xs : List Int} (h : w.ownsRow base e 1 (.slice A n c) n (xs.map (Value.int .i64))) :
    n = xs.length ∧ Ints w w.heap.size A xs := by
  have hl : n = xs.length := by have := h.1; simp at this; omega
  refine ⟨hl, fun hx => ?_⟩
  obtain ⟨g, cap, hv, _, hlt⟩ := h.form (by omega)
  have hA : A = some ⟨g, 0, none⟩ := by injection hv
  subst hA
  refine ⟨g, 0, rfl, hlt, fun j hj => ?_⟩
  have := h.cells (g := g) rfl j (.int .i64 (xs.getD j 0)) (by simp [hj])
  rw [← this]
  unfold Addr.add
  by_cases h0 : j = 0 <;> simp [h0]

/-- What a function of ([]int, Errno) hands back: a slice that reads as xs, the number k; old memory as it was. -/
def IntsRes (xs : List Int) (k : Int) (w : World) (e : Ending) (w' : World) : Prop :=
  ∃ A c, e = .returned (.tuple #[.slice A xs.length c, .int .i64 k]) ∧ Ints w' w'.heap.size A xs ∧ Below w.heap.size w w'
def IntsResB (B : Nat) (xs : List Int) (k : Int) (w : World) (e : Ending) (w' : World) : Prop :=
  ∃ A c, e = .returned (.tuple #[.slice A xs.length c, .int .i64 k]) ∧ Ints w' w'.heap.size A xs ∧ Below B w w'
def BoolDrew (b : Bool) (w : World) (e : Ending) (w' : World) : Prop := e = .returned (.bool b) ∧ ∃ k, w' = w.drewN k
def BoolBelow (b : Bool) (w : World) (e : Ending) (w' : World) : Prop := e = .returned (.bool b) ∧ Below w.heap.size w w'

theorem below_drewN {B : Nat} {a w : World} (h : Below B a w) (n : Nat) : Below B a (w.drewN n) := ⟨h.os, h.tape, h.output, h.size, h.block⟩

theorem int_info : (Try.prog.info? 3).map (fun i => (i.zero, i.size, i.bytes)) = some (some (.int .i64 0), 1, 8) := by kernel_rfl

/-- The picks of Turns. -/
def turns (t : Int) (n : Nat) : List Int := (List.range n).map fun (i : Nat) => (i : Int) % t
theorem turns_succ (t : Int) (n : Nat) : turns t (n + 1) = turns t n ++ [(n : Int) % t] := by simp [turns, List.range_succ]
theorem turns_len (t : Int) (n : Nat) : (turns t n).length = n := by simp [turns]


theorem news_one (w : World) (x : Int) : ∀ j u, ([Value.int .i64 x] : List Value)[j]? = some u → (w.alloc (.cells #[.int .i64 x] 3)).cell? ((⟨w.heap.size, 0, none⟩ : Addr).add j) = some u := by
  intro j u hj
  match j, hj with
  | 0, hj => simp at hj; subst hj; simp [Addr.add]
theorem one_one (x : Int) : ∀ u ∈ ([Value.int .i64 x] : List Value), u.oneCell' = true := by intro u hu; simp at hu; subst hu; rfl

theorem own_slice {w : World} {base : Nat} {e : TypeId} {n : Nat} {v : Value} {xs : List Value} (h : w.ownsRow base e 1 v n xs) : ∃ A c, v = .slice A n c := by
  have h1 := h.1
  rcases h.2 with ⟨rfl, rfl⟩ | ⟨g, cap, cur, rfl, _⟩
  · simp at h1; subst h1; exact ⟨_, _, rfl⟩
  · exact ⟨_, _, rfl⟩

/-- One round of 'out = append(out, x)': old memory is as it was. -/
theorem round_append {w wr w1 : World} {v : Value} {k : Nat} {xs : List Value} {o : Obj} (hb : Below w.heap.size w wr)
    (hown : wr.ownsRow w.heap.size 3 1 v k xs)
    (hg : (wr.alloc o).grownBy w1 v.ownBlock) : Below w.heap.size w w1 :=
  (hb.alloc hb.size o).grown hg (by have := hb.size; simp; omega) (fun g hg => (hown.lt g hg).1)

/-- A row of the call's own, handed back with a number. -/
theorem res_own {w wr : World} {v : Value} {n : Nat} {xs : List Int} {k : Int} (hown : wr.ownsRow w.heap.size 3 1 v n (xs.map (Value.int .i64))) (hb : Below w.heap.size w wr) :
    IntsRes xs k w (.returned (.tuple #[v, .int .i64 k])) wr := by
  obtain ⟨A, c, rfl⟩ := own_slice hown
  have hI := Ints.of_own hown
  have e1 := hI.1
  exact ⟨A, c, by rw [← e1], hI.2, hb⟩
theorem res_ownB {B base : Nat} {w wr : World} {v : Value} {n : Nat} {xs : List Int} {k : Int} (hown : wr.ownsRow base 3 1 v n (xs.map (Value.int .i64))) (hb : Below B w wr) :
    IntsResB B xs k w (.returned (.tuple #[v, .int .i64 k])) wr := by
  obtain ⟨A, c, rfl⟩ := own_slice hown
  have hI := Ints.of_own hown
  have e1 := hI.1
  exact ⟨A, c, by rw [← e1], hI.2, hb⟩

end Go.Proofs.Ytppbknpiipfidaa
