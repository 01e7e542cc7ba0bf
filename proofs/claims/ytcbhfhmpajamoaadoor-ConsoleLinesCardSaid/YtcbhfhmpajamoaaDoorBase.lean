/- Words for memory used by these claims: a slice of ints that reads as a list of numbers; a result that is such a slice and an error number. -/
import Derived.Test.YtcbhfhmpajamoaaDoorRows
import Derived.WalkKit
import Derived.WalkSpells
import Derived.WalkLawsBesides
import Derived.Deep.QuietTactic
import Derived.BigQuiet
import Derived.Lib.Hide
import Derived.Deep.AppendLies
import Derived.Deep.Draws
import Derived.Maps.AppendAt
namespace Go.Proofs.YtcbhfhmpajamoaaDoor
open Go.RowKit

/-- The slice '.slice A n c' with n = xs.length reads as the numbers xs, in blocks below B. -/
def Ints (w : World) (B : Nat) (A : Option Addr) (xs : List Int) : Prop :=
  0 < xs.length → ∃ b o, A = some ⟨b, o, none⟩ ∧ b < B ∧ ∀ j, j < xs.length → w.cell? ⟨b, o + j, none⟩ = some (.int .i64 (xs.getD j 0))

theorem Ints.nil_ (w : World) (B : Nat) (A : Option Addr) : Ints w B A [] := fun h => absurd h (by simp)
theorem Ints.below {w w' : World} {B B' : Nat} {A : Option Addr} {xs : List Int} (h : Ints w B A xs) (hb : Below B w w') (hB : B ≤ B') : Ints w' B' A xs := fun hx => by
  obtain ⟨b, o, rfl, hlt, hc⟩ := h hx
  exact ⟨b, o, rfl, by omega, fun j hj => (hb.cell (p := ⟨b, o + j, none⟩) hlt).trans (hc j hj)⟩
theorem Ints.drewN {w : World} {B : Nat} {A : Option Addr} {xs : List Int} (h : Ints w B A xs) (k : Nat) : Ints (w.drewN k) B A xs := h
theorem Ints.of_own {w : World} {base : Nat} {e : TypeId} {A : Option Addr} {n c : Nat} {xs : List Int} (h : w.ownsRow base e 1 (.slice A n c) n (xs.map (Value.int .i64))) :
    n = xs.length ∧ Ints w w.heap.size A xs := by
  have hl : n = xs.length := by have := h.1; simp at this; omega
  refine ⟨hl, fun hx => ?_⟩
  obtain ⟨g, cap, hv, _, hlt⟩ := h.form (by omega)
  have hA : A = some ⟨g, 0, none⟩ := by injection hv
  subst hA
  refine ⟨g, 0, rfl, hlt, fun j hj => ?_⟩
  have := h.cells (g := g) rfl j (.int .i64 (xs.getD j 0)) (by simp [hj])
  rw [← this]
  unfold Addr.add
  by_cases h0 : j = 0 <;> simp [h0]

/-- What a function of ([]int, Errno) hands back: a slice that reads as xs, the number k; old memory as it was. -/
def IntsRes (xs : List Int) (k : Int) (w : World) (e : Ending) (w' : World) : Prop :=
  ∃ A c, e = .returned (.tuple #[.slice A xs.length c, .int .i64 k]) ∧ Ints w' w'.heap.size A xs ∧ Below w.heap.size w w'
def IntsResB (B : Nat) (xs : List Int) (k : Int) (w : World) (e : Ending) (w' : World) : Prop :=
  ∃ A c, e = .returned (.tuple #[.slice A xs.length c, .int .i64 k]) ∧ Ints w' w'.heap.size A xs ∧ Below B w w'
def BoolDrew (b : Bool) (w : World) (e : Ending) (w' : World) : Prop := e = .returned (.bool b) ∧ ∃ k, w' = w.drewN k
def BoolBelow (b : Bool) (w : World) (e : Ending) (w' : World) : Prop := e = .returned (.bool b) ∧ Below w.heap.size w w'

theorem below_drewN {B : Nat} {a w : World} (h : Below B a w) (n : Nat) : Below B a (w.drewN n) := ⟨h.os, h.tape, h.output, h.size, h.block⟩

theorem int_info : (Tryd.prog.info? 3).map (fun i => (i.zero, i.size, i.bytes)) = some (some (.int .i64 0), 1, 8) := by kernel_rfl

theorem news_one (w : World) (x : Int) : ∀ j u, ([Value.int .i64 x] : List Value)[j]? = some u → (w.alloc (.cells #[.int .i64 x] 3)).cell? ((⟨w.heap.size, 0, none⟩ : Addr).add j) = some u := by
  intro j u hj
  match j, hj with
  | 0, hj => simp at hj; subst hj; simp [Addr.add]
theorem one_one (x : Int) : ∀ u ∈ ([Value.int .i64 x] : List Value), u.oneCell' = true := by intro u hu; simp at hu; subst hu; rfl

theorem own_slice {w : World} {base : Nat} {e : TypeId} {n : Nat} {v : Value} {xs : List Value} (h : w.ownsRow base e 1 v n xs) : ∃ A c, v = .slice A n c := by
  have h1 := h.1
  rcases h.2 with ⟨rfl, rfl⟩ | ⟨g, cap, cur, rfl, _⟩
  · simp at h1; subst h1; exact ⟨_, _, rfl⟩
  · exact ⟨_, _, rfl⟩

/-- One round of 'out = append(out, x)': old memory is as it was. -/
theorem round_append {w wr w1 : World} {v : Value} {k : Nat} {xs : List Value} {o : Obj} (hb : Below w.heap.size w wr)
    (hown : wr.ownsRow w.heap.size 3 1 v k xs)
    (hg : (wr.alloc o).grownBy w1 v.ownBlock) : Below w.heap.size w w1 :=
  (hb.alloc hb.size o).grown hg (by have := hb.size; simp; omega) (fun g hg => (hown.lt g hg).1)

/-- A row of the call's own, handed back with a number. -/
theorem res_own {w wr : World} {v : Value} {n : Nat} {xs : List Int} {k : Int} (hown : wr.ownsRow w.heap.size 3 1 v n (xs.map (Value.int .i64))) (hb : Below w.heap.size w wr) :
    IntsRes xs k w (.returned (.tuple #[v, .int .i64 k])) wr := by
  obtain ⟨A, c, rfl⟩ := own_slice hown
  have hI := Ints.of_own hown
  have e1 := hI.1
  exact ⟨A, c, by rw [← e1], hI.2, hb⟩
theorem res_ownB {B base : Nat} {w wr : World} {v : Value} {n : Nat} {xs : List Int} {k : Int} (hown : wr.ownsRow base 3 1 v n (xs.map (Value.int .i64))) (hb : Below B w wr) :
    IntsResB B xs k w (.returned (.tuple #[v, .int .i64 k])) wr := by
  obtain ⟨A, c, rfl⟩ := own_slice hown
  have hI := Ints.of_own hown
  have e1 := hI.1
  exact ⟨A, c, by rw [← e1], hI.2, hb⟩


/-! ### Operations, configurations, scripts -/
structure OpV where
  kind : Int
  slot : Int
  pos : Int
  num : Int
  id : Int
  grav : Int
  text : ByteArray
structure CfgV where
  slots : Int
  gens : Int
  clients : Int
  readers : Int
  queue : Int
  batch : Int
  feed : Int
  text : ByteArray
structure ScrV where
  cfg : CfgV
  progs : List (List OpV)
  picks : List Int

abbrev opVal (o : OpV) : Value := .agg #[.int .u8 o.kind, .int .i64 o.slot, .int .i64 o.pos, .int .i64 o.num, .int .u32 o.id, .int .u8 o.grav, .string o.text]
abbrev cfgVal (c : CfgV) : Value := .agg #[.int .i64 c.slots, .int .u64 c.gens, .int .i64 c.clients, .int .i64 c.readers, .int .i64 c.queue, .int .i64 c.batch, .int .i64 c.feed, .string c.text]
abbrev scrVal (c : CfgV) (p k : Value) : Value := .agg #[.int .i64 c.slots, .int .u64 c.gens, .int .i64 c.clients, .int .i64 c.readers, .int .i64 c.queue, .int .i64 c.batch, .int .i64 c.feed, .string c.text, p, k]

/-- The seven cells of an operation at ⟨b, o⟩. -/
structure OpAt (w : World) (b o : Nat) (x : OpV) : Prop where
  c0 : w.cell? ⟨b, o, none⟩ = some (.int .u8 x.kind)
  c1 : w.cell? ⟨b, o + 1, none⟩ = some (.int .i64 x.slot)
  c2 : w.cell? ⟨b, o + 2, none⟩ = some (.int .i64 x.pos)
  c3 : w.cell? ⟨b, o + 3, none⟩ = some (.int .i64 x.num)
  c4 : w.cell? ⟨b, o + 4, none⟩ = some (.int .u32 x.id)
  c5 : w.cell? ⟨b, o + 5, none⟩ = some (.int .u8 x.grav)
  c6 : w.cell? ⟨b, o + 6, none⟩ = some (.string x.text)
theorem OpAt.keep {w w' : World} {b o : Nat} {x : OpV} (h : OpAt w b o x) (hk : w'.heap[b]? = w.heap[b]?) : OpAt w' b o x :=
  ⟨(World.cell?_of_block (a := ⟨b, _, none⟩) hk).trans h.c0, (World.cell?_of_block (a := ⟨b, _, none⟩) hk).trans h.c1, (World.cell?_of_block (a := ⟨b, _, none⟩) hk).trans h.c2, (World.cell?_of_block (a := ⟨b, _, none⟩) hk).trans h.c3,
    (World.cell?_of_block (a := ⟨b, _, none⟩) hk).trans h.c4, (World.cell?_of_block (a := ⟨b, _, none⟩) hk).trans h.c5, (World.cell?_of_block (a := ⟨b, _, none⟩) hk).trans h.c6⟩

def noOp : OpV := ⟨0, 0, 0, 0, 0, 0, ByteArray.empty⟩
/-- The slice '.slice A n c' with n = xs.length reads as the operations xs. -/
def OpsAt (w : World) (B : Nat) (A : Option Addr) (xs : List OpV) : Prop :=
  0 < xs.length → ∃ b o, A = some ⟨b, o, none⟩ ∧ b < B ∧ ∀ j, j < xs.length → OpAt w b (o + j * 7) (xs.getD j noOp)
theorem OpsAt.nil_ (w : World) (B : Nat) (A : Option Addr) : OpsAt w B A [] := fun h => absurd h (by simp)
theorem OpsAt.below {w w' : World} {B B' : Nat} {A : Option Addr} {xs : List OpV} (h : OpsAt w B A xs) (hb : Below B w w') (hB : B ≤ B') : OpsAt w' B' A xs := fun hx => by
  obtain ⟨b, o, rfl, hlt, hc⟩ := h hx
  exact ⟨b, o, rfl, by omega, fun j hj => (hc j hj).keep (hb.block b hlt)⟩
/-- .. as the programs ps. -/
def ProgsAt (w : World) (B : Nat) (A : Option Addr) (ps : List (List OpV)) : Prop :=
  0 < ps.length → ∃ b o, A = some ⟨b, o, none⟩ ∧ b < B ∧ ∀ j, j < ps.length → ∃ A' c, w.cell? ⟨b, o + j, none⟩ = some (.slice A' (ps.getD j []).length c) ∧ OpsAt w B A' (ps.getD j [])
theorem ProgsAt.nil_ (w : World) (B : Nat) (A : Option Addr) : ProgsAt w B A [] := fun h => absurd h (by simp)
theorem ProgsAt.below {w w' : World} {B B' : Nat} {A : Option Addr} {ps : List (List OpV)} (h : ProgsAt w B A ps) (hb : Below B w w') (hB : B ≤ B') : ProgsAt w' B' A ps := fun hx => by
  obtain ⟨b, o, rfl, hlt, hc⟩ := h hx
  refine ⟨b, o, rfl, by omega, fun j hj => ?_⟩
  obtain ⟨A', c, h1, h2⟩ := hc j hj
  exact ⟨A', c, (hb.cell (p := ⟨b, o + j, none⟩) hlt).trans h1, h2.below hb hB⟩
/-- A script's value: its cells, and what its slices read as. -/
def ScrAt (w : World) (B : Nat) (v : Value) (s : ScrV) : Prop :=
  ∃ Ap cp Ak ck, v = scrVal s.cfg (.slice Ap s.progs.length cp) (.slice Ak s.picks.length ck) ∧ ProgsAt w B Ap s.progs ∧ Ints w B Ak s.picks
theorem ScrAt.below {w w' : World} {B B' : Nat} {v : Value} {s : ScrV} (h : ScrAt w B v s) (hb : Below B w w') (hB : B ≤ B') : ScrAt w' B' v s := by
  obtain ⟨Ap, cp, Ak, ck, e, h1, h2⟩ := h
  exact ⟨Ap, cp, Ak, ck, e, h1.below hb hB, h2.below hb hB⟩
end Go.Proofs.YtcbhfhmpajamoaaDoor
