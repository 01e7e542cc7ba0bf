/- Merged texts: Base, A1, A2, A3, A4, A5, Bld, Bld2. -/
import Derived.Test.YtbjadgggpkbjmaaGreatRows
import Derived.WalkKit
import Derived.WalkSpells
import Derived.WalkLawsBesides
import Derived.Deep.QuietTactic
import Derived.BigQuiet
import Derived.Lib.Hide
import Derived.Deep.AppendLies
import Derived.Deep.Draws
import Derived.Maps.AppendAt
namespace Go.Proofs.YtbjadgggpkbjmaaGreat
open Go.RowKit

/-- The slice '.slice A n c' with n = xs.length reads as the numbers xs, in blocks below B. -/
def Ints (w : World) (B : Nat) (A : Option Addr) (xs : List Int) : Prop :=
  0 < xs.length → ∃ b o, A = some ⟨b, o, none⟩ ∧ b < B ∧ ∀ j, j < xs.length → w.cell? ⟨b, o + j, none⟩ = some (.int .i64 (xs.getD j 0))

theorem Ints.nil_ (w : World) (B : Nat) (A : Option Addr) : Ints w B A [] := fun h => absurd h (by simp)
theorem Ints.below {w w' : World} {B B' : Nat} {A : Option Addr} {xs : List Int} (h : Ints w B A xs) (hb : Below B w w') (hB : B ≤ B') : Ints w' B' A xs := fun hx => by
  obtain ⟨b, o, rfl, hlt, hc⟩ := h hx
  exact ⟨b, o, rfl, by omega, fun j hj => (hb.cell (p := ⟨b, o + j, none⟩) hlt).trans (hc j hj)⟩
theorem Ints.drewN {w : World} {B : Nat} {A : Option Addr} {xs : List Int} (h : Ints w B A xs) (k : Nat) : Ints (w.drewN k) B A xs := h
theorem Ints.of_own {w : World} {base : Nat} {e : TypeId} {A : Option Addr} {n c : Nat} {xs : List Int} (h : w.ownsRow base e 1 (.slice A n c) n (xs.map (Value.int .i64))) :
    n = xs.length ∧ Ints w w.heap.size A xs := by
  have hl : n = xs.length := by have := h.1; simp at this; omega
  refine ⟨hl, fun hx => ?_⟩
  obtain ⟨g, cap, hv, _, hlt⟩ := h.form (by omega)
  have hA : A = some ⟨g, 0, none⟩ := by injection hv
  subst hA
  refine ⟨g, 0, rfl, hlt, fun j hj => ?_⟩
  have := h.cells (g := g) rfl j (.int .i64 (xs.getD j 0)) (by simp [hj])
  rw [← this]
  unfold Addr.add
  by_cases h0 : j = 0 <;> simp [h0]

/-- What a function of ([]int, Errno) hands back: a slice that reads as xs, the number k; old memory as it was. -/
def IntsRes (xs : List Int) (k : Int) (w : World) (e : Ending) (w' : World) : Prop :=
  ∃ A c, e = .returned (.tuple #[.slice A xs.length c, .int .i64 k]) ∧ Ints w' w'.heap.size A xs ∧ Below w.heap.size w w'
def IntsResB (B : Nat) (xs : List Int) (k : Int) (w : World) (e : Ending) (w' : World) : Prop :=
  ∃ A c, e = .returned (.tuple #[.slice A xs.length c, .int .i64 k]) ∧ Ints w' w'.heap.size A xs ∧ Below B w w'
def BoolDrew (b : Bool) (w : World) (e : Ending) (w' : World) : Prop := e = .returned (.bool b) ∧ ∃ k, w' = w.drewN k
def BoolBelow (b : Bool) (w : World) (e : Ending) (w' : World) : Prop := e = .returned (.bool b) ∧ Below w.heap.size w w'

theorem below_drewN {B : Nat} {a w : World} (h : Below B a w) (n : Nat) : Below B a (w.drewN n) := ⟨h.os, h.tape, h.output, h.size, h.block⟩

theorem int_info : (Tryz.prog.info? 3).map (fun i => (i.zero, i.size, i.bytes)) = some (some (.int .i64 0), 1, 8) := by kernel_rfl

theorem news_one (w : World) (x : Int) : ∀ j u, ([Value.int .i64 x] : List Value)[j]? = some u → (w.alloc (.cells #[.int .i64 x] 3)).cell? ((⟨w.heap.size, 0, none⟩ : Addr).add j) = some u := by
  intro j u hj
  match j, hj with
  | 0, hj => simp at hj; subst hj; simp [Addr.add]
theorem one_one (x : Int) : ∀ u ∈ ([Value.int .i64 x] : List Value), u.oneCell' = true := by intro u hu; simp at hu; subst hu; rfl

theorem own_slice {w : World} {base : Nat} {e : TypeId} {n : Nat} {v : Value} {xs : List Value} (h : w.ownsRow base e 1 v n xs) : ∃ A c, v = .slice A n c := by
  have h1 := h.1
  rcases h.2 with ⟨rfl, rfl⟩ | ⟨g, cap, cur, rfl, _⟩
  · simp at h1; subst h1; exact ⟨_, _, rfl⟩
  · exact ⟨_, _, rfl⟩

/-- One round of 'out = append(out, x)': old memory is as it was. -/
theorem round_append {w wr w1 : World} {v : Value} {k : Nat} {xs : List Value} {o : Obj} (hb : Below w.heap.size w wr)
    (hown : wr.ownsRow w.heap.size 3 1 v k xs)
    (hg : (wr.alloc o).grownBy w1 v.ownBlock) : Below w.heap.size w w1 :=
  (hb.alloc hb.size o).grown hg (by have := hb.size; simp; omega) (fun g hg => (hown.lt g hg).1)

/-- A row of the call's own, handed back with a number. -/
theorem res_own {w wr : World} {v : Value} {n : Nat} {xs : List Int} {k : Int} (hown : wr.ownsRow w.heap.size 3 1 v n (xs.map (Value.int .i64))) (hb : Below w.heap.size w wr) :
    IntsRes xs k w (.returned (.tuple #[v, .int .i64 k])) wr := by
  obtain ⟨A, c, rfl⟩ := own_slice hown
  have hI := Ints.of_own hown
  have e1 := hI.1
  exact ⟨A, c, by rw [← e1], hI.2, hb⟩
theorem res_ownB {B base : Nat} {w wr : World} {v : Value} {n : Nat} {xs : List Int} {k : Int} (hown : wr.ownsRow base 3 1 v n (xs.map (Value.int .i64))) (hb : Below B w wr) :
    IntsResB B xs k w (.returned (.tuple #[v, .int .i64 k])) wr := by
  obtain ⟨A, c, rfl⟩ := own_slice hown
  have hI := Ints.of_own hown
  have e1 := hI.1
  exact ⟨A, c, by rw [← e1], hI.2, hb⟩


/-! ### Operations, configurations, scripts -/
structure OpV where
  kind : Int
  slot : Int
  pos : Int
  num : Int
  id : Int
  grav : Int
  text : ByteArray
structure CfgV where
  slots : Int
  gens : Int
  clients : Int
  readers : Int
  queue : Int
  batch : Int
  feed : Int
  text : ByteArray
structure ScrV where
  cfg : CfgV
  progs : List (List OpV)
  picks : List Int

abbrev opVal (o : OpV) : Value := .agg #[.int .u8 o.kind, .int .i64 o.slot, .int .i64 o.pos, .int .i64 o.num, .int .u32 o.id, .int .u8 o.grav, .string o.text]
abbrev cfgVal (c : CfgV) : Value := .agg #[.int .i64 c.slots, .int .u64 c.gens, .int .i64 c.clients, .int .i64 c.readers, .int .i64 c.queue, .int .i64 c.batch, .int .i64 c.feed, .string c.text]
abbrev scrVal (c : CfgV) (p k : Value) : Value := .agg #[.int .i64 c.slots, .int .u64 c.gens, .int .i64 c.clients, .int .i64 c.readers, .int .i64 c.queue, .int .i64 c.batch, .int .i64 c.feed, .string c.text, p, k]

/-- The seven cells of an operation at ⟨b, o⟩. -/
structure OpAt (w : World) (b o : Nat) (x : OpV) : Prop where
  c0 : w.cell? ⟨b, o, none⟩ = some (.int .u8 x.kind)
  c1 : w.cell? ⟨b, o + 1, none⟩ = some (.int .i64 x.slot)
  c2 : w.cell? ⟨b, o + 2, none⟩ = some (.int .i64 x.pos)
  c3 : w.cell? ⟨b, o + 3, none⟩ = some (.int .i64 x.num)
  c4 : w.cell? ⟨b, o + 4, none⟩ = some (.int .u32 x.id)
  c5 : w.cell? ⟨b, o + 5, none⟩ = some (.int .u8 x.grav)
  c6 : w.cell? ⟨b, o + 6, none⟩ = some (.string x.text)
theorem OpAt.keep {w w' : World} {b o : Nat} {x : OpV} (h : OpAt w b o x) (hk : w'.heap[b]? = w.heap[b]?) : OpAt w' b o x :=
  ⟨(World.cell?_of_block (a := ⟨b, _, none⟩) hk).trans h.c0, (World.cell?_of_block (a := ⟨b, _, none⟩) hk).trans h.c1, (World.cell?_of_block (a := ⟨b, _, none⟩) hk).trans h.c2, (World.cell?_of_block (a := ⟨b, _, none⟩) hk).trans h.c3,
    (World.cell?_of_block (a := ⟨b, _, none⟩) hk).trans h.c4, (World.cell?_of_block (a := ⟨b, _, none⟩) hk).trans h.c5, (World.cell?_of_block (a := ⟨b, _, none⟩) hk).trans h.c6⟩

def noOp : OpV := ⟨0, 0, 0, 0, 0, 0, ByteArray.empty⟩
/-- The slice '.slice A n c' with n = xs.length reads as the operations xs. -/
def OpsAt (w : World) (B : Nat) (A : Option Addr) (xs : List OpV) : Prop :=
  0 < xs.length → ∃ b o, A = some ⟨b, o, none⟩ ∧ b < B ∧ ∀ j, j < xs.length → OpAt w b (o + j * 7) (xs.getD j noOp)
theorem OpsAt.nil_ (w : World) (B : Nat) (A : Option Addr) : OpsAt w B A [] := fun h => absurd h (by simp)
theorem OpsAt.below {w w' : World} {B B' : Nat} {A : Option Addr} {xs : List OpV} (h : OpsAt w B A xs) (hb : Below B w w') (hB : B ≤ B') : OpsAt w' B' A xs := fun hx => by
  obtain ⟨b, o, rfl, hlt, hc⟩ := h hx
  exact ⟨b, o, rfl, by omega, fun j hj => (hc j hj).keep (hb.block b hlt)⟩
/-- .. as the programs ps. -/
def ProgsAt (w : World) (B : Nat) (A : Option Addr) (ps : List (List OpV)) : Prop :=
  0 < ps.length → ∃ b o, A = some ⟨b, o, none⟩ ∧ b < B ∧ ∀ j, j < ps.length → ∃ A' c, w.cell? ⟨b, o + j, none⟩ = some (.slice A' (ps.getD j []).length c) ∧ OpsAt w B A' (ps.getD j [])
theorem ProgsAt.nil_ (w : World) (B : Nat) (A : Option Addr) : ProgsAt w B A [] := fun h => absurd h (by simp)
theorem ProgsAt.below {w w' : World} {B B' : Nat} {A : Option Addr} {ps : List (List OpV)} (h : ProgsAt w B A ps) (hb : Below B w w') (hB : B ≤ B') : ProgsAt w' B' A ps := fun hx => by
  obtain ⟨b, o, rfl, hlt, hc⟩ := h hx
  refine ⟨b, o, rfl, by omega, fun j hj => ?_⟩
  obtain ⟨A', c, h1, h2⟩ := hc j hj
  exact ⟨A', c, (hb.cell (p := ⟨b, o + j, none⟩) hlt).trans h1, h2.below hb hB⟩
/-- A script's value: its cells, and what its slices read as. -/
def ScrAt (w : World) (B : Nat) (v : Value) (s : ScrV) : Prop :=
  ∃ Ap cp Ak ck, v = scrVal s.cfg (.slice Ap s.progs.length cp) (.slice Ak s.picks.length ck) ∧ ProgsAt w B Ap s.progs ∧ Ints w B Ak s.picks
theorem ScrAt.below {w w' : World} {B B' : Nat} {v : Value} {s : ScrV} (h : ScrAt w B v s) (hb : Below B w w') (hB : B ≤ B') : ScrAt w' B' v s := by
  obtain ⟨Ap, cp, Ak, ck, e, h1, h2⟩ := h
  exact ⟨Ap, cp, Ak, ck, e, h1.below hb hB, h2.below hb hB⟩
end Go.Proofs.YtbjadgggpkbjmaaGreat
namespace Go.Proofs.YtbjadgggpkbjmaaGreat
open Go.RowKit

theorem take_succ_eq (xs ys : List Int) (k : Nat) (hx : k < xs.length) (hy : k < ys.length) (h : xs.take k = ys.take k) (he : xs.getD k 0 = ys.getD k 0) :
    xs.take (k+1) = ys.take (k+1) := by
  rw [List.take_succ_eq_append_getElem hx, List.take_succ_eq_append_getElem hy, h]
  simp [List.getD_eq_getElem?_getD, hx, hy] at he
  rw [he]

set_option maxHeartbeats 400000 in
theorem eqInts_some (b o b' o' c c' : Nat) (xs ys : List Int) (w : World)
    (hl : xs.length = ys.length) (hm : xs.length ≤ 9223372036854775807)
    (h : ∀ j, j < xs.length → w.cell? ⟨b, o + j, none⟩ = some (.int .i64 (xs.getD j 0)))
    (h' : ∀ j, j < ys.length → w.cell? ⟨b', o' + j, none⟩ = some (.int .i64 (ys.getD j 0))) :
    Calls Tryz.prog 14 #[.slice (some ⟨b, o, none⟩) xs.length c, .slice (some ⟨b', o', none⟩) ys.length c'] w (BoolDrew (decide (xs = ys)) w) := by
  have HL := Lib.hid hl
  rw [← hl]
  generalize hn : xs.length = n at *
  have hn' : n = ys.length := hl
  have HN := Lib.hid hn
  clear hn hl hn'
  have HH := Lib.hid h
  have HH' := Lib.hid h'
  clear h h'
  have hne : ((n : Int) != (n : Int)) = false := by simp
  go_enter Tryz.func14, Tryz.ntmps14
  go_wp2
  go_loopw [5] (fun i wr => ∃ k : Nat, k ≤ n ∧ i = .int .i64 k ∧ Hid (xs.take k = ys.take k) ∧ Hid (∃ m, wr = w.drewN m)) (fun i _ => n - (intOf i).toNat)
  case atStart => exact ⟨0, Nat.zero_le _, rfl, rfl, 0, rfl⟩
  case round =>
    obtain ⟨k, hk, rfl, HT, HW⟩ := hrel
    have hwr : ∀ p, wr.cell? p = w.cell? p := by obtain ⟨m, rfl⟩ := HW.out; intro p; rfl
    by_cases hlt : k < n
    · have hx : wr.cell? ⟨b, o + k, none⟩ = some (.int .i64 (xs.getD k 0)) := by rw [hwr]; exact HH.out k hlt
      have hy : wr.cell? ⟨b', o' + k, none⟩ = some (.int .i64 (ys.getD k 0)) := by rw [hwr]; exact HH'.out k (by rw [← HL.out]; exact hlt)
      clear hwr
      have hki : (k : Int) < (n : Int) := by omega
      generalize hxv : xs.getD k 0 = xv at *
      generalize hyv : ys.getD k 0 = yv at *
      have HX := Lib.hid hxv
      have HY := Lib.hid hyv
      clear hxv hyv
      by_cases hxy : xv = yv
      · subst hxy
        have hbe : (xv != xv) = false := by simp
        go_wp2
        go_quiet (fail)
        go_wp2
        go_roundw
        case rel => 
          refine ⟨k + 1, by omega, by go_num, ?_, ?_⟩
          · exact take_succ_eq xs ys k (by rw [HN.out]; exact hlt) (by rw [← HL.out]; exact hlt) HT.out (HX.out.trans HY.out.symm)
          · obtain ⟨m, rfl⟩ := HW.out
            exact ⟨_, World.drewN_drewN _ _ _⟩
        case measure => simp [intOf]; omega
      · have hbe : (xv != yv) = true := by simpa using hxy
        go_wp2
        go_quiet (fail)
        go_wp2
        go_ret
        refine ⟨?_, ?_⟩
        · have : xs ≠ ys := fun e => hxy (by rw [← HX.out, ← HY.out, e])
          simp [this]
        · obtain ⟨m, rfl⟩ := HW.out
          exact ⟨_, World.drewN_drewN _ _ _⟩
    · clear hwr
      go_wp2
      go_ret
      obtain rfl : k = n := by omega
      have e : xs = ys := by
        have := HT.out
        rwa [List.take_of_length_le (by rw [HN.out]; omega), List.take_of_length_le (by rw [← HL.out]; omega)] at this
      exact ⟨by simp [e], HW.out⟩

theorem eqInts_lens (A A' : Option Addr) (n n' c c' : Nat) (w : World) (h : n ≠ n') : Calls Tryz.prog 14 #[.slice A n c, .slice A' n' c'] w (BoolDrew false w) := by
  have hne : ((n : Int) != (n' : Int)) = true := by simp; omega
  clear h
  go_enter Tryz.func14, Tryz.ntmps14
  go_wp2
  go_ret
  exact ⟨rfl, 0, rfl⟩
theorem eqInts_zero (A A' : Option Addr) (c c' : Nat) (w : World) : Calls Tryz.prog 14 #[.slice A 0 c, .slice A' 0 c'] w (BoolDrew true w) := by
  go_enter Tryz.func14, Tryz.ntmps14
  go_wp2
  refine wp_loop_rounds 1 ?_
  rw [rounds_succ]
  go_wp2
  go_ret
  exact ⟨rfl, 0, rfl⟩

/-- K.EqualInts: it compares the lists that the slices read as; it only reads. -/
theorem eqInts_any (A A' : Option Addr) (c c' B B' : Nat) (xs ys : List Int) (w : World) (hm : xs.length ≤ 9223372036854775807) (h : Ints w B A xs) (h' : Ints w B' A' ys) :
    Calls Tryz.prog 14 #[.slice A xs.length c, .slice A' ys.length c'] w (BoolDrew (decide (xs = ys)) w) := by
  by_cases hl : xs.length = ys.length
  · by_cases h0 : 0 < xs.length
    · obtain ⟨b, o, rfl, _, hc⟩ := h h0
      obtain ⟨b', o', rfl, _, hc'⟩ := h' (by omega)
      exact eqInts_some b o b' o' c c' xs ys w hl hm hc hc'
    · have e1 : xs = [] := List.eq_nil_of_length_eq_zero (by omega)
      have e2 : ys = [] := List.eq_nil_of_length_eq_zero (by omega)
      subst e1 e2
      exact eqInts_zero A A' c c' w
  · have : decide (xs = ys) = false := by simp; intro e; exact hl (by rw [e])
    rw [this]
    exact eqInts_lens A A' _ _ c c' w hl
end Go.Proofs.YtbjadgggpkbjmaaGreat
namespace Go.Proofs.YtbjadgggpkbjmaaGreat
open Go.RowKit

theorem bytes_ext {s t : ByteArray} : s.toList = t.toList ↔ s = t := by
  constructor
  · intro h
    rw [ByteArray.toList_eq, ByteArray.toList_eq] at h
    obtain ⟨⟨x⟩⟩ := s
    obtain ⟨⟨y⟩⟩ := t
    simp at h
    rw [h]
  · rintro rfl; rfl

theorem opNe_run (x0 x1 x2 x3 x4 x5 y0 y1 y2 y3 y4 y5 : Int) (x6 y6 : ByteArray) (w : World) :
    (binOp .neq 40 (opVal ⟨x0, x1, x2, x3, x4, x5, x6⟩) (opVal ⟨y0, y1, y2, y3, y4, y5, y6⟩)).run Tryz.prog w = .ok (.bool (!(x0 == y0 && x1 == y1 && x2 == y2 && x3 == y3 && x4 == y4 && x5 == y5 && x6.toList == y6.toList))) w := by
  go_simp
  by_cases h0 : x0 = y0
  case neg => simp [h0]
  by_cases h1 : x1 = y1
  case neg => simp [h0, h1]
  by_cases h2 : x2 = y2
  case neg => simp [h0, h1, h2]
  by_cases h3 : x3 = y3
  case neg => simp [h0, h1, h2, h3]
  by_cases h4 : x4 = y4
  case neg => simp [h0, h1, h2, h3, h4]
  by_cases h5 : x5 = y5
  case neg => simp [h0, h1, h2, h3, h4, h5]
  by_cases h6 : x6.toList = y6.toList
  case neg => simp [h0, h1, h2, h3, h4, h5, h6]
  simp [h0, h1, h2, h3, h4, h5, h6]
theorem opNe_same (x : OpV) (w : World) : (binOp .neq 40 (opVal x) (opVal x)).run Tryz.prog w = .ok (.bool false) w := by
  obtain ⟨x0, x1, x2, x3, x4, x5, x6⟩ := x
  rw [opNe_run]; simp
theorem opNe_other (x y : OpV) (h : x ≠ y) (w : World) : (binOp .neq 40 (opVal x) (opVal y)).run Tryz.prog w = .ok (.bool true) w := by
  obtain ⟨x0, x1, x2, x3, x4, x5, x6⟩ := x
  obtain ⟨y0, y1, y2, y3, y4, y5, y6⟩ := y
  rw [opNe_run]
  have hb : (x0 == y0 && x1 == y1 && x2 == y2 && x3 == y3 && x4 == y4 && x5 == y5 && x6.toList == y6.toList) = false := by
    rw [Bool.eq_false_iff]
    intro e
    apply h
    simp only [Bool.and_eq_true, beq_iff_eq] at e
    simp only [OpV.mk.injEq]
    simp [e, bytes_ext.1 e.2]
  rw [hb]; rfl
theorem cfgEq_run (x0 x1 x2 x3 x4 x5 x6 y0 y1 y2 y3 y4 y5 y6 : Int) (x7 y7 : ByteArray) (w : World) :
    (binOp .eql 24 (cfgVal ⟨x0, x1, x2, x3, x4, x5, x6, x7⟩) (cfgVal ⟨y0, y1, y2, y3, y4, y5, y6, y7⟩)).run Tryz.prog w = .ok (.bool ((x0 == y0 && x1 == y1 && x2 == y2 && x3 == y3 && x4 == y4 && x5 == y5 && x6 == y6 && x7.toList == y7.toList))) w := by
  go_simp
  by_cases h0 : x0 = y0
  case neg => simp [h0]
  by_cases h1 : x1 = y1
  case neg => simp [h0, h1]
  by_cases h2 : x2 = y2
  case neg => simp [h0, h1, h2]
  by_cases h3 : x3 = y3
  case neg => simp [h0, h1, h2, h3]
  by_cases h4 : x4 = y4
  case neg => simp [h0, h1, h2, h3, h4]
  by_cases h5 : x5 = y5
  case neg => simp [h0, h1, h2, h3, h4, h5]
  by_cases h6 : x6 = y6
  case neg => simp [h0, h1, h2, h3, h4, h5, h6]
  by_cases h7 : x7.toList = y7.toList
  case neg => simp [h0, h1, h2, h3, h4, h5, h6, h7]
  simp [h0, h1, h2, h3, h4, h5, h6, h7]
theorem cfgEq_same (x : CfgV) (w : World) : (binOp .eql 24 (cfgVal x) (cfgVal x)).run Tryz.prog w = .ok (.bool true) w := by
  obtain ⟨x0, x1, x2, x3, x4, x5, x6, x7⟩ := x
  rw [cfgEq_run]; simp
theorem cfgEq_other (x y : CfgV) (h : x ≠ y) (w : World) : (binOp .eql 24 (cfgVal x) (cfgVal y)).run Tryz.prog w = .ok (.bool false) w := by
  obtain ⟨x0, x1, x2, x3, x4, x5, x6, x7⟩ := x
  obtain ⟨y0, y1, y2, y3, y4, y5, y6, y7⟩ := y
  rw [cfgEq_run]
  have hb : (x0 == y0 && x1 == y1 && x2 == y2 && x3 == y3 && x4 == y4 && x5 == y5 && x6 == y6 && x7.toList == y7.toList) = false := by
    rw [Bool.eq_false_iff]
    intro e
    apply h
    simp only [Bool.and_eq_true, beq_iff_eq] at e
    simp only [CfgV.mk.injEq]
    simp [e, bytes_ext.1 e.2]
  rw [hb]
theorem cfgNe_run (x0 x1 x2 x3 x4 x5 x6 y0 y1 y2 y3 y4 y5 y6 : Int) (x7 y7 : ByteArray) (w : World) :
    (binOp .neq 24 (cfgVal ⟨x0, x1, x2, x3, x4, x5, x6, x7⟩) (cfgVal ⟨y0, y1, y2, y3, y4, y5, y6, y7⟩)).run Tryz.prog w = .ok (.bool (!(x0 == y0 && x1 == y1 && x2 == y2 && x3 == y3 && x4 == y4 && x5 == y5 && x6 == y6 && x7.toList == y7.toList))) w := by
  go_simp
  by_cases h0 : x0 = y0
  case neg => simp [h0]
  by_cases h1 : x1 = y1
  case neg => simp [h0, h1]
  by_cases h2 : x2 = y2
  case neg => simp [h0, h1, h2]
  by_cases h3 : x3 = y3
  case neg => simp [h0, h1, h2, h3]
  by_cases h4 : x4 = y4
  case neg => simp [h0, h1, h2, h3, h4]
  by_cases h5 : x5 = y5
  case neg => simp [h0, h1, h2, h3, h4, h5]
  by_cases h6 : x6 = y6
  case neg => simp [h0, h1, h2, h3, h4, h5, h6]
  by_cases h7 : x7.toList = y7.toList
  case neg => simp [h0, h1, h2, h3, h4, h5, h6, h7]
  simp [h0, h1, h2, h3, h4, h5, h6, h7]
theorem cfgNe_same (x : CfgV) (w : World) : (binOp .neq 24 (cfgVal x) (cfgVal x)).run Tryz.prog w = .ok (.bool false) w := by
  obtain ⟨x0, x1, x2, x3, x4, x5, x6, x7⟩ := x
  rw [cfgNe_run]; simp
theorem cfgNe_other (x y : CfgV) (h : x ≠ y) (w : World) : (binOp .neq 24 (cfgVal x) (cfgVal y)).run Tryz.prog w = .ok (.bool true) w := by
  obtain ⟨x0, x1, x2, x3, x4, x5, x6, x7⟩ := x
  obtain ⟨y0, y1, y2, y3, y4, y5, y6, y7⟩ := y
  rw [cfgNe_run]
  have hb : (x0 == y0 && x1 == y1 && x2 == y2 && x3 == y3 && x4 == y4 && x5 == y5 && x6 == y6 && x7.toList == y7.toList) = false := by
    rw [Bool.eq_false_iff]
    intro e
    apply h
    simp only [Bool.and_eq_true, beq_iff_eq] at e
    simp only [CfgV.mk.injEq]
    simp [e, bytes_ext.1 e.2]
  rw [hb]; rfl

theorem take_succ_gen {α : Type} (d : α) (xs ys : List α) (k : Nat) (hx : k < xs.length) (hy : k < ys.length) (h : xs.take k = ys.take k) (he : xs.getD k d = ys.getD k d) :
    xs.take (k+1) = ys.take (k+1) := by
  rw [List.take_succ_eq_append_getElem hx, List.take_succ_eq_append_getElem hy, h]
  simp [List.getD_eq_getElem?_getD, hx, hy] at he
  rw [he]

open Classical in
/-- What comparing two things of Lean's own says. -/
noncomputable def same {α : Type} (x y : α) : Bool := decide (x = y)
theorem same_self {α : Type} (x : α) : same x x = true := by simp [same]
theorem same_ne {α : Type} {x y : α} (h : x ≠ y) : same x y = false := by simp [same, h]
theorem same_comm {α : Type} (x y : α) : same x y = same y x := by simp [same, eq_comm]
theorem same_ints (x y : List Int) : decide (x = y) = same x y := by unfold same; exact decide_eq_decide.2 Iff.rfl

set_option maxHeartbeats 800000 in
theorem eqOps_some (b o b' o' c c' : Nat) (xs ys : List OpV) (w : World)
    (hl : xs.length = ys.length) (hm : xs.length ≤ 9223372036854775807)
    (h : ∀ j, j < xs.length → OpAt w b (o + j * 7) (xs.getD j noOp))
    (h' : ∀ j, j < ys.length → OpAt w b' (o' + j * 7) (ys.getD j noOp)) :
    Calls Tryz.prog 15 #[.slice (some ⟨b, o, none⟩) xs.length c, .slice (some ⟨b', o', none⟩) ys.length c'] w (BoolDrew (same xs ys) w) := by
  have HL := Lib.hid hl
  rw [← hl]
  generalize hn : xs.length = n at *
  have hn' : n = ys.length := hl
  have HN := Lib.hid hn
  clear hn hl hn'
  have HH := Lib.hid h
  have HH' := Lib.hid h'
  clear h h'
  have hne : ((n : Int) != (n : Int)) = false := by simp
  go_enter Tryz.func15, Tryz.ntmps15
  go_wp2
  go_loopw [5] (fun i wr => ∃ k : Nat, k ≤ n ∧ i = .int .i64 k ∧ Hid (xs.take k = ys.take k) ∧ Hid (∃ m, wr = w.drewN m)) (fun i _ => n - (intOf i).toNat)
  case atStart => exact ⟨0, Nat.zero_le _, rfl, rfl, 0, rfl⟩
  case round =>
    obtain ⟨k, hk, rfl, HT, HW⟩ := hrel
    have hwr : ∀ q : Nat, wr.heap[q]? = w.heap[q]? := by obtain ⟨m, rfl⟩ := HW.out; intro q; rfl
    by_cases hlt : k < n
    · obtain ⟨x0, x1, x2, x3, x4, x5, x6⟩ := (HH.out k hlt).keep (hwr b)
      obtain ⟨y0, y1, y2, y3, y4, y5, y6⟩ := (HH'.out k (by rw [← HL.out]; exact hlt)).keep (hwr b')
      clear hwr
      have hki : (k : Int) < (n : Int) := by omega
      generalize hxv : xs.getD k noOp = xv at *
      generalize hyv : ys.getD k noOp = yv at *
      have HX := Lib.hid hxv
      have HY := Lib.hid hyv
      clear hxv hyv
      by_cases hxy : xv = yv
      · subst hxy
        have hbe := opNe_same xv
        go_wp2
        go_quiet (fail)
        go_wp2
        go_roundw
        case rel =>
          refine ⟨k + 1, by omega, by go_num, ?_, ?_⟩
          · exact take_succ_gen noOp xs ys k (by rw [HN.out]; exact hlt) (by rw [← HL.out]; exact hlt) HT.out (HX.out.trans HY.out.symm)
          · obtain ⟨m, rfl⟩ := HW.out
            exact ⟨_, World.drewN_drewN _ _ _⟩
        case measure => simp [intOf]; omega
      · have hbe := opNe_other xv yv hxy
        go_wp2
        go_quiet (fail)
        go_wp2
        go_ret
        refine ⟨?_, ?_⟩
        · have : xs ≠ ys := fun e => hxy (by rw [← HX.out, ← HY.out, e])
          simp [same_ne this]
        · obtain ⟨m, rfl⟩ := HW.out
          exact ⟨_, World.drewN_drewN _ _ _⟩
    · clear hwr
      go_wp2
      go_ret
      obtain rfl : k = n := by omega
      have e : xs = ys := by
        have := HT.out
        rwa [List.take_of_length_le (by rw [HN.out]; omega), List.take_of_length_le (by rw [← HL.out]; omega)] at this
      exact ⟨by simp [e, same], HW.out⟩

theorem eqOps_lens (A A' : Option Addr) (n n' c c' : Nat) (w : World) (h : n ≠ n') : Calls Tryz.prog 15 #[.slice A n c, .slice A' n' c'] w (BoolDrew false w) := by
  have hne : ((n : Int) != (n' : Int)) = true := by simp; omega
  clear h
  go_enter Tryz.func15, Tryz.ntmps15
  go_wp2
  go_ret
  exact ⟨rfl, 0, rfl⟩
theorem eqOps_zero (A A' : Option Addr) (c c' : Nat) (w : World) : Calls Tryz.prog 15 #[.slice A 0 c, .slice A' 0 c'] w (BoolDrew true w) := by
  go_enter Tryz.func15, Tryz.ntmps15
  go_wp2
  refine wp_loop_rounds 1 ?_
  rw [rounds_succ]
  go_wp2
  go_ret
  exact ⟨rfl, 0, rfl⟩
theorem eqOps_any (A A' : Option Addr) (c c' B B' : Nat) (xs ys : List OpV) (w : World) (hm : xs.length ≤ 9223372036854775807) (h : OpsAt w B A xs) (h' : OpsAt w B' A' ys) :
    Calls Tryz.prog 15 #[.slice A xs.length c, .slice A' ys.length c'] w (BoolDrew (same xs ys) w) := by
  by_cases hl : xs.length = ys.length
  · by_cases h0 : 0 < xs.length
    · obtain ⟨b, o, rfl, _, hc⟩ := h h0
      obtain ⟨b', o', rfl, _, hc'⟩ := h' (by omega)
      exact eqOps_some b o b' o' c c' xs ys w hl hm hc hc'
    · have e1 : xs = [] := List.eq_nil_of_length_eq_zero (by omega)
      have e2 : ys = [] := List.eq_nil_of_length_eq_zero (by omega)
      subst e1 e2
      rw [same_self]
      exact eqOps_zero A A' c c' w
  · rw [same_ne (fun e => hl (by rw [e]))]
    exact eqOps_lens A A' _ _ c c' w hl

end Go.Proofs.YtbjadgggpkbjmaaGreat
namespace Go.Proofs.YtbjadgggpkbjmaaGreat
open Go.RowKit

theorem OpsAt.drewN {w : World} {B : Nat} {A : Option Addr} {xs : List OpV} (h : OpsAt w B A xs) (k : Nat) : OpsAt (w.drewN k) B A xs := fun hx => by
  obtain ⟨b, o, e, hlt, hc⟩ := h hx
  exact ⟨b, o, e, hlt, fun j hj => (hc j hj).keep rfl⟩
theorem ProgsAt.drewN {w : World} {B : Nat} {A : Option Addr} {ps : List (List OpV)} (h : ProgsAt w B A ps) (k : Nat) : ProgsAt (w.drewN k) B A ps := fun hx => by
  obtain ⟨b, o, e, hlt, hc⟩ := h hx
  refine ⟨b, o, e, hlt, fun j hj => ?_⟩
  obtain ⟨A', c, h1, h2⟩ := hc j hj
  exact ⟨A', c, h1, h2.drewN k⟩
theorem getD_len_le (ps : List (List OpV)) (L : Nat) (h : ∀ q ∈ ps, q.length ≤ L) (k : Nat) : (ps.getD k []).length ≤ L := by
  by_cases hk : k < ps.length
  · simp [List.getD_eq_getElem?_getD, hk]; exact h _ (List.getElem_mem hk)
  · simp [List.getD_eq_getElem?_getD, hk]

end Go.Proofs.YtbjadgggpkbjmaaGreat
namespace Go.Proofs.YtbjadgggpkbjmaaGreat
open Go.RowKit

/-- A script whose slices are of a length that can be counted. -/
def Sized (s : ScrV) : Prop := s.progs.length ≤ 9223372036854775807 ∧ s.picks.length ≤ 9223372036854775807 ∧ ∀ q ∈ s.progs, q.length ≤ 9223372036854775807

theorem same_scr (a b : ScrV) : same a b = (same a.cfg b.cfg && (same a.progs b.progs && same a.picks b.picks)) := by
  by_cases h1 : a.cfg = b.cfg
  · by_cases h2 : a.progs = b.progs
    · by_cases h3 : a.picks = b.picks
      · obtain ⟨x, y, z⟩ := a
        obtain ⟨x', y', z'⟩ := b
        dsimp only at h1 h2 h3
        subst h1 h2 h3
        simp [same_self]
      · rw [same_ne (fun e => h3 (by rw [e])), same_ne h3]; simp
    · rw [same_ne (fun e => h2 (by rw [e])), same_ne h2]; simp
  · rw [same_ne (fun e => h1 (by rw [e])), same_ne h1]; simp

end Go.Proofs.YtbjadgggpkbjmaaGreat
namespace Go.Proofs.YtbjadgggpkbjmaaGreat
open Go.RowKit

theorem same_scr2 (a b : ScrV) : same a b = (same a.cfg b.cfg && (same a.picks b.picks && same a.progs b.progs)) := by
  rw [same_scr, Bool.and_comm (same a.progs b.progs)]

set_option maxHeartbeats 1600000 in
theorem eqScript_at (a b : ScrV) (Ap Ak Bp Bk : Option Addr) (cp ck dp dk : Nat) (w : World) (ha : Sized a)
    (h1 : ProgsAt w w.heap.size Ap a.progs) (h2 : Ints w w.heap.size Ak a.picks) (h3 : ProgsAt w w.heap.size Bp b.progs) (h4 : Ints w w.heap.size Bk b.picks) :
    Calls Tryz.prog 5 #[scrVal a.cfg (.slice Ap a.progs.length cp) (.slice Ak a.picks.length ck), scrVal b.cfg (.slice Bp b.progs.length dp) (.slice Bk b.picks.length dk)] w (BoolBelow (same a b) w) := by
  obtain ⟨ha1, ha2, ha3⟩ := ha
  have hbel : ∀ o o' : Obj, Below w.heap.size w ((w.alloc o).alloc o') := fun o o' => ((Below.refl _ _).alloc (Nat.le_refl _) o).alloc (by simp) o'
  have HP1 := Lib.hid (fun (o o' : Obj) (m : Nat) => (h1.below (hbel o o') (Nat.le_refl _)).drewN m)
  have HP2 := Lib.hid (fun (o o' : Obj) (m : Nat) => (h3.below (hbel o o') (Nat.le_refl _)).drewN m)
  have HK := Lib.hid (fun (o o' : Obj) => eqInts_any Ak Bk ck dk _ _ a.picks b.picks _ ha2 (h2.below (hbel o o') (Nat.le_refl _)) (h4.below (hbel o o') (Nat.le_refl _)))
  have HB := Lib.hid hbel
  have HLL := Lib.hid (getD_len_le a.progs _ ha3)
  rw [same_scr2]
  clear h1 h2 h3 h4 hbel ha2 ha3
  obtain ⟨cfg, ps, ks⟩ := a
  obtain ⟨cfg', qs, ls⟩ := b
  dsimp only at *
  rw [same_ints] at HK
  generalize hn1 : ps.length = n1 at *
  generalize hn2 : qs.length = n2 at *
  generalize ks.length = n3 at *
  generalize ls.length = n4 at *
  have HN1 := Lib.hid hn1
  have HN2 := Lib.hid hn2
  clear hn1 hn2
  by_cases hc : cfg = cfg'
  · subst hc
    have hce := cfgNe_same cfg
    rw [same_self, Bool.true_and]
    generalize hbp : same ks ls = bk at *
    clear hbp
    cases bk
    · rw [Bool.false_and]
      go_enter Tryz.func5, Tryz.ntmps5
      go_wp2_with fail
      refine (HK.out _ _).mono ?_
      rintro e w' ⟨rfl, m, rfl⟩
      go_wp2
      go_ret
      exact ⟨rfl, below_drewN (HB.out _ _) _⟩
    · rw [Bool.true_and]
      by_cases hl : n1 = n2
      · subst hl
        have hne : ((n1 : Int) != (n1 : Int)) = false := by simp
        go_enter Tryz.func5, Tryz.ntmps5
        go_wp2_with fail
        refine (HK.out _ _).mono ?_
        rintro e w' ⟨rfl, m, rfl⟩
        go_wp2
        go_loopw [5] (fun i wr => ∃ k : Nat, k ≤ n1 ∧ i = .int .i64 k ∧ Hid (ps.take k = qs.take k) ∧ wr.cell? ⟨w.heap.size, 8, none⟩ = some (.slice Ap n1 cp) ∧ wr.cell? ⟨w.heap.size + 1, 8, none⟩ = some (.slice Bp n1 dp) ∧
          Hid (ProgsAt wr w.heap.size Ap ps) ∧ Hid (ProgsAt wr w.heap.size Bp qs) ∧ Hid (Below w.heap.size w wr)) (fun i _ => n1 - (intOf i).toNat)
        case atStart => exact ⟨0, Nat.zero_le _, rfl, rfl, by go_simp, by go_simp, HP1.out _ _ _, HP2.out _ _ _, below_drewN (HB.out _ _) _⟩
        case round =>
          obtain ⟨k, hk, rfl, HT, q1, q2, HQ1, HQ2, HW⟩ := hrel
          by_cases hlt : k < n1
          · obtain ⟨b, o, rfl, hb, hcx⟩ := HQ1.out (by rw [HN1.out]; omega)
            obtain ⟨b', o', rfl, hb', hcy⟩ := HQ2.out (by rw [HN2.out]; omega)
            obtain ⟨A1, c1, hx, ha⟩ := hcx k (by rw [HN1.out]; exact hlt)
            obtain ⟨A2, c2, hy, ha'⟩ := hcy k (by rw [HN2.out]; exact hlt)
            have HE := Lib.hid (fun (m : Nat) => eqOps_any A1 A2 c1 c2 _ _ _ _ (wr.drewN m) (HLL.out k) (ha.drewN m) (ha'.drewN m))
            clear ha ha' hcx hcy
            have hki : (k : Int) < (n1 : Int) := by omega
            generalize hxl : (ps.getD k []).length = l1 at *
            generalize hyl : (qs.getD k []).length = l2 at *
            clear hxl hyl
            by_cases hxy : ps.getD k [] = qs.getD k []
            · rw [hxy, same_self] at HE
              have HXY := Lib.hid hxy
              clear hxy
              go_wp2
              go_quiet ((go_at_call 15; exact Calls.quiet_of (HE.out _)))
              go_wp2
              go_roundw
              case rel => exact ⟨k + 1, by omega, by go_num, take_succ_gen [] ps qs k (by rw [HN1.out]; exact hlt) (by rw [HN2.out]; exact hlt) HT.out HXY.out, q1, q2, HQ1.out.drewN _, HQ2.out.drewN _, below_drewN HW.out _⟩
              case measure => simp [intOf]; omega
            · rw [same_ne hxy] at HE
              have HXY := Lib.hid hxy
              clear hxy
              go_wp2
              go_quiet ((go_at_call 15; exact Calls.quiet_of (HE.out _)))
              go_wp2
              go_ret
              rw [same_ne (fun e => HXY.out (by rw [e]))]
              exact ⟨rfl, below_drewN HW.out _⟩
          · obtain rfl : k = n1 := by omega
            go_wp2
            go_ret
            have e : ps = qs := by
              have := HT.out
              rwa [List.take_of_length_le (by rw [HN1.out]; omega), List.take_of_length_le (by rw [HN2.out]; omega)] at this
            rw [e, same_self]
            exact ⟨rfl, HW.out⟩
      · have hne : ((n1 : Int) != (n2 : Int)) = true := by simp; omega
        rw [same_ne (fun e => hl (by rw [← HN1.out, ← HN2.out, e]))]
        clear hl
        go_enter Tryz.func5, Tryz.ntmps5
        go_wp2_with fail
        refine (HK.out _ _).mono ?_
        rintro e w' ⟨rfl, m, rfl⟩
        go_wp2
        go_ret
        exact ⟨rfl, below_drewN (HB.out _ _) _⟩
  · have hce := cfgNe_other cfg cfg' hc
    rw [same_ne hc, Bool.false_and]
    clear hc
    go_enter Tryz.func5, Tryz.ntmps5
    go_wp2
    go_ret
    exact ⟨rfl, HB.out _ _⟩
end Go.Proofs.YtbjadgggpkbjmaaGreat
namespace Go.Proofs.YtbjadgggpkbjmaaGreat
open Go.RowKit

/-- Block q has elements of type t. -/
def ElemT (w : World) (q : Nat) (t : TypeId) : Prop := ∃ cs, w.heap[q]? = some (.cells cs t (0, 0))
theorem ElemT.lt {w : World} {q : Nat} {t : TypeId} (h : ElemT w q t) : q < w.heap.size := by
  obtain ⟨cs, h⟩ := h
  rcases Nat.lt_or_ge q w.heap.size with hlt | hge
  · exact hlt
  · rw [Array.getElem?_eq_none hge] at h; cases h
theorem ElemT.ne {w : World} {q q' : Nat} {t t' : TypeId} (h : ElemT w q t) (h' : ElemT w q' t') (hne : t ≠ t') : q ≠ q' := by
  rintro rfl
  obtain ⟨cs, h⟩ := h
  obtain ⟨cs', h'⟩ := h'
  rw [h] at h'
  injection h' with h'
  injection h' with _ e
  exact hne e
theorem ElemT.keep {w w' : World} {q : Nat} {t : TypeId} (h : ElemT w q t) (hk : w'.heap[q]? = w.heap[q]?) : ElemT w' q t := by
  obtain ⟨cs, h⟩ := h
  exact ⟨cs, hk.trans h⟩
theorem ElemT.set {w : World} {q : Nat} {t : TypeId} (h : ElemT w q t) (p : Addr) (v : Value) (hp : p.spot = none) : ElemT (w.setCell p v) q t := by
  by_cases e : q = p.block
  · obtain ⟨cs, h⟩ := h
    subst e
    exact ⟨cs.setIfInBounds p.off v, by simp [World.setCell, Array.getElem?_modify, h, hp]⟩
  · exact h.keep (Below.heap_setCell _ _ _ _ e)
theorem ElemT.frozen {w : World} {q : Nat} {t : TypeId} (h : ElemT w q t) (o : Nat) : w.frozen? ⟨q, o, none⟩ = false := by
  obtain ⟨cs, h⟩ := h
  simp [World.frozen?, h]
theorem own_elem {w : World} {base : Nat} {e : TypeId} {size n : Nat} {v : Value} {xs : List Value} (h : w.ownsRow base e size v n xs) {q : Nat} (hq : v.ownBlock = some q) : ElemT w q e := by
  rcases h.2 with ⟨rfl, _⟩ | ⟨g, cap, cur, rfl, _, hh, _⟩
  · simp [Value.ownBlock] at hq
  · simp [Value.ownBlock] at hq
    subst hq
    exact ⟨cur, hh⟩

/-- What may have been written between w and w': a block of another type than a script's, or a program's row from lim on. -/
def Mild (w w' : World) (lim : Nat) : Prop :=
  w'.os = w.os ∧ w'.tape = w.tape ∧ w'.output = w.output ∧ w.heap.size ≤ w'.heap.size ∧
    ∀ q t, ElemT w q t → (t = 28 ∨ t = 41 ∨ t = 3 ∨ t = 40) → (t = 40 → q < lim) → w'.heap[q]? = w.heap[q]?
theorem Mild.refl (w : World) (lim : Nat) : Mild w w lim := ⟨rfl, rfl, rfl, Nat.le_refl _, fun _ _ _ _ _ => rfl⟩
theorem Mild.grown {w w' : World} {lim : Nat} {row : Option Nat} (hg : w.grownBy w' row) (hr : ∀ q, row = some q → ∃ t, ElemT w q t ∧ ((t ≠ 28 ∧ t ≠ 41 ∧ t ≠ 3 ∧ t ≠ 40) ∨ (t = 40 ∧ lim ≤ q))) : Mild w w' lim := by
  refine ⟨hg.os, hg.tape, hg.output, hg.size, fun q t ht hk hl => hg.block q ht.lt (fun e => ?_)⟩
  obtain ⟨t', ht', h⟩ := hr q e.symm
  have : t = t' := Classical.byContradiction fun hne => ht.ne ht' hne rfl
  subst this
  rcases h with ⟨h1, h2, h3, h4⟩ | ⟨h4, h5⟩
  · rcases hk with e | e | e | e
    · exact h1 e
    · exact h2 e
    · exact h3 e
    · exact h4 e
  · have := hl h4
    omega
theorem Mild.alloc (w : World) (o : Obj) (lim : Nat) : Mild w (w.alloc o) lim := ⟨rfl, rfl, rfl, by simp, fun q _ ht _ _ => Below.heap_alloc _ _ _ ht.lt⟩
theorem Mild.drewN (w : World) (k lim : Nat) : Mild w (w.drewN k) lim := ⟨rfl, rfl, rfl, Nat.le_refl _, fun _ _ _ _ _ => rfl⟩
theorem Mild.set {w : World} {p : Addr} {t : TypeId} (v : Value) (lim : Nat) (ht : ElemT w p.block t) (h : (t ≠ 28 ∧ t ≠ 41 ∧ t ≠ 3 ∧ t ≠ 40) ∨ (t = 40 ∧ lim ≤ p.block)) : Mild w (w.setCell p v) lim :=
  Mild.grown (row := some p.block) ⟨rfl, rfl, rfl, by simp, fun k _ hk => Below.heap_setCell _ _ _ _ (fun e => hk (by rw [e]))⟩ (fun q e => by injection e with e; subst e; exact ⟨t, ht, h⟩)

/-- The operations of a finished program: in a row of operations below lim. -/
def OpsIn (w : World) (lim : Nat) (A : Option Addr) (xs : List OpV) : Prop :=
  0 < xs.length → ∃ b o, A = some ⟨b, o, none⟩ ∧ b < lim ∧ ElemT w b 40 ∧ ∀ j, j < xs.length → OpAt w b (o + j * 7) (xs.getD j noOp)
theorem OpsIn.mild {w w' : World} {lim : Nat} {A : Option Addr} {xs : List OpV} (h : OpsIn w lim A xs) (hm : Mild w w' lim) : OpsIn w' lim A xs := fun hx => by
  obtain ⟨b, o, e, hb, ht, hc⟩ := h hx
  have hk := hm.2.2.2.2 b 40 ht (by simp) (fun _ => hb)
  exact ⟨b, o, e, hb, ht.keep hk, fun j hj => (hc j hj).keep hk⟩
theorem OpsIn.more {w : World} {lim lim' : Nat} {A : Option Addr} {xs : List OpV} (h : OpsIn w lim A xs) (hl : lim ≤ lim') : OpsIn w lim' A xs := fun hx => by
  obtain ⟨b, o, e, hb, ht, hc⟩ := h hx
  exact ⟨b, o, e, by omega, ht, hc⟩
theorem OpsIn.at_ {w : World} {lim : Nat} {A : Option Addr} {xs : List OpV} (h : OpsIn w lim A xs) : OpsAt w w.heap.size A xs := fun hx => by
  obtain ⟨b, o, e, hb, ht, hc⟩ := h hx
  exact ⟨b, o, e, ht.lt, hc⟩

/-- The values of the finished programs. -/
def ProgVals (w : World) (lim : Nat) (vals : List Value) (ps : List (List OpV)) : Prop :=
  vals.length = ps.length ∧ ∀ j, j < ps.length → ∃ A c, vals[j]? = some (.slice A (ps.getD j []).length c) ∧ OpsIn w lim A (ps.getD j [])
theorem ProgVals.mild {w w' : World} {lim : Nat} {vals : List Value} {ps : List (List OpV)} (h : ProgVals w lim vals ps) (hm : Mild w w' lim) : ProgVals w' lim vals ps :=
  ⟨h.1, fun j hj => by obtain ⟨A, c, h1, h2⟩ := h.2 j hj; exact ⟨A, c, h1, h2.mild hm⟩⟩
theorem ProgVals.more {w : World} {lim lim' : Nat} {vals : List Value} {ps : List (List OpV)} (h : ProgVals w lim vals ps) (hl : lim ≤ lim') : ProgVals w lim' vals ps :=
  ⟨h.1, fun j hj => by obtain ⟨A, c, h1, h2⟩ := h.2 j hj; exact ⟨A, c, h1, h2.more hl⟩⟩
theorem ProgVals.snoc {w : World} {lim : Nat} {vals : List Value} {ps : List (List OpV)} {A : Option Addr} {c : Nat} {xs : List OpV} (h : ProgVals w lim vals ps) (hx : OpsIn w lim A xs) : ProgVals w lim (vals ++ [.slice A xs.length c]) (ps ++ [xs]) := by
  refine ⟨by simp [h.1], fun j hj => ?_⟩
  rcases Nat.lt_or_ge j ps.length with hl | hl
  · obtain ⟨A', c', h1, h2⟩ := h.2 j hl
    have e : (ps ++ [xs]).getD j [] = ps.getD j [] := by simp [List.getD_eq_getElem?_getD, List.getElem?_append_left hl]
    rw [e]
    exact ⟨A', c', by rw [List.getElem?_append_left (by rw [h.1]; exact hl)]; exact h1, h2⟩
  · have hj' : j = ps.length := by simp at hj; omega
    subst hj'
    have e : (ps ++ [xs]).getD ps.length [] = xs := by simp [List.getD_eq_getElem?_getD]
    rw [e]
    exact ⟨A, c, by rw [← h.1]; simp, hx⟩

structure Bld (w : World) (B xb lim : Nat) (cfg : CfgV) (v8 v9 : Value) (ps : List (List OpV)) (ks : List Int) : Prop where
  t : ElemT w xb 28
  hB : B ≤ xb
  c0 : w.cell? ⟨xb, 0, none⟩ = some (.int .i64 cfg.slots)
  c1 : w.cell? ⟨xb, 1, none⟩ = some (.int .u64 cfg.gens)
  c2 : w.cell? ⟨xb, 2, none⟩ = some (.int .i64 cfg.clients)
  c3 : w.cell? ⟨xb, 3, none⟩ = some (.int .i64 cfg.readers)
  c4 : w.cell? ⟨xb, 4, none⟩ = some (.int .i64 cfg.queue)
  c5 : w.cell? ⟨xb, 5, none⟩ = some (.int .i64 cfg.batch)
  c6 : w.cell? ⟨xb, 6, none⟩ = some (.int .i64 cfg.feed)
  c7 : w.cell? ⟨xb, 7, none⟩ = some (.string cfg.text)
  c8 : w.cell? ⟨xb, 8, none⟩ = some v8
  c9 : w.cell? ⟨xb, 9, none⟩ = some v9
  progs : ∃ vals, w.ownsRow B 41 1 v8 ps.length vals ∧ ProgVals w lim vals ps
  picks : w.ownsRow B 3 1 v9 ks.length (ks.map (Value.int .i64))

theorem own_mild {w w' : World} {lim base : Nat} {e : TypeId} {size n : Nat} {v : Value} {xs : List Value} (h : w.ownsRow base e size v n xs) (he : e = 41 ∨ e = 3) (hm : Mild w w' lim) : w'.ownsRow base e size v n xs := by
  refine ⟨h.1, ?_⟩
  have ho := fun q => own_elem h (q := q)
  rcases h.2 with hl | ⟨g, cap, cur, rfl, h2, h3, h4⟩
  · exact .inl hl
  · refine .inr ⟨g, cap, cur, rfl, h2, ?_, h4⟩
    rw [hm.2.2.2.2 g e (ho g rfl) (by rcases he with rfl | rfl <;> simp) (by rcases he with rfl | rfl <;> intro h <;> cases h)]
    exact h3
theorem Bld.mild {w w' : World} {B xb lim : Nat} {cfg : CfgV} {v8 v9 : Value} {ps : List (List OpV)} {ks : List Int} (h : Bld w B xb lim cfg v8 v9 ps ks) (hm : Mild w w' lim) : Bld w' B xb lim cfg v8 v9 ps ks := by
  have hk := hm.2.2.2.2 xb 28 h.t (by simp) (by intro h; cases h)
  have hc : ∀ i, w'.cell? ⟨xb, i, none⟩ = w.cell? ⟨xb, i, none⟩ := fun i => World.cell?_of_block (a := ⟨xb, i, none⟩) hk
  obtain ⟨vals, p1, p2⟩ := h.progs
  exact ⟨h.t.keep hk, h.hB, (hc _).trans h.c0, (hc _).trans h.c1, (hc _).trans h.c2, (hc _).trans h.c3, (hc _).trans h.c4, (hc _).trans h.c5, (hc _).trans h.c6, (hc _).trans h.c7, (hc _).trans h.c8, (hc _).trans h.c9,
    ⟨vals, own_mild p1 (.inl rfl) hm, p2.mild hm⟩, own_mild h.picks (.inr rfl) hm⟩
theorem Bld.more {w : World} {B xb lim lim' : Nat} {cfg : CfgV} {v8 v9 : Value} {ps : List (List OpV)} {ks : List Int} (h : Bld w B xb lim cfg v8 v9 ps ks) (hl : lim ≤ lim') : Bld w B xb lim' cfg v8 v9 ps ks := by
  obtain ⟨vals, p1, p2⟩ := h.progs
  exact ⟨h.t, h.hB, h.c0, h.c1, h.c2, h.c3, h.c4, h.c5, h.c6, h.c7, h.c8, h.c9, ⟨vals, p1, p2.more hl⟩, h.picks⟩
end Go.Proofs.YtbjadgggpkbjmaaGreat
namespace Go.Proofs.YtbjadgggpkbjmaaGreat
open Go.RowKit

theorem set_cell_at {w : World} {xb i : Nat} {u : Value} (v : Value) (h : w.cell? ⟨xb, i, none⟩ = some u) : (w.setCell ⟨xb, i, none⟩ v).cell? ⟨xb, i, none⟩ = some v := World.cell?_setCell_same _ _ _ h
theorem set_cell_ne {w : World} {xb i j : Nat} (v : Value) (h : i ≠ j) : (w.setCell ⟨xb, i, none⟩ v).cell? ⟨xb, j, none⟩ = w.cell? ⟨xb, j, none⟩ := World.cell?_setCell_other _ _ _ _ (by intro e; injection e; contradiction)
theorem set_grown (w : World) (xb i : Nat) (v : Value) : w.grownBy (w.setCell ⟨xb, i, none⟩ v) (some xb) := ⟨rfl, rfl, rfl, by simp, fun k _ hk => Below.heap_setCell _ _ _ _ (fun e => hk (by rw [e]))⟩
/-- A store into the script's struct keeps its rows. -/
theorem Bld.rows {w : World} {B xb lim : Nat} {cfg : CfgV} {v8 v9 : Value} {ps : List (List OpV)} {ks : List Int} (h : Bld w B xb lim cfg v8 v9 ps ks) (i : Nat) (v : Value) :
    (∃ vals, (w.setCell ⟨xb, i, none⟩ v).ownsRow B 41 1 v8 ps.length vals ∧ ProgVals (w.setCell ⟨xb, i, none⟩ v) lim vals ps) ∧ (w.setCell ⟨xb, i, none⟩ v).ownsRow B 3 1 v9 ks.length (ks.map (Value.int .i64)) := by
  obtain ⟨vals, p1, p2⟩ := h.progs
  have hg := set_grown w xb i v
  refine ⟨⟨vals, p1.kept hg ?_, p2.1, fun j hj => ?_⟩, h.picks.kept hg ?_⟩
  · by_cases e : v8.ownBlock = some xb
    · exact absurd rfl ((own_elem p1 e).ne h.t (by decide))
    · exact .inr e
  · obtain ⟨A, c, q1, q2⟩ := p2.2 j hj
    refine ⟨A, c, q1, fun hx => ?_⟩
    obtain ⟨b, o, e, hb, ht, hc⟩ := q2 hx
    have hk : (w.setCell ⟨xb, i, none⟩ v).heap[b]? = w.heap[b]? := Below.heap_setCell _ _ _ _ (ht.ne h.t (by decide))
    exact ⟨b, o, e, hb, ht.keep hk, fun j hj => (hc j hj).keep hk⟩
  · by_cases e : v9.ownBlock = some xb
    · exact absurd rfl ((own_elem h.picks e).ne h.t (by decide))
    · exact .inr e
theorem Bld.set0 {w : World} {B xb lim : Nat} {cfg : CfgV} {v8 v9 : Value} {ps : List (List OpV)} {ks : List Int} (h : Bld w B xb lim cfg v8 v9 ps ks) (x : Int) :
    Bld (w.setCell ⟨xb, 0, none⟩ (.int .i64 x)) B xb lim { cfg with slots := x } v8 v9 ps ks := by
  have hr := h.rows 0 (.int .i64 x)
  exact ⟨h.t.set _ _ rfl, h.hB, set_cell_at _ h.c0, (set_cell_ne _ (by decide)).trans h.c1, (set_cell_ne _ (by decide)).trans h.c2, (set_cell_ne _ (by decide)).trans h.c3, (set_cell_ne _ (by decide)).trans h.c4, (set_cell_ne _ (by decide)).trans h.c5, (set_cell_ne _ (by decide)).trans h.c6, (set_cell_ne _ (by decide)).trans h.c7, (set_cell_ne _ (by decide)).trans h.c8, (set_cell_ne _ (by decide)).trans h.c9, hr.1, hr.2⟩
theorem Bld.set1 {w : World} {B xb lim : Nat} {cfg : CfgV} {v8 v9 : Value} {ps : List (List OpV)} {ks : List Int} (h : Bld w B xb lim cfg v8 v9 ps ks) (x : Int) :
    Bld (w.setCell ⟨xb, 1, none⟩ (.int .u64 x)) B xb lim { cfg with gens := x } v8 v9 ps ks := by
  have hr := h.rows 1 (.int .u64 x)
  exact ⟨h.t.set _ _ rfl, h.hB, (set_cell_ne _ (by decide)).trans h.c0, set_cell_at _ h.c1, (set_cell_ne _ (by decide)).trans h.c2, (set_cell_ne _ (by decide)).trans h.c3, (set_cell_ne _ (by decide)).trans h.c4, (set_cell_ne _ (by decide)).trans h.c5, (set_cell_ne _ (by decide)).trans h.c6, (set_cell_ne _ (by decide)).trans h.c7, (set_cell_ne _ (by decide)).trans h.c8, (set_cell_ne _ (by decide)).trans h.c9, hr.1, hr.2⟩
theorem Bld.set2 {w : World} {B xb lim : Nat} {cfg : CfgV} {v8 v9 : Value} {ps : List (List OpV)} {ks : List Int} (h : Bld w B xb lim cfg v8 v9 ps ks) (x : Int) :
    Bld (w.setCell ⟨xb, 2, none⟩ (.int .i64 x)) B xb lim { cfg with clients := x } v8 v9 ps ks := by
  have hr := h.rows 2 (.int .i64 x)
  exact ⟨h.t.set _ _ rfl, h.hB, (set_cell_ne _ (by decide)).trans h.c0, (set_cell_ne _ (by decide)).trans h.c1, set_cell_at _ h.c2, (set_cell_ne _ (by decide)).trans h.c3, (set_cell_ne _ (by decide)).trans h.c4, (set_cell_ne _ (by decide)).trans h.c5, (set_cell_ne _ (by decide)).trans h.c6, (set_cell_ne _ (by decide)).trans h.c7, (set_cell_ne _ (by decide)).trans h.c8, (set_cell_ne _ (by decide)).trans h.c9, hr.1, hr.2⟩
theorem Bld.set3 {w : World} {B xb lim : Nat} {cfg : CfgV} {v8 v9 : Value} {ps : List (List OpV)} {ks : List Int} (h : Bld w B xb lim cfg v8 v9 ps ks) (x : Int) :
    Bld (w.setCell ⟨xb, 3, none⟩ (.int .i64 x)) B xb lim { cfg with readers := x } v8 v9 ps ks := by
  have hr := h.rows 3 (.int .i64 x)
  exact ⟨h.t.set _ _ rfl, h.hB, (set_cell_ne _ (by decide)).trans h.c0, (set_cell_ne _ (by decide)).trans h.c1, (set_cell_ne _ (by decide)).trans h.c2, set_cell_at _ h.c3, (set_cell_ne _ (by decide)).trans h.c4, (set_cell_ne _ (by decide)).trans h.c5, (set_cell_ne _ (by decide)).trans h.c6, (set_cell_ne _ (by decide)).trans h.c7, (set_cell_ne _ (by decide)).trans h.c8, (set_cell_ne _ (by decide)).trans h.c9, hr.1, hr.2⟩
theorem Bld.set4 {w : World} {B xb lim : Nat} {cfg : CfgV} {v8 v9 : Value} {ps : List (List OpV)} {ks : List Int} (h : Bld w B xb lim cfg v8 v9 ps ks) (x : Int) :
    Bld (w.setCell ⟨xb, 4, none⟩ (.int .i64 x)) B xb lim { cfg with queue := x } v8 v9 ps ks := by
  have hr := h.rows 4 (.int .i64 x)
  exact ⟨h.t.set _ _ rfl, h.hB, (set_cell_ne _ (by decide)).trans h.c0, (set_cell_ne _ (by decide)).trans h.c1, (set_cell_ne _ (by decide)).trans h.c2, (set_cell_ne _ (by decide)).trans h.c3, set_cell_at _ h.c4, (set_cell_ne _ (by decide)).trans h.c5, (set_cell_ne _ (by decide)).trans h.c6, (set_cell_ne _ (by decide)).trans h.c7, (set_cell_ne _ (by decide)).trans h.c8, (set_cell_ne _ (by decide)).trans h.c9, hr.1, hr.2⟩
theorem Bld.set5 {w : World} {B xb lim : Nat} {cfg : CfgV} {v8 v9 : Value} {ps : List (List OpV)} {ks : List Int} (h : Bld w B xb lim cfg v8 v9 ps ks) (x : Int) :
    Bld (w.setCell ⟨xb, 5, none⟩ (.int .i64 x)) B xb lim { cfg with batch := x } v8 v9 ps ks := by
  have hr := h.rows 5 (.int .i64 x)
  exact ⟨h.t.set _ _ rfl, h.hB, (set_cell_ne _ (by decide)).trans h.c0, (set_cell_ne _ (by decide)).trans h.c1, (set_cell_ne _ (by decide)).trans h.c2, (set_cell_ne _ (by decide)).trans h.c3, (set_cell_ne _ (by decide)).trans h.c4, set_cell_at _ h.c5, (set_cell_ne _ (by decide)).trans h.c6, (set_cell_ne _ (by decide)).trans h.c7, (set_cell_ne _ (by decide)).trans h.c8, (set_cell_ne _ (by decide)).trans h.c9, hr.1, hr.2⟩
theorem Bld.set6 {w : World} {B xb lim : Nat} {cfg : CfgV} {v8 v9 : Value} {ps : List (List OpV)} {ks : List Int} (h : Bld w B xb lim cfg v8 v9 ps ks) (x : Int) :
    Bld (w.setCell ⟨xb, 6, none⟩ (.int .i64 x)) B xb lim { cfg with feed := x } v8 v9 ps ks := by
  have hr := h.rows 6 (.int .i64 x)
  exact ⟨h.t.set _ _ rfl, h.hB, (set_cell_ne _ (by decide)).trans h.c0, (set_cell_ne _ (by decide)).trans h.c1, (set_cell_ne _ (by decide)).trans h.c2, (set_cell_ne _ (by decide)).trans h.c3, (set_cell_ne _ (by decide)).trans h.c4, (set_cell_ne _ (by decide)).trans h.c5, set_cell_at _ h.c6, (set_cell_ne _ (by decide)).trans h.c7, (set_cell_ne _ (by decide)).trans h.c8, (set_cell_ne _ (by decide)).trans h.c9, hr.1, hr.2⟩
theorem Bld.set7 {w : World} {B xb lim : Nat} {cfg : CfgV} {v8 v9 : Value} {ps : List (List OpV)} {ks : List Int} (h : Bld w B xb lim cfg v8 v9 ps ks) (x : ByteArray) :
    Bld (w.setCell ⟨xb, 7, none⟩ (.string x)) B xb lim { cfg with text := x } v8 v9 ps ks := by
  have hr := h.rows 7 (.string x)
  exact ⟨h.t.set _ _ rfl, h.hB, (set_cell_ne _ (by decide)).trans h.c0, (set_cell_ne _ (by decide)).trans h.c1, (set_cell_ne _ (by decide)).trans h.c2, (set_cell_ne _ (by decide)).trans h.c3, (set_cell_ne _ (by decide)).trans h.c4, (set_cell_ne _ (by decide)).trans h.c5, (set_cell_ne _ (by decide)).trans h.c6, set_cell_at _ h.c7, (set_cell_ne _ (by decide)).trans h.c8, (set_cell_ne _ (by decide)).trans h.c9, hr.1, hr.2⟩

/-- A finished program is appended: the row may have moved. -/
theorem Bld.push_prog {w w1 : World} {B xb lim lim' : Nat} {cfg : CfgV} {v8 v9 v1 : Value} {ps : List (List OpV)} {ks : List Int} {A : Option Addr} {c : Nat} {xs : List OpV} (h : Bld w B xb lim cfg v8 v9 ps ks) (hl : lim ≤ lim')
    (hx : OpsIn w lim' A xs) (vals : List Value) (hp : ProgVals w lim vals ps)
    (hown : w1.ownsRow B 41 1 v1 (ps.length + 1) (vals ++ [.slice A xs.length c])) (hg : w.grownBy w1 v8.ownBlock) (h8 : w.ownsRow B 41 1 v8 ps.length vals) :
    Bld (w1.setCell ⟨xb, 8, none⟩ v1) B xb lim' cfg v1 v9 (ps ++ [xs]) ks := by
  have hxb : some xb ≠ v8.ownBlock := fun e => absurd rfl ((own_elem h8 e.symm).ne h.t (by decide))
  have hk : w1.heap[xb]? = w.heap[xb]? := hg.block xb h.t.lt hxb
  have hc : ∀ i, w1.cell? ⟨xb, i, none⟩ = w.cell? ⟨xb, i, none⟩ := fun i => World.cell?_of_block (a := ⟨xb, i, none⟩) hk
  have hops : ∀ A xs l, OpsIn w l A xs → OpsIn (w1.setCell ⟨xb, 8, none⟩ v1) l A xs := by
    intro A xs l ho hpos
    obtain ⟨b, o, e, hb, ht, hcl⟩ := ho hpos
    have hkb : (w1.setCell ⟨xb, 8, none⟩ v1).heap[b]? = w.heap[b]? :=
      (Below.heap_setCell _ _ _ _ (ht.ne h.t (by decide))).trans (hg.block b ht.lt (fun e => absurd rfl (ht.ne (own_elem h8 e.symm) (by decide))))
    exact ⟨b, o, e, hb, ht.keep hkb, fun j hj => (hcl j hj).keep hkb⟩
  have hg2 := set_grown w1 xb 8 v1
  have ht1 : ElemT w1 xb 28 := h.t.keep hk
  refine ⟨ht1.set _ _ rfl, h.hB, (set_cell_ne _ (by decide)).trans ((hc _).trans h.c0), (set_cell_ne _ (by decide)).trans ((hc _).trans h.c1), (set_cell_ne _ (by decide)).trans ((hc _).trans h.c2), (set_cell_ne _ (by decide)).trans ((hc _).trans h.c3),
    (set_cell_ne _ (by decide)).trans ((hc _).trans h.c4), (set_cell_ne _ (by decide)).trans ((hc _).trans h.c5), (set_cell_ne _ (by decide)).trans ((hc _).trans h.c6), (set_cell_ne _ (by decide)).trans ((hc _).trans h.c7),
    set_cell_at _ ((hc _).trans h.c8), (set_cell_ne _ (by decide)).trans ((hc _).trans h.c9), ⟨vals ++ [.slice A xs.length c], ?_, ?_⟩, ?_⟩
  · rw [List.length_append]
    refine hown.kept hg2 ?_
    by_cases e : v1.ownBlock = some xb
    · exact absurd rfl ((own_elem hown e).ne ht1 (by decide))
    · exact .inr e
  · refine ProgVals.snoc (c := c) ⟨hp.1, fun j hj => ?_⟩ (hops _ _ _ hx)
    obtain ⟨A', c', q1, q2⟩ := hp.2 j hj
    exact ⟨A', c', q1, hops _ _ _ (q2.more hl)⟩
  · have h9 : v9.ownBlock = none ∨ v9.ownBlock ≠ v8.ownBlock := by
      by_cases e : v9.ownBlock = none
      · exact .inl e
      · right
        intro e2
        obtain ⟨q, hq⟩ := Option.ne_none_iff_exists'.1 e
        exact absurd rfl ((own_elem h.picks hq).ne (own_elem h8 (e2.symm.trans hq)) (by decide))
    refine (h.picks.kept hg h9).kept hg2 ?_
    by_cases e : v9.ownBlock = some xb
    · exact absurd rfl ((own_elem (h.picks.kept hg h9) e).ne ht1 (by decide))
    · exact .inr e

/-- A pick is appended. -/
theorem Bld.push_pick {w w1 : World} {B xb lim : Nat} {cfg : CfgV} {v8 v9 v1 : Value} {ps : List (List OpV)} {ks : List Int} {x : Int} (h : Bld w B xb lim cfg v8 v9 ps ks)
    (hown : w1.ownsRow B 3 1 v1 (ks.length + 1) (ks.map (Value.int .i64) ++ [.int .i64 x])) (hg : w.grownBy w1 v9.ownBlock) :
    Bld (w1.setCell ⟨xb, 9, none⟩ v1) B xb lim cfg v8 v1 ps (ks ++ [x]) := by
  have hxb : some xb ≠ v9.ownBlock := fun e => absurd rfl ((own_elem h.picks e.symm).ne h.t (by decide))
  have hk : w1.heap[xb]? = w.heap[xb]? := hg.block xb h.t.lt hxb
  have hc : ∀ i, w1.cell? ⟨xb, i, none⟩ = w.cell? ⟨xb, i, none⟩ := fun i => World.cell?_of_block (a := ⟨xb, i, none⟩) hk
  have hg2 := set_grown w1 xb 9 v1
  have ht1 : ElemT w1 xb 28 := h.t.keep hk
  obtain ⟨vals, p1, p2⟩ := h.progs
  refine ⟨ht1.set _ _ rfl, h.hB, (set_cell_ne _ (by decide)).trans ((hc _).trans h.c0), (set_cell_ne _ (by decide)).trans ((hc _).trans h.c1), (set_cell_ne _ (by decide)).trans ((hc _).trans h.c2), (set_cell_ne _ (by decide)).trans ((hc _).trans h.c3),
    (set_cell_ne _ (by decide)).trans ((hc _).trans h.c4), (set_cell_ne _ (by decide)).trans ((hc _).trans h.c5), (set_cell_ne _ (by decide)).trans ((hc _).trans h.c6), (set_cell_ne _ (by decide)).trans ((hc _).trans h.c7),
    (set_cell_ne _ (by decide)).trans ((hc _).trans h.c8), set_cell_at _ ((hc _).trans h.c9), ⟨vals, ?_, p2.1, fun j hj => ?_⟩, ?_⟩
  · have h8 : v8.ownBlock = none ∨ v8.ownBlock ≠ v9.ownBlock := by
      by_cases e : v8.ownBlock = none
      · exact .inl e
      · right
        intro e2
        obtain ⟨q, hq⟩ := Option.ne_none_iff_exists'.1 e
        exact absurd rfl ((own_elem p1 hq).ne (own_elem h.picks (e2.symm.trans hq)) (by decide))
    refine (p1.kept hg h8).kept hg2 ?_
    by_cases e : v8.ownBlock = some xb
    · exact absurd rfl ((own_elem (p1.kept hg h8) e).ne ht1 (by decide))
    · exact .inr e
  · obtain ⟨A, c, q1, q2⟩ := p2.2 j hj
    refine ⟨A, c, q1, fun hpos => ?_⟩
    obtain ⟨b, o, e, hb, ht, hcl⟩ := q2 hpos
    have hkb : (w1.setCell ⟨xb, 9, none⟩ v1).heap[b]? = w.heap[b]? :=
      (Below.heap_setCell _ _ _ _ (ht.ne h.t (by decide))).trans (hg.block b ht.lt (fun e => absurd rfl (ht.ne (own_elem h.picks e.symm) (by decide))))
    exact ⟨b, o, e, hb, ht.keep hkb, fun j hj => (hcl j hj).keep hkb⟩
  · rw [List.length_append, List.map_append]
    refine hown.kept hg2 ?_
    by_cases e : v1.ownBlock = some xb
    · exact absurd rfl ((own_elem hown e).ne ht1 (by decide))
    · exact .inr e

/-- What has been built, as a value. -/
theorem Bld.scr {w : World} {B xb lim : Nat} {cfg : CfgV} {v8 v9 : Value} {ps : List (List OpV)} {ks : List Int} (h : Bld w B xb lim cfg v8 v9 ps ks) :
    ScrAt w w.heap.size (scrVal cfg v8 v9) ⟨cfg, ps, ks⟩ := by
  obtain ⟨vals, p1, p2⟩ := h.progs
  obtain ⟨A8, c8, rfl⟩ := own_slice p1
  obtain ⟨A9, c9, rfl⟩ := own_slice h.picks
  have hI := Ints.of_own h.picks
  refine ⟨A8, c8, A9, c9, rfl, fun hpos => ?_, hI.2⟩
  obtain ⟨g, cap, hv, _, hlt⟩ := p1.form hpos
  have hA : A8 = some ⟨g, 0, none⟩ := by injection hv
  subst hA
  refine ⟨g, 0, rfl, hlt, fun j hj => ?_⟩
  obtain ⟨A, c, q1, q2⟩ := p2.2 j hj
  refine ⟨A, c, ?_, q2.at_⟩
  have := p1.cells (g := g) rfl j _ q1
  rw [← this]
  unfold Addr.add
  by_cases h0 : j = 0 <;> simp [h0]
end Go.Proofs.YtbjadgggpkbjmaaGreat
