/- text.Op's drawn region: what holds whatever has been done of it. -/
import Derived.Test.YtcbhfhmpajamoaaDoorO2
import Derived.Test.YtcbhfhmpajamoaaDoorN6
namespace Go.Proofs.YtcbhfhmpajamoaaDoor
open Go.RowKit

def regionAt (n : Nat) : Code → Option (Array Oper)
  | .region i ops _ => if i = n then some ops else none
  | .seq a b => match regionAt n a with
    | some c => some c
    | none => regionAt n b
  | .block _ c => regionAt n c
  | .scope c => regionAt n c
  | .loop c => regionAt n c
  | .cond _ a b => match regionAt n a with
    | some c => some c
    | none => regionAt n b
  | _ => none
noncomputable def ops8 : Array Oper := (Tryd.f6.body.bind (regionAt 8)).getD #[]

/-- What the region is given. -/
structure G8 where
  T : Array Value
  v7 : Value
  n : Nat
  L : List Value
  base : Nat
  q0 : Nat
  o : OpV
  V : Int → ByteArray
  f : Int
  w8 : World
structure G8.Ok (g : G8) : Prop where
  sz : g.T.size = 57
  t1 : g.T.getD 1 undef = .pointer (some ⟨g.q0, 0, none⟩)
  t7 : g.T.getD 7 undef = g.v7
  t9 : g.T.getD 9 undef = .int .i32 g.f
  op : OpAt g.w8 g.q0 0 g.o
  tab : Tab g.w8
  own : g.w8.ownsRow g.base 9 1 g.v7 g.n g.L
  bsz : g.base ≤ g.w8.heap.size
  fs : g.f = 115 ∨ g.f = 97 ∨ g.f = 110 ∨ g.f = 105 ∨ g.f = 103 ∨ g.f = 116
  plain : PlainOp g.o
  ty : 0 ≤ g.o.id ∧ g.o.id ≤ 4294967295 ∧ 0 ≤ g.o.grav ∧ g.o.grav ≤ 255
  v115 : g.V 115 = bs (decL g.o.slot.toNat)
  v97 : g.V 97 = bs (decL g.o.pos.toNat)
  v110 : g.V 110 = bs (decL g.o.num.toNat)
  v105 : g.V 105 = bs (decL g.o.id.toNat)
  v103 : g.V 103 = bs (decL g.o.grav.toNat)
  v116 : g.V 116 = bs (quoteL g.o.text)
  nl : g.n ≤ 1000
def D8 (k : Nat) : Nat := [28, 29, 30, 31, 32, 60, 33, 34, 35, 60, 36, 37, 38, 60, 39, 40, 41, 42, 60, 43, 44, 45, 46, 60, 47, 48, 49, 60, 50, 51, 52, 53, 54, 7].getD k 60
def VAL (g : G8) : Nat → Option Value
  | 0 => some g.v7
  | 2 => some (.pointer (some ⟨g.q0, 1, none⟩))
  | 3 => some (.int .i64 g.o.slot)
  | 4 => some (.string (g.V 115))
  | 6 => some (.pointer (some ⟨g.q0, 2, none⟩))
  | 7 => some (.int .i64 g.o.pos)
  | 8 => some (.string (g.V 97))
  | 10 => some (.pointer (some ⟨g.q0, 3, none⟩))
  | 11 => some (.int .i64 g.o.num)
  | 12 => some (.string (g.V 110))
  | 14 => some (.pointer (some ⟨g.q0, 4, none⟩))
  | 15 => some (.int .u32 g.o.id)
  | 16 => some (.int .i64 g.o.id)
  | 17 => some (.string (g.V 105))
  | 19 => some (.pointer (some ⟨g.q0, 5, none⟩))
  | 20 => some (.int .u8 g.o.grav)
  | 21 => some (.int .i64 g.o.grav)
  | 22 => some (.string (g.V 103))
  | 24 => some (.pointer (some ⟨g.q0, 6, none⟩))
  | 25 => some (.string g.o.text)
  | 26 => some (.string (g.V 116))
  | 29 => some (.int .i32 g.f)
  | 30 => some (.string (g.V g.f))
  | _ => none
def insOf (l : Array Bool) (y : Int) : Bool :=
  (y == 115 && l.getD 5 false) || (y == 97 && l.getD 9 false) || (y == 110 && l.getD 13 false) || (y == 105 && l.getD 18 false) || (y == 103 && l.getD 23 false) || (y == 116 && l.getD 27 false)
structure In8 (g : G8) (l : Array Bool) (a : Act) (w : World) : Prop where
  sz : a.tmps.size = 57
  df : a.defers = []
  old : ∀ t, t < 28 → t ≠ 7 → a.tmps.getD t undef = g.T.getD t undef
  new : ∀ t, 54 < t → a.tmps.getD t undef = g.T.getD t undef
  s7 : l.getD 33 false = false → a.tmps.getD 7 undef = g.v7
  val : ∀ k v, VAL g k = some v → l.getD k false = true → a.tmps.getD (D8 k) undef = v
  mp : l.getD 1 false = true → ∃ b, a.tmps.getD 29 undef = .map (some b) ∧ g.w8.heap.size ≤ b ∧ MapSt w b (insOf l) g.V ∧ (l.getD 28 false = true → a.tmps.getD 50 undef = .map (some b))
  bl : l.getD 31 false = true → ∃ r, a.tmps.getD 53 undef = .slice (some ⟨r, 0, none⟩) 1 1 ∧ w.cell? ⟨r, 0, none⟩ = some (.string (g.V g.f)) ∧ g.w8.heap.size ≤ r
  pre : l.getD 32 false = false → Below g.w8.heap.size g.w8 w
  post : l.getD 32 false = true → w.ownsRow g.base 9 1 (a.tmps.getD 54 undef) (g.n + 1) (g.L ++ [.string (g.V g.f)]) ∧ ∃ wm, Below g.w8.heap.size g.w8 wm ∧ wm.grownBy w g.v7.ownBlock
  fin : l.getD 33 false = true → a.tmps.getD 7 undef = a.tmps.getD 54 undef

theorem put_at {a : Act} {d t : Nat} {v : Value} (h : d < a.tmps.size) : (a.put (some d) v).tmps.getD t undef = if d = t then v else a.tmps.getD t undef := by
  simp only [Act.put, Array.getD_eq_getD_getElem?, Array.getElem?_setIfInBounds]
  by_cases e : d = t
  · subst e; simp [h]
  · simp [e]
theorem put_size {a : Act} {d : Option Nat} {v : Value} : (a.put d v).tmps.size = a.tmps.size := by
  cases d <;> simp [Act.put]
theorem put_def {a : Act} {d : Option Nat} {v : Value} : (a.put d v).defers = a.defers := by cases d <;> rfl
theorem insOf_keep {l : Array Bool} {k : Nat} (hk : k < l.size) (h : k ≠ 5 ∧ k ≠ 9 ∧ k ≠ 13 ∧ k ≠ 18 ∧ k ≠ 23 ∧ k ≠ 27) (y : Int) : insOf (l.setIfInBounds k true) y = insOf l y := by
  obtain ⟨h1, h2, h3, h4, h5, h6⟩ := h
  simp only [insOf, getD_set _ hk, h1, h2, h3, h4, h5, h6, if_false]
theorem VAL_lt {g : G8} {k : Nat} {v : Value} (h : VAL g k = some v) : k < 34 ∧ D8 k ≠ 60 := by
  unfold VAL at h
  split at h <;> first | (cases h; done) | exact ⟨by decide, by decide⟩
theorem D8_inj : ∀ j : Fin 34, ∀ k : Fin 34, D8 j.val = D8 k.val → D8 j.val ≠ 60 → j = k := by decide
theorem VAL_inj {g : G8} {j k : Nat} {v v' : Value} (h : VAL g j = some v) (h' : VAL g k = some v') (e : D8 j = D8 k) : j = k := by
  have h1 := VAL_lt h
  have h2 := VAL_lt h'
  exact congrArg Fin.val (D8_inj ⟨j, h1.1⟩ ⟨k, h2.1⟩ e h1.2)
/-- A plain operation: it puts what VAL says; the world has gone on as a call goes on. -/
theorem In8.put {g : G8} {l : Array Bool} {a : Act} {w w' : World} (h : In8 g l a w) {k : Nat} {v : Value} (hv : VAL g k = some v) (hl : l.size = 34) (hk : l.getD k true = false) (hD : D8 k < 55 ∧ 27 < D8 k ∧ D8 k ≠ 29 ∧ D8 k ≠ 50 ∧ D8 k ≠ 53 ∧ D8 k ≠ 54)
    (hks : k ≠ 1 ∧ k ≠ 5 ∧ k ≠ 9 ∧ k ≠ 13 ∧ k ≠ 18 ∧ k ≠ 23 ∧ k ≠ 27 ∧ k ≠ 28 ∧ k ≠ 31 ∧ k ≠ 32 ∧ k ≠ 33)
    (h32 : l.getD 32 false = false) (hw : Below w.heap.size w w') : In8 g (l.setIfInBounds k true) (a.put (some (D8 k)) v) w' := by
  have hks2 := hks
  have hkl := getD_size hk
  have hd : D8 k < a.tmps.size := by rw [h.sz]; omega
  obtain ⟨n1, n5, n9, n13, n18, n23, n27, n28, n31, n32, n33⟩ := hks
  have hB := h.pre h32
  refine ⟨by rw [put_size]; exact h.sz, by rw [put_def]; exact h.df, fun t h1 h2 => ?_, fun t h1 => ?_, fun h1 => ?_, fun j v' hj hlj => ?_, fun h1 => ?_, fun h1 => ?_, fun _ => ?_, fun h1 => ?_, fun h1 => ?_⟩
  · rw [put_at hd, if_neg (by omega)]; exact h.old t h1 h2
  · rw [put_at hd, if_neg (by omega)]; exact h.new t h1
  · rw [getD_set _ hkl, if_neg n33] at h1
    rw [put_at hd, if_neg (by omega)]; exact h.s7 h1
  · rw [put_at hd]
    by_cases e : D8 k = D8 j
    · rw [if_pos e]
      have := VAL_inj hj hv e.symm
      subst this
      rw [hv] at hj; exact Option.some.inj hj
    · rw [if_neg e]
      rw [getD_set _ hkl, if_neg (fun hh => e (by rw [hh]))] at hlj
      exact h.val j v' hj hlj
  · rw [getD_set _ hkl, if_neg n1] at h1
    obtain ⟨b, b1, b2, b3, b4⟩ := h.mp h1
    refine ⟨b, by rw [put_at hd, if_neg (by omega)]; exact b1, b2, (b3.below hw).congr (insOf_keep hkl ⟨n5, n9, n13, n18, n23, n27⟩), fun h2 => ?_⟩
    rw [getD_set _ hkl, if_neg n28] at h2
    rw [put_at hd, if_neg (by omega)]; exact b4 h2
  · rw [getD_set _ hkl, if_neg n31] at h1
    obtain ⟨r, r1, r2, r3⟩ := h.bl h1
    refine ⟨r, by rw [put_at hd, if_neg (by omega)]; exact r1, ?_, r3⟩
    exact (hw.cell (p := ⟨r, 0, none⟩) (World.block_lt_of_cell? w _ r2)).trans r2
  · exact below_then hB hB.size hw
  · rw [getD_set _ hkl, if_neg n32, h32] at h1; cases h1
  · rw [getD_set _ hkl, if_neg n33] at h1
    rw [put_at hd, if_neg (by omega), put_at hd, if_neg (by omega)]; exact h.fin h1
theorem VAL_ne {g : G8} {j : Nat} {v : Value} (h : VAL g j = some v) (k : Nat) (hk : VAL g k = none) : j ≠ k := fun e => by rw [e, hk] at h; cases h
theorem D8_ne {j k : Nat} (hj : j < 34) (hk : k < 34) (h60 : D8 j ≠ 60) (h : j ≠ k) : D8 k ≠ D8 j := fun e => h (congrArg Fin.val (D8_inj ⟨j, hj⟩ ⟨k, hk⟩ e.symm h60))
/-- The map is made. -/
theorem In8.made {g : G8} {l : Array Bool} {a : Act} {w : World} (h : In8 g l a w) (hl : l.getD 1 true = false) (hi : ∀ k, k = 5 ∨ k = 9 ∨ k = 13 ∨ k = 18 ∨ k = 23 ∨ k = 27 ∨ k = 28 ∨ k = 32 → l.getD k false = false) :
    In8 g (l.setIfInBounds 1 true) (a.put (some 29) (.map (some w.heap.size))) (w.alloc (.map #[] 0)) := by
  have hkl := getD_size hl
  have hd : 29 < a.tmps.size := by rw [h.sz]; omega
  have h32 := hi 32 (by simp)
  have hB := h.pre h32
  refine ⟨by rw [put_size]; exact h.sz, by rw [put_def]; exact h.df, fun t h1 h2 => ?_, fun t h1 => ?_, fun h1 => ?_, fun j v' hj hlj => ?_, fun h1 => ?_, fun h1 => ?_, fun _ => ?_, fun h1 => ?_, fun h1 => ?_⟩
  · rw [put_at hd, if_neg (by omega)]; exact h.old t h1 h2
  · rw [put_at hd, if_neg (by omega)]; exact h.new t h1
  · rw [getD_set _ hkl, if_neg (by omega)] at h1
    rw [put_at hd, if_neg (by omega)]; exact h.s7 h1
  · have hj34 := VAL_lt hj
    have hne := VAL_ne hj 1 rfl
    have hdd : ¬ 29 = D8 j := D8_ne (k := 1) hj34.1 (by omega) hj34.2 hne
    rw [put_at hd, if_neg hdd]
    rw [getD_set _ hkl, if_neg (Ne.symm hne)] at hlj
    exact h.val j v' hj hlj
  · refine ⟨w.heap.size, by rw [put_at hd, if_pos rfl], hB.size, ?_, fun h2 => ?_⟩
    · refine MapSt.congr (MapSt.new w (insOf l) g.V fun y => ?_) (insOf_keep hkl (by omega))
      simp only [insOf, hi 5 (by simp), hi 9 (by simp), hi 13 (by simp), hi 18 (by simp), hi 23 (by simp), hi 27 (by simp), Bool.and_false, Bool.or_false]
    · rw [getD_set _ hkl, if_neg (by omega), hi 28 (by simp)] at h2; cases h2
  · rw [getD_set _ hkl, if_neg (by omega)] at h1
    obtain ⟨r, r1, r2, r3⟩ := h.bl h1
    exact ⟨r, by rw [put_at hd, if_neg (by omega)]; exact r1, ((below_box w _).cell (p := ⟨r, 0, none⟩) (World.block_lt_of_cell? w _ r2)).trans r2, r3⟩
  · exact below_then hB hB.size (below_box w _)
  · rw [getD_set _ hkl, if_neg (by omega), h32] at h1; cases h1
  · rw [getD_set _ hkl, if_neg (by omega)] at h1
    rw [put_at hd, if_neg (by omega), put_at hd, if_neg (by omega)]; exact h.fin h1
/-- A key is laid. -/
theorem In8.laid {g : G8} {l : Array Bool} {a : Act} {w w' : World} (h : In8 g l a w) (k : Nat) (x : Int) (b : Nat) (hl : l.getD k true = false) (hk : k = 5 ∨ k = 9 ∨ k = 13 ∨ k = 18 ∨ k = 23 ∨ k = 27)
    (h31 : l.getD 31 false = false) (h32 : l.getD 32 false = false) (h33 : l.getD 33 false = false)
    (hi : ∀ y, insOf (l.setIfInBounds k true) y = (y == x || insOf l y)) (hb : a.tmps.getD 29 undef = .map (some b)) (hw : Below g.w8.heap.size w w') (hm : MapSt w' b (fun y => y == x || insOf l y) g.V) :
    In8 g (l.setIfInBounds k true) a w' := by
  have hkl := getD_size hl
  have hB := h.pre h32
  refine ⟨h.sz, h.df, h.old, h.new, fun h1 => ?_, fun j v' hj hlj => ?_, fun h1 => ?_, fun h1 => ?_, fun _ => hB.trans hw, fun h1 => ?_, fun h1 => ?_⟩
  · exact h.s7 h33
  · have hne : j ≠ k := by rcases hk with rfl | rfl | rfl | rfl | rfl | rfl <;> exact VAL_ne hj _ rfl
    rw [getD_set _ hkl, if_neg (Ne.symm hne)] at hlj
    exact h.val j v' hj hlj
  · rw [getD_set _ hkl, if_neg (by omega)] at h1
    obtain ⟨b', b1, b2, b3, b4⟩ := h.mp h1
    rw [hb] at b1; cases b1
    refine ⟨b, hb, b2, hm.congr hi, fun h2 => ?_⟩
    rw [getD_set _ hkl, if_neg (by omega)] at h2
    exact b4 h2
  · rw [getD_set _ hkl, if_neg (by omega), h31] at h1; cases h1
  · rw [getD_set _ hkl, if_neg (by omega), h32] at h1; cases h1
  · rw [getD_set _ hkl, if_neg (by omega), h33] at h1; cases h1
/-- The map's handle is moved. -/
theorem In8.moved {g : G8} {l : Array Bool} {a : Act} {w : World} (h : In8 g l a w) (hl : l.getD 28 true = false) (h1 : l.getD 1 false = true) :
    In8 g (l.setIfInBounds 28 true) (a.put (some 50) (a.tmps.getD 29 undef)) w := by
  have hkl := getD_size hl
  have hd : 50 < a.tmps.size := by rw [h.sz]; omega
  refine ⟨by rw [put_size]; exact h.sz, by rw [put_def]; exact h.df, fun t h1 h2 => ?_, fun t h1 => ?_, fun h1 => ?_, fun j v' hj hlj => ?_, fun _ => ?_, fun h1 => ?_, fun h1 => ?_, fun h1 => ?_, fun h1 => ?_⟩
  · rw [put_at hd, if_neg (by omega)]; exact h.old t h1 h2
  · rw [put_at hd, if_neg (by omega)]; exact h.new t h1
  · rw [getD_set _ hkl, if_neg (by omega)] at h1
    rw [put_at hd, if_neg (by omega)]; exact h.s7 h1
  · have hj34 := VAL_lt hj
    have hne := VAL_ne hj 28 rfl
    have hdd : ¬ 50 = D8 j := D8_ne (k := 28) hj34.1 (by omega) hj34.2 hne
    rw [put_at hd, if_neg hdd]
    rw [getD_set _ hkl, if_neg (Ne.symm hne)] at hlj
    exact h.val j v' hj hlj
  · obtain ⟨b, b1, b2, b3, b4⟩ := h.mp h1
    exact ⟨b, by rw [put_at hd, if_neg (by omega)]; exact b1, b2, b3.congr (insOf_keep hkl (by omega)), fun _ => by rw [put_at hd, if_pos rfl]; exact b1⟩
  · rw [getD_set _ hkl, if_neg (by omega)] at h1
    obtain ⟨r, r1, r2, r3⟩ := h.bl h1
    exact ⟨r, by rw [put_at hd, if_neg (by omega)]; exact r1, r2, r3⟩
  · rw [getD_set _ hkl, if_neg (by omega)] at h1; exact h.pre h1
  · rw [getD_set _ hkl, if_neg (by omega)] at h1
    rw [put_at hd, if_neg (by omega)]; exact h.post h1
  · rw [getD_set _ hkl, if_neg (by omega)] at h1
    rw [put_at hd, if_neg (by omega), put_at hd, if_neg (by omega)]; exact h.fin h1
/-- The string to be appended lies. -/
theorem In8.box {g : G8} {l : Array Bool} {a : Act} {w : World} (h : In8 g l a w) (hl : l.getD 31 true = false) (h32 : l.getD 32 false = false) :
    In8 g (l.setIfInBounds 31 true) (a.put (some 53) (.slice (some ⟨w.heap.size, 0, none⟩) 1 1)) (w.alloc (.cells #[.string (g.V g.f)] 9)) := by
  have hkl := getD_size hl
  have hd : 53 < a.tmps.size := by rw [h.sz]; omega
  have hB := h.pre h32
  refine ⟨by rw [put_size]; exact h.sz, by rw [put_def]; exact h.df, fun t h1 h2 => ?_, fun t h1 => ?_, fun h1 => ?_, fun j v' hj hlj => ?_, fun h1 => ?_, fun _ => ?_, fun _ => ?_, fun h1 => ?_, fun h1 => ?_⟩
  · rw [put_at hd, if_neg (by omega)]; exact h.old t h1 h2
  · rw [put_at hd, if_neg (by omega)]; exact h.new t h1
  · rw [getD_set _ hkl, if_neg (by omega)] at h1
    rw [put_at hd, if_neg (by omega)]; exact h.s7 h1
  · have hj34 := VAL_lt hj
    have hne := VAL_ne hj 31 rfl
    have hdd : ¬ 53 = D8 j := D8_ne (k := 31) hj34.1 (by omega) hj34.2 hne
    rw [put_at hd, if_neg hdd]
    rw [getD_set _ hkl, if_neg (Ne.symm hne)] at hlj
    exact h.val j v' hj hlj
  · rw [getD_set _ hkl, if_neg (by omega)] at h1
    obtain ⟨b, b1, b2, b3, b4⟩ := h.mp h1
    refine ⟨b, by rw [put_at hd, if_neg (by omega)]; exact b1, b2, (b3.below (below_box w _)).congr (insOf_keep hkl (by omega)), fun h2 => ?_⟩
    rw [getD_set _ hkl, if_neg (by omega)] at h2
    rw [put_at hd, if_neg (by omega)]; exact b4 h2
  · exact ⟨w.heap.size, by rw [put_at hd, if_pos rfl], by rw [cell_of_row _ _ _ _ _ _ (heap_alloc_new w _)]; rfl, hB.size⟩
  · exact below_then hB hB.size (below_box w _)
  · rw [getD_set _ hkl, if_neg (by omega), h32] at h1; cases h1
  · rw [getD_set _ hkl, if_neg (by omega)] at h1
    rw [put_at hd, if_neg (by omega), put_at hd, if_neg (by omega)]; exact h.fin h1
/-- It is appended. -/
theorem In8.added {g : G8} {l : Array Bool} {a : Act} {w w' : World} {v : Value} (h : In8 g l a w) (hl : l.getD 32 true = false) (h33 : l.getD 33 false = false)
    (hown : w'.ownsRow g.base 9 1 v (g.n + 1) (g.L ++ [.string (g.V g.f)])) (hg : w.grownBy w' g.v7.ownBlock) (hv7 : ∀ q, g.v7.ownBlock = some q → q < g.w8.heap.size) :
    In8 g (l.setIfInBounds 32 true) (a.put (some 54) v) w' := by
  have hkl := getD_size hl
  have hd : 54 < a.tmps.size := by rw [h.sz]; omega
  have h32 : l.getD 32 false = false := by rw [← getD_ft hkl]; exact hl
  have hB := h.pre h32
  have hq : ∀ q, g.w8.heap.size ≤ q → some q ≠ g.v7.ownBlock := fun q hq e => by have := hv7 q e.symm; omega
  refine ⟨by rw [put_size]; exact h.sz, by rw [put_def]; exact h.df, fun t h1 h2 => ?_, fun t h1 => ?_, fun h1 => ?_, fun j v' hj hlj => ?_, fun h1 => ?_, fun h1 => ?_, fun h1 => ?_, fun _ => ?_, fun h1 => ?_⟩
  · rw [put_at hd, if_neg (by omega)]; exact h.old t h1 h2
  · rw [put_at hd, if_neg (by omega)]; exact h.new t h1
  · rw [getD_set _ hkl, if_neg (by omega)] at h1
    rw [put_at hd, if_neg (by omega)]; exact h.s7 h1
  · have hj34 := VAL_lt hj
    have hne := VAL_ne hj 32 rfl
    have hdd : ¬ 54 = D8 j := D8_ne (k := 32) hj34.1 (by omega) hj34.2 hne
    rw [put_at hd, if_neg hdd]
    rw [getD_set _ hkl, if_neg (Ne.symm hne)] at hlj
    exact h.val j v' hj hlj
  · rw [getD_set _ hkl, if_neg (by omega)] at h1
    obtain ⟨b, b1, b2, b3, b4⟩ := h.mp h1
    refine ⟨b, by rw [put_at hd, if_neg (by omega)]; exact b1, b2, (b3.keep (hg.block b b3.lt (hq b b2))).congr (insOf_keep hkl (by omega)), fun h2 => ?_⟩
    rw [getD_set _ hkl, if_neg (by omega)] at h2
    rw [put_at hd, if_neg (by omega)]; exact b4 h2
  · rw [getD_set _ hkl, if_neg (by omega)] at h1
    obtain ⟨r, r1, r2, r3⟩ := h.bl h1
    exact ⟨r, by rw [put_at hd, if_neg (by omega)]; exact r1, (World.cell?_of_block (a := ⟨r, 0, none⟩) (hg.block r (World.block_lt_of_cell? w _ r2) (hq r r3))).trans r2, r3⟩
  · rw [getD_set _ hkl, if_pos rfl] at h1; cases h1
  · rw [put_at hd, if_pos rfl]
    exact ⟨hown, w, hB, hg⟩
  · rw [getD_set _ hkl, if_neg (by omega), h33] at h1; cases h1
/-- It is assigned. -/
theorem In8.done {g : G8} {l : Array Bool} {a : Act} {w : World} (h : In8 g l a w) (hl : l.getD 33 true = false) :
    In8 g (l.setIfInBounds 33 true) (a.put (some 7) (a.tmps.getD 54 undef)) w := by
  have hkl := getD_size hl
  have hd : 7 < a.tmps.size := by rw [h.sz]; omega
  refine ⟨by rw [put_size]; exact h.sz, by rw [put_def]; exact h.df, fun t h1 h2 => ?_, fun t h1 => ?_, fun h1 => ?_, fun j v' hj hlj => ?_, fun h1 => ?_, fun h1 => ?_, fun h1 => ?_, fun h1 => ?_, fun h1 => ?_⟩
  · rw [put_at hd, if_neg (by omega)]; exact h.old t h1 h2
  · rw [put_at hd, if_neg (by omega)]; exact h.new t h1
  · rw [getD_set _ hkl, if_pos rfl] at h1; cases h1
  · have hj34 := VAL_lt hj
    have hne := VAL_ne hj 33 rfl
    have hdd : ¬ 7 = D8 j := D8_ne (k := 33) hj34.1 (by omega) hj34.2 hne
    rw [put_at hd, if_neg hdd]
    rw [getD_set _ hkl, if_neg (Ne.symm hne)] at hlj
    exact h.val j v' hj hlj
  · rw [getD_set _ hkl, if_neg (by omega)] at h1
    obtain ⟨b, b1, b2, b3, b4⟩ := h.mp h1
    refine ⟨b, by rw [put_at hd, if_neg (by omega)]; exact b1, b2, b3.congr (insOf_keep hkl (by omega)), fun h2 => ?_⟩
    rw [getD_set _ hkl, if_neg (by omega)] at h2
    rw [put_at hd, if_neg (by omega)]; exact b4 h2
  · rw [getD_set _ hkl, if_neg (by omega)] at h1
    obtain ⟨r, r1, r2, r3⟩ := h.bl h1
    exact ⟨r, by rw [put_at hd, if_neg (by omega)]; exact r1, r2, r3⟩
  · rw [getD_set _ hkl, if_neg (by omega)] at h1; exact h.pre h1
  · rw [getD_set _ hkl, if_neg (by omega)] at h1
    rw [put_at hd, if_neg (by omega)]; exact h.post h1
  · rw [put_at hd, if_pos rfl, put_at hd, if_neg (by omega)]
end Go.Proofs.YtcbhfhmpajamoaaDoor
