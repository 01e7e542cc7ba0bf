/- The evaluator, part 3. -/
import Derived.Test.YtbjadgggpkbjmaaGreatEv2
import Derived.Laws.Tables
import Derived.Great.BuildSlice
import Derived.Laws.MakeOwn
import Derived.Laws.Append
/- An evaluator of the model's code over an abstract heap: operations on values without addresses; more trees that do the same. -/
namespace Go.Ab
open Go.RowKit
noncomputable section

/-- The run of a tree that asks nothing of the world. -/
def qrun (P : Program) {α : Type} (s : Sem α) : Option α :=
  Sem.rec (motive := fun _ => Option α)
    (fun a => some a) (fun _ _ _ _ => none) (fun _ _ _ _ _ => none) (fun _ _ _ => none) (fun _ _ _ => none) (fun _ _ _ _ => none) (fun _ _ _ => none) (fun _ _ _ => none) (fun _ _ _ _ => none)
    (fun q _ ih => match q.forced with
      | true => ih 0
      | false => none)
    (fun _ _ _ => none) (fun _ ih => ih P) (fun _ _ ih => ih) (fun _ => none) s
theorem qrun_run (P : Program) {α : Type} (s : Sem α) (w : World) {a : α} (h : qrun P s = some a) : s.run P w = .ok a w := by
  induction s with
  | pure b => cases h; rfl
  | program k ih => exact ih P h
  | mark m k ih => exact ih h
  | choose q k ih =>
    have h' : (match q.forced with
      | true => qrun P (k 0)
      | false => none) = some a := h
    split at h'
    · rename_i hf
      rw [Sem.run, if_pos hf]
      exact ih 0 h'
    · cases h'
  | _ => cases h

theorem flat_eq {φ : Phi} {v u : Value} (h : flatB v = true) (hv : VR φ v u) : u = v := by
  cases hv with
  | @func f f' as as' bs bs' hf h1 h2 h3 h4 =>
    cases f with
    | func g =>
      simp [flatB] at h
      obtain ⟨rfl, rfl⟩ := h
      cases hf
      simp at h1 h3
      rw [Array.eq_empty_of_size_eq_zero h1.symm, Array.eq_empty_of_size_eq_zero h3.symm]
    | _ => simp [flatB] at h
  | _ => first | rfl | (simp [flatB] at h; done)
theorem plain_eq {φ : Phi} {v u : Value} (h : plainB v = true) (hv : VR φ v u) : u = v := by
  cases v with
  | agg as =>
    cases hv with
    | agg h1 h2 =>
      congr 1
      refine Array.ext h1.symm fun i hi1 hi2 => ?_
      have hx : as[i]? = some as[i] := Array.getElem?_eq_getElem hi2
      have hall : flatB as[i] = true := by
        have h' : as.toList.all flatB = true := h
        rw [List.all_eq_true] at h'
        exact h' _ (by simp)
      exact flat_eq hall (h2 i _ _ hx (Array.getElem?_eq_getElem hi1))
  | iface t v =>
    cases hv with
    | iface hv => rw [flat_eq h hv]
  | _ => exact flat_eq h hv

/-- An operation on values without addresses, whose result is one. -/
def groundV (P : Program) (o : Oper) (ρ : Operand → Value) : Option Value :=
  match allB (fun x => plainB (ρ x)) o.op.operands.toList with
  | true => match qrun P (execOp ρ o) with
    | some (.value v) => match plainB v with
      | true => some v
      | false => none
    | _ => none
  | false => none
def noSelect : Op → Bool
  | .select _ _ => false
  | _ => true
theorem ground_run {P : Program} {φ : Phi} {o : Oper} {ρ : Operand → Value} {v : Value} (h : groundV P o ρ = some v) (hs : noSelect o.op = true) {ρ' : Operand → Value} (hr : ∀ x ∈ o.op.operands, VR φ (ρ x) (ρ' x)) (w : World) :
    (execOp ρ' o).run P w = .ok (.value v) w ∧ Plain v := by
  unfold groundV at h
  split at h
  · rename_i hall
    have e : execOp ρ' o = execOp ρ o := execOp_congr o (fun cs b e => by rw [e] at hs; cases hs) fun x hx => plain_eq (allB_iff hall x (by simpa using hx)) (hr x hx)
    rw [e]
    split at h
    · rename_i v0 hq
      split at h
      · rename_i hp
        cases h
        exact ⟨qrun_run P _ w hq, plain_of hp⟩
      · cases h
    · cases h
  · cases h

section
variable {P : Program} {φ : Phi}
/-! ### More trees that do the same -/
def OptVR (φ : Phi) (a b : Option Value) : Prop := (a = none ∧ b = none) ∨ ∃ x y, a = some x ∧ b = some y ∧ VR φ x y
theorem OptVR.mono {φ φ' : Phi} (he : Ext φ φ') {a b : Option Value} (h : OptVR φ a b) : OptVR φ' a b := by
  rcases h with ⟨rfl, rfl⟩ | ⟨x, y, rfl, rfl, h⟩
  · exact .inl ⟨rfl, rfl⟩
  · exact .inr ⟨x, y, rfl, rfl, h.mono he⟩
theorem CapR.refl {N o k : Nat} (h : k < unk) : CapR N o k k := ⟨fun _ => rfl, fun h' => absurd h (by omega)⟩
theorem sr_makeInterface (t : TypeId) {v u : Value} (h : VR φ v u) : SR P VR φ (Instr.makeInterface t v) (Instr.makeInterface t u) := by
  refine SR.bind' (sr_underlying t) fun φ1 d d' he hd => ?_
  obtain ⟨rfl, _⟩ := hd
  cases d <;> first | exact .halt | exact .pure (.iface (h.mono he))
theorem sr_makeMap (t : TypeId) {r r' : Option Value} (h : OptVR φ r r') : SR P VR φ (Instr.makeMap t r) (Instr.makeMap t r') := by
  have fin : ∀ φ1, SR P VR φ1 (do pure (.map (some (← newObj (.map #[] 0))))) (do pure (.map (some (← newObj (.map #[] 0))))) := fun φ1 =>
    SR.bind' (R := fun φ a b => φ a = some b) (SR.newObj (.map ⟨rfl, fun i x y h => by simp at h⟩) fun _ _ _ _ h => .pure h) fun φ2 a b _ hab => .pure (.map hab)
  unfold Instr.makeMap
  rcases h with ⟨rfl, rfl⟩ | ⟨x, y, rfl, rfl, h⟩
  · exact fin φ
  · refine SR.bind' (sr_underlying t) fun φ1 d d' he hd => ?_
    obtain ⟨rfl, _⟩ := hd
    cases d with
    | map k e => exact SR.bindEq (sr_asInt (h.mono he)) fun φ2 _ _ => fin φ2
    | _ => exact .halt
theorem plains_r {z : Value} (h : Plain z) : ∀ x ∈ z.cells.toList, Plain x := by
  intro x hx
  cases h with
  | agg h => 
    obtain ⟨i, hi⟩ := List.mem_iff_getElem?.1 hx
    exact h i x (by simpa [Value.cells] using hi)
  | _ => (simp [Value.cells] at hx; subst hx; constructor <;> assumption)
theorem zeros_r {c : Array Value} (h : ∀ x ∈ c.toList, Plain x) (n : Nat) (hn : n = 0 ∨ c.size ≠ 0) : AsR φ ((Array.range n).map (c[· % c.size]!)) ((Array.range n).map (c[· % c.size]!)) := by
  refine ⟨rfl, fun i x y hx hy => ?_⟩
  rw [hx] at hy
  injection hy with hy
  subst hy
  rw [Array.getElem?_map, Array.getElem?_range] at hx
  split at hx
  · rename_i hi
    rcases hn with rfl | hn
    · omega
    · simp only [Option.map_some, Option.some.injEq] at hx
      have hlt : i % c.size < c.size := Nat.mod_lt _ (by omega)
      rw [getElem!_pos c (i % c.size) hlt] at hx
      rw [← hx]
      exact (h _ (by simp)).vr
  · cases hx

end
end
end Go.Ab

/- An evaluator of the model's code over an abstract heap: aggregates, slices that are made, slice expressions. -/
namespace Go.Ab
open Go.RowKit
noncomputable section
section
variable {P : Program} {w0 : World} {base : Nat} {φ : Phi} {h h' : AHeap} {w : World}
def RunV (P : Program) (w0 : World) (base : Nat) (φ : Phi) (w : World) (v : Value) (h' : AHeap) (s : Sem Value) : Prop :=
  ∃ φ' u w', s.run P w = .ok u w' ∧ VR φ' v u ∧ HR w0 base φ' h' w' ∧ Ext φ φ'
theorem RunV.of_arun {v : Value} {s s' : Sem Value} (hs : SR P VR φ s s') (H : HR w0 base φ h w) (hr : arun P s h = some (v, h')) : RunV P w0 base φ w v h' s' := arun_sound hs H hr

inductive PartsR (φ : Phi) : List (Nat × Value) → List (Nat × Value) → Prop
  | nil : PartsR φ [] []
  | cons {i : Nat} {v u : Value} {l l' : List (Nat × Value)} (h : VR φ v u) (h' : PartsR φ l l') : PartsR φ ((i, v) :: l) ((i, u) :: l')
theorem put_r {off : Nat} : ∀ (l l' : List Value) (j : Nat) {c c' : Array Value}, AsR φ l.toArray l'.toArray → AsR φ c c' →
    AsR φ ((l.zipIdx j).foldl (fun cs (x : Value × Nat) => cs.setIfInBounds (off + x.2) x.1) c) ((l'.zipIdx j).foldl (fun cs (x : Value × Nat) => cs.setIfInBounds (off + x.2) x.1) c')
  | [], [], _, _, _, _, hc => hc
  | [], _ :: _, _, _, _, hl, _ => by have := hl.1; simp at this
  | _ :: _, [], _, _, _, hl, _ => by have := hl.1; simp at this
  | v :: l, u :: l', j, c, c', hl, hc => by
    have hv : VR φ v u := hl.2 0 v u (by simp) (by simp)
    have hl' : AsR φ l.toArray l'.toArray := ⟨by have := hl.1; simpa using this, fun i x y hx hy => hl.2 (i + 1) x y (by simpa using hx) (by simpa using hy)⟩
    simp only [List.zipIdx_cons, List.foldl_cons]
    exact put_r l l' (j + 1) hl' (hc.set _ hv)
theorem fill_r {place : Nat → Option (Nat × Nat)} : ∀ (l l' : List (Nat × Value)) {c c' d : Array Value}, PartsR φ l l' → AsR φ c c' → Instr.fill place c l = some d → ∃ d', Instr.fill place c' l' = some d' ∧ AsR φ d d'
  | [], [], c, c', d, _, hc, h => by
    simp only [Instr.fill] at h ⊢
    cases h
    exact ⟨c', rfl, hc⟩
  | [], _ :: _, _, _, _, hp, _, _ => by cases hp
  | _ :: _, [], _, _, _, hp, _, _ => by cases hp
  | (i, v) :: l, (i', u) :: l', c, c', d, hp, hc, h => by
    cases hp with
    | cons hv hp =>
      have hcv := hv.cells
      rw [Instr.fill] at h ⊢
      cases hpl : place i with
      | none => rw [hpl] at h; cases h
      | some os =>
        obtain ⟨off, size⟩ := os
        rw [hpl] at h
        simp only at h ⊢
        rw [← hcv.1, ← hc.1]
        split at h
        · cases h
        · rename_i hg
          rw [if_neg hg]
          refine fill_r l l' hp ?_ h
          have := put_r (off := off) v.cells.toList u.cells.toList 0 hcv.ofList hc
          rw [← Array.foldl_toList, ← Array.foldl_toList, Array.toList_zipIdx, Array.toList_zipIdx]
          exact this
theorem plain_cells {z : Value} (hz : Plain z) : AsR φ z.cells z.cells := hz.vr.cells
theorem built_r (G : Good P) {t : TypeId} (ht : hasT P t = true) {l l' : List (Nat × Value)} (hp : PartsR φ l l') {c : Array Value} (h : P.built t l = some c) : ∃ c', P.built t l' = some c' ∧ AsR φ c c' := by
  unfold Program.built at h ⊢
  cases hi : P.info? t with
  | none => rw [hi] at h; cases h
  | some it =>
    rw [hi] at h
    cases hu : P.underlying t with
    | none => rw [hu] at h; cases h
    | some d =>
      rw [hu] at h
      cases d <;> simp only at h ⊢ <;> first | (cases h; done) | skip
      · rename_i n e
        cases hz : it.zero with
        | none => rw [hz] at h; cases h
        | some z =>
          rw [hz] at h
          cases he : P.info? e with
          | none => rw [he] at h; cases h
          | some ie =>
            rw [he] at h
            exact fill_r l l' hp (plain_cells (G.zero t it z ht hi hz)) h
      · rename_i fs
        cases hz : it.zero with
        | none => rw [hz] at h; cases h
        | some z =>
          rw [hz] at h
          cases hm : fs.toList.mapM (fun f => (P.info? f.type).map fun i => (f.offset, i.size)) with
          | none => rw [hm] at h; cases h
          | some pl =>
            rw [hm] at h
            exact fill_r l l' hp (plain_cells (G.zero t it z ht hi hz)) h
theorem build_run (G : Good P) (H : HR w0 base φ h w) {t : TypeId} (ht : hasT P t = true) {ps ps' : Array (Nat × Value)} (hp : PartsR φ ps.toList ps'.toList) {c : Array Value} (hb : P.built t ps.toList = some c) : RunV P w0 base φ w (.agg c) h (Instr.build t ps') := by
  obtain ⟨c', hc', hr⟩ := built_r G ht hp hb
  exact ⟨φ, .agg c', w, run_build w t ps' c' hc', .agg hr.1 hr.2, H, Ext.refl _⟩

/-- A new row of known size. -/
theorem row_push (H : HR w0 base φ h w) (hroom : h.room = true) {c c' : Array Value} {e : TypeId} (hc : AsR φ c c') {n k : Nat} (hk : k < unk) :
    ∃ φ', VR φ' (.slice (some ⟨h.next, 0, none⟩) n k) (.slice (some ⟨w.heap.size, 0, none⟩) n k) ∧ HR w0 base φ' (h.push (.cells e c.size true false [] (T.ofList c.toList))) (w.alloc (.cells c' e)) ∧ Ext φ φ' := by
  have hext := ext_more (H.free hroom) w.heap.size c'.size
  exact ⟨φ.more h.next w.heap.size c'.size, .sl (.mk (by simp [more_to])) (CapR.refl hk), anew_row H hroom hc rfl, hext⟩
def buildSliceV (P : Program) (t : TypeId) (len : Nat) (ps : List (Nat × Value)) (h : AHeap) : Option (Value × AHeap) :=
  match P.underlying t with
  | some (.slice e) => match P.info? e with
    | some ie => match ie.zero with
      | some z => match Nat.ble (len * ie.size) 16777216 with
        | true => match Instr.fill (fun i => some (i * ie.size, ie.size)) (madeCells z.cells (len * ie.size)) ps with
          | some c => some (.slice (some ⟨h.next, 0, none⟩) len len, h.push (.cells e c.size true false [] (T.ofList c.toList)))
          | none => none
        | false => none
      | none => none
    | none => none
  | _ => none
theorem made_r {z : Value} (hz : Plain z) (n : Nat) (hs : n = 0 ∨ z.cells.size ≠ 0) : AsR φ (madeCells z.cells n) (madeCells z.cells n) := zeros_r (plains_r hz) n hs
/-- Cells of a zero value: as many as the type has. -/
def Sized (P : Program) : Prop := ∀ t i z, hasT P t = true → P.info? t = some i → i.zero = some z → i.size = z.cells.size
theorem buildSlice_run (G : Good P) (S : Sized P) (H : HR w0 base φ h w) (hroom : h.room = true) {t : TypeId} (he : hasEl P t = true) {len : Nat} {ps ps' : Array (Nat × Value)} (hp : PartsR φ ps.toList ps'.toList) {v : Value} (hlen : len < unk) (hb : buildSliceV P t len ps.toList h = some (v, h')) : RunV P w0 base φ w v h' (Instr.buildSlice t len ps') := by
  unfold buildSliceV at hb
  split at hb <;> first | (cases hb; done) | skip
  rename_i e hu
  split at hb <;> first | (cases hb; done) | skip
  rename_i ie hie
  split at hb <;> first | (cases hb; done) | skip
  rename_i z hz
  split at hb <;> first | (cases hb; done) | skip
  rename_i hle
  split at hb <;> first | (cases hb; done) | skip
  rename_i c hf
  cases hb
  have hle := Nat.le_of_ble_eq_true hle
  have hsz := S e ie z (hasEl_slice he hu) hie hz
  have hmr : AsR φ (madeCells z.cells (len * ie.size)) (madeCells z.cells (len * ie.size)) := made_r (G.zero e ie z (hasEl_slice he hu) hie hz) _ (by
    rcases Nat.eq_zero_or_pos ie.size with h0 | h0
    · left; rw [h0]; simp
    · right; omega)
  obtain ⟨c', hc', hr⟩ := fill_r ps.toList ps'.toList hp hmr hf
  obtain ⟨φ', h1, h2, h3⟩ := row_push (e := e) H hroom hr (n := len) (k := len) hlen
  refine ⟨φ', _, _, ?_, h1, h2, h3⟩
  by_cases h0 : len * ie.size = 0
  · have e1 : madeCells z.cells (len * ie.size) = #[] := by rw [h0]; simp [madeCells]
    rw [e1] at hc'
    have e2 : (Array.range 0).map (fun _ => (default : Value)) = #[] := by simp
    simp only [Instr.buildSlice, Sem.run_bind, run_underlying hu, sizeOf, typeInfo, hie, h0, newRow, Result.andThen, Sem.run_pure, run_program]
    simp [e2, hc']
  · exact run_buildSlice w t e len ps' c' ie z hu hie hz (by omega) h0 hc'

/-- k copies of a list, one behind the other. -/
def repL (l : List Value) : Nat → List Value
  | 0 => []
  | k + 1 => l ++ repL l k
/-- The cells of c zero values of s cells each. -/
def madeL (l : List Value) (s c : Nat) : List Value := match Nat.beq l.length s with
  | true => repL l c
  | false => (madeCells l.toArray (c * s)).toList
theorem repL_get (l : List Value) : ∀ (c j : Nat), j < c * l.length → (repL l c)[j]? = l[j % l.length]?
  | 0, j, h => by omega
  | c + 1, j, h => by
    rw [repL]
    by_cases hj : j < l.length
    · rw [List.getElem?_append_left hj, Nat.mod_eq_of_lt hj]
    · have hj' : l.length ≤ j := by omega
      rw [List.getElem?_append_right hj', repL_get l c (j - l.length) (by rw [Nat.succ_mul] at h; omega)]
      rw [Nat.mod_eq_sub_mod hj']
theorem repL_len (l : List Value) : ∀ c, (repL l c).length = c * l.length
  | 0 => by simp [repL]
  | c + 1 => by rw [repL, List.length_append, repL_len l c, Nat.succ_mul]; omega
theorem madeL_eq (z : Array Value) (s c : Nat) : madeL z.toList s c = (madeCells z (c * s)).toList := by
  unfold madeL
  split
  · rename_i hb
    have hs : z.size = s := by simpa using Nat.eq_of_beq_eq_true hb
    subst hs
    apply List.ext_getElem?
    intro j
    by_cases hj : j < c * z.size
    · have hp : 0 < z.size := by
        rcases Nat.eq_zero_or_pos z.size with h0 | h0
        · rw [h0] at hj; omega
        · exact h0
      have hm : j % z.size < z.size := Nat.mod_lt _ hp
      rw [repL_get _ _ _ (by simpa using hj)]
      simp only [madeCells, Array.toList_map, List.getElem?_map, Array.toList_range, List.getElem?_range hj, Option.map_some, Array.length_toList, Array.getElem?_toList]
      rw [Array.getElem?_eq_getElem hm, getElem!_pos z (j % z.size) hm]
    · rw [List.getElem?_eq_none, List.getElem?_eq_none]
      · simp [madeCells]; omega
      · rw [repL_len]; simpa using hj
  · simp
def makeV (P : Program) (t : TypeId) (x y : Value) (h : AHeap) : Option (Value × AHeap) :=
  match P.underlying t with
  | some (.slice e) => match P.info? e with
    | some i => match i.zero with
      | some z => match x, y with
        | .int _ (.ofNat l), .int _ (.ofNat c) => match Nat.ble l c && Nat.ble (i.bytes * c) 281474976710656 && Nat.ble c 9223372036854775807 with
          | true => some (.slice (some ⟨h.next, 0, none⟩) l c, h.push (.cells e (c * i.size) true false [] (T.ofList (madeL z.cells.toList i.size c))))
          | false => none
        | _, _ => none
      | none => none
    | none => none
  | _ => none
theorem make_run (G : Good P) (S : Sized P) (H : HR w0 base φ h w) (hroom : h.room = true) {t : TypeId} (he : hasEl P t = true) {x y x' y' : Value} (hx : VR φ x x') (hy : VR φ y y') {v : Value} (hb : makeV P t x y h = some (v, h')) : RunV P w0 base φ w v h' (Instr.makeSlice t x' y') := by
  unfold makeV at hb
  split at hb <;> first | (cases hb; done) | skip
  rename_i e hu
  split at hb <;> first | (cases hb; done) | skip
  rename_i i hie
  split at hb <;> first | (cases hb; done) | skip
  rename_i z hz
  split at hb <;> first | (cases hb; done) | skip
  rename_i kl l kc c
  split at hb <;> first | (cases hb; done) | skip
  rename_i hle
  cases hb
  cases hx
  cases hy
  simp only [Bool.and_eq_true, Nat.ble_eq] at hle
  obtain ⟨⟨h1, h2⟩, h3⟩ := hle
  have hsz := S e i z (hasEl_slice he hu) hie hz
  have hmr : AsR φ (madeCells z.cells (c * i.size)) (madeCells z.cells (c * i.size)) := made_r (G.zero e i z (hasEl_slice he hu) hie hz) _ (by
    rcases Nat.eq_zero_or_pos i.size with h0 | h0
    · left; rw [h0]; simp
    · right; omega)
  obtain ⟨φ', q1, q2, q3⟩ := row_push (e := e) H hroom hmr (n := l) (k := c) (by unfold unk; omega)
  have h2' : (i.bytes : Int) * (c : Int) ≤ 281474976710656 := by
    have h2'' : ((i.bytes * c : Nat) : Int) ≤ 281474976710656 := by omega
    simpa using h2''
  have := run_make (P := P) w t e i z hu hie hz kl kc (l : Int) (c : Int) (by omega) (by omega) h2' (by omega)
  rw [show (madeCells z.cells (c * i.size)).size = c * i.size from size_madeCells _ _] at q2
  rw [madeL_eq]
  exact ⟨φ', _, _, this, q1, q2, q3⟩

/-! ### Slice expressions -/
def boundV (x : Option Value) (d : Nat) : Option Nat := match x with
  | none => some d
  | some (.int _ (.ofNat n)) => some n
  | _ => none
def addrAdd (a : Addr) (n : Nat) : Addr := a.add n
def sliceV (size : Nat) (a : Option Addr) (n k : Nat) (lo hi mx : Option Value) : Option Value :=
  match boundV lo 0, boundV hi n with
  | some l, some hh => match mx with
    | none => match Nat.ble l hh && Nat.ble hh (if k < unk then k else k % unk) with
      | true => if k < unk then some (.slice (if k = l then a else a.map (·.add (l * size))) (hh - l) (k - l))
        else if k / unk - 1 = size ∧ (l < k % unk ∨ l * size = 0) then some (.slice (a.map (·.add (l * size))) (hh - l) (k - l)) else if l = k % unk ∧ hh = l ∧ a.isSome = true then some (.complex .f64 0 0) else none
      | false => none
    | some (.int _ (.ofNat m)) => match Nat.ble l hh && Nat.ble hh m && Nat.ble m (if k < unk then k else k % unk) && Nat.blt m unk with
      | true => match hi with
        | some _ => some (.slice (if m = l then a else a.map (·.add (l * size))) (hh - l) (m - l))
        | none => none
      | false => none
    | _ => none
  | _, _ => none
theorem run_sliceBound {k : IntKind} {i y : Nat} (c : BoundsCode) (hle : i ≤ y) (w : World) : (Instr.sliceBound (.int k (i : Int)) y c).run P w = .ok i w := by
  have : (0 : Int) ≤ i ∧ (i : Int) ≤ y := by omega
  simp [Instr.sliceBound, asIntOf, this.2]
theorem run_bounds {n k l hh : Nat} {lo hi : Option Value} (hl : boundV lo 0 = some l) (hhh : boundV hi n = some hh) (h1 : l ≤ hh) (h2 : hh ≤ k) (w : World) : (Instr.sliceBounds true n k lo hi none).run P w = .ok (l, hh, k) w := by
  unfold boundV at hl hhh
  unfold Instr.sliceBounds
  split at hl <;> first | (cases hl; done) | skip <;> split at hhh <;> first | (cases hhh; done) | skip
  · cases hl; cases hhh; rfl
  · cases hl; cases hhh
    simp [run_sliceBound _ h2, Result.andThen]
  · cases hl; cases hhh
    simp [run_sliceBound _ h1, Result.andThen]
  · cases hl; cases hhh
    simp [run_sliceBound _ h1, run_sliceBound _ h2, Result.andThen]
theorem run_bounds3 {n k l hh m : Nat} {km : IntKind} {lo : Option Value} {vh : Value} (hl : boundV lo 0 = some l) (hhh : boundV (some vh) n = some hh) (h1 : l ≤ hh) (h2 : hh ≤ m) (h3 : m ≤ k) (w : World) : (Instr.sliceBounds true n k lo (some vh) (some (.int km (m : Int)))).run P w = .ok (l, hh, m) w := by
  unfold boundV at hl hhh
  unfold Instr.sliceBounds
  split at hl <;> first | (cases hl; done) | skip <;> split at hhh <;> first | (cases hhh; done) | skip
  · rename_i e; cases e
  · rename_i e
    injection e with e
    subst e
    cases hl; cases hhh
    simp [run_sliceBound _ h3, run_sliceBound _ h2, Result.andThen]
  · rename_i e; cases e
  · rename_i e
    injection e with e
    subst e
    cases hl; cases hhh
    simp [run_sliceBound _ h3, run_sliceBound _ h1, run_sliceBound _ h2, Result.andThen]
theorem run_sliceAt {t e : TypeId} {i : TypeInfo} (hu : P.underlying t = some (.slice e)) (hi : P.info? e = some i) {a : Option Addr} {n k l hh m : Nat} {lo hi' mx : Option Value} {w : World} (hb : (Instr.sliceBounds true n k lo hi' mx).run P w = .ok (l, hh, m) w) :
    (Instr.sliceAt t (.slice a n k) lo hi' mx).run P w = .ok (.slice (if m = l then a else a.map (·.add (l * i.size))) (hh - l) (m - l)) w := by
  simp [Instr.sliceAt, Instr.slice, run_underlying hu, hb, sizeOf, typeInfo, hi, Result.andThen]
theorem boundV_r {x y : Option Value} (h : OptVR φ x y) (d : Nat) : boundV x d = boundV y d := by
  rcases h with ⟨rfl, rfl⟩ | ⟨a, b, rfl, rfl, h⟩
  · rfl
  · cases h <;> rfl
theorem optAdd_r {a a' : Addr} (h : AddrR φ a a') (c : Prop) [Decidable c] (n : Nat) : ∃ x x', (if c then some a else (some a).map (·.add n)) = some x ∧ (if c then some a' else (some a').map (·.add n)) = some x' ∧ AddrR φ x x' := by
  split
  · exact ⟨_, _, rfl, rfl, h⟩
  · exact ⟨_, _, rfl, rfl, h.add n⟩
theorem slice_run (H : HR w0 base φ h w) {t e : TypeId} {i : TypeInfo} (hu : P.underlying t = some (.slice e)) (hi : P.info? e = some i) {a : Option Addr} {n k : Nat} {u : Value} {lo lo' hi1 hi1' mx mx' : Option Value} (hv : VR φ (.slice a n k) u) (hlo : OptVR φ lo lo') (hhi : OptVR φ hi1 hi1') (hmx : OptVR φ mx mx') {v : Value} (hs : sliceV i.size a n k lo hi1 mx = some v) :
    RunV P w0 base φ w v h (Instr.sliceAt t u lo' hi1' mx') := by
  unfold sliceV at hs
  split at hs <;> first | (cases hs; done) | skip
  rename_i l hh hl hhh
  have hl' := (boundV_r hlo 0).symm.trans hl
  have hhh' := (boundV_r hhi n).symm.trans hhh
  split at hs <;> first | (cases hs; done) | skip
  · -- no third index
    have hmx' : mx' = none := by rcases hmx with ⟨_, rfl⟩ | ⟨_, _, h1, _, _⟩ <;> first | rfl | cases h1
    subst hmx'
    split at hs <;> first | (cases hs; done) | skip
    rename_i hle
    simp only [Bool.and_eq_true, Nat.ble_eq] at hle
    obtain ⟨h1, h2⟩ := hle
    cases hv with
    | slNil hk =>
      rw [if_pos hk] at h2 hs
      cases hs
      refine ⟨φ, _, w, run_sliceAt hu hi (run_bounds hl' hhh' h1 h2 w), ?_, H, Ext.refl _⟩
      have e : ∀ c : Prop, ∀ _ : Decidable c, (if c then (none : Option Addr) else (none : Option Addr).map (fun x : Addr => x.add (l * i.size))) = none := fun c _ => by split <;> rfl
      rw [e]
      exact .slNil (by omega)
    | @sl a0 a' _ _ k' ha hk =>
      by_cases hku : k < unk
      · have hkk := hk.1 hku
        subst hkk
        rw [if_pos hku] at h2 hs
        cases hs
        refine ⟨φ, _, w, run_sliceAt hu hi (run_bounds hl' hhh' h1 h2 w), ?_, H, Ext.refl _⟩
        obtain ⟨x, x', e1, e2, hx⟩ := optAdd_r ha (k' = l) (l * i.size)
        rw [e1, e2]
        exact .sl hx (CapR.refl (by omega))
      · have hkk := hk.2 (by omega)
        rw [if_neg hku] at h2 hs
        by_cases hcond : k / unk - 1 = i.size ∧ (l < k % unk ∨ l * i.size = 0)
        case neg =>
          rw [if_neg hcond] at hs
          split at hs <;> first | (cases hs; done) | skip
          rename_i hc2
          obtain ⟨e1, e2, _⟩ := hc2
          cases hs
          subst e2
          refine ⟨φ, _, w, run_sliceAt hu hi (run_bounds hl' hhh' h1 (by omega) w), ?_, H, Ext.refl _⟩
          rw [Nat.sub_self]
          by_cases hkl : k' = hh
          · rw [if_pos hkl]; exact .amb
          · rw [if_neg hkl]; exact .amb
        rw [if_pos hcond] at hs
        obtain ⟨hes, hcond⟩ := hcond
        cases hs
        obtain ⟨hk1, hk2⟩ := hkk
        refine ⟨φ, _, w, run_sliceAt hu hi (run_bounds hl' hhh' h1 (by omega) w), ?_, H, Ext.refl _⟩
        have hx' : (if k' = l then some a' else (some a').map (·.add (l * i.size))) = some (a'.add (l * i.size)) := by
          rcases hcond with hlt | h0
          · rw [if_neg (by omega)]; rfl
          · rw [h0]
            have : a'.add 0 = a' := rfl
            rw [this]
            split
            · rfl
            · simp [this]
        rw [hx']
        have hkq := Nat.div_add_mod k unk
        have hlr : l ≤ k % unk := by omega
        have hkl : k - l = unk * (k / unk) + (k % unk - l) := by omega
        have hrl : k % unk - l < unk := by have := Nat.mod_lt k (show unk > 0 from by unfold unk; omega); omega
        have hmod : (k - l) % unk = k % unk - l := by rw [hkl, Nat.mul_add_mod, Nat.mod_eq_of_lt hrl]
        have hdiv : (k - l) / unk = k / unk := by rw [hkl, Nat.mul_add_div (by unfold unk; omega), Nat.div_eq_of_lt hrl]; omega
        have hoff : (a0.add (l * i.size)).off = a0.off + l * i.size := by
          unfold Addr.add
          split
          · rename_i h0; omega
          · rfl
        have hblk : (a0.add (l * i.size)).block = a0.block := by
          unfold Addr.add
          split <;> rfl
        refine .sl (ha.add _) ⟨fun hlt => ?_, fun hge => ?_⟩
        · exfalso
          have hq : 1 ≤ k / unk := Nat.div_pos (by omega) (by unfold unk; omega)
          have : unk * 1 ≤ unk * (k / unk) := Nat.mul_le_mul_left _ hq
          omega
        · rw [hmod, hdiv, hoff, hblk, hes]
          rw [hes] at hk2
          refine ⟨by omega, ?_⟩
          rw [Nat.sub_mul]
          have : l * i.size ≤ k' * i.size := Nat.mul_le_mul_right _ (by omega)
          omega
  · rename_i km m
    rcases hmx with ⟨h1, _⟩ | ⟨_, mv, h1, rfl, hmv⟩
    · cases h1
    · injection h1 with h1
      subst h1
      cases hmv
      split at hs <;> first | (cases hs; done) | skip
      rename_i hle
      simp only [Bool.and_eq_true, Nat.ble_eq, Nat.blt_eq] at hle
      obtain ⟨⟨⟨h1, h2⟩, h3⟩, h4⟩ := hle
      split at hs <;> first | (cases hs; done) | skip
      rename_i vh
      obtain ⟨vh', rfl⟩ : ∃ vh', hi1' = some vh' := by
        rcases hhi with ⟨h1, _⟩ | ⟨_, y, _, rfl, _⟩
        · cases h1
        · exact ⟨y, rfl⟩
      cases hs
      cases hv with
      | slNil hk =>
        rw [if_pos hk] at h3
        refine ⟨φ, _, w, run_sliceAt hu hi (run_bounds3 hl' hhh' h1 h2 h3 w), ?_, H, Ext.refl _⟩
        have e : ∀ c : Prop, ∀ _ : Decidable c, (if c then (none : Option Addr) else (none : Option Addr).map (fun x : Addr => x.add (l * i.size))) = none := fun c _ => by split <;> rfl
        rw [e]
        exact .slNil (by omega)
      | @sl _ a' _ _ k' ha hk =>
        have hmk : m ≤ k' := by
          by_cases hku : k < unk
          · rw [if_pos hku] at h3; have := hk.1 hku; omega
          · rw [if_neg hku] at h3; have := hk.2 (by omega); omega
        refine ⟨φ, _, w, run_sliceAt hu hi (run_bounds3 hl' hhh' h1 h2 hmk w), ?_, H, Ext.refl _⟩
        obtain ⟨x, x', e1, e2, hx⟩ := optAdd_r ha (m = l) (l * i.size)
        rw [e1, e2]
        exact .sl hx (CapR.refl (by omega))
end
end
end Go.Ab

/- An evaluator of the model's code over an abstract heap: append. -/
namespace Go.Ab
open Go.RowKit
noncomputable section
section
variable {P : Program} {w0 : World} {base : Nat} {φ : Phi} {h h' : AHeap} {w : World}
def lenV : Value → Option Nat
  | .slice _ n _ => some n
  | .string s => some s.size
  | _ => none
theorem lenV_run {x y : Value} (hx : VR φ x y) {n : Nat} (hn : lenV x = some n) : Builtin.lenOf y = pure n := by
  cases hx <;> simp only [lenV] at hn <;> first | (cases hn; done) | (cases hn; rfl)
theorem sr_firstCells (size n : Nat) {x y : Value} (hx : VR φ x y) : SR P AsR φ (Builtin.firstCells size n x) (Builtin.firstCells size n y) := by
  cases hx with
  | sl ha _ => exact sr_loadCells ha _
  | slNil _ => exact .pure (AsR.empty _)
  | @string s =>
    refine .pure ⟨rfl, fun i a b h1 h2 => ?_⟩
    rw [h1] at h2
    injection h2 with h2
    subst h2
    rw [Array.getElem?_map] at h1
    cases hs : (s.extract 0 n).data[i]? with
    | none => rw [hs] at h1; cases h1
    | some b => rw [hs] at h1; simp at h1; rw [← h1]; exact .int
  | _ => exact .halt
theorem still_firstCells (size n : Nat) (x : Value) : Still P (Builtin.firstCells size n x) := by
  unfold Builtin.firstCells
  split
  · exact still_loadCellsFrom _ _ _ _
  · exact Still.pure _
  · exact Still.pure _
  · exact Still.halt _

/-- The element type and what is known of it. -/
structure ElemI (P : Program) (t e : TypeId) (i : TypeInfo) (z : Value) : Prop where
  hu : P.underlying t = some (.slice e)
  hi : P.info? e = some i
  hz : i.zero = some z
def notInt : TypeDesc → Bool
  | .slice _ => true
  | .string => true
  | _ => false
theorem run_append_room' {t xt e : TypeId} {i : TypeInfo} {z : Value} (E : ElemI P t e i z) {d : TypeDesc} (hx : P.underlying xt = some d) (hd : notInt d = true) (ty : TypeId) {base : Option Addr} {n k m : Nat} {x : Value} (hl : Builtin.lenOf x = pure m)
    (hr : n + m ≤ k) {new : Array Value} (hn : (Builtin.firstCells i.size m x).run P w = .ok new w) :
    (Builtin.append_ #[t, xt] ty #[.slice base n k, x]).run P w = match base with
      | some a => ((storeCells (a.add (n * i.size)) new.toList).run P w).andThen fun _ w' => .ok (.slice base (n + m) k) w'
      | none => .ok (.slice none (n + m) k) w := by
  cases d <;> first | (cases hd; done) | skip
  all_goals
    cases base with
    | none => simp [Builtin.append_, run_underlying E.hu, run_underlying hx, sizeOf, typeInfo, E.hi, hl, hn, hr]
    | some a => simp [Builtin.append_, run_underlying E.hu, run_underlying hx, sizeOf, typeInfo, E.hi, hl, hn, hr]
theorem run_append_grow' {t xt e : TypeId} {i : TypeInfo} {z : Value} (E : ElemI P t e i z) {d : TypeDesc} (hx : P.underlying xt = some d) (hd : notInt d = true) (ty : TypeId) {base : Option Addr} {n k m : Nat} {x : Value} (hl : Builtin.lenOf x = pure m)
    (hr : k < n + m) (h63 : ((n + m : Nat) : Int) ≤ 9223372036854775807) (hfit : (n + m) * i.bytes ≤ 140737488355328) {old new : Array Value} (ho : (Builtin.firstCells i.size n (.slice base n k)).run P w.drew = .ok old w.drew) (hn : (Builtin.firstCells i.size m x).run P w.drew = .ok new w.drew) :
    (Builtin.append_ #[t, xt] ty #[.slice base n k, x]).run P w =
      .ok (.slice (some ⟨w.heap.size, 0, none⟩) (n + m) (grownCap w (n + m) k e)) (w.drew.alloc (.cells (old ++ new ++ Builtin.zeroCells z.cells (grownCap w (n + m) k e - (n + m))) e)) := by
  have hn' : ¬ (n + m ≤ k) := by omega
  have h63' : ¬ (9223372036854775807 < ((n : Int) + (m : Int))) := by omega
  have hf := growslice_fits hr hfit
  have h48' : ¬ (281474976710656 < Builtin.nextslicecap (n + m) k * i.bytes) := by omega
  cases d <;> first | (cases hd; done) | skip
  all_goals simp [Builtin.append_, run_underlying E.hu, run_underlying hx, sizeOf, typeInfo, zeroValue, E.hi, E.hz, hl, hn', h63', h48', Question.forced, ho, hn, newRow, grownCap]

def appendV (P : Program) (t xt : TypeId) (s x : Value) (h : AHeap) : Option (Value × AHeap) :=
  match P.underlying t with
  | some (.slice e) => match P.info? e with
    | some i => match i.zero with
      | some _ => match P.underlying xt with
        | some d => match notInt d with
          | true => match s with
            | .slice bs n k => match lenV x with
              | some m => match arun P (Builtin.firstCells i.size m x) h with
                | some (new, _) =>
                  if n + m ≤ (if k < unk then k else k % unk) then
                    match bs with
                    | none => some (.slice none (n + m) k, h)
                    | some a => match arun P (storeCells (a.add (n * i.size)) new.toList) h with
                      | some (_, h') => some (.slice bs (n + m) k, h')
                      | none => none
                  else match Nat.ble (n + m) 9223372036854775807 && Nat.ble ((n + m) * i.bytes) 140737488355328 && Nat.ble new.size (m * i.size) && Nat.ble (m * i.size) new.size && allB oneV new.toList with
                    | true =>
                      if k < unk then match arun P (Builtin.firstCells i.size n s) h with
                        | some (old, _) => match Nat.ble old.size (n * i.size) && Nat.ble (n * i.size) old.size with
                          | true => some (.slice (some ⟨h.next, 0, none⟩) (n + m) (unk * (1 + i.size) + (n + m)), h.push (.cells e ((n + m) * i.size) false false [] (T.ofListFrom new.toList (n * i.size) (T.ofList old.toList))))
                          | false => none
                        | none => none
                      else match bs with
                        | some ⟨b, 0, none⟩ => match h.blocks.get b with
                          | some (.cells e' k' x false kin t') => if e' = e ∧ k' = n * i.size ∧ x = false ∧ k / unk - 1 = i.size ∧ 1 ≤ i.size then
                              some (.slice (some ⟨h.next, 0, none⟩) (n + m) (unk * (1 + i.size) + (n + m)),
                                (⟨h.blocks.set b (.cells e' k' x true kin t'), h.next⟩ : AHeap).push (.cells e ((n + m) * i.size) false false (b :: kin) (T.ofListFrom new.toList (n * i.size) t')))
                            else none
                          | _ => none
                        | _ => none
                    | false => none
                | none => none
              | none => none
            | _ => none
          | false => none
        | none => none
      | none => none
    | none => none
  | _ => none

/-- A run of stores into one row. -/
theorem storeRow (c : Nat) (e : TypeId) (o0 : Nat) : ∀ (vs : List Value) (i : Nat) (w : World) (arr : Array Value), w.heap[c]? = some (.cells arr e (0, 0)) → (∀ v ∈ vs, oneV v = true) → o0 + i + vs.length ≤ arr.size →
    ∃ w' arr', (storeCells ⟨c, o0, none⟩ vs i).run P w = .ok () w' ∧ w'.heap[c]? = some (.cells arr' e (0, 0)) ∧ arr'.size = arr.size ∧
      (∀ j, arr'[j]? = if o0 + i ≤ j ∧ j < o0 + i + vs.length then vs[j - (o0 + i)]? else arr[j]?) ∧ (∀ k, k ≠ c → w'.heap[k]? = w.heap[k]?) ∧ w'.heap.size = w.heap.size ∧ w'.os = w.os ∧ w'.tape = w.tape ∧ w'.output = w.output
  | [], i, w, arr, hc, _, _ => ⟨w, arr, rfl, hc, rfl, fun j => by rw [if_neg (by simp)], fun _ _ => rfl, rfl, rfl, rfl, rfl⟩
  | v :: vs, i, w, arr, hc, h1, hs => by
    have hs' : o0 + i + (vs.length + 1) ≤ arr.size := hs
    have hadd : (⟨c, o0, none⟩ : Addr).add i = ⟨c, o0 + i, none⟩ := by
      unfold Addr.add
      split
      · rename_i h0; subst h0; rfl
      · rfl
    have hv := h1 v (List.mem_cons_self ..)
    have hcell : w.cell? ⟨c, o0 + i, none⟩ = some (arr[o0 + i]'(by omega)) := by simp [World.cell?, hc, Array.getElem?_eq_getElem (show o0 + i < arr.size by omega)]
    have hfz : w.frozen? ⟨c, o0 + i, none⟩ = false := by simp [World.frozen?, hc]
    have hstep : (store ((⟨c, o0, none⟩ : Addr).add i) v).run P w = .ok () (w.setCell ⟨c, o0 + i, none⟩ v) := by
      rw [hadd, run_store P w _ v .plain (by cases v <;> first | rfl | (simp [oneV] at hv)), hcell, hfz]
      rfl
    have hheap : ∀ k, (w.setCell ⟨c, o0 + i, none⟩ v).heap[k]? = if c = k then some (.cells (arr.setIfInBounds (o0 + i) v) e (0, 0)) else w.heap[k]? := fun k => by
      simp only [World.setCell, Array.getElem?_modify]
      by_cases e : c = k
      · subst e; simp [hc]
      · rw [if_neg e, if_neg e]
    obtain ⟨w', arr', r1, r2, r3, r4, r5, r6, r7, r8, r9⟩ := storeRow c e o0 vs (i + 1) (w.setCell ⟨c, o0 + i, none⟩ v) (arr.setIfInBounds (o0 + i) v) (by rw [hheap, if_pos rfl]) (fun u hu => h1 u (List.mem_cons_of_mem _ hu)) (by simp; omega)
    refine ⟨w', arr', ?_, r2, by simpa using r3, fun j => ?_, fun k hk => ?_, by rw [r6]; simp [World.setCell], r7, r8, r9⟩
    · show ((store ((⟨c, o0, none⟩ : Addr).add i) v) >>= fun _ => storeCells ⟨c, o0, none⟩ vs (i + 1)).run P w = _
      rw [Sem.run_bind, hstep]
      exact r1
    · rw [r4, Array.getElem?_setIfInBounds]
      have hl : (v :: vs).length = vs.length + 1 := rfl
      rw [hl]
      by_cases e : j = o0 + i
      · subst e
        rw [if_neg (by omega), if_pos rfl, if_pos (by omega), if_pos (by omega)]
        simp
      · by_cases e2 : o0 + (i + 1) ≤ j ∧ j < o0 + (i + 1) + vs.length
        · rw [if_pos e2, if_pos (by omega)]
          obtain ⟨q, rfl⟩ : ∃ q, j = o0 + (i + 1) + q := ⟨j - (o0 + (i + 1)), by omega⟩
          have a1 : o0 + (i + 1) + q - (o0 + (i + 1)) = q := by omega
          have a2 : o0 + (i + 1) + q - (o0 + i) = q + 1 := by omega
          rw [a1, a2]
          simp
        · rw [if_neg e2, if_neg (fun e' => e e'.symm), if_neg (by omega)]
    · rw [r5 k hk, hheap, if_neg (fun e => hk e.symm)]

theorem cell_bound {arr : Array Value} {j : Nat} {u : Value} (h : arr[j]? = some u) : j < arr.size := by
  rcases Nat.lt_or_ge j arr.size with hlt | hge
  · exact hlt
  · rw [Array.getElem?_eq_none hge] at h; cases h
theorem capR_grown {N m es k' : Nat} (hm : m < unk) (h1 : m ≤ k') (h2 : k' * es ≤ N) : CapR N 0 (unk * (1 + es) + m) k' := by
  have hu : 0 < unk := by unfold unk; omega
  refine ⟨fun hlt => ?_, fun _ => ?_⟩
  · exfalso
    have : unk * 1 ≤ unk * (1 + es) := Nat.mul_le_mul_left _ (by omega)
    omega
  · have e1 : (unk * (1 + es) + m) % unk = m := by rw [Nat.mul_add_mod, Nat.mod_eq_of_lt hm]
    have e2 : (unk * (1 + es) + m) / unk = 1 + es := by rw [Nat.mul_add_div hu, Nat.div_eq_of_lt hm]; omega
    rw [e1, e2]
    have e3 : 1 + es - 1 = es := by omega
    rw [e3]
    omega
theorem grownCap_le (w : World) (need old : Nat) (e : TypeId) : need ≤ grownCap w need old e := by
  unfold grownCap Question.cut
  exact Nat.le_add_right _ _
theorem zeroCells_size (z : Array Value) (n : Nat) : (Builtin.zeroCells z n).size = n * z.size := by simp [Builtin.zeroCells]
/-- A row that append made anew. -/
theorem grow_push (S : Sized P) (H : HR w0 base φ h w) (hroom : h.room = true) (kin : List Nat) {e : TypeId} {i : TypeInfo} {z : Value} (hte : hasT P e = true) (hi : P.info? e = some i) (hz : i.zero = some z) {old new : Array Value} {t : T Value} {n m nc : Nat} (hm : n + m < unk) (ho : old.size = n * i.size) (hn : new.size = m * i.size) (hnc : n + m ≤ nc)
    (ht : ∀ j v, t.get j = some v → j < (n + m) * i.size ∧ ∃ u, (old ++ new)[j]? = some u ∧ VR φ v u) :
    ∃ φ', VR φ' (.slice (some ⟨h.next, 0, none⟩) (n + m) (unk * (1 + i.size) + (n + m))) (.slice (some ⟨w.heap.size, 0, none⟩) (n + m) nc) ∧
      HR w0 base φ' (h.push (.cells e ((n + m) * i.size) false false kin t)) (w.drew.alloc (.cells (old ++ new ++ Builtin.zeroCells z.cells (nc - (n + m))) e)) ∧ Ext φ φ' := by
  have Hd : HR w0 base φ h w.drew := H.drew _
  have hsz := S e i z hte hi hz
  have hN : (old ++ new ++ Builtin.zeroCells z.cells (nc - (n + m))).size = nc * i.size := by
    rw [Array.size_append, Array.size_append, ho, hn, zeroCells_size, ← hsz, ← Nat.add_mul, ← Nat.add_mul]
    congr 1
    omega
  have hext := ext_more (H.free hroom) w.heap.size (nc * i.size)
  refine ⟨φ.more h.next w.heap.size (nc * i.size), ?_, ?_, hext⟩
  · refine .sl (.mk (by simp [more_to])) ?_
    show CapR ((φ.more h.next w.heap.size (nc * i.size)).size h.next) 0 _ _
    rw [more_size, if_pos rfl]
    exact capR_grown hm hnc (Nat.le_refl _)
  · refine Hd.push hroom (.cells (old ++ new ++ Builtin.zeroCells z.cells (nc - (n + m))) e) _ (nc * i.size) ?_
    refine ⟨w.heap.size, old ++ new ++ Builtin.zeroCells z.cells (nc - (n + m)), (by rw [more_to, if_pos rfl]; rfl), Array.getElem?_push_size, ⟨?_, (fun hx => by cases hx), fun j v hv => ?_⟩, ?_⟩
    · rw [hN]; exact Nat.mul_le_mul_right _ hnc
    · obtain ⟨h1, u, h2, h3⟩ := ht j v hv
      refine ⟨h1, u, ?_, h3.mono hext⟩
      rw [Array.getElem?_append, if_pos (cell_bound h2)]
      exact h2
    · rw [hN]
      show _ = (φ.more h.next w.heap.size (nc * i.size)).size h.next
      rw [more_size, if_pos rfl]

/-- A row that append went on in place: its elder state is not written any more. -/
theorem alias_push (H : HR w0 base φ h w) (hroom : h.room = true) {b c n n1 : Nat} {e : TypeId} {kin : List Nat} {t t1 : T Value} {arr arr1 : Array Value} {w1 : World} (hb : h.blocks.get b = some (.cells e n false false kin t)) (hφ : φ b = some c) (hc : w.heap[c]? = some (.cells arr e (0, 0)))
    (hc1 : w1.heap[c]? = some (.cells arr1 e (0, 0))) (hsz : arr1.size = arr.size) (hlow : ∀ j, j < n → arr1[j]? = arr[j]?) (hoth : ∀ k, k ≠ c → w1.heap[k]? = w.heap[k]?) (hws : w1.heap.size = w.heap.size) (hos : w1.os = w.os) (htp : w1.tape = w.tape) (hout : w1.output = w.output)
    (hn1 : n ≤ n1) (hn2 : n1 ≤ arr1.size) (ht : ∀ j v, t1.get j = some v → j < n1 ∧ ∃ u, arr1[j]? = some u ∧ VR φ v u) :
    HR w0 base (φ.more h.next c (φ.size b)) ((⟨h.blocks.set b (.cells e n false true kin t), h.next⟩ : AHeap).push (.cells e n1 false false (b :: kin) t1)) w1 := by
  have hbn : b ≠ h.next := fun e => by rw [e, H.free hroom] at hφ; cases hφ
  have hext := ext_more (H.free hroom) c (φ.size b)
  have hB := H.blocks b _ (H.real hφ) hb
  obtain ⟨c0, arr0, p1, p2, ⟨p3, p4, p5⟩, p6⟩ := hB
  have : c0 = c := Option.some.inj (p1.symm.trans hφ)
  subst this
  rw [hc] at p2
  injection p2 with p2
  injection p2 with p2 _
  subst p2
  have hget : ∀ bb, ((⟨h.blocks.set b (.cells e n false true kin t), h.next⟩ : AHeap).push (.cells e n1 false false (b :: kin) t1)).blocks.get bb = if bb = h.next then some (.cells e n1 false false (b :: kin) t1) else if bb = b then some (.cells e n false true kin t) else h.blocks.get bb := fun bb => by
    show ((h.blocks.set b (.cells e n false true kin t)).set h.next (.cells e n1 false false (b :: kin) t1)).get bb = _
    rw [T.get_set, T.get_set]
  -- another state of the same row
  have hal : ∀ b2 y, b2 ≠ b → φ b2 = some c0 → h.blocks.get b2 = some y → y ≠ .dead → ∃ e2 n2 x2 kin2 t2, y = .cells e2 n2 x2 true kin2 t2 ∧ b2 ∈ kin ∧ n2 ≤ n := fun b2 y hne h2 hy hd => by
    rcases H.apart b b2 c0 _ y hφ h2 hb hy (by simp) hd (fun e => hne e.symm) with hk | hk
    · obtain ⟨f1, f2, f3, f4, f5, f6, f7, f8, f9, f10, f11, m1, m2, m3, m4⟩ := hk
      rw [hb] at m1; injection m1 with m1; injection m1 with _ a2 _ _ a5
      rw [hy] at m2; injection m2 with m2
      exact ⟨f7, f8, f9, f10, f11, m2, by rw [a5]; exact m3, by omega⟩
    · obtain ⟨f1, f2, f3, f4, f5, f6, f7, f8, f9, f10, f11, m1, m2, m3, m4⟩ := hk
      rw [hb] at m2; injection m2 with m2; injection m2 with _ _ _ a4; cases a4
  have hrow : ∀ {n2 : Nat} {x2 : Bool} {t2 : T Value}, n2 ≤ n → RowR φ n2 x2 t2 arr → RowR (φ.more h.next c0 (φ.size b)) n2 x2 t2 arr1 := fun hle hr => by
    refine ⟨by rw [hsz]; exact hr.1, fun hx => by rw [hsz]; exact hr.2.1 hx, fun j v hv => ?_⟩
    obtain ⟨q1, u, q2, q3⟩ := hr.2.2 j v hv
    exact ⟨q1, u, by rw [hlow j (by omega)]; exact q2, q3.mono hext⟩
  refine ⟨fun bb y hgb hy => ?_, fun bb hbb => ?_, fun bb c2 hc2 => ?_, fun b1 b2 c2 y1 y2 g1 g2 g3 g4 g5 g6 g7 => ?_, ?_, H.base_le, fun bb hgb => ?_⟩
  · rw [hget] at hy
    by_cases e1 : bb = h.next
    · rw [if_pos e1] at hy
      injection hy with hy
      subst hy e1
      refine ⟨c0, arr1, by rw [more_to, if_pos rfl], hc1, ⟨hn2, (fun hx => by cases hx), fun j v hv => ?_⟩, by rw [more_size, if_pos rfl, hsz]; exact p6⟩
      obtain ⟨q1, u, q2, q3⟩ := ht j v hv
      exact ⟨q1, u, q2, q3.mono hext⟩
    · rw [if_neg e1] at hy
      by_cases e2 : bb = b
      · rw [if_pos e2] at hy
        injection hy with hy
        subst hy e2
        exact ⟨c0, arr1, hext _ _ hφ, hc1, hrow (Nat.le_refl _) ⟨p3, p4, p5⟩, by rw [hext.sz _ _ hφ, hsz]; exact p6⟩
      · rw [if_neg e2] at hy
        have hBB := H.blocks bb y hgb hy
        cases y with
        | dead => trivial
        | obj o =>
          obtain ⟨c2, o', q1, q2, q3⟩ := hBB
          refine ⟨c2, o', hext _ _ q1, ?_, q3.mono hext⟩
          rw [hoth c2 (fun e => by subst e; rw [hc] at q2; injection q2 with q2; exact (q3.noCells.2 _ _ _ q2.symm))]
          exact q2
        | cells f1 f2 f3 f4 f5 f6 =>
          obtain ⟨c2, arr2, q1, q2, q3, q4⟩ := hBB
          by_cases ec : c2 = c0
          · subst ec
            rw [hc] at q2
            injection q2 with q2
            injection q2 with q2 q2'
            subst q2 q2'
            obtain ⟨_, n2, _, _, _, a1, _, a3⟩ := hal bb _ e2 q1 hy (by simp)
            injection a1 with _ a1
            exact ⟨c2, arr1, hext _ _ q1, hc1, hrow (by omega) q3, by rw [hext.sz _ _ q1, hsz]; exact q4⟩
          · exact ⟨c2, arr2, hext _ _ q1, by rw [hoth c2 ec]; exact q2, ⟨q3.1, q3.2.1, fun j v hv => by
              obtain ⟨r1, u, r2, r3⟩ := q3.2.2 j v hv
              exact ⟨r1, u, r2, r3.mono hext⟩⟩, by rw [hext.sz _ _ q1]; exact q4⟩
  · rw [hget] at hbb
    by_cases e1 : bb = h.next
    · rw [if_pos e1] at hbb; cases hbb
    · rw [if_neg e1] at hbb
      rw [more_to, if_neg e1]
      by_cases e2 : bb = b
      · rw [if_pos e2] at hbb; cases hbb
      · rw [if_neg e2] at hbb; exact H.fresh bb hbb
  · rw [more_to] at hc2
    rw [hws]
    by_cases e1 : bb = h.next
    · rw [if_pos e1] at hc2
      injection hc2 with hc2
      subst hc2
      exact H.lo b _ hφ
    · rw [if_neg e1] at hc2
      exact H.lo bb c2 hc2
  · rw [hget] at g3 g4
    rw [more_to] at g1 g2
    have hkn : ∀ y, y ≠ h.next → φ y = some c0 → (∃ o, (if y = b then some (AObj.cells e n false true kin t) else h.blocks.get y) = some o ∧ o ≠ .dead) → KinR ((⟨h.blocks.set b (.cells e n false true kin t), h.next⟩ : AHeap).push (.cells e n1 false false (b :: kin) t1)) h.next y := fun y hy hφy ⟨o, ho, hod⟩ => by
      by_cases e2 : y = b
      · subst e2
        exact ⟨e, n1, false, false, y :: kin, t1, e, n, false, kin, t, by rw [hget, if_pos rfl], by rw [hget, if_neg hy, if_pos rfl], List.mem_cons_self .., hn1⟩
      · rw [if_neg e2] at ho
        obtain ⟨f1, f2, f3, f5, f6, a1, a2, a3⟩ := hal y o e2 hφy ho hod
        subst a1
        exact ⟨e, n1, false, false, b :: kin, t1, f1, f2, f3, f5, f6, by rw [hget, if_pos rfl], by rw [hget, if_neg hy, if_neg e2]; exact ho, List.mem_cons_of_mem _ a2, by omega⟩
    by_cases e1 : b1 = h.next
    · by_cases e2 : b2 = h.next
      · exact absurd (e1.trans e2.symm) g7
      · rw [if_pos e1] at g1
        rw [if_neg e2] at g2 g4
        injection g1 with g1
        subst g1 e1
        exact .inl (hkn b2 e2 g2 ⟨_, g4, g6⟩)
    · by_cases e2 : b2 = h.next
      · rw [if_pos e2] at g2
        rw [if_neg e1] at g1 g3
        injection g2 with g2
        subst g2 e2
        exact .inr (hkn b1 e1 g1 ⟨_, g3, g5⟩)
      · rw [if_neg e1] at g1 g3
        rw [if_neg e2] at g2 g4
        have hold : ∀ bb y, (if bb = b then some (AObj.cells e n false true kin t) else h.blocks.get bb) = some y → y ≠ .dead → ∃ y0, h.blocks.get bb = some y0 ∧ y0 ≠ .dead := fun bb y hy hd => by
          by_cases e : bb = b
          · subst e; exact ⟨_, hb, by simp⟩
          · rw [if_neg e] at hy; exact ⟨y, hy, hd⟩
        have hk : ∀ x y, x ≠ h.next → y ≠ h.next → KinR h x y → KinR ((⟨h.blocks.set b (.cells e n false true kin t), h.next⟩ : AHeap).push (.cells e n1 false false (b :: kin) t1)) x y := fun x y hxn hyn hk => by
          obtain ⟨f1, f2, f3, f4, f5, f6, f7, f8, f9, f10, f11, m1, m2, m3, m4⟩ := hk
          have hy : y ≠ b := fun e => by subst e; rw [hb] at m2; injection m2 with m2; injection m2 with _ _ _ a4; cases a4
          by_cases e : x = b
          · subst e
            rw [hb] at m1; injection m1 with m1; injection m1 with a1 a2 a3 a4 a5 a6
            exact ⟨_, n, false, true, kin, t, f7, f8, f9, f10, f11, by rw [hget, if_neg hxn, if_pos rfl], by rw [hget, if_neg hyn, if_neg hy]; exact m2, by rw [a5]; exact m3, by omega⟩
          · exact ⟨f1, f2, f3, f4, f5, f6, f7, f8, f9, f10, f11, by rw [hget, if_neg hxn, if_neg e]; exact m1, by rw [hget, if_neg hyn, if_neg hy]; exact m2, m3, m4⟩
        obtain ⟨z1, hz1, hd1⟩ := hold b1 y1 g3 g5
        obtain ⟨z2, hz2, hd2⟩ := hold b2 y2 g4 g6
        exact (H.apart b1 b2 c2 z1 z2 g1 g2 hz1 hz2 hd1 hd2 g7).imp (hk _ _ e1 e2) (hk _ _ e2 e1)
  · exact H.below.trans ⟨hos, htp, hout, by omega, fun k hk => hoth k (fun e => by subst e; have := (H.lo b _ hφ).1; omega)⟩
  · obtain ⟨q1, q2⟩ := H.ghost bb hgb
    have hne : bb ≠ h.next := fun e => q2 (by rw [e]; exact AHeap.room_none hroom)
    refine ⟨by rw [more_to, if_neg hne]; exact q1, ?_⟩
    rw [hget, if_neg hne]
    by_cases e2 : bb = b
    · rw [if_pos e2]; simp
    · rw [if_neg e2]; exact q2

theorem appended_cells {φ : Phi} {old new old' new' : Array Value} {k : Nat} (ho : AsR φ old old') (hn : AsR φ new new') (hk : old.size = k) {t0 : T Value} (h0 : ∀ j v, t0.get j = some v → j < k ∧ ∃ u, old'[j]? = some u ∧ VR φ v u) :
    ∀ j v, (T.ofListFrom new.toList k t0).get j = some v → j < k + new.size ∧ ∃ u, (old' ++ new')[j]? = some u ∧ VR φ v u := by
  intro j v hv
  rw [T.get_ofListFrom] at hv
  have hk' : old'.size = k := ho.1.symm.trans hk
  by_cases hj : k ≤ j ∧ j < k + new.toList.length
  · rw [if_pos hj] at hv
    have hlt : j < k + new.size := by simpa using hj.2
    refine ⟨hlt, ?_⟩
    have hv' : new[j - k]? = some v := by simpa using hv
    obtain ⟨u, hu, hr⟩ := hn.get hv'
    exact ⟨u, by rw [Array.getElem?_append, if_neg (by omega), hk']; exact hu, hr⟩
  · rw [if_neg hj] at hv
    obtain ⟨h1, u, h2, h3⟩ := h0 j v hv
    exact ⟨by omega, u, by rw [Array.getElem?_append, if_pos (by omega)]; exact h2, h3⟩
theorem ofList_cells {φ : Phi} {old old' : Array Value} (ho : AsR φ old old') : ∀ j v, (T.ofList old.toList).get j = some v → j < old.size ∧ ∃ u, old'[j]? = some u ∧ VR φ v u := by
  intro j v hv
  rw [T.get_ofList] at hv
  have hv' : old[j]? = some v := by simpa using hv
  obtain ⟨u, hu, hr⟩ := ho.get hv'
  exact ⟨cell_bound hv', u, hu, hr⟩
theorem arun_load1 {a : Addr} {r : Value} {hp : AHeap} (hr : arun P (load a) h = some (r, hp)) : hp = h := by
  have hr' : arun P (.load .plain a .pure) h = some (r, hp) := hr
  rw [arun_load] at hr'
  cases hv : aload h a with
  | none => rw [hv] at hr'; cases hr'
  | some v => rw [hv] at hr'; cases hr'; rfl
theorem arun_loadCells {h : AHeap} : ∀ (n i : Nat) (a : Addr) (c r : Array Value) (hp : AHeap), arun P (loadCellsFrom a i n c) h = some (r, hp) → hp = h
  | 0, _, _, _, _, _, hr => by cases hr; rfl
  | n + 1, i, a, c, r, hp, hr => by
    have hr' : arun P ((load (a.add i)).bind fun v => loadCellsFrom a (i + 1) n (c.push v)) h = some (r, hp) := hr
    rw [arun_bind] at hr'
    cases hv : arun P (load (a.add i)) h with
    | none => rw [hv] at hr'; cases hr'
    | some x =>
      obtain ⟨v, h1⟩ := x
      rw [hv] at hr'
      have e1 := arun_load1 hv
      subst e1
      exact arun_loadCells n (i + 1) a _ r hp hr'
theorem firstCells_heap {size n : Nat} {x : Value} {r : Array Value} {hp : AHeap} (hr : arun P (Builtin.firstCells size n x) h = some (r, hp)) : hp = h := by
  unfold Builtin.firstCells at hr
  split at hr
  · exact arun_loadCells _ _ _ _ _ _ hr
  · cases hr; rfl
  · cases hr; rfl
  · cases hr
/-- The cells of a slice or a string, read in both worlds. -/
theorem cells_read (H : HR w0 base φ h w) {size n : Nat} {x y : Value} (hx : VR φ x y) {r : Array Value} {hp : AHeap} (hr : arun P (Builtin.firstCells size n x) h = some (r, hp)) :
    ∃ φ1 r', (Builtin.firstCells size n y).run P w = .ok r' w ∧ AsR φ1 r r' ∧ HR w0 base φ1 h w ∧ Ext φ φ1 := by
  obtain ⟨φ1, r', w1, e1, hr1, hh1, he1⟩ := arun_sound (sr_firstCells (P := P) size n hx) H hr
  obtain rfl := still_firstCells size n y w r' w1 e1
  obtain rfl := firstCells_heap hr
  exact ⟨φ1, r', e1, hr1, hh1, he1⟩
theorem append_sound (S : Sized P) (H : HR w0 base φ h w) (hfree : h.room = true) {t xt ty : TypeId} (he : hasEl P t = true) {s x s' x' : Value} (hs : VR φ s s') (hx : VR φ x x') {v : Value} (ha : appendV P t xt s x h = some (v, h')) : RunV P w0 base φ w v h' (Builtin.append_ #[t, xt] ty #[s', x']) := by
  unfold appendV at ha
  split at ha <;> first | (cases ha; done) | skip
  rename_i e hu
  split at ha <;> first | (cases ha; done) | skip
  rename_i i hi
  split at ha <;> first | (cases ha; done) | skip
  rename_i z hz
  split at ha <;> first | (cases ha; done) | skip
  rename_i d hd
  split at ha <;> first | (cases ha; done) | skip
  rename_i hni
  split at ha <;> first | (cases ha; done) | skip
  rename_i bs n k
  split at ha <;> first | (cases ha; done) | skip
  rename_i m hm
  split at ha <;> first | (cases ha; done) | skip
  rename_i new hp hnew
  have E : ElemI P t e i z := ⟨hu, hi, hz⟩
  have hl := lenV_run hx hm
  by_cases hroom : n + m ≤ (if k < unk then k else k % unk)
  · rw [if_pos hroom] at ha
    obtain ⟨φ0, new', hn1, hn2, H0, he0⟩ := cells_read H hx hnew
    have hs0 := hs.mono he0
    cases bs with
    | none =>
      cases ha
      cases hs with
      | slNil hk =>
        rw [if_pos hk] at hroom
        exact ⟨φ, _, w, run_append_room' E hd hni ty hl hroom hn1, .slNil hk, H, Ext.refl _⟩
    | some a =>
      clear hs
      simp only at ha
      split at ha <;> first | (cases ha; done) | skip
      rename_i h1 hst
      cases ha
      cases hs0 with
      | @sl _ a' _ _ k' haa hk =>
        have hle : n + m ≤ k' := by
          by_cases hku : k < unk
          · rw [if_pos hku] at hroom; have := hk.1 hku; omega
          · rw [if_neg hku] at hroom; have := (hk.2 (by omega)).1; omega
        obtain ⟨φ1, _, w1, e1, _, hh1, he1⟩ := arun_sound (sr_storeCells (P := P) new.toList new'.toList 0 (haa.add (n * i.size)) hn2.ofList) H0 hst
        refine ⟨φ1, .slice (some a') (n + m) k', w1, ?_, VR.mono he1 (.sl haa hk), hh1, he0.trans he1⟩
        rw [run_append_room' E hd hni ty hl hle hn1]
        simp only [e1, Result.andThen]
  · rw [if_neg hroom] at ha
    split at ha <;> first | (cases ha; done) | skip
    rename_i hck
    simp only [Bool.and_eq_true, Nat.ble_eq] at hck
    obtain ⟨⟨⟨⟨c1, c2⟩, c3⟩, c4⟩, c5⟩ := hck
    have hnsz : new.size = m * i.size := by omega
    have hmu : n + m < unk := by unfold unk; omega
    by_cases hku : k < unk
    · rw [if_pos hku] at hroom ha
      split at ha <;> first | (cases ha; done) | skip
      rename_i old hp2 hold
      split at ha <;> first | (cases ha; done) | skip
      rename_i hck2
      simp only [Bool.and_eq_true, Nat.ble_eq] at hck2
      cases ha
      have hosz : old.size = n * i.size := by omega
      obtain ⟨φ0, new', hn1, hn2, H0, he0⟩ := cells_read (H.drew (w.drawn + 1)) hx hnew
      obtain ⟨φ1, old', ho1, ho2, H1, he1⟩ := cells_read H0 (hs.mono he0) hold
      have hs1 := (hs.mono he0).mono he1
      obtain ⟨bs', hs'⟩ : ∃ bs', s' = .slice bs' n k := by
        cases hs with
        | slNil _ => exact ⟨_, rfl⟩
        | sl _ hk => rw [hk.1 hku]; exact ⟨_, rfl⟩
      subst hs'
      have hrun := run_append_grow' (w := w) E hd hni ty hl (by omega) (by omega) c2 ho1 hn1
      obtain ⟨φ2, q1, q2, q3⟩ := grow_push (w := w) (nc := grownCap w (n + m) k e) S (H1.drew w.drawn) hfree [] (hasEl_slice he hu) hi hz (old := old') (new := new') (t := T.ofListFrom new.toList (n * i.size) (T.ofList old.toList)) hmu (ho2.1.symm.trans hosz) ((hn2.mono he1).1.symm.trans hnsz) (grownCap_le _ _ _ _) (by
        have := appended_cells ho2 (hn2.mono he1) hosz (t0 := T.ofList old.toList) (by
          intro j v hv
          have := ofList_cells ho2 j v hv
          rw [hosz] at this
          exact this)
        intro j v hv
        have hh := this j v hv
        rw [hnsz, ← Nat.add_mul] at hh
        exact hh)
      exact ⟨φ2, _, _, hrun, q1, q2, he0.trans (he1.trans q3)⟩
    · rw [if_neg hku] at hroom ha
      split at ha <;> first | (cases ha; done) | skip
      rename_i b
      split at ha <;> first | (cases ha; done) | skip
      rename_i e' k0 xx kin t' hb
      split at ha <;> first | (cases ha; done) | skip
      rename_i hcond
      obtain ⟨rfl, rfl, rfl, hes, hes1⟩ := hcond
      cases ha
      cases hs with
      | @sl _ a' _ _ k' haa hk =>
        obtain ⟨hk1, hk2⟩ := hk.2 (by omega)
        rw [hes] at hk2
        cases haa with
        | @mk _ c _ hφ =>
          obtain ⟨c', arr, b1, b2, ⟨b3, b4, b5⟩, b6⟩ := H.blocks b _ (H.real hφ) hb
          have : c' = c := Option.some.inj (b1.symm.trans hφ)
          subst this
          have hu0 : 0 < unk := by unfold unk; omega
          have hbn : b ≠ h.next := fun e => by rw [e, H.free hfree] at b1; cases b1
          have hroom' : (⟨h.blocks.set b (.cells e' (n * i.size) false true kin t'), h.next⟩ : AHeap).room = true := by
            unfold AHeap.room
            rw [show (h.blocks.set b (.cells e' (n * i.size) false true kin t')).get h.next = h.blocks.get h.next from by rw [T.get_set, if_neg hbn.symm], AHeap.room_none hfree]
          -- the elder row is not written any more
          have Hro : ∀ {φ1 : Phi} {wx : World}, HR w0 base φ1 h wx → HR w0 base φ1 ⟨h.blocks.set b (.cells e' (n * i.size) false true kin t'), h.next⟩ wx := by
            intro φ1 wx H1
            have hget : ∀ bb, (h.blocks.set b (.cells e' (n * i.size) false true kin t')).get bb = if bb = b then some (.cells e' (n * i.size) false true kin t') else h.blocks.get bb := fun bb => T.get_set _ _ _ _
            refine ⟨fun bb y hgb hy => ?_, fun bb hy => H1.fresh bb (by
              rw [hget] at hy
              by_cases e : bb = b
              · rw [if_pos e] at hy; cases hy
              · rw [if_neg e] at hy; exact hy), H1.lo, fun b1 b2 c2 y1 y2 g1 g2 g3 g4 g5 g6 g7 => ?_, H1.below, H1.base_le, fun bb hgb => ⟨(H1.ghost bb hgb).1, fun hy => (H1.ghost bb hgb).2 (by
              have hy : (h.blocks.set b (.cells e' (n * i.size) false true kin t')).get bb = none := hy
              rw [hget] at hy
              by_cases e : bb = b
              · rw [if_pos e] at hy; cases hy
              · rw [if_neg e] at hy; exact hy)⟩⟩
            · rw [hget] at hy
              by_cases e : bb = b
              · rw [if_pos e] at hy; injection hy with hy; subst hy e
                exact (show BlockR φ1 wx bb (.cells e' (n * i.size) false false kin t') from H1.blocks bb _ hgb hb)
              · rw [if_neg e] at hy
                exact H1.blocks bb y hgb hy
            · have hold : ∀ bb y, (h.blocks.set b (.cells e' (n * i.size) false true kin t')).get bb = some y → y ≠ .dead → ∃ y0, h.blocks.get bb = some y0 ∧ y0 ≠ .dead := fun bb y hy hd => by
                rw [hget] at hy
                by_cases e : bb = b
                · subst e; exact ⟨_, hb, by simp⟩
                · rw [if_neg e] at hy; exact ⟨y, hy, hd⟩
              have hk : ∀ x y, KinR h x y → KinR ⟨h.blocks.set b (.cells e' (n * i.size) false true kin t'), h.next⟩ x y := fun x y hk => by
                obtain ⟨f1, f2, f3, f4, f5, f6, f7, f8, f9, f10, f11, m1, m2, m3, m4⟩ := hk
                have hx : ∃ r, (h.blocks.set b (.cells e' (n * i.size) false true kin t')).get x = some (.cells f1 f2 f3 r f5 f6) := by
                  rw [hget]
                  by_cases e : x = b
                  · subst e
                    rw [hb] at m1; injection m1 with m1; injection m1 with a1 a2 a3 a4 a5 a6
                    subst a1 a2 a3 a5 a6
                    exact ⟨true, by rw [if_pos rfl]⟩
                  · exact ⟨f4, by rw [if_neg e]; exact m1⟩
                have hy : (h.blocks.set b (.cells e' (n * i.size) false true kin t')).get y = some (.cells f7 f8 f9 true f10 f11) := by
                  rw [hget]
                  by_cases e : y = b
                  · subst e
                    rw [hb] at m2; injection m2 with m2; injection m2 with _ _ _ a4; cases a4
                  · rw [if_neg e]; exact m2
                obtain ⟨r, hx⟩ := hx
                exact ⟨f1, f2, f3, r, f5, f6, f7, f8, f9, f10, f11, hx, hy, m3, m4⟩
              obtain ⟨z1, hz1, hd1⟩ := hold b1 y1 g3 g5
              obtain ⟨z2, hz2, hd2⟩ := hold b2 y2 g4 g6
              exact (H1.apart b1 b2 c2 z1 z2 g1 g2 hz1 hz2 hd1 hd2 g7).imp (hk _ _) (hk _ _)
          by_cases hin : n + m ≤ k'
          · -- in place
            obtain ⟨φ0, new', hn1, hn2, H0, he0⟩ := cells_read H hx hnew
            have hN : k' * i.size ≤ arr.size := by rw [b6]; simpa using hk2
            have hnm : (n + m) * i.size ≤ k' * i.size := Nat.mul_le_mul_right _ hin
            have hns' : new'.size = m * i.size := hn2.1.symm.trans hnsz
            have hadd : (⟨c', 0, none⟩ : Addr).add (n * i.size) = ⟨c', n * i.size, none⟩ := by
              unfold Addr.add
              split
              · rename_i h0; rw [h0]
              · simp
            have hone : ∀ u ∈ new'.toList, oneV u = true := fun u hu => by
              obtain ⟨q, hq⟩ := List.mem_iff_getElem?.1 hu
              have hq' : new'[q]? = some u := by simpa using hq
              have hql := cell_bound hq'
              have hqn : q < new.size := by omega
              have hv := allB_iff c5 new[q] (by simp)
              have hvu := hn2.2 q _ _ (Array.getElem?_eq_getElem hqn) hq'
              obtain ⟨z1, z2⟩ := oneV_of hvu hv
              cases u <;> first | rfl | exact absurd rfl (z1 _) | exact absurd rfl (z2 _)
            rw [Nat.add_mul] at hnm
            obtain ⟨w1, arr1, r1, r2, r3, r4, r5, r6, r7, r8, r9⟩ := storeRow (P := P) c' e' (n * i.size) new'.toList 0 w arr b2 hone (by simp; omega)
            have hl' : new'.toList.length = new'.size := by simp
            simp only [Nat.add_zero, hl'] at r4
            have hR := alias_push H0 hfree (n1 := (n + m) * i.size) (t1 := T.ofListFrom new.toList (n * i.size) t') hb (he0 _ _ hφ) b2 r2 r3 (fun j hj => by rw [r4, if_neg (by omega)]) r5 r6 r7 r8 r9 (Nat.mul_le_mul_right _ (by omega)) (by rw [Nat.add_mul]; omega) (by
              intro j v hv
              rw [T.get_ofListFrom] at hv
              rw [Nat.add_mul]
              by_cases hj : n * i.size ≤ j ∧ j < n * i.size + new.toList.length
              · rw [if_pos hj] at hv
                have hlt : j < n * i.size + new.size := by simpa using hj.2
                refine ⟨by omega, ?_⟩
                have hv' : new[j - n * i.size]? = some v := by simpa using hv
                obtain ⟨u, hu', hr⟩ := hn2.get hv'
                exact ⟨u, by rw [r4, if_pos (by omega)]; simpa using hu', hr⟩
              · rw [if_neg hj] at hv
                obtain ⟨h1, u, h2, h3⟩ := b5 j v hv
                exact ⟨by omega, u, by rw [r4, if_neg (by omega)]; exact h2, h3.mono he0⟩)
            refine ⟨_, .slice (some ⟨c', 0, none⟩) (n + m) k', w1, ?_, ?_, hR, he0.trans (ext_more (H0.free hfree) _ _)⟩
            · rw [run_append_room' E hd hni ty hl hin hn1]
              simp only [hadd, r1, Result.andThen]
            · refine .sl (.mk (by rw [more_to, if_pos rfl])) ?_
              show CapR ((φ0.more h.next c' (φ0.size b)).size h.next) 0 _ _
              rw [more_size, if_pos rfl, he0.sz _ _ hφ]
              exact capR_grown hmu hin (by simpa using hk2)
          · -- a new row
            obtain ⟨φ0, new', hn1, hn2, H0, he0⟩ := cells_read (H.drew (w.drawn + 1)) hx hnew
            have hold : ∀ j, (arr.toList.take (n * i.size)).toArray[j]? = if j < n * i.size then arr[j]? else none := fun j => by
              rw [List.getElem?_toArray, List.getElem?_take]
              split <;> simp
            have hosz : (arr.toList.take (n * i.size)).toArray.size = n * i.size := by simp; omega
            have hcells : (Builtin.firstCells i.size n (.slice (some ⟨c', 0, none⟩) n k')).run P w.drew = .ok (arr.toList.take (n * i.size)).toArray w.drew :=
              run_firstCells_some (P := P) w.drew i.size n ⟨c', 0, none⟩ n k' (arr.toList.take (n * i.size)) (by simpa using hosz) (fun j v hv => by
                have hj : (arr.toList.take (n * i.size)).toArray[j]? = some v := by simpa using hv
                rw [hold] at hj
                split at hj
                · have hadd : (⟨c', 0, none⟩ : Addr).add j = ⟨c', j, none⟩ := by
                    unfold Addr.add
                    split
                    · rename_i h0; subst h0; rfl
                    · simp
                  rw [hadd]
                  have hc : w.drew.heap[c']? = some (.cells arr e' (0, 0)) := b2
                  simp only [World.cell?, hc]
                  simpa using hj
                · cases hj)
            have hrun := run_append_grow' (w := w) E hd hni ty hl (by omega) (by omega) c2 hcells hn1
            obtain ⟨φ2, q1, q2, q3⟩ := grow_push (w := w) (nc := grownCap w (n + m) k' e') S (Hro (H0.drew w.drawn)) hroom' (b :: kin) (hasEl_slice he hu) hi hz (old := (arr.toList.take (n * i.size)).toArray) (new := new') (t := T.ofListFrom new.toList (n * i.size) t') hmu hosz (hn2.1.symm.trans hnsz) (grownCap_le _ _ _ _) (by
              intro j v hv
              rw [T.get_ofListFrom] at hv
              rw [Nat.add_mul]
              by_cases hj : n * i.size ≤ j ∧ j < n * i.size + new.toList.length
              · rw [if_pos hj] at hv
                have hlt : j < n * i.size + new.size := by simpa using hj.2
                refine ⟨by omega, ?_⟩
                have hv' : new[j - n * i.size]? = some v := by simpa using hv
                obtain ⟨u, hu', hr⟩ := hn2.get hv'
                exact ⟨u, by rw [Array.getElem?_append, if_neg (by omega), hosz]; exact hu', hr⟩
              · rw [if_neg hj] at hv
                obtain ⟨h1, u, h2, h3⟩ := b5 j v hv
                exact ⟨by omega, u, by rw [Array.getElem?_append, if_pos (by omega), hold, if_pos h1]; exact h2, h3.mono he0⟩)
            exact ⟨φ2, _, _, hrun, q1, q2, he0.trans q3⟩
end
end
end Go.Ab
