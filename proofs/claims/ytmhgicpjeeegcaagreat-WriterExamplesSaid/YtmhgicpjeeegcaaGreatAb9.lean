/- An evaluator of the model's code over an abstract heap: aggregates, slices that are made, slice expressions. -/
import Derived.Test.YtmhgicpjeeegcaaGreatAb8
import Derived.Great.BuildSlice
import Derived.Laws.MakeOwn
namespace Go.Ab
open Go.RowKit
noncomputable section
section
variable {P : Program} {w0 : World} {base : Nat} {φ : Phi} {h h' : AHeap} {w : World}
def RunV (P : Program) (w0 : World) (base : Nat) (φ : Phi) (w : World) (v : Value) (h' : AHeap) (s : Sem Value) : Prop :=
  ∃ φ' u w', s.run P w = .ok u w' ∧ VR φ' v u ∧ HR w0 base φ' h' w' ∧ Ext φ φ'
theorem RunV.of_arun {v : Value} {s s' : Sem Value} (hs : SR P VR φ s s') (H : HR w0 base φ h w) (hr : arun P s h = some (v, h')) : RunV P w0 base φ w v h' s' := arun_sound hs H hr

inductive PartsR (φ : Phi) : List (Nat × Value) → List (Nat × Value) → Prop
  | nil : PartsR φ [] []
  | cons {i : Nat} {v u : Value} {l l' : List (Nat × Value)} (h : VR φ v u) (h' : PartsR φ l l') : PartsR φ ((i, v) :: l) ((i, u) :: l')
theorem put_r {off : Nat} : ∀ (l l' : List Value) (j : Nat) {c c' : Array Value}, AsR φ l.toArray l'.toArray → AsR φ c c' →
    AsR φ ((l.zipIdx j).foldl (fun cs (x : Value × Nat) => cs.setIfInBounds (off + x.2) x.1) c) ((l'.zipIdx j).foldl (fun cs (x : Value × Nat) => cs.setIfInBounds (off + x.2) x.1) c')
  | [], [], _, _, _, _, hc => hc
  | [], _ :: _, _, _, _, hl, _ => by have := hl.1; simp at this
  | _ :: _, [], _, _, _, hl, _ => by have := hl.1; simp at this
  | v :: l, u :: l', j, c, c', hl, hc => by
    have hv : VR φ v u := hl.2 0 v u (by simp) (by simp)
    have hl' : AsR φ l.toArray l'.toArray := ⟨by have := hl.1; simpa using this, fun i x y hx hy => hl.2 (i + 1) x y (by simpa using hx) (by simpa using hy)⟩
    simp only [List.zipIdx_cons, List.foldl_cons]
    exact put_r l l' (j + 1) hl' (hc.set _ hv)
theorem fill_r {place : Nat → Option (Nat × Nat)} : ∀ (l l' : List (Nat × Value)) {c c' d : Array Value}, PartsR φ l l' → AsR φ c c' → Instr.fill place c l = some d → ∃ d', Instr.fill place c' l' = some d' ∧ AsR φ d d'
  | [], [], c, c', d, _, hc, h => by
    simp only [Instr.fill] at h ⊢
    cases h
    exact ⟨c', rfl, hc⟩
  | [], _ :: _, _, _, _, hp, _, _ => by cases hp
  | _ :: _, [], _, _, _, hp, _, _ => by cases hp
  | (i, v) :: l, (i', u) :: l', c, c', d, hp, hc, h => by
    cases hp with
    | cons hv hp =>
      have hcv := hv.cells
      rw [Instr.fill] at h ⊢
      cases hpl : place i with
      | none => rw [hpl] at h; cases h
      | some os =>
        obtain ⟨off, size⟩ := os
        rw [hpl] at h
        simp only at h ⊢
        rw [← hcv.1, ← hc.1]
        split at h
        · cases h
        · rename_i hg
          rw [if_neg hg]
          refine fill_r l l' hp ?_ h
          have := put_r (off := off) v.cells.toList u.cells.toList 0 hcv.ofList hc
          rw [← Array.foldl_toList, ← Array.foldl_toList, Array.toList_zipIdx, Array.toList_zipIdx]
          exact this
theorem plain_cells {z : Value} (hz : Plain z) : AsR φ z.cells z.cells := hz.vr.cells
theorem built_r (G : Good P) {t : TypeId} (ht : hasT P t = true) {l l' : List (Nat × Value)} (hp : PartsR φ l l') {c : Array Value} (h : P.built t l = some c) : ∃ c', P.built t l' = some c' ∧ AsR φ c c' := by
  unfold Program.built at h ⊢
  cases hi : P.info? t with
  | none => rw [hi] at h; cases h
  | some it =>
    rw [hi] at h
    cases hu : P.underlying t with
    | none => rw [hu] at h; cases h
    | some d =>
      rw [hu] at h
      cases d <;> simp only at h ⊢ <;> first | (cases h; done) | skip
      · rename_i n e
        cases hz : it.zero with
        | none => rw [hz] at h; cases h
        | some z =>
          rw [hz] at h
          cases he : P.info? e with
          | none => rw [he] at h; cases h
          | some ie =>
            rw [he] at h
            exact fill_r l l' hp (plain_cells (G.zero t it z ht hi hz)) h
      · rename_i fs
        cases hz : it.zero with
        | none => rw [hz] at h; cases h
        | some z =>
          rw [hz] at h
          cases hm : fs.toList.mapM (fun f => (P.info? f.type).map fun i => (f.offset, i.size)) with
          | none => rw [hm] at h; cases h
          | some pl =>
            rw [hm] at h
            exact fill_r l l' hp (plain_cells (G.zero t it z ht hi hz)) h
theorem build_run (G : Good P) (H : HR w0 base φ h w) {t : TypeId} (ht : hasT P t = true) {ps ps' : Array (Nat × Value)} (hp : PartsR φ ps.toList ps'.toList) {c : Array Value} (hb : P.built t ps.toList = some c) : RunV P w0 base φ w (.agg c) h (Instr.build t ps') := by
  obtain ⟨c', hc', hr⟩ := built_r G ht hp hb
  exact ⟨φ, .agg c', w, run_build w t ps' c' hc', .agg hr.1 hr.2, H, Ext.refl _⟩

/-- A new row of known size. -/
theorem row_push (H : HR w0 base φ h w) (hroom : h.room = true) {c c' : Array Value} {e : TypeId} (hc : AsR φ c c') {n k : Nat} (hk : k < unk) :
    ∃ φ', VR φ' (.slice (some ⟨h.next, 0, none⟩) n k) (.slice (some ⟨w.heap.size, 0, none⟩) n k) ∧ HR w0 base φ' (h.push (.cells e c.size true false [] (T.ofList c.toList))) (w.alloc (.cells c' e)) ∧ Ext φ φ' := by
  have hext := ext_more (H.free hroom) w.heap.size c'.size
  exact ⟨φ.more h.next w.heap.size c'.size, .sl (.mk (by simp [more_to])) (CapR.refl hk), anew_row H hroom hc rfl, hext⟩
def buildSliceV (P : Program) (t : TypeId) (len : Nat) (ps : List (Nat × Value)) (h : AHeap) : Option (Value × AHeap) :=
  match P.underlying t with
  | some (.slice e) => match P.info? e with
    | some ie => match ie.zero with
      | some z => match Nat.ble (len * ie.size) 16777216 with
        | true => match Instr.fill (fun i => some (i * ie.size, ie.size)) (madeCells z.cells (len * ie.size)) ps with
          | some c => some (.slice (some ⟨h.next, 0, none⟩) len len, h.push (.cells e c.size true false [] (T.ofList c.toList)))
          | none => none
        | false => none
      | none => none
    | none => none
  | _ => none
theorem made_r {z : Value} (hz : Plain z) (n : Nat) (hs : n = 0 ∨ z.cells.size ≠ 0) : AsR φ (madeCells z.cells n) (madeCells z.cells n) := zeros_r (plains_r hz) n hs
/-- Cells of a zero value: as many as the type has. -/
def Sized (P : Program) : Prop := ∀ t i z, hasT P t = true → P.info? t = some i → i.zero = some z → i.size = z.cells.size
theorem buildSlice_run (G : Good P) (S : Sized P) (H : HR w0 base φ h w) (hroom : h.room = true) {t : TypeId} (he : hasEl P t = true) {len : Nat} {ps ps' : Array (Nat × Value)} (hp : PartsR φ ps.toList ps'.toList) {v : Value} (hlen : len < unk) (hb : buildSliceV P t len ps.toList h = some (v, h')) : RunV P w0 base φ w v h' (Instr.buildSlice t len ps') := by
  unfold buildSliceV at hb
  split at hb <;> first | (cases hb; done) | skip
  rename_i e hu
  split at hb <;> first | (cases hb; done) | skip
  rename_i ie hie
  split at hb <;> first | (cases hb; done) | skip
  rename_i z hz
  split at hb <;> first | (cases hb; done) | skip
  rename_i hle
  split at hb <;> first | (cases hb; done) | skip
  rename_i c hf
  cases hb
  have hle := Nat.le_of_ble_eq_true hle
  have hsz := S e ie z (hasEl_slice he hu) hie hz
  have hmr : AsR φ (madeCells z.cells (len * ie.size)) (madeCells z.cells (len * ie.size)) := made_r (G.zero e ie z (hasEl_slice he hu) hie hz) _ (by
    rcases Nat.eq_zero_or_pos ie.size with h0 | h0
    · left; rw [h0]; simp
    · right; omega)
  obtain ⟨c', hc', hr⟩ := fill_r ps.toList ps'.toList hp hmr hf
  obtain ⟨φ', h1, h2, h3⟩ := row_push (e := e) H hroom hr (n := len) (k := len) hlen
  refine ⟨φ', _, _, ?_, h1, h2, h3⟩
  by_cases h0 : len * ie.size = 0
  · have e1 : madeCells z.cells (len * ie.size) = #[] := by rw [h0]; simp [madeCells]
    rw [e1] at hc'
    have e2 : (Array.range 0).map (fun _ => (default : Value)) = #[] := by simp
    simp only [Instr.buildSlice, Sem.run_bind, run_underlying hu, sizeOf, typeInfo, hie, h0, newRow, Result.andThen, Sem.run_pure, run_program]
    simp [e2, hc']
  · exact run_buildSlice w t e len ps' c' ie z hu hie hz (by omega) h0 hc'

def makeV (P : Program) (t : TypeId) (x y : Value) (h : AHeap) : Option (Value × AHeap) :=
  match P.underlying t with
  | some (.slice e) => match P.info? e with
    | some i => match i.zero with
      | some z => match x, y with
        | .int _ (.ofNat l), .int _ (.ofNat c) => match Nat.ble l c && Nat.ble (i.bytes * c) 281474976710656 && Nat.ble c 9223372036854775807 with
          | true => some (.slice (some ⟨h.next, 0, none⟩) l c, h.push (.cells e (c * i.size) true false [] (T.ofList (madeCells z.cells (c * i.size)).toList)))
          | false => none
        | _, _ => none
      | none => none
    | none => none
  | _ => none
theorem make_run (G : Good P) (S : Sized P) (H : HR w0 base φ h w) (hroom : h.room = true) {t : TypeId} (he : hasEl P t = true) {x y x' y' : Value} (hx : VR φ x x') (hy : VR φ y y') {v : Value} (hb : makeV P t x y h = some (v, h')) : RunV P w0 base φ w v h' (Instr.makeSlice t x' y') := by
  unfold makeV at hb
  split at hb <;> first | (cases hb; done) | skip
  rename_i e hu
  split at hb <;> first | (cases hb; done) | skip
  rename_i i hie
  split at hb <;> first | (cases hb; done) | skip
  rename_i z hz
  split at hb <;> first | (cases hb; done) | skip
  rename_i kl l kc c
  split at hb <;> first | (cases hb; done) | skip
  rename_i hle
  cases hb
  cases hx
  cases hy
  simp only [Bool.and_eq_true, Nat.ble_eq] at hle
  obtain ⟨⟨h1, h2⟩, h3⟩ := hle
  have hsz := S e i z (hasEl_slice he hu) hie hz
  have hmr : AsR φ (madeCells z.cells (c * i.size)) (madeCells z.cells (c * i.size)) := made_r (G.zero e i z (hasEl_slice he hu) hie hz) _ (by
    rcases Nat.eq_zero_or_pos i.size with h0 | h0
    · left; rw [h0]; simp
    · right; omega)
  obtain ⟨φ', q1, q2, q3⟩ := row_push (e := e) H hroom hmr (n := l) (k := c) (by unfold unk; omega)
  have h2' : (i.bytes : Int) * (c : Int) ≤ 281474976710656 := by
    have h2'' : ((i.bytes * c : Nat) : Int) ≤ 281474976710656 := by omega
    simpa using h2''
  have := run_make (P := P) w t e i z hu hie hz kl kc (l : Int) (c : Int) (by omega) (by omega) h2' (by omega)
  rw [show (madeCells z.cells (c * i.size)).size = c * i.size from size_madeCells _ _] at q2
  exact ⟨φ', _, _, this, q1, q2, q3⟩

/-! ### Slice expressions -/
def boundV (x : Option Value) (d : Nat) : Option Nat := match x with
  | none => some d
  | some (.int _ (.ofNat n)) => some n
  | _ => none
def addrAdd (a : Addr) (n : Nat) : Addr := a.add n
def sliceV (size : Nat) (a : Option Addr) (n k : Nat) (lo hi mx : Option Value) : Option Value :=
  match boundV lo 0, boundV hi n with
  | some l, some hh => match mx with
    | none => match Nat.ble l hh && Nat.ble hh (if k < unk then k else k % unk) with
      | true => if k < unk then some (.slice (if k = l then a else a.map (·.add (l * size))) (hh - l) (k - l))
        else if k / unk - 1 = size ∧ (l < k % unk ∨ l * size = 0) then some (.slice (a.map (·.add (l * size))) (hh - l) (k - l)) else if l = k % unk ∧ hh = l ∧ a.isSome = true then some (.complex .f64 0 0) else none
      | false => none
    | some (.int _ (.ofNat m)) => match Nat.ble l hh && Nat.ble hh m && Nat.ble m (if k < unk then k else k % unk) && Nat.blt m unk with
      | true => match hi with
        | some _ => some (.slice (if m = l then a else a.map (·.add (l * size))) (hh - l) (m - l))
        | none => none
      | false => none
    | _ => none
  | _, _ => none
theorem run_sliceBound {k : IntKind} {i y : Nat} (c : BoundsCode) (hle : i ≤ y) (w : World) : (Instr.sliceBound (.int k (i : Int)) y c).run P w = .ok i w := by
  have : (0 : Int) ≤ i ∧ (i : Int) ≤ y := by omega
  simp [Instr.sliceBound, asIntOf, this.2]
theorem run_bounds {n k l hh : Nat} {lo hi : Option Value} (hl : boundV lo 0 = some l) (hhh : boundV hi n = some hh) (h1 : l ≤ hh) (h2 : hh ≤ k) (w : World) : (Instr.sliceBounds true n k lo hi none).run P w = .ok (l, hh, k) w := by
  unfold boundV at hl hhh
  unfold Instr.sliceBounds
  split at hl <;> first | (cases hl; done) | skip <;> split at hhh <;> first | (cases hhh; done) | skip
  · cases hl; cases hhh; rfl
  · cases hl; cases hhh
    simp [run_sliceBound _ h2, Result.andThen]
  · cases hl; cases hhh
    simp [run_sliceBound _ h1, Result.andThen]
  · cases hl; cases hhh
    simp [run_sliceBound _ h1, run_sliceBound _ h2, Result.andThen]
theorem run_bounds3 {n k l hh m : Nat} {km : IntKind} {lo : Option Value} {vh : Value} (hl : boundV lo 0 = some l) (hhh : boundV (some vh) n = some hh) (h1 : l ≤ hh) (h2 : hh ≤ m) (h3 : m ≤ k) (w : World) : (Instr.sliceBounds true n k lo (some vh) (some (.int km (m : Int)))).run P w = .ok (l, hh, m) w := by
  unfold boundV at hl hhh
  unfold Instr.sliceBounds
  split at hl <;> first | (cases hl; done) | skip <;> split at hhh <;> first | (cases hhh; done) | skip
  · rename_i e; cases e
  · rename_i e
    injection e with e
    subst e
    cases hl; cases hhh
    simp [run_sliceBound _ h3, run_sliceBound _ h2, Result.andThen]
  · rename_i e; cases e
  · rename_i e
    injection e with e
    subst e
    cases hl; cases hhh
    simp [run_sliceBound _ h3, run_sliceBound _ h1, run_sliceBound _ h2, Result.andThen]
theorem run_sliceAt {t e : TypeId} {i : TypeInfo} (hu : P.underlying t = some (.slice e)) (hi : P.info? e = some i) {a : Option Addr} {n k l hh m : Nat} {lo hi' mx : Option Value} {w : World} (hb : (Instr.sliceBounds true n k lo hi' mx).run P w = .ok (l, hh, m) w) :
    (Instr.sliceAt t (.slice a n k) lo hi' mx).run P w = .ok (.slice (if m = l then a else a.map (·.add (l * i.size))) (hh - l) (m - l)) w := by
  simp [Instr.sliceAt, Instr.slice, run_underlying hu, hb, sizeOf, typeInfo, hi, Result.andThen]
theorem boundV_r {x y : Option Value} (h : OptVR φ x y) (d : Nat) : boundV x d = boundV y d := by
  rcases h with ⟨rfl, rfl⟩ | ⟨a, b, rfl, rfl, h⟩
  · rfl
  · cases h <;> rfl
theorem optAdd_r {a a' : Addr} (h : AddrR φ a a') (c : Prop) [Decidable c] (n : Nat) : ∃ x x', (if c then some a else (some a).map (·.add n)) = some x ∧ (if c then some a' else (some a').map (·.add n)) = some x' ∧ AddrR φ x x' := by
  split
  · exact ⟨_, _, rfl, rfl, h⟩
  · exact ⟨_, _, rfl, rfl, h.add n⟩
theorem slice_run (H : HR w0 base φ h w) {t e : TypeId} {i : TypeInfo} (hu : P.underlying t = some (.slice e)) (hi : P.info? e = some i) {a : Option Addr} {n k : Nat} {u : Value} {lo lo' hi1 hi1' mx mx' : Option Value} (hv : VR φ (.slice a n k) u) (hlo : OptVR φ lo lo') (hhi : OptVR φ hi1 hi1') (hmx : OptVR φ mx mx') {v : Value} (hs : sliceV i.size a n k lo hi1 mx = some v) :
    RunV P w0 base φ w v h (Instr.sliceAt t u lo' hi1' mx') := by
  unfold sliceV at hs
  split at hs <;> first | (cases hs; done) | skip
  rename_i l hh hl hhh
  have hl' := (boundV_r hlo 0).symm.trans hl
  have hhh' := (boundV_r hhi n).symm.trans hhh
  split at hs <;> first | (cases hs; done) | skip
  · -- no third index
    have hmx' : mx' = none := by rcases hmx with ⟨_, rfl⟩ | ⟨_, _, h1, _, _⟩ <;> first | rfl | cases h1
    subst hmx'
    split at hs <;> first | (cases hs; done) | skip
    rename_i hle
    simp only [Bool.and_eq_true, Nat.ble_eq] at hle
    obtain ⟨h1, h2⟩ := hle
    cases hv with
    | slNil hk =>
      rw [if_pos hk] at h2 hs
      cases hs
      refine ⟨φ, _, w, run_sliceAt hu hi (run_bounds hl' hhh' h1 h2 w), ?_, H, Ext.refl _⟩
      have e : ∀ c : Prop, ∀ _ : Decidable c, (if c then (none : Option Addr) else (none : Option Addr).map (fun x : Addr => x.add (l * i.size))) = none := fun c _ => by split <;> rfl
      rw [e]
      exact .slNil (by omega)
    | @sl a0 a' _ _ k' ha hk =>
      by_cases hku : k < unk
      · have hkk := hk.1 hku
        subst hkk
        rw [if_pos hku] at h2 hs
        cases hs
        refine ⟨φ, _, w, run_sliceAt hu hi (run_bounds hl' hhh' h1 h2 w), ?_, H, Ext.refl _⟩
        obtain ⟨x, x', e1, e2, hx⟩ := optAdd_r ha (k' = l) (l * i.size)
        rw [e1, e2]
        exact .sl hx (CapR.refl (by omega))
      · have hkk := hk.2 (by omega)
        rw [if_neg hku] at h2 hs
        by_cases hcond : k / unk - 1 = i.size ∧ (l < k % unk ∨ l * i.size = 0)
        case neg =>
          rw [if_neg hcond] at hs
          split at hs <;> first | (cases hs; done) | skip
          rename_i hc2
          obtain ⟨e1, e2, _⟩ := hc2
          cases hs
          subst e2
          refine ⟨φ, _, w, run_sliceAt hu hi (run_bounds hl' hhh' h1 (by omega) w), ?_, H, Ext.refl _⟩
          rw [Nat.sub_self]
          by_cases hkl : k' = hh
          · rw [if_pos hkl]; exact .amb
          · rw [if_neg hkl]; exact .amb
        rw [if_pos hcond] at hs
        obtain ⟨hes, hcond⟩ := hcond
        cases hs
        obtain ⟨hk1, hk2⟩ := hkk
        refine ⟨φ, _, w, run_sliceAt hu hi (run_bounds hl' hhh' h1 (by omega) w), ?_, H, Ext.refl _⟩
        have hx' : (if k' = l then some a' else (some a').map (·.add (l * i.size))) = some (a'.add (l * i.size)) := by
          rcases hcond with hlt | h0
          · rw [if_neg (by omega)]; rfl
          · rw [h0]
            have : a'.add 0 = a' := rfl
            rw [this]
            split
            · rfl
            · simp [this]
        rw [hx']
        have hkq := Nat.div_add_mod k unk
        have hlr : l ≤ k % unk := by omega
        have hkl : k - l = unk * (k / unk) + (k % unk - l) := by omega
        have hrl : k % unk - l < unk := by have := Nat.mod_lt k (show unk > 0 from by unfold unk; omega); omega
        have hmod : (k - l) % unk = k % unk - l := by rw [hkl, Nat.mul_add_mod, Nat.mod_eq_of_lt hrl]
        have hdiv : (k - l) / unk = k / unk := by rw [hkl, Nat.mul_add_div (by unfold unk; omega), Nat.div_eq_of_lt hrl]; omega
        have hoff : (a0.add (l * i.size)).off = a0.off + l * i.size := by
          unfold Addr.add
          split
          · rename_i h0; omega
          · rfl
        have hblk : (a0.add (l * i.size)).block = a0.block := by
          unfold Addr.add
          split <;> rfl
        refine .sl (ha.add _) ⟨fun hlt => ?_, fun hge => ?_⟩
        · exfalso
          have hq : 1 ≤ k / unk := Nat.div_pos (by omega) (by unfold unk; omega)
          have : unk * 1 ≤ unk * (k / unk) := Nat.mul_le_mul_left _ hq
          omega
        · rw [hmod, hdiv, hoff, hblk, hes]
          rw [hes] at hk2
          refine ⟨by omega, ?_⟩
          rw [Nat.sub_mul]
          have : l * i.size ≤ k' * i.size := Nat.mul_le_mul_right _ (by omega)
          omega
  · rename_i km m
    rcases hmx with ⟨h1, _⟩ | ⟨_, mv, h1, rfl, hmv⟩
    · cases h1
    · injection h1 with h1
      subst h1
      cases hmv
      split at hs <;> first | (cases hs; done) | skip
      rename_i hle
      simp only [Bool.and_eq_true, Nat.ble_eq, Nat.blt_eq] at hle
      obtain ⟨⟨⟨h1, h2⟩, h3⟩, h4⟩ := hle
      split at hs <;> first | (cases hs; done) | skip
      rename_i vh
      obtain ⟨vh', rfl⟩ : ∃ vh', hi1' = some vh' := by
        rcases hhi with ⟨h1, _⟩ | ⟨_, y, _, rfl, _⟩
        · cases h1
        · exact ⟨y, rfl⟩
      cases hs
      cases hv with
      | slNil hk =>
        rw [if_pos hk] at h3
        refine ⟨φ, _, w, run_sliceAt hu hi (run_bounds3 hl' hhh' h1 h2 h3 w), ?_, H, Ext.refl _⟩
        have e : ∀ c : Prop, ∀ _ : Decidable c, (if c then (none : Option Addr) else (none : Option Addr).map (fun x : Addr => x.add (l * i.size))) = none := fun c _ => by split <;> rfl
        rw [e]
        exact .slNil (by omega)
      | @sl _ a' _ _ k' ha hk =>
        have hmk : m ≤ k' := by
          by_cases hku : k < unk
          · rw [if_pos hku] at h3; have := hk.1 hku; omega
          · rw [if_neg hku] at h3; have := hk.2 (by omega); omega
        refine ⟨φ, _, w, run_sliceAt hu hi (run_bounds3 hl' hhh' h1 h2 hmk w), ?_, H, Ext.refl _⟩
        obtain ⟨x, x', e1, e2, hx⟩ := optAdd_r ha (m = l) (l * i.size)
        rw [e1, e2]
        exact .sl hx (CapR.refl (by omega))
end
end
end Go.Ab
