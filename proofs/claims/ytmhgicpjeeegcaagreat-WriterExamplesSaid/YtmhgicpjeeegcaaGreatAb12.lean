/- An evaluator of the model's code over an abstract heap: maps. -/
import Derived.Test.YtmhgicpjeeegcaaGreatAb11
import Derived.MapKept
namespace Go.Ab
open Go.RowKit
noncomputable section
section
variable {P : Program} {w0 : World} {base : Nat} {φ : Phi} {h h' : AHeap} {w : World}

theorem qrun_bind {α β : Type} (s : Sem α) (f : α → Sem β) : qrun P (s.bind f) = (qrun P s).bind fun a => qrun P (f a) := by
  induction s with
  | pure a => rfl
  | program k ih => exact ih P
  | mark m k ih => exact ih
  | choose q k ih =>
    show (match q.forced with
      | true => qrun P ((k 0).bind f)
      | false => none) = Option.bind (match q.forced with
      | true => qrun P (k 0)
      | false => none) _
    cases q.forced with
    | true => exact ih 0
    | false => rfl
  | _ => rfl

/-- The place of a key among keys. -/
def askV (P : Program) (kt : TypeId) (k : Value) : List Value → Nat → Option (Option Nat)
  | [], _ => some none
  | x :: l, i => match qrun P (Op.equal kt k x) with
    | some true => some (some i)
    | some false => askV P kt k l (i + 1)
    | none => none
def nowV (d : TypeDesc) (k : Value) : List Value → Nat → Option (Option Nat)
  | [], _ => some none
  | x :: l, i => match Instr.sameNow d k x with
    | some true => some (some i)
    | some false => nowV d k l (i + 1)
    | none => none
def findV (P : Program) (kt : TypeId) (k : Value) (l : List Value) : Option (Option Nat) :=
  match P.underlying kt with
  | some d => match nowV d k l 0 with
    | some r => some r
    | none => askV P kt k l 0
  | none => none
def hit (l : List MapEntry) (i0 : Nat) : Option Nat → Option (Nat × Value)
  | some i => (l[i - i0]?).map fun e => (i, e.val)
  | none => none
theorem now_eq (d : TypeDesc) (k : Value) : ∀ (l : List MapEntry) (i : Nat), Instr.findNow d k l i = (nowV d k (l.map (·.key)) i).map (hit l i) ∧ ∀ j, nowV d k (l.map (·.key)) i = some (some j) → i ≤ j ∧ j < i + l.length
  | [], i => ⟨rfl, fun j e => by simp [nowV] at e⟩
  | e :: l, i => by
    simp only [List.map_cons, Instr.findNow, nowV]
    cases Instr.sameNow d k e.key with
    | none => exact ⟨rfl, fun j e => by cases e⟩
    | some b =>
      cases b with
      | true => exact ⟨by simp [hit], fun j e => by simp at e; subst e; simp⟩
      | false =>
        obtain ⟨h1, h2⟩ := now_eq d k l (i + 1)
        refine ⟨?_, fun j e => by have := h2 j e; simp; omega⟩
        simp only []
        rw [h1]
        cases hn : nowV d k (l.map (·.key)) (i + 1) with
        | none => rfl
        | some r =>
          cases r with
          | none => rfl
          | some j =>
            have := h2 j hn
            simp only [Option.map_some, hit]
            obtain ⟨q, rfl⟩ : ∃ q, j = i + 1 + q := ⟨j - (i + 1), by omega⟩
            have a1 : i + 1 + q - (i + 1) = q := by omega
            have a2 : i + 1 + q - i = q + 1 := by omega
            rw [a1, a2]
            simp
theorem ask_run (kt : TypeId) (k : Value) : ∀ (l : List MapEntry) (i : Nat) (r : Option Nat), askV P kt k (l.map (·.key)) i = some r → (Instr.findAsking kt k l i).run P w = .ok (hit l i r) w ∧ ∀ j, r = some j → i ≤ j ∧ j < i + l.length
  | [], i, r, hr => by
    simp only [List.map_nil, askV] at hr
    cases hr
    exact ⟨rfl, fun j e => by cases e⟩
  | e :: l, i, r, hr => by
    simp only [List.map_cons, askV] at hr
    cases hq : qrun P (Op.equal kt k e.key) with
    | none => rw [hq] at hr; cases hr
    | some b =>
      rw [hq] at hr
      have hrun := qrun_run P _ w hq
      cases b with
      | true =>
        simp only at hr
        cases hr
        refine ⟨?_, fun j e => by injection e with e; subst e; simp⟩
        simp [Instr.findAsking, hrun, hit]
      | false =>
        simp only at hr
        obtain ⟨h1, h2⟩ := ask_run kt k l (i + 1) r hr
        refine ⟨?_, fun j e => by have := h2 j e; simp; omega⟩
        simp only [Instr.findAsking, Sem.run_bind, hrun, Result.andThen, Bool.false_eq_true, if_false, h1]
        cases r with
        | none => rfl
        | some j =>
          have := h2 j rfl
          simp only [hit]
          obtain ⟨q, rfl⟩ : ∃ q, j = i + 1 + q := ⟨j - (i + 1), by omega⟩
          have a1 : i + 1 + q - (i + 1) = q := by omega
          have a2 : i + 1 + q - i = q + 1 := by omega
          rw [a1, a2]
          simp
theorem find_run {kt : TypeId} {k : Value} {l : List MapEntry} {r : Option Nat} (hr : findV P kt k (l.map (·.key)) = some r) : (Instr.findKey kt k l).run P w = .ok (hit l 0 r) w ∧ ∀ j, r = some j → j < l.length := by
  unfold findV at hr
  cases hu : P.underlying kt with
  | none => rw [hu] at hr; cases hr
  | some d =>
    rw [hu] at hr
    simp only at hr
    obtain ⟨h1, h2⟩ := now_eq d k l 0
    cases hn : nowV d k (l.map (·.key)) 0 with
    | some r' =>
      rw [hn] at hr h1
      simp only at hr
      cases hr
      refine ⟨?_, fun j e => by subst e; have := h2 j hn; omega⟩
      simp [Instr.findKey, run_underlying hu, h1, Result.andThen]
    | none =>
      rw [hn] at hr h1
      simp only at hr
      obtain ⟨h3, h4⟩ := ask_run (w := w) kt k l 0 r hr
      refine ⟨?_, fun j e => by have := h4 j e; omega⟩
      have h1' : Instr.findNow d k l 0 = none := h1
      simp [Instr.findKey, run_underlying hu, h1', Result.andThen, h3]

theorem EL.keys {l l' : List MapEntry} (h : EL φ l l') : l'.map (·.key) = l.map (·.key) := by
  induction h with
  | nil => rfl
  | cons h1 _ ih => simp only [List.map_cons, ih, h1.same]
theorem run_getMap {r : Nat} {es : Array MapEntry} {c : Nat} (hb : w.heap[r]? = some (.map es c)) : (getObj r).run P w = .ok (.map es c) w := by simp [getObj, Sem.run, hb]
theorem EntriesR.keys {as bs : Array MapEntry} (he : EntriesR φ as bs) : bs.toList.map (·.key) = as.toList.map (·.key) := by
  exact he.toL.keys

def mapAt (h : AHeap) (m : Value) : Option (Nat × Array MapEntry × Nat) :=
  match m with
  | .map (some r) => match h.blocks.get r with
    | some (.obj (.map es c)) => some (r, es, c)
    | _ => none
  | _ => none
theorem mapAt_r (H : HR w0 base φ h w) {m m' : Value} (hm : VR φ m m') {r : Nat} {es : Array MapEntry} {c : Nat} (hr : mapAt h m = some (r, es, c)) :
    ∃ r' es', m' = .map (some r') ∧ φ r = some r' ∧ h.blocks.get r = some (.obj (.map es c)) ∧ w.heap[r']? = some (.map es' c) ∧ EntriesR φ es es' := by
  unfold mapAt at hr
  split at hr <;> first | (cases hr; done) | skip
  rename_i r0
  split at hr <;> first | (cases hr; done) | skip
  rename_i es0 c0 hg
  cases hr
  cases hm with
  | map hφ =>
    obtain ⟨c1, o', h1, h2, h3⟩ := H.blocks _ _ (H.real hφ) hg
    have : c1 = _ := Option.some.inj (h1.symm.trans hφ)
    subst this
    cases h3 with
    | map he => exact ⟨c1, _, rfl, hφ, hg, h2, he⟩

def checkV (P : Program) (em : Bool) (kt : TypeId) (k : Value) : Bool := match plainB k with
  | true => match qrun P (Instr.checkKey em 10000 kt k) with
    | some _ => true
    | none => false
  | false => false
theorem check_run {em : Bool} {kt : TypeId} {k k' : Value} (hk : checkV P em kt k = true) (hv : VR φ k k') : k' = k ∧ Plain k ∧ (Instr.checkKey em 10000 kt k).run P w = .ok () w := by
  unfold checkV at hk
  split at hk
  · rename_i hp
    split at hk
    · rename_i u hq
      exact ⟨plain_eq hp hv, plain_of hp, qrun_run P _ w hq⟩
    · cases hk
  · cases hk

def lookupV (P : Program) (t : TypeId) (m k : Value) (ok : Bool) (h : AHeap) : Option Value :=
  match P.underlying t with
  | some (.map kt et) => match (match m with | .map none => some #[] | _ => (mapAt h m).map (·.2.1) : Option (Array MapEntry)) with
    | some es => match checkV P es.isEmpty kt k with
      | true => match findV P kt k (es.toList.map (·.key)) with
        | some (some i) => match es.toList[i]? with
          | some e => some (if ok then .tuple #[e.val, .bool true] else e.val)
          | none => none
        | some none => match P.info? et with
          | some i => match i.zero with
            | some z => some (if ok then .tuple #[z, .bool false] else z)
            | none => none
          | none => none
        | none => none
      | false => none
    | none => none
  | _ => none
theorem pair_r {a b : Value} (hab : VR φ a b) (ok v : Bool) : VR φ (if ok then .tuple #[a, .bool v] else a) (if ok then .tuple #[b, .bool v] else b) := by
  cases ok with
  | true =>
    have := (AsR.one hab).push (x := .bool v) (y := .bool v) .bool
    exact .tuple this.1 this.2
  | false => exact hab
theorem lookup_run (G : Good P) (H : HR w0 base φ h w) {t : TypeId} (hel : hasEl P t = true) {m m' k k' : Value} (hm : VR φ m m') (hk : VR φ k k') {ok : Bool} {v : Value} (hl : lookupV P t m k ok h = some v) : RunV P w0 base φ w v h (Instr.lookup t m' k' ok) := by
  unfold lookupV at hl
  split at hl <;> first | (cases hl; done) | skip
  rename_i kt et hu
  have key : ∀ (es es' : Array MapEntry), EntriesR φ es es' → (match checkV P es.isEmpty kt k with
      | true => match findV P kt k (es.toList.map (·.key)) with
        | some (some i) => match es.toList[i]? with
          | some e => some (if ok then .tuple #[e.val, .bool true] else e.val)
          | none => none
        | some none => match P.info? et with
          | some i => match i.zero with
            | some z => some (if ok then .tuple #[z, .bool false] else z)
            | none => none
          | none => none
        | none => none
      | false => none) = some v → ∃ u, (do
          Instr.checkKey es'.isEmpty 10000 kt k'
          let (v, o) ← match ← Instr.findKey kt k' es'.toList with
            | some (_, v) => pure (v, true)
            | none => pure (← zeroValue et, false)
          pure (if ok then .tuple #[v, .bool o] else v) : Sem Value).run P w = .ok u w ∧ VR φ v u := by
    intro es es' he hl
    split at hl <;> first | (cases hl; done) | skip
    rename_i hc
    obtain ⟨rfl, hp, hcr⟩ := check_run (w := w) hc hk
    rw [← he.empty]
    rw [← he.keys] at hl
    split at hl <;> first | (cases hl; done) | skip
    · rename_i i hf
      obtain ⟨h1, h2⟩ := find_run (w := w) hf
      split at hl <;> first | (cases hl; done) | skip
      rename_i e hei
      cases hl
      have hlt := h2 i rfl
      obtain ⟨e', he'⟩ : ∃ e', es'.toList[i]? = some e' := ⟨es'.toList[i], List.getElem?_eq_getElem hlt⟩
      have hee := he.2 i e e' (by simpa using hei) (by simpa using he')
      refine ⟨if ok then .tuple #[e'.val, .bool true] else e'.val, ?_, pair_r hee.val ok true⟩
      simp [hcr, h1, hit, he', Result.andThen]
    · rename_i hf
      obtain ⟨h1, h2⟩ := find_run (w := w) hf
      split at hl <;> first | (cases hl; done) | skip
      rename_i i hi
      split at hl <;> first | (cases hl; done) | skip
      rename_i z hz
      cases hl
      refine ⟨if ok then .tuple #[z, .bool false] else z, ?_, pair_r (G.zero et i z (hasEl_map hel hu) hi hz).vr ok false⟩
      simp [hcr, h1, hit, zeroValue, typeInfo, hi, hz, Result.andThen]
  unfold Instr.lookup
  split at hl <;> first | (cases hl; done) | skip
  rename_i es hes
  cases hm with
  | mapNil =>
    simp only at hes
    cases hes
    obtain ⟨u, h1, h2⟩ := key #[] #[] ⟨rfl, fun i x y h => by simp at h⟩ hl
    refine ⟨φ, u, w, ?_, h2, H, Ext.refl _⟩
    rw [Sem.run_bind, run_underlying hu]
    exact h1
  | @map r r' hφ =>
    simp only at hes
    cases hma : mapAt h (.map (some r)) with
    | none => rw [hma] at hes; cases hes
    | some x =>
      obtain ⟨r1, es1, c⟩ := x
      rw [hma] at hes
      cases hes
      obtain ⟨r2, es2, e1, e2, e3, e4, e5⟩ := mapAt_r H (.map hφ) hma
      injection e1 with e1
      injection e1 with e1
      subst e1
      obtain ⟨u, h1, h2⟩ := key _ _ e5 hl
      refine ⟨φ, u, w, ?_, h2, H, Ext.refl _⟩
      rw [Sem.run_bind, run_underlying hu]
      show Sem.run P (getObj r' >>= _) w = _
      rw [Sem.run_bind, run_getMap e4]
      exact h1
  | _ => simp [mapAt] at hes

/-! ### Writing to maps -/
def keyStays (es : List MapEntry) (i : Nat) (k : Value) : Bool := Instr.sameBits 10000 (((es[i]?).map (·.key)).getD k) k
def updateV (P : Program) (t : TypeId) (m k v : Value) (h : AHeap) : Option AHeap :=
  match P.underlying t with
  | some (.map kt _) => match mapAt h m with
    | some (r, es, c) => match checkV P false kt k with
      | true => match findV P kt k (es.toList.map (·.key)) with
        | some (some i) => match keyStays es.toList i k with
          | true => some (h.put r (.obj (.map (es.modify i fun e => { e with key := k, val := v }) c)))
          | false => none
        | some none => some (h.put r (.obj (.map (es.push { key := k, val := v, born := c }) (c + 1))))
        | none => none
      | false => none
    | none => none
  | _ => none
theorem EntriesR.push {es es' : Array MapEntry} (he : EntriesR φ es es') {e e' : MapEntry} (h1 : EntryR φ e e') : EntriesR φ (es.push e) (es'.push e') := by
  refine ⟨by simp [he.1], fun i a b ha hb => ?_⟩
  rw [Array.getElem?_push] at ha hb
  by_cases hi : i = es.size
  · rw [if_pos hi] at ha
    rw [if_pos (hi.trans he.1)] at hb
    injection ha with ha; injection hb with hb
    subst ha hb; exact h1
  · rw [if_neg hi] at ha
    rw [if_neg (fun e => hi (e.trans he.1.symm))] at hb
    exact he.2 i a b ha hb
theorem EntriesR.modify {es es' : Array MapEntry} (he : EntriesR φ es es') (i : Nat) {f f' : MapEntry → MapEntry} (hf : ∀ e e', EntryR φ e e' → EntryR φ (f e) (f' e')) : EntriesR φ (es.modify i f) (es'.modify i f') := by
  refine ⟨by simp [he.1], fun j a b ha hb => ?_⟩
  rw [Array.getElem?_modify] at ha hb
  by_cases e : i = j
  · rw [if_pos e] at ha hb
    cases hx : es[j]? with
    | none => rw [hx] at ha; cases ha
    | some x =>
      cases hy : es'[j]? with
      | none => rw [hy] at hb; cases hb
      | some y =>
        rw [hx] at ha; rw [hy] at hb
        simp at ha hb
        subst ha hb
        exact hf _ _ (he.2 j x y hx hy)
  · rw [if_neg e] at ha hb
    exact he.2 j a b ha hb
theorem keyStays_run {es es' : Array MapEntry} (he : EntriesR φ es es') {i : Nat} {k : Value} (hk : keyStays es.toList i k = true) : (Instr.keyThatStays (((es'[i]?).map (·.key)).getD k) k).run P w = .ok k w := by
  have e : ((es'[i]?).map (·.key)).getD k = ((es.toList[i]?).map (·.key)).getD k := by
    have h1 := he.keys
    have h2 : (es'.toList.map (·.key))[i]? = (es.toList.map (·.key))[i]? := by rw [h1]
    rw [List.getElem?_map, List.getElem?_map] at h2
    have h3 : es'.toList[i]? = es'[i]? := by simp
    rw [h3] at h2
    rw [h2]
  rw [e]
  unfold keyStays at hk
  unfold Instr.keyThatStays
  rw [if_pos hk]
  rfl
def RunU (P : Program) (w0 : World) (base : Nat) (φ : Phi) (w : World) (h' : AHeap) (s : Sem Unit) : Prop :=
  ∃ w', s.run P w = .ok () w' ∧ HR w0 base φ h' w'
theorem run_setMap {r : Nat} {o : Obj} {x : Obj} (hb : w.heap[r]? = some x) (hx : ∀ c e f, x ≠ .cells c e f) : (setObj r o).run P w = .ok () { w with heap := w.heap.setIfInBounds r o } := by
  unfold setObj
  rw [Sem.run, hb]
  cases x <;> first | rfl | exact absurd rfl (hx _ _ _)
theorem update_run (H : HR w0 base φ h w) {t : TypeId} {m m' k k' x x' : Value} (hm : VR φ m m') (hk : VR φ k k') (hx : VR φ x x') (hl : updateV P t m k x h = some h') : RunU P w0 base φ w h' (Instr.mapUpdate t m' k' x') := by
  unfold updateV at hl
  split at hl <;> first | (cases hl; done) | skip
  rename_i kt et hu
  split at hl <;> first | (cases hl; done) | skip
  rename_i r es c hma
  obtain ⟨r', es', e1, e2, e3, e4, e5⟩ := mapAt_r H hm hma
  subst e1
  split at hl <;> first | (cases hl; done) | skip
  rename_i hc
  obtain ⟨rfl, hp, hcr⟩ := check_run (w := w) hc hk
  have hnc : ∀ c1 e f, (Obj.map es' c) ≠ .cells c1 e f := fun _ _ _ e => by cases e
  unfold Instr.mapUpdate
  rw [← e5.keys] at hl
  split at hl <;> first | (cases hl; done) | skip
  · rename_i i hf
    obtain ⟨h1, h2⟩ := find_run (w := w) hf
    split at hl <;> first | (cases hl; done) | skip
    rename_i hks
    cases hl
    have hlt := h2 i rfl
    have hit1 : hit es'.toList 0 (some i) = some (i, (es'.toList[i]'hlt).val) := by
      show Option.map (fun e => (i, e.val)) es'.toList[i]? = _
      rw [List.getElem?_eq_getElem hlt]
      rfl
    rw [hit1] at h1
    obtain ⟨_, H'⟩ := H.putObj e2 e3 (.map (e5.modify i (f := fun e => { e with key := k', val := x }) (f' := fun e => { e with key := k', val := x' }) fun e e' hee => ⟨hp, rfl, hx, hee.born⟩) (c := c))
    refine ⟨_, ?_, H'⟩
    simp [run_underlying hu, run_getMap e4, hcr, h1, Result.andThen, keyStays_run e5 hks, run_setMap e4 hnc]
  · rename_i hf
    obtain ⟨h1, h2⟩ := find_run (w := w) hf
    cases hl
    have hit1 : hit es'.toList 0 none = none := rfl
    rw [hit1] at h1
    obtain ⟨_, H'⟩ := H.putObj e2 e3 (.map (e5.push (e := { key := k', val := x, born := c }) (e' := { key := k', val := x', born := c }) ⟨hp, rfl, hx, rfl⟩) (c := c + 1))
    refine ⟨_, ?_, H'⟩
    simp [run_underlying hu, run_getMap e4, hcr, h1, Result.andThen, run_setMap e4 hnc]

def entryV (P : Program) (t : TypeId) (m k : Value) (h : AHeap) : Option (Value × AHeap) :=
  match P.underlying t with
  | some (.map kt et) => match mapAt h m with
    | some (r, es, c) => match checkV P false kt k with
      | true => match findV P kt k (es.toList.map (·.key)) with
        | some (some i) => match keyStays es.toList i k with
          | true => match es.toList[i]? with
            | some e => some (.tuple #[e.val, goInt e.born], h.put r (.obj (.map (es.modify i fun e => { e with key := k }) c)))
            | none => none
          | false => none
        | some none => match P.info? et with
          | some i => match i.zero with
            | some z => some (.tuple #[z, goInt c], h.put r (.obj (.map (es.push { key := k, val := z, born := c }) (c + 1))))
            | none => none
          | none => none
        | none => none
      | false => none
    | none => none
  | _ => none
theorem entry_run (G : Good P) (H : HR w0 base φ h w) {t : TypeId} (hel : hasEl P t = true) {m m' k k' : Value} (hm : VR φ m m') (hk : VR φ k k') {v : Value} (hl : entryV P t m k h = some (v, h')) : RunV P w0 base φ w v h' (Instr.mapEntry t m' k') := by
  unfold entryV at hl
  split at hl <;> first | (cases hl; done) | skip
  rename_i kt et hu
  split at hl <;> first | (cases hl; done) | skip
  rename_i r es c hma
  obtain ⟨r', es', e1, e2, e3, e4, e5⟩ := mapAt_r H hm hma
  subst e1
  split at hl <;> first | (cases hl; done) | skip
  rename_i hc
  obtain ⟨rfl, hp, hcr⟩ := check_run (w := w) hc hk
  have hnc : ∀ c1 e f, (Obj.map es' c) ≠ .cells c1 e f := fun _ _ _ e => by cases e
  unfold Instr.mapEntry
  rw [← e5.keys] at hl
  split at hl <;> first | (cases hl; done) | skip
  · rename_i i hf
    obtain ⟨h1, h2⟩ := find_run (w := w) hf
    split at hl <;> first | (cases hl; done) | skip
    rename_i hks
    split at hl <;> first | (cases hl; done) | skip
    rename_i e hei
    cases hl
    have hlt := h2 i rfl
    have he' : es'[i]? = some (es'.toList[i]'hlt) := by simp
    have hit1 : hit es'.toList 0 (some i) = some (i, (es'.toList[i]'hlt).val) := by
      show Option.map (fun e => (i, e.val)) es'.toList[i]? = _
      rw [List.getElem?_eq_getElem hlt]
      rfl
    rw [hit1] at h1
    have hee := e5.2 i e _ (by simpa using hei) he'
    obtain ⟨_, H'⟩ := H.putObj e2 e3 (.map (e5.modify i (f := fun e => { e with key := k' }) (f' := fun e => { e with key := k' }) fun e e' hee => ⟨hp, rfl, hee.val, hee.born⟩) (c := c))
    generalize es'.toList[i]'hlt = e' at *
    have hks' := keyStays_run (P := P) (w := w) e5 hks
    rw [he'] at hks'
    have hv := (AsR.one hee.val).push (x := goInt e.born) (y := goInt e'.born) (by rw [hee.born]; exact .int)
    refine ⟨φ, .tuple #[e'.val, goInt e'.born], _, ?_, .tuple hv.1 hv.2, H', Ext.refl _⟩
    simp only [Option.map_some, Option.getD_some] at hks'
    simp [run_underlying hu, run_getMap e4, hcr, h1, Result.andThen, he', hks', run_setMap e4 hnc]
  · rename_i hf
    obtain ⟨h1, h2⟩ := find_run (w := w) hf
    split at hl <;> first | (cases hl; done) | skip
    rename_i i hi
    split at hl <;> first | (cases hl; done) | skip
    rename_i z hz
    cases hl
    have hit1 : hit es'.toList 0 none = none := rfl
    rw [hit1] at h1
    have hzp := (G.zero et i z (hasEl_map hel hu) hi hz).vr (φ := φ)
    obtain ⟨_, H'⟩ := H.putObj e2 e3 (.map (e5.push (e := { key := k', val := z, born := c }) (e' := { key := k', val := z, born := c }) ⟨hp, rfl, hzp, rfl⟩) (c := c + 1))
    have hv := (AsR.one hzp).push (x := goInt c) (y := goInt c) .int
    refine ⟨φ, .tuple #[z, goInt c], _, ?_, .tuple hv.1 hv.2, H', Ext.refl _⟩
    simp [run_underlying hu, run_getMap e4, hcr, h1, Result.andThen, zeroValue, typeInfo, hi, hz, run_setMap e4 hnc]
def entryStoreV (m s v : Value) (h : AHeap) : Option AHeap :=
  match mapAt h m with
  | some (r, es, c) => match s with
    | .int _ b => match es.findIdx? (fun e => (e.born : Int) == b) with
      | some i => some (h.put r (.obj (.map (es.modify i fun e => { e with val := v }) c)))
      | none => none
    | _ => none
  | none => none
theorem EL.findIdx {l l' : List MapEntry} (h : EL φ l l') (b : Int) : l.findIdx? (fun e => (e.born : Int) == b) = l'.findIdx? (fun e => (e.born : Int) == b) := by
  induction h with
  | nil => rfl
  | @cons e e' _ _ he _ ih => rw [List.findIdx?_cons, List.findIdx?_cons, he.born, ih]
theorem entryStore_run (H : HR w0 base φ h w) {t : TypeId} {m m' s s' x x' : Value} (hm : VR φ m m') (hs : VR φ s s') (hx : VR φ x x') (hl : entryStoreV m s x h = some h') : RunU P w0 base φ w h' (Instr.entryStore t m' s' x') := by
  unfold entryStoreV at hl
  split at hl <;> first | (cases hl; done) | skip
  rename_i r es c hma
  obtain ⟨r', es', e1, e2, e3, e4, e5⟩ := mapAt_r H hm hma
  subst e1
  split at hl <;> first | (cases hl; done) | skip
  rename_i kd b
  split at hl <;> first | (cases hl; done) | skip
  rename_i i hi
  cases hl
  cases hs
  have hi' : es'.findIdx? (fun e => (e.born : Int) == b) = some i := by
    have toL : ∀ (a : Array MapEntry) (p : MapEntry → Bool), a.findIdx? p = a.toList.findIdx? p := fun a p => by cases a; simp
    rw [toL] at hi ⊢
    rw [← e5.toL.findIdx]; exact hi
  have hnc : ∀ c1 e f, (Obj.map es' c) ≠ .cells c1 e f := fun _ _ _ e => by cases e
  obtain ⟨_, H'⟩ := H.putObj e2 e3 (.map (e5.modify i (f := fun e => { e with val := x }) (f' := fun e => { e with val := x' }) fun e e' hee => ⟨hee.plain, hee.same, hx, hee.born⟩) (c := c))
  refine ⟨_, ?_, H'⟩
  unfold Instr.entryStore
  simp [run_getMap e4, asInt, asIntOf, Result.andThen, hi', run_setMap e4 hnc]
def deleteV (P : Program) (t : TypeId) (m k : Value) (h : AHeap) : Option AHeap :=
  match P.underlying t with
  | some (.map kt _) => match mapAt h m with
    | some (r, es, c) => match checkV P es.isEmpty kt k with
      | true => match findV P kt k (es.toList.map (·.key)) with
        | some (some i) => some (h.put r (.obj (.map (es.eraseIdxIfInBounds i) c)))
        | some none => some (h.put r (.obj (.map es c)))
        | none => none
      | false => none
    | none => none
  | _ => none
theorem EL.erase {l l' : List MapEntry} (h : EL φ l l') : ∀ i, EL φ (l.eraseIdx i) (l'.eraseIdx i) := by
  induction h with
  | nil => intro i; exact .nil
  | cons he ht ih =>
    intro i
    cases i with
    | zero => exact ht
    | succ i => exact .cons he (ih i)
theorem EntriesR.erase {es es' : Array MapEntry} (he : EntriesR φ es es') (i : Nat) : EntriesR φ (es.eraseIdxIfInBounds i) (es'.eraseIdxIfInBounds i) := by
  unfold Array.eraseIdxIfInBounds
  by_cases hi : i < es.size
  · rw [dif_pos hi, dif_pos (he.1 ▸ hi)]
    refine EL.toE ?_
    rw [Array.toList_eraseIdx, Array.toList_eraseIdx]
    exact he.toL.erase i
  · rw [dif_neg hi, dif_neg (he.1 ▸ hi)]
    exact he
theorem delete_run (H : HR w0 base φ h w) {t ty : TypeId} {ts : Array TypeId} (hts : ts[0]? = some t) {m m' k k' : Value} (hm : VR φ m m') (hk : VR φ k k') (hl : deleteV P t m k h = some h') : ∃ w', (Builtin.delete_ ts ty #[m', k']).run P w = .ok (.tuple #[]) w' ∧ HR w0 base φ h' w' := by
  unfold deleteV at hl
  split at hl <;> first | (cases hl; done) | skip
  rename_i kt et hu
  split at hl <;> first | (cases hl; done) | skip
  rename_i r es c hma
  obtain ⟨r', es', e1, e2, e3, e4, e5⟩ := mapAt_r H hm hma
  subst e1
  split at hl <;> first | (cases hl; done) | skip
  rename_i hc
  obtain ⟨rfl, hp, hcr⟩ := check_run (w := w) hc hk
  rw [e5.empty] at hcr
  have hnc : ∀ c1 e f, (Obj.map es' c) ≠ .cells c1 e f := fun _ _ _ e => by cases e
  unfold Builtin.delete_
  rw [← e5.keys] at hl
  split at hl <;> first | (cases hl; done) | skip
  · rename_i i hf
    obtain ⟨h1, h2⟩ := find_run (w := w) hf
    cases hl
    have hlt := h2 i rfl
    have hit1 : hit es'.toList 0 (some i) = some (i, (es'.toList[i]'hlt).val) := by
      show Option.map (fun e => (i, e.val)) es'.toList[i]? = _
      rw [List.getElem?_eq_getElem hlt]
      rfl
    rw [hit1] at h1
    obtain ⟨_, H'⟩ := H.putObj e2 e3 (.map (e5.erase i) (c := c))
    refine ⟨_, ?_, H'⟩
    simp [hts, run_underlying hu, run_getMap e4, hcr, h1, Result.andThen, run_setMap e4 hnc]
  · rename_i hf
    obtain ⟨h1, h2⟩ := find_run (w := w) hf
    cases hl
    have hit1 : hit es'.toList 0 none = none := rfl
    rw [hit1] at h1
    obtain ⟨_, H'⟩ := H.putObj e2 e3 (.map e5 (c := c))
    refine ⟨_, ?_, H'⟩
    simp [hts, run_underlying hu, run_getMap e4, hcr, h1, Result.andThen, run_setMap e4 hnc]
end
end
end Go.Ab
