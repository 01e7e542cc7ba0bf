/- The evaluator, part 4. -/
import Derived.Test.YtbjadgggpkbjmaaGreatEv3
import Derived.MapKept
import Derived.Laws.LoneSync
import Derived.IntWalk
/- An evaluator of the model's code over an abstract heap: more trees; maps. -/
namespace Go.Ab
open Go.RowKit
noncomputable section
section
variable {P : Program} {w0 : World} {base : Nat} {φ : Phi} {h h' : AHeap} {w : World}
theorem AsR.get0 {as bs : Array Value} (h : AsR φ as bs) (i : Nat) : OptVR φ as[i]? bs[i]? := by
  cases ha : as[i]? with
  | none => exact .inl ⟨rfl, h.none ha⟩
  | some x =>
    obtain ⟨y, hy, hr⟩ := h.get ha
    exact .inr ⟨x, y, rfl, hy, hr⟩
theorem sr_copy (ts : Array TypeId) (ty : TypeId) {as bs : Array Value} (h : AsR φ as bs) : SR P VR φ (Builtin.copy_ ts ty as) (Builtin.copy_ ts ty bs) := by
  unfold Builtin.copy_
  rcases h.get0 0 with ⟨e1, e2⟩ | ⟨d, d', e1, e2, hd⟩
  · rw [e1, e2]; cases ts[0]? <;> exact .halt
  · rcases h.get0 1 with ⟨e3, e4⟩ | ⟨s, s', e3, e4, hs⟩
    · rw [e1, e2, e3, e4]; cases ts[0]? <;> exact .halt
    · rw [e1, e2, e3, e4]
      cases ts[0]? with
      | none => exact .halt
      | some t =>
        simp only []
        refine SR.bind' (sr_underlying t) fun φ1 x x' he1 hx => ?_
        obtain ⟨rfl, _⟩ := hx
        cases x with
        | slice elem =>
          simp only []
          have hlen : SR P EqR φ1 (Builtin.lenOf s) (Builtin.lenOf s') := by
            cases hs <;> first | exact .halt | exact .pure rfl
          have fin : ∀ (bs bs' : Option Addr) (dLen : Nat), OptAddrR φ1 bs bs' → SR P VR φ1
              (do let n := Nat.min (← Builtin.lenOf s) dLen
                  let cells ← Builtin.firstCells (← sizeOf elem) n s
                  if let some a := bs then storeCells a cells.toList
                  pure (goInt n))
              (do let n := Nat.min (← Builtin.lenOf s') dLen
                  let cells ← Builtin.firstCells (← sizeOf elem) n s'
                  if let some a := bs' then storeCells a cells.toList
                  pure (goInt n)) := by
            intro b b' dLen hb
            refine SR.bindEq hlen fun φ2 n he2 => ?_
            refine SR.bindEq (sr_sizeOf elem) fun φ3 sz he3 => ?_
            refine SR.bind' (sr_firstCells sz _ (((hs.mono he1).mono he2).mono he3)) fun φ4 c c' he4 hc => ?_
            rcases hb with ⟨rfl, rfl⟩ | ⟨a, a', rfl, rfl, ha⟩
            · exact .pure .int
            · exact SR.bindEq (sr_storeCells _ _ 0 (((ha.mono he2).mono he3).mono he4) hc.ofList) fun φ5 _ _ => .pure .int
          have hd1 := hd.mono he1
          cases hd1 with
          | @slNil n k hk => exact fin none none n (.inl ⟨rfl, rfl⟩)
          | @sl a a' n k k' ha hk => exact fin (some a) (some a') n (.inr ⟨a, a', rfl, rfl, ha⟩)
          | _ => exact .halt
        | _ => exact .halt
theorem sr_len (ts : Array TypeId) (ty : TypeId) {as bs : Array Value} (h : AsR φ as bs) : SR P VR φ (Builtin.len_ ts ty as) (Builtin.len_ ts ty bs) := by
  unfold Builtin.len_
  rcases h.get0 0 with ⟨e1, e2⟩ | ⟨d, d', e1, e2, hd⟩
  · rw [e1, e2]; cases ts[0]? <;> exact .halt
  · rw [e1, e2]
    cases ts[0]? with
    | none => exact .halt
    | some t =>
      simp only []
      refine SR.bind' (sr_underlying t) fun φ1 x x' he1 hx => ?_
      obtain ⟨rfl, _⟩ := hx
      have hd1 := hd.mono he1
      cases x with
      | string => cases hd1 <;> first | exact .halt | exact .pure .int
      | array n e => exact .pure .int
      | slice e => cases hd1 <;> first | exact .halt | exact .pure .int
      | map k e =>
        cases hd1 with
        | mapNil => exact .pure .int
        | map hm =>
          refine .getObj hm fun o o' ho => ?_
          cases ho with
          | @map es es' c hes =>
            show SR P VR φ1 (Sem.pure (goInt es.size)) (Sem.pure (goInt es'.size))
            rw [hes.1]
            exact .pure .int
          | _ => exact .halt
        | _ => exact .halt
      | pointer e =>
        refine SR.bind' (sr_underlying e) fun φ2 y y' he2 hy => ?_
        obtain ⟨rfl, _⟩ := hy
        cases y <;> first | exact .halt | exact .pure .int
      | _ => cases hd1 <;> exact .halt
theorem sr_typeAssert (G : Good P) {v u : Value} (h : VR φ v u) (xt at_ : TypeId) (ht : hasT P at_ = true) (ok : Bool) : SR P VR φ (Instr.typeAssert v xt at_ ok) (Instr.typeAssert u xt at_ ok) := by
  unfold Instr.typeAssert
  have holds : ∀ φ1 (a b : Value), VR φ1 a b → SR P VR φ1 (Pure.pure (if ok then .tuple #[a, .bool true] else a)) (Pure.pure (if ok then .tuple #[b, .bool true] else b)) := fun φ1 a b hab => by
    cases ok with
    | true =>
      have := (AsR.one hab).push (x := .bool true) (y := .bool true) .bool
      exact .pure (.tuple this.1 this.2)
    | false => exact .pure hab
  have fails : ∀ φ1 (a b : Option TypeId) (m : String), SR P VR φ1
      (if ok then (do pure (.tuple #[← zeroValue at_, .bool false])) else runtimePanic (.typeAssertion a b at_ m))
      (if ok then (do pure (.tuple #[← zeroValue at_, .bool false])) else runtimePanic (.typeAssertion a b at_ m)) := fun φ1 a b m => by
    cases ok with
    | true =>
      refine SR.bind' (sr_zero G at_ ht) fun φ2 x y _ hz => ?_
      obtain ⟨rfl, hp⟩ := hz
      have := (AsR.one (hp.vr (φ := φ2))).push (x := .bool false) (y := .bool false) .bool
      exact .pure (.tuple this.1 this.2)
    | false =>
      show SR P VR φ1 (runtimePanic (.typeAssertion a b at_ m)) (runtimePanic (.typeAssertion a b at_ m))
      exact .stops (stops_panic _)
  refine SR.bind' (sr_underlying at_) fun φ1 x x' he1 hx => ?_
  obtain ⟨rfl, _⟩ := hx
  have h1 := h.mono he1
  cases x with
  | interface want =>
    cases h1 with
    | nilIface => exact fails _ _ _ _
    | @iface t a b hab =>
      refine SR.bind' (sr_typeInfo t) fun φ2 i i' he2 hi => ?_
      obtain ⟨rfl, _⟩ := hi
      cases Instr.missingMethod want i.methods with
      | none => exact holds _ _ _ (.iface (hab.mono he2))
      | some m => exact fails _ _ _ _
    | _ => exact .halt
  | _ =>
    cases h1 with
    | nilIface => exact fails _ _ _ _
    | @iface t a b hab =>
      simp only []
      by_cases e : t = at_
      · rw [if_pos e, if_pos e]; exact holds _ _ _ hab
      · rw [if_neg e, if_neg e]; exact fails _ _ _ _
    | _ => exact .halt
theorem sr_range (t : TypeId) {v u : Value} (h : VR φ v u) : SR P VR φ (Instr.range t v) (Instr.range t u) := by
  unfold Instr.range
  have fin : ∀ φ1 (o o' : Obj), OR φ1 o o' → SR P VR φ1 (do pure (.pointer (some ⟨← newObj o, 0, none⟩))) (do pure (.pointer (some ⟨← newObj o', 0, none⟩))) := fun φ1 o o' ho =>
    SR.bind' (R := fun φ a b => φ a = some b) (SR.newObj ho fun _ _ _ _ h => .pure h) fun φ2 a b _ hab => .pure (.ptr (.mk hab))
  refine SR.bind' (sr_underlying t) fun φ1 x x' he1 hx => ?_
  obtain ⟨rfl, _⟩ := hx
  have h1 := h.mono he1
  cases x with
  | string =>
    cases h1 with
    | string => exact fin _ _ _ .str
    | _ => exact .halt
  | map k e =>
    cases h1 with
    | mapNil => exact fin _ _ _ .iterNil
    | @map r r' hm =>
      refine .getObj hm fun o o' ho => ?_
      cases ho with
      | map hes => exact fin _ _ _ (.iter hm)
      | _ => exact .halt
    | _ => exact .halt
  | _ => exact .halt

/-! ### Iterators -/
inductive EL (φ : Phi) : List MapEntry → List MapEntry → Prop
  | nil : EL φ [] []
  | cons {e e' : MapEntry} {l l' : List MapEntry} (h : EntryR φ e e') (h' : EL φ l l') : EL φ (e :: l) (e' :: l')
theorem EL.of {φ : Phi} : ∀ (l l' : List MapEntry), l.length = l'.length → (∀ (i : Nat) x y, l[i]? = some x → l'[i]? = some y → EntryR φ x y) → EL φ l l'
  | [], [], _, _ => .nil
  | [], _ :: _, h, _ => by simp at h
  | _ :: _, [], h, _ => by simp at h
  | a :: l, b :: l', h, hr => .cons (hr 0 a b (by simp) (by simp)) (EL.of l l' (by simpa using h) fun i x y hx hy => hr (i + 1) x y (by simpa using hx) (by simpa using hy))
theorem EntriesR.toL {φ : Phi} {as bs : Array MapEntry} (h : EntriesR φ as bs) : EL φ as.toList bs.toList := EL.of _ _ (by simpa using h.1) fun i x y hx hy => h.2 i x y (by simpa using hx) (by simpa using hy)
theorem EL.length {φ : Phi} {l l' : List MapEntry} (h : EL φ l l') : l.length = l'.length := by
  induction h with
  | nil => rfl
  | cons _ _ ih => simp [ih]
theorem EL.get {φ : Phi} {l l' : List MapEntry} (h : EL φ l l') : ∀ (i : Nat) x y, l[i]? = some x → l'[i]? = some y → EntryR φ x y := by
  induction h with
  | nil => intro i x y hx; simp at hx
  | cons he _ ih =>
    intro i x y hx hy
    cases i with
    | zero => simp at hx hy; subst hx hy; exact he
    | succ i => exact ih i x y (by simpa using hx) (by simpa using hy)
theorem EL.toE {φ : Phi} {as bs : Array MapEntry} (h : EL φ as.toList bs.toList) : EntriesR φ as bs := ⟨by simpa using h.length, fun i x y hx hy => h.get i x y (by simpa using hx) (by simpa using hy)⟩
theorem EL.filter {φ : Phi} {l l' : List MapEntry} (h : EL φ l l') (p : Nat → Bool) : EL φ (l.filter fun e => p e.born) (l'.filter fun e => p e.born) := by
  induction h with
  | nil => exact .nil
  | @cons e e' _ _ he _ ih =>
    rw [List.filter_cons, List.filter_cons, ← he.born]
    cases p e.born with
    | true => exact .cons he ih
    | false => exact ih
theorem EL.all {φ : Phi} {l l' : List MapEntry} (h : EL φ l l') (p : Nat → Bool) : (l.all fun e => p e.born) = (l'.all fun e => p e.born) := by
  induction h with
  | nil => rfl
  | @cons e e' _ _ he _ ih => rw [List.all_cons, List.all_cons, ← he.born, ih]
theorem EntriesR.filter {φ : Phi} {as bs : Array MapEntry} (h : EntriesR φ as bs) (p : Nat → Bool) : EntriesR φ (as.filter fun e => p e.born) (bs.filter fun e => p e.born) := by
  refine EL.toE ?_
  rw [Array.toList_filter, Array.toList_filter]
  exact h.toL.filter p
theorem EntriesR.all {φ : Phi} {as bs : Array MapEntry} (h : EntriesR φ as bs) (p : Nat → Bool) : (as.all fun e => p e.born) = (bs.all fun e => p e.born) := by
  rw [← Array.all_toList, ← Array.all_toList]
  exact h.toL.all p
theorem EntriesR.empty {φ : Phi} {as bs : Array MapEntry} (h : EntriesR φ as bs) : as.isEmpty = bs.isEmpty := by
  simp only [Array.isEmpty, h.1]
theorem EntriesR.append {φ : Phi} {as bs cs ds : Array MapEntry} (h : EntriesR φ as bs) (h' : EntriesR φ cs ds) : EntriesR φ (as ++ cs) (bs ++ ds) := by
  refine ⟨by simp [h.1, h'.1], fun i a b ha hb => ?_⟩
  rw [Array.getElem?_append] at ha hb
  by_cases hi : i < as.size
  · rw [if_pos hi] at ha
    rw [if_pos (h.1 ▸ hi)] at hb
    exact h.2 i a b ha hb
  · rw [if_neg hi] at ha
    rw [if_neg (h.1 ▸ hi)] at hb
    rw [h.1] at ha
    exact h'.2 _ a b ha hb
def nextPick (r m s : Nat) (seen : Array Nat) (clock : Nat) (c : Option (Option MapEntry)) : Sem Value :=
  match c with
  | some (some e) => do
    setObj r (.mapIter (some m) s (seen.push e.born) clock)
    pure (.tuple #[.bool true, e.key, e.val])
  | some none => pure (.tuple #[.bool false])
  | none => stuck "Next: no such candidate"
theorem sr_next {v u : Value} (h : VR φ v u) (b : Bool) (ty : TypeId) : SR P VR φ (Instr.next v b ty) (Instr.next u b ty) := by
  unfold Instr.next
  have over : ∀ φ1, SR P VR φ1 (Pure.pure (.tuple #[.bool false])) (Pure.pure (.tuple #[.bool false])) := fun φ1 => by
    have := AsR.one (φ := φ1) (x := .bool false) (y := .bool false) .bool
    exact .pure (.tuple this.1 this.2)
  cases h with
  | @ptr a a' ha =>
    cases ha with
    | @mk r r' o hr =>
      cases o with
      | succ o => exact .halt
      | zero =>
        refine .getObj hr fun o o' ho => ?_
        cases ho with
        | @str s p =>
          cases b with
          | false => exact .halt
          | true =>
            show SR P VR φ (if p < s.size then _ else _) (if p < s.size then _ else _)
            split
            · refine SR.bindEq (sr_setObj hr .str) fun φ2 _ _ => ?_
              have := ((AsR.one (φ := φ2) (x := .bool true) (y := .bool true) .bool).push (x := goInt p) (y := goInt p) .int).push (x := .int .i32 (Utf8.decode s p).1) (y := .int .i32 (Utf8.decode s p).1) .int
              exact .pure (.tuple this.1 this.2)
            · exact over φ
        | iterNil =>
          cases b with
          | false => exact over φ
          | true => exact .halt
        | @iter m m' s seen st hm =>
          cases b with
          | true => exact .halt
          | false =>
            refine .getObj hm fun o o' ho => ?_
            cases ho with
            | @map es es' clock hes =>
              have fin : SR P VR φ
                  (do let left := es.filter fun e => !seen.contains e.born
                      let old := left.filter (·.born < s)
                      let new := left.filter (·.born ≥ s)
                      let candidates := (if old.isEmpty then #[none] else #[]) ++ (old ++ new).map some
                      match candidates[← choose (.mapNext candidates.size)]? with
                      | some (some e) =>
                        setObj r (.mapIter (some m) s (seen.push e.born) clock)
                        pure (.tuple #[.bool true, e.key, e.val])
                      | some none => pure (.tuple #[.bool false])
                      | none => stuck "Next: no such candidate")
                  (do let left := es'.filter fun e => !seen.contains e.born
                      let old := left.filter (·.born < s)
                      let new := left.filter (·.born ≥ s)
                      let candidates := (if old.isEmpty then #[none] else #[]) ++ (old ++ new).map some
                      match candidates[← choose (.mapNext candidates.size)]? with
                      | some (some e) =>
                        setObj r' (.mapIter (some m') s (seen.push e.born) clock)
                        pure (.tuple #[.bool true, e.key, e.val])
                      | some none => pure (.tuple #[.bool false])
                      | none => stuck "Next: no such candidate") := by
                have hl := hes.filter fun b => !seen.contains b
                have ho := hl.filter fun b => decide (b < s)
                have hn := hl.filter fun b => decide (b ≥ s)
                generalize es.filter (fun e => !seen.contains e.born) = left at *
                generalize es'.filter (fun e => !seen.contains e.born) = left' at *
                simp only []
                generalize left.filter (fun e => decide (e.born < s)) = old at *
                generalize left'.filter (fun e => decide (e.born < s)) = old' at *
                generalize left.filter (fun e => decide (e.born ≥ s)) = new at *
                generalize left'.filter (fun e => decide (e.born ≥ s)) = new' at *
                rw [← ho.empty]
                have hon := ho.append hn
                generalize old ++ new = on at *
                generalize old' ++ new' = on' at *
                generalize hc0 : (if old.isEmpty then #[none] else #[] : Array (Option MapEntry)) = c0
                have hsz : (c0 ++ on.map some).size = (c0 ++ on'.map some).size := by simp [hon.1]
                rw [← hsz]
                refine .choose (fun hq => hq) fun hq => ?_
                show SR P VR φ (nextPick r m s seen clock ((c0 ++ on.map some)[0]?)) (nextPick r' m' s seen clock ((c0 ++ on'.map some)[0]?))
                rw [Array.getElem?_append, Array.getElem?_append]
                by_cases hlt : 0 < c0.size
                · rw [if_pos hlt, if_pos hlt]
                  have hc : c0[0]? = some none := by
                    subst hc0
                    cases hoe : old.isEmpty with
                    | true => rfl
                    | false => rw [hoe] at hlt; simp at hlt
                  rw [hc]
                  exact over φ
                · rw [if_neg hlt, if_neg hlt, Array.getElem?_map, Array.getElem?_map]
                  cases hx : on[0 - c0.size]? with
                  | none => exact .halt
                  | some e =>
                    have hlt2 : 0 - c0.size < on.size := by
                      rcases Nat.lt_or_ge (0 - c0.size) on.size with hl | hg
                      · exact hl
                      · rw [Array.getElem?_eq_none hg] at hx; cases hx
                    have hy : on'[0 - c0.size]? = some (on'[0 - c0.size]'(by rw [← hon.1]; exact hlt2)) := Array.getElem?_eq_getElem _
                    have hr2 := hon.2 _ _ _ hx hy
                    rw [hy]
                    generalize on'[0 - c0.size]'(by rw [← hon.1]; exact hlt2) = e' at hr2
                    show SR P VR φ (setObj r (.mapIter (some m) s (seen.push e.born) clock) >>= fun _ => pure (.tuple #[.bool true, e.key, e.val])) (setObj r' (.mapIter (some m') s (seen.push e'.born) clock) >>= fun _ => pure (.tuple #[.bool true, e'.key, e'.val]))
                    rw [← hr2.born]
                    refine SR.bindEq (sr_setObj hr (.iter hm)) fun φ2 _ he2 => ?_
                    have := ((AsR.one (φ := φ2) (x := .bool true) (y := .bool true) .bool).push (hr2.key.mono he2)).push (hr2.val.mono he2)
                    exact .pure (.tuple this.1 this.2)
              show SR P VR φ (if _ then _ else _) (if _ then _ else _)
              rw [← hes.empty, ← hes.all fun b => decide (b ≥ st)]
              split
              · exact .halt
              · exact fin
            | _ => exact .halt
        | _ => exact .halt
  | ptrNil => exact .halt
  | _ => exact .halt
end
end
end Go.Ab

/- An evaluator of the model's code over an abstract heap: maps. -/
namespace Go.Ab
open Go.RowKit
noncomputable section
section
variable {P : Program} {w0 : World} {base : Nat} {φ : Phi} {h h' : AHeap} {w : World}

theorem qrun_bind {α β : Type} (s : Sem α) (f : α → Sem β) : qrun P (s.bind f) = (qrun P s).bind fun a => qrun P (f a) := by
  induction s with
  | pure a => rfl
  | program k ih => exact ih P
  | mark m k ih => exact ih
  | choose q k ih =>
    show (match q.forced with
      | true => qrun P ((k 0).bind f)
      | false => none) = Option.bind (match q.forced with
      | true => qrun P (k 0)
      | false => none) _
    cases q.forced with
    | true => exact ih 0
    | false => rfl
  | _ => rfl

/-- The place of a key among keys. -/
def askV (P : Program) (kt : TypeId) (k : Value) : List Value → Nat → Option (Option Nat)
  | [], _ => some none
  | x :: l, i => match qrun P (Op.equal kt k x) with
    | some true => some (some i)
    | some false => askV P kt k l (i + 1)
    | none => none
def nowV (d : TypeDesc) (k : Value) : List Value → Nat → Option (Option Nat)
  | [], _ => some none
  | x :: l, i => match Instr.sameNow d k x with
    | some true => some (some i)
    | some false => nowV d k l (i + 1)
    | none => none
def findV (P : Program) (kt : TypeId) (k : Value) (l : List Value) : Option (Option Nat) :=
  match P.underlying kt with
  | some d => match nowV d k l 0 with
    | some r => some r
    | none => askV P kt k l 0
  | none => none
def hit (l : List MapEntry) (i0 : Nat) : Option Nat → Option (Nat × Value)
  | some i => (l[i - i0]?).map fun e => (i, e.val)
  | none => none
theorem now_eq (d : TypeDesc) (k : Value) : ∀ (l : List MapEntry) (i : Nat), Instr.findNow d k l i = (nowV d k (l.map (·.key)) i).map (hit l i) ∧ ∀ j, nowV d k (l.map (·.key)) i = some (some j) → i ≤ j ∧ j < i + l.length
  | [], i => ⟨rfl, fun j e => by simp [nowV] at e⟩
  | e :: l, i => by
    simp only [List.map_cons, Instr.findNow, nowV]
    cases Instr.sameNow d k e.key with
    | none => exact ⟨rfl, fun j e => by cases e⟩
    | some b =>
      cases b with
      | true => exact ⟨by simp [hit], fun j e => by simp at e; subst e; simp⟩
      | false =>
        obtain ⟨h1, h2⟩ := now_eq d k l (i + 1)
        refine ⟨?_, fun j e => by have := h2 j e; simp; omega⟩
        simp only []
        rw [h1]
        cases hn : nowV d k (l.map (·.key)) (i + 1) with
        | none => rfl
        | some r =>
          cases r with
          | none => rfl
          | some j =>
            have := h2 j hn
            simp only [Option.map_some, hit]
            obtain ⟨q, rfl⟩ : ∃ q, j = i + 1 + q := ⟨j - (i + 1), by omega⟩
            have a1 : i + 1 + q - (i + 1) = q := by omega
            have a2 : i + 1 + q - i = q + 1 := by omega
            rw [a1, a2]
            simp
theorem ask_run (kt : TypeId) (k : Value) : ∀ (l : List MapEntry) (i : Nat) (r : Option Nat), askV P kt k (l.map (·.key)) i = some r → (Instr.findAsking kt k l i).run P w = .ok (hit l i r) w ∧ ∀ j, r = some j → i ≤ j ∧ j < i + l.length
  | [], i, r, hr => by
    simp only [List.map_nil, askV] at hr
    cases hr
    exact ⟨rfl, fun j e => by cases e⟩
  | e :: l, i, r, hr => by
    simp only [List.map_cons, askV] at hr
    cases hq : qrun P (Op.equal kt k e.key) with
    | none => rw [hq] at hr; cases hr
    | some b =>
      rw [hq] at hr
      have hrun := qrun_run P _ w hq
      cases b with
      | true =>
        simp only at hr
        cases hr
        refine ⟨?_, fun j e => by injection e with e; subst e; simp⟩
        simp [Instr.findAsking, hrun, hit]
      | false =>
        simp only at hr
        obtain ⟨h1, h2⟩ := ask_run kt k l (i + 1) r hr
        refine ⟨?_, fun j e => by have := h2 j e; simp; omega⟩
        simp only [Instr.findAsking, Sem.run_bind, hrun, Result.andThen, Bool.false_eq_true, if_false, h1]
        cases r with
        | none => rfl
        | some j =>
          have := h2 j rfl
          simp only [hit]
          obtain ⟨q, rfl⟩ : ∃ q, j = i + 1 + q := ⟨j - (i + 1), by omega⟩
          have a1 : i + 1 + q - (i + 1) = q := by omega
          have a2 : i + 1 + q - i = q + 1 := by omega
          rw [a1, a2]
          simp
theorem find_run {kt : TypeId} {k : Value} {l : List MapEntry} {r : Option Nat} (hr : findV P kt k (l.map (·.key)) = some r) : (Instr.findKey kt k l).run P w = .ok (hit l 0 r) w ∧ ∀ j, r = some j → j < l.length := by
  unfold findV at hr
  cases hu : P.underlying kt with
  | none => rw [hu] at hr; cases hr
  | some d =>
    rw [hu] at hr
    simp only at hr
    obtain ⟨h1, h2⟩ := now_eq d k l 0
    cases hn : nowV d k (l.map (·.key)) 0 with
    | some r' =>
      rw [hn] at hr h1
      simp only at hr
      cases hr
      refine ⟨?_, fun j e => by subst e; have := h2 j hn; omega⟩
      simp [Instr.findKey, run_underlying hu, h1, Result.andThen]
    | none =>
      rw [hn] at hr h1
      simp only at hr
      obtain ⟨h3, h4⟩ := ask_run (w := w) kt k l 0 r hr
      refine ⟨?_, fun j e => by have := h4 j e; omega⟩
      have h1' : Instr.findNow d k l 0 = none := h1
      simp [Instr.findKey, run_underlying hu, h1', Result.andThen, h3]

theorem EL.keys {l l' : List MapEntry} (h : EL φ l l') : l'.map (·.key) = l.map (·.key) := by
  induction h with
  | nil => rfl
  | cons h1 _ ih => simp only [List.map_cons, ih, h1.same]
theorem run_getMap {r : Nat} {es : Array MapEntry} {c : Nat} (hb : w.heap[r]? = some (.map es c)) : (getObj r).run P w = .ok (.map es c) w := by simp [getObj, Sem.run, hb]
theorem EntriesR.keys {as bs : Array MapEntry} (he : EntriesR φ as bs) : bs.toList.map (·.key) = as.toList.map (·.key) := by
  exact he.toL.keys

def mapAt (h : AHeap) (m : Value) : Option (Nat × Array MapEntry × Nat) :=
  match m with
  | .map (some r) => match h.blocks.get r with
    | some (.obj (.map es c)) => some (r, es, c)
    | _ => none
  | _ => none
theorem mapAt_r (H : HR w0 base φ h w) {m m' : Value} (hm : VR φ m m') {r : Nat} {es : Array MapEntry} {c : Nat} (hr : mapAt h m = some (r, es, c)) :
    ∃ r' es', m' = .map (some r') ∧ φ r = some r' ∧ h.blocks.get r = some (.obj (.map es c)) ∧ w.heap[r']? = some (.map es' c) ∧ EntriesR φ es es' := by
  unfold mapAt at hr
  split at hr <;> first | (cases hr; done) | skip
  rename_i r0
  split at hr <;> first | (cases hr; done) | skip
  rename_i es0 c0 hg
  cases hr
  cases hm with
  | map hφ =>
    obtain ⟨c1, o', h1, h2, h3⟩ := H.blocks _ _ (H.real hφ) hg
    have : c1 = _ := Option.some.inj (h1.symm.trans hφ)
    subst this
    cases h3 with
    | map he => exact ⟨c1, _, rfl, hφ, hg, h2, he⟩

def checkV (P : Program) (em : Bool) (kt : TypeId) (k : Value) : Bool := match plainB k with
  | true => match qrun P (Instr.checkKey em 10000 kt k) with
    | some _ => true
    | none => false
  | false => false
theorem check_run {em : Bool} {kt : TypeId} {k k' : Value} (hk : checkV P em kt k = true) (hv : VR φ k k') : k' = k ∧ Plain k ∧ (Instr.checkKey em 10000 kt k).run P w = .ok () w := by
  unfold checkV at hk
  split at hk
  · rename_i hp
    split at hk
    · rename_i u hq
      exact ⟨plain_eq hp hv, plain_of hp, qrun_run P _ w hq⟩
    · cases hk
  · cases hk

def lookupV (P : Program) (t : TypeId) (m k : Value) (ok : Bool) (h : AHeap) : Option Value :=
  match P.underlying t with
  | some (.map kt et) => match (match m with | .map none => some #[] | _ => (mapAt h m).map (·.2.1) : Option (Array MapEntry)) with
    | some es => match checkV P es.isEmpty kt k with
      | true => match findV P kt k (es.toList.map (·.key)) with
        | some (some i) => match es.toList[i]? with
          | some e => some (if ok then .tuple #[e.val, .bool true] else e.val)
          | none => none
        | some none => match P.info? et with
          | some i => match i.zero with
            | some z => some (if ok then .tuple #[z, .bool false] else z)
            | none => none
          | none => none
        | none => none
      | false => none
    | none => none
  | _ => none
theorem pair_r {a b : Value} (hab : VR φ a b) (ok v : Bool) : VR φ (if ok then .tuple #[a, .bool v] else a) (if ok then .tuple #[b, .bool v] else b) := by
  cases ok with
  | true =>
    have := (AsR.one hab).push (x := .bool v) (y := .bool v) .bool
    exact .tuple this.1 this.2
  | false => exact hab
theorem lookup_run (G : Good P) (H : HR w0 base φ h w) {t : TypeId} (hel : hasEl P t = true) {m m' k k' : Value} (hm : VR φ m m') (hk : VR φ k k') {ok : Bool} {v : Value} (hl : lookupV P t m k ok h = some v) : RunV P w0 base φ w v h (Instr.lookup t m' k' ok) := by
  unfold lookupV at hl
  split at hl <;> first | (cases hl; done) | skip
  rename_i kt et hu
  have key : ∀ (es es' : Array MapEntry), EntriesR φ es es' → (match checkV P es.isEmpty kt k with
      | true => match findV P kt k (es.toList.map (·.key)) with
        | some (some i) => match es.toList[i]? with
          | some e => some (if ok then .tuple #[e.val, .bool true] else e.val)
          | none => none
        | some none => match P.info? et with
          | some i => match i.zero with
            | some z => some (if ok then .tuple #[z, .bool false] else z)
            | none => none
          | none => none
        | none => none
      | false => none) = some v → ∃ u, (do
          Instr.checkKey es'.isEmpty 10000 kt k'
          let (v, o) ← match ← Instr.findKey kt k' es'.toList with
            | some (_, v) => pure (v, true)
            | none => pure (← zeroValue et, false)
          pure (if ok then .tuple #[v, .bool o] else v) : Sem Value).run P w = .ok u w ∧ VR φ v u := by
    intro es es' he hl
    split at hl <;> first | (cases hl; done) | skip
    rename_i hc
    obtain ⟨rfl, hp, hcr⟩ := check_run (w := w) hc hk
    rw [← he.empty]
    rw [← he.keys] at hl
    split at hl <;> first | (cases hl; done) | skip
    · rename_i i hf
      obtain ⟨h1, h2⟩ := find_run (w := w) hf
      split at hl <;> first | (cases hl; done) | skip
      rename_i e hei
      cases hl
      have hlt := h2 i rfl
      obtain ⟨e', he'⟩ : ∃ e', es'.toList[i]? = some e' := ⟨es'.toList[i], List.getElem?_eq_getElem hlt⟩
      have hee := he.2 i e e' (by simpa using hei) (by simpa using he')
      refine ⟨if ok then .tuple #[e'.val, .bool true] else e'.val, ?_, pair_r hee.val ok true⟩
      simp [hcr, h1, hit, he', Result.andThen]
    · rename_i hf
      obtain ⟨h1, h2⟩ := find_run (w := w) hf
      split at hl <;> first | (cases hl; done) | skip
      rename_i i hi
      split at hl <;> first | (cases hl; done) | skip
      rename_i z hz
      cases hl
      refine ⟨if ok then .tuple #[z, .bool false] else z, ?_, pair_r (G.zero et i z (hasEl_map hel hu) hi hz).vr ok false⟩
      simp [hcr, h1, hit, zeroValue, typeInfo, hi, hz, Result.andThen]
  unfold Instr.lookup
  split at hl <;> first | (cases hl; done) | skip
  rename_i es hes
  cases hm with
  | mapNil =>
    simp only at hes
    cases hes
    obtain ⟨u, h1, h2⟩ := key #[] #[] ⟨rfl, fun i x y h => by simp at h⟩ hl
    refine ⟨φ, u, w, ?_, h2, H, Ext.refl _⟩
    rw [Sem.run_bind, run_underlying hu]
    exact h1
  | @map r r' hφ =>
    simp only at hes
    cases hma : mapAt h (.map (some r)) with
    | none => rw [hma] at hes; cases hes
    | some x =>
      obtain ⟨r1, es1, c⟩ := x
      rw [hma] at hes
      cases hes
      obtain ⟨r2, es2, e1, e2, e3, e4, e5⟩ := mapAt_r H (.map hφ) hma
      injection e1 with e1
      injection e1 with e1
      subst e1
      obtain ⟨u, h1, h2⟩ := key _ _ e5 hl
      refine ⟨φ, u, w, ?_, h2, H, Ext.refl _⟩
      rw [Sem.run_bind, run_underlying hu]
      show Sem.run P (getObj r' >>= _) w = _
      rw [Sem.run_bind, run_getMap e4]
      exact h1
  | _ => simp [mapAt] at hes

/-! ### Writing to maps -/
def keyStays (es : List MapEntry) (i : Nat) (k : Value) : Bool := Instr.sameBits 10000 (((es[i]?).map (·.key)).getD k) k
def updateV (P : Program) (t : TypeId) (m k v : Value) (h : AHeap) : Option AHeap :=
  match P.underlying t with
  | some (.map kt _) => match mapAt h m with
    | some (r, es, c) => match checkV P false kt k with
      | true => match findV P kt k (es.toList.map (·.key)) with
        | some (some i) => match keyStays es.toList i k with
          | true => some (h.put r (.obj (.map (es.modify i fun e => { e with key := k, val := v }) c)))
          | false => none
        | some none => some (h.put r (.obj (.map (es.push { key := k, val := v, born := c }) (c + 1))))
        | none => none
      | false => none
    | none => none
  | _ => none
theorem EntriesR.push {es es' : Array MapEntry} (he : EntriesR φ es es') {e e' : MapEntry} (h1 : EntryR φ e e') : EntriesR φ (es.push e) (es'.push e') := by
  refine ⟨by simp [he.1], fun i a b ha hb => ?_⟩
  rw [Array.getElem?_push] at ha hb
  by_cases hi : i = es.size
  · rw [if_pos hi] at ha
    rw [if_pos (hi.trans he.1)] at hb
    injection ha with ha; injection hb with hb
    subst ha hb; exact h1
  · rw [if_neg hi] at ha
    rw [if_neg (fun e => hi (e.trans he.1.symm))] at hb
    exact he.2 i a b ha hb
theorem EntriesR.modify {es es' : Array MapEntry} (he : EntriesR φ es es') (i : Nat) {f f' : MapEntry → MapEntry} (hf : ∀ e e', EntryR φ e e' → EntryR φ (f e) (f' e')) : EntriesR φ (es.modify i f) (es'.modify i f') := by
  refine ⟨by simp [he.1], fun j a b ha hb => ?_⟩
  rw [Array.getElem?_modify] at ha hb
  by_cases e : i = j
  · rw [if_pos e] at ha hb
    cases hx : es[j]? with
    | none => rw [hx] at ha; cases ha
    | some x =>
      cases hy : es'[j]? with
      | none => rw [hy] at hb; cases hb
      | some y =>
        rw [hx] at ha; rw [hy] at hb
        simp at ha hb
        subst ha hb
        exact hf _ _ (he.2 j x y hx hy)
  · rw [if_neg e] at ha hb
    exact he.2 j a b ha hb
theorem keyStays_run {es es' : Array MapEntry} (he : EntriesR φ es es') {i : Nat} {k : Value} (hk : keyStays es.toList i k = true) : (Instr.keyThatStays (((es'[i]?).map (·.key)).getD k) k).run P w = .ok k w := by
  have e : ((es'[i]?).map (·.key)).getD k = ((es.toList[i]?).map (·.key)).getD k := by
    have h1 := he.keys
    have h2 : (es'.toList.map (·.key))[i]? = (es.toList.map (·.key))[i]? := by rw [h1]
    rw [List.getElem?_map, List.getElem?_map] at h2
    have h3 : es'.toList[i]? = es'[i]? := by simp
    rw [h3] at h2
    rw [h2]
  rw [e]
  unfold keyStays at hk
  unfold Instr.keyThatStays
  rw [if_pos hk]
  rfl
def RunU (P : Program) (w0 : World) (base : Nat) (φ : Phi) (w : World) (h' : AHeap) (s : Sem Unit) : Prop :=
  ∃ w', s.run P w = .ok () w' ∧ HR w0 base φ h' w'
theorem run_setMap {r : Nat} {o : Obj} {x : Obj} (hb : w.heap[r]? = some x) (hx : ∀ c e f, x ≠ .cells c e f) : (setObj r o).run P w = .ok () { w with heap := w.heap.setIfInBounds r o } := by
  unfold setObj
  rw [Sem.run, hb]
  cases x <;> first | rfl | exact absurd rfl (hx _ _ _)
theorem update_run (H : HR w0 base φ h w) {t : TypeId} {m m' k k' x x' : Value} (hm : VR φ m m') (hk : VR φ k k') (hx : VR φ x x') (hl : updateV P t m k x h = some h') : RunU P w0 base φ w h' (Instr.mapUpdate t m' k' x') := by
  unfold updateV at hl
  split at hl <;> first | (cases hl; done) | skip
  rename_i kt et hu
  split at hl <;> first | (cases hl; done) | skip
  rename_i r es c hma
  obtain ⟨r', es', e1, e2, e3, e4, e5⟩ := mapAt_r H hm hma
  subst e1
  split at hl <;> first | (cases hl; done) | skip
  rename_i hc
  obtain ⟨rfl, hp, hcr⟩ := check_run (w := w) hc hk
  have hnc : ∀ c1 e f, (Obj.map es' c) ≠ .cells c1 e f := fun _ _ _ e => by cases e
  unfold Instr.mapUpdate
  rw [← e5.keys] at hl
  split at hl <;> first | (cases hl; done) | skip
  · rename_i i hf
    obtain ⟨h1, h2⟩ := find_run (w := w) hf
    split at hl <;> first | (cases hl; done) | skip
    rename_i hks
    cases hl
    have hlt := h2 i rfl
    have hit1 : hit es'.toList 0 (some i) = some (i, (es'.toList[i]'hlt).val) := by
      show Option.map (fun e => (i, e.val)) es'.toList[i]? = _
      rw [List.getElem?_eq_getElem hlt]
      rfl
    rw [hit1] at h1
    obtain ⟨_, H'⟩ := H.putObj e2 e3 (.map (e5.modify i (f := fun e => { e with key := k', val := x }) (f' := fun e => { e with key := k', val := x' }) fun e e' hee => ⟨hp, rfl, hx, hee.born⟩) (c := c))
    refine ⟨_, ?_, H'⟩
    simp [run_underlying hu, run_getMap e4, hcr, h1, Result.andThen, keyStays_run e5 hks, run_setMap e4 hnc]
  · rename_i hf
    obtain ⟨h1, h2⟩ := find_run (w := w) hf
    cases hl
    have hit1 : hit es'.toList 0 none = none := rfl
    rw [hit1] at h1
    obtain ⟨_, H'⟩ := H.putObj e2 e3 (.map (e5.push (e := { key := k', val := x, born := c }) (e' := { key := k', val := x', born := c }) ⟨hp, rfl, hx, rfl⟩) (c := c + 1))
    refine ⟨_, ?_, H'⟩
    simp [run_underlying hu, run_getMap e4, hcr, h1, Result.andThen, run_setMap e4 hnc]

def entryV (P : Program) (t : TypeId) (m k : Value) (h : AHeap) : Option (Value × AHeap) :=
  match P.underlying t with
  | some (.map kt et) => match mapAt h m with
    | some (r, es, c) => match checkV P false kt k with
      | true => match findV P kt k (es.toList.map (·.key)) with
        | some (some i) => match keyStays es.toList i k with
          | true => match es.toList[i]? with
            | some e => some (.tuple #[e.val, goInt e.born], h.put r (.obj (.map (es.modify i fun e => { e with key := k }) c)))
            | none => none
          | false => none
        | some none => match P.info? et with
          | some i => match i.zero with
            | some z => some (.tuple #[z, goInt c], h.put r (.obj (.map (es.push { key := k, val := z, born := c }) (c + 1))))
            | none => none
          | none => none
        | none => none
      | false => none
    | none => none
  | _ => none
theorem entry_run (G : Good P) (H : HR w0 base φ h w) {t : TypeId} (hel : hasEl P t = true) {m m' k k' : Value} (hm : VR φ m m') (hk : VR φ k k') {v : Value} (hl : entryV P t m k h = some (v, h')) : RunV P w0 base φ w v h' (Instr.mapEntry t m' k') := by
  unfold entryV at hl
  split at hl <;> first | (cases hl; done) | skip
  rename_i kt et hu
  split at hl <;> first | (cases hl; done) | skip
  rename_i r es c hma
  obtain ⟨r', es', e1, e2, e3, e4, e5⟩ := mapAt_r H hm hma
  subst e1
  split at hl <;> first | (cases hl; done) | skip
  rename_i hc
  obtain ⟨rfl, hp, hcr⟩ := check_run (w := w) hc hk
  have hnc : ∀ c1 e f, (Obj.map es' c) ≠ .cells c1 e f := fun _ _ _ e => by cases e
  unfold Instr.mapEntry
  rw [← e5.keys] at hl
  split at hl <;> first | (cases hl; done) | skip
  · rename_i i hf
    obtain ⟨h1, h2⟩ := find_run (w := w) hf
    split at hl <;> first | (cases hl; done) | skip
    rename_i hks
    split at hl <;> first | (cases hl; done) | skip
    rename_i e hei
    cases hl
    have hlt := h2 i rfl
    have he' : es'[i]? = some (es'.toList[i]'hlt) := by simp
    have hit1 : hit es'.toList 0 (some i) = some (i, (es'.toList[i]'hlt).val) := by
      show Option.map (fun e => (i, e.val)) es'.toList[i]? = _
      rw [List.getElem?_eq_getElem hlt]
      rfl
    rw [hit1] at h1
    have hee := e5.2 i e _ (by simpa using hei) he'
    obtain ⟨_, H'⟩ := H.putObj e2 e3 (.map (e5.modify i (f := fun e => { e with key := k' }) (f' := fun e => { e with key := k' }) fun e e' hee => ⟨hp, rfl, hee.val, hee.born⟩) (c := c))
    generalize es'.toList[i]'hlt = e' at *
    have hks' := keyStays_run (P := P) (w := w) e5 hks
    rw [he'] at hks'
    have hv := (AsR.one hee.val).push (x := goInt e.born) (y := goInt e'.born) (by rw [hee.born]; exact .int)
    refine ⟨φ, .tuple #[e'.val, goInt e'.born], _, ?_, .tuple hv.1 hv.2, H', Ext.refl _⟩
    simp only [Option.map_some, Option.getD_some] at hks'
    simp [run_underlying hu, run_getMap e4, hcr, h1, Result.andThen, he', hks', run_setMap e4 hnc]
  · rename_i hf
    obtain ⟨h1, h2⟩ := find_run (w := w) hf
    split at hl <;> first | (cases hl; done) | skip
    rename_i i hi
    split at hl <;> first | (cases hl; done) | skip
    rename_i z hz
    cases hl
    have hit1 : hit es'.toList 0 none = none := rfl
    rw [hit1] at h1
    have hzp := (G.zero et i z (hasEl_map hel hu) hi hz).vr (φ := φ)
    obtain ⟨_, H'⟩ := H.putObj e2 e3 (.map (e5.push (e := { key := k', val := z, born := c }) (e' := { key := k', val := z, born := c }) ⟨hp, rfl, hzp, rfl⟩) (c := c + 1))
    have hv := (AsR.one hzp).push (x := goInt c) (y := goInt c) .int
    refine ⟨φ, .tuple #[z, goInt c], _, ?_, .tuple hv.1 hv.2, H', Ext.refl _⟩
    simp [run_underlying hu, run_getMap e4, hcr, h1, Result.andThen, zeroValue, typeInfo, hi, hz, run_setMap e4 hnc]
def entryStoreV (m s v : Value) (h : AHeap) : Option AHeap :=
  match mapAt h m with
  | some (r, es, c) => match s with
    | .int _ b => match es.findIdx? (fun e => (e.born : Int) == b) with
      | some i => some (h.put r (.obj (.map (es.modify i fun e => { e with val := v }) c)))
      | none => none
    | _ => none
  | none => none
theorem EL.findIdx {l l' : List MapEntry} (h : EL φ l l') (b : Int) : l.findIdx? (fun e => (e.born : Int) == b) = l'.findIdx? (fun e => (e.born : Int) == b) := by
  induction h with
  | nil => rfl
  | @cons e e' _ _ he _ ih => rw [List.findIdx?_cons, List.findIdx?_cons, he.born, ih]
theorem entryStore_run (H : HR w0 base φ h w) {t : TypeId} {m m' s s' x x' : Value} (hm : VR φ m m') (hs : VR φ s s') (hx : VR φ x x') (hl : entryStoreV m s x h = some h') : RunU P w0 base φ w h' (Instr.entryStore t m' s' x') := by
  unfold entryStoreV at hl
  split at hl <;> first | (cases hl; done) | skip
  rename_i r es c hma
  obtain ⟨r', es', e1, e2, e3, e4, e5⟩ := mapAt_r H hm hma
  subst e1
  split at hl <;> first | (cases hl; done) | skip
  rename_i kd b
  split at hl <;> first | (cases hl; done) | skip
  rename_i i hi
  cases hl
  cases hs
  have hi' : es'.findIdx? (fun e => (e.born : Int) == b) = some i := by
    have toL : ∀ (a : Array MapEntry) (p : MapEntry → Bool), a.findIdx? p = a.toList.findIdx? p := fun a p => by cases a; simp
    rw [toL] at hi ⊢
    rw [← e5.toL.findIdx]; exact hi
  have hnc : ∀ c1 e f, (Obj.map es' c) ≠ .cells c1 e f := fun _ _ _ e => by cases e
  obtain ⟨_, H'⟩ := H.putObj e2 e3 (.map (e5.modify i (f := fun e => { e with val := x }) (f' := fun e => { e with val := x' }) fun e e' hee => ⟨hee.plain, hee.same, hx, hee.born⟩) (c := c))
  refine ⟨_, ?_, H'⟩
  unfold Instr.entryStore
  simp [run_getMap e4, asInt, asIntOf, Result.andThen, hi', run_setMap e4 hnc]
def deleteV (P : Program) (t : TypeId) (m k : Value) (h : AHeap) : Option AHeap :=
  match P.underlying t with
  | some (.map kt _) => match mapAt h m with
    | some (r, es, c) => match checkV P es.isEmpty kt k with
      | true => match findV P kt k (es.toList.map (·.key)) with
        | some (some i) => some (h.put r (.obj (.map (es.eraseIdxIfInBounds i) c)))
        | some none => some (h.put r (.obj (.map es c)))
        | none => none
      | false => none
    | none => none
  | _ => none
theorem EL.erase {l l' : List MapEntry} (h : EL φ l l') : ∀ i, EL φ (l.eraseIdx i) (l'.eraseIdx i) := by
  induction h with
  | nil => intro i; exact .nil
  | cons he ht ih =>
    intro i
    cases i with
    | zero => exact ht
    | succ i => exact .cons he (ih i)
theorem EntriesR.erase {es es' : Array MapEntry} (he : EntriesR φ es es') (i : Nat) : EntriesR φ (es.eraseIdxIfInBounds i) (es'.eraseIdxIfInBounds i) := by
  unfold Array.eraseIdxIfInBounds
  by_cases hi : i < es.size
  · rw [dif_pos hi, dif_pos (he.1 ▸ hi)]
    refine EL.toE ?_
    rw [Array.toList_eraseIdx, Array.toList_eraseIdx]
    exact he.toL.erase i
  · rw [dif_neg hi, dif_neg (he.1 ▸ hi)]
    exact he
theorem delete_run (H : HR w0 base φ h w) {t ty : TypeId} {ts : Array TypeId} (hts : ts[0]? = some t) {m m' k k' : Value} (hm : VR φ m m') (hk : VR φ k k') (hl : deleteV P t m k h = some h') : ∃ w', (Builtin.delete_ ts ty #[m', k']).run P w = .ok (.tuple #[]) w' ∧ HR w0 base φ h' w' := by
  unfold deleteV at hl
  split at hl <;> first | (cases hl; done) | skip
  rename_i kt et hu
  split at hl <;> first | (cases hl; done) | skip
  rename_i r es c hma
  obtain ⟨r', es', e1, e2, e3, e4, e5⟩ := mapAt_r H hm hma
  subst e1
  split at hl <;> first | (cases hl; done) | skip
  rename_i hc
  obtain ⟨rfl, hp, hcr⟩ := check_run (w := w) hc hk
  rw [e5.empty] at hcr
  have hnc : ∀ c1 e f, (Obj.map es' c) ≠ .cells c1 e f := fun _ _ _ e => by cases e
  unfold Builtin.delete_
  rw [← e5.keys] at hl
  split at hl <;> first | (cases hl; done) | skip
  · rename_i i hf
    obtain ⟨h1, h2⟩ := find_run (w := w) hf
    cases hl
    have hlt := h2 i rfl
    have hit1 : hit es'.toList 0 (some i) = some (i, (es'.toList[i]'hlt).val) := by
      show Option.map (fun e => (i, e.val)) es'.toList[i]? = _
      rw [List.getElem?_eq_getElem hlt]
      rfl
    rw [hit1] at h1
    obtain ⟨_, H'⟩ := H.putObj e2 e3 (.map (e5.erase i) (c := c))
    refine ⟨_, ?_, H'⟩
    simp [hts, run_underlying hu, run_getMap e4, hcr, h1, Result.andThen, run_setMap e4 hnc]
  · rename_i hf
    obtain ⟨h1, h2⟩ := find_run (w := w) hf
    cases hl
    have hit1 : hit es'.toList 0 none = none := rfl
    rw [hit1] at h1
    obtain ⟨_, H'⟩ := H.putObj e2 e3 (.map e5 (c := c))
    refine ⟨_, ?_, H'⟩
    simp [hts, run_underlying hu, run_getMap e4, hcr, h1, Result.andThen, run_setMap e4 hnc]
end
end
end Go.Ab

/- An evaluator of the model's code over an abstract heap: an operation. -/
namespace Go.Ab
open Go.RowKit
noncomputable section

/-- Functions of the library without a body that the evaluator knows. -/
inductive XKind where
  | aload | astore | aswap | acas | aadd | same
def xrun (k : IntKind) : XKind → Array Value → Sem Value
  | .aload => Extern.Atomic.loadT (.int k)
  | .astore => Extern.Atomic.storeT
  | .aswap => Extern.Atomic.swapT (.int k)
  | .acas => Extern.Atomic.casT (.int k)
  | .aadd => Extern.Atomic.update (Op.intArith .add) k true
  | .same => Extern.AbiNoEscape.same
abbrev XTab : Type := FuncId → Option (IntKind × XKind)
def XOk (P : Program) (xt : XTab) : Prop := ∀ f k x, xt f = some (k, x) → ∃ fn, P.funcs[f]? = some fn ∧ (fn.name == "runtime.NumGoroutine") = false ∧ fn.body.isNone = true ∧ Extern.findNext fn = none ∧ Extern.find fn = some (xrun k x)

section
variable {P : Program} {w0 : World} {base : Nat} {φ : Phi} {h h' : AHeap} {w : World}
theorem sr_touches {a a' : Addr} (h : AddrR φ a a') : SR P EqR φ (Extern.Atomic.touchesFrozen a) (Extern.Atomic.touchesFrozen a') := by
  unfold Extern.Atomic.touchesFrozen
  cases h with
  | @mk b c o hb =>
    refine SR.bind' (R := fun _ x y => x = none ∧ y = none) ?_ fun φ1 x y he hxy => ?_
    · unfold viewAt
      refine SR.bind' (R := EqR) (.shape hb fun x => .pure rfl) fun φ1 x y he hxy => ?_
      cases hxy
      cases x with
      | some p => exact .pure ⟨rfl, rfl⟩
      | none =>
        refine .getObj (he _ _ hb) fun o o' ho => ?_
        cases ho <;> exact .pure ⟨rfl, rfl⟩
    · obtain ⟨rfl, rfl⟩ := hxy
      exact .frozen ((AddrR.mk hb).mono he) fun x => .pure rfl
theorem sr_aread (k : IntKind) {a a' : Addr} (h : AddrR φ a a') : SR P VR φ (Extern.Atomic.read (.int k) a) (Extern.Atomic.read (.int k) a') := by
  unfold Extern.Atomic.read
  refine SR.bind' (R := VR) (.load h fun _ _ hv => .pure hv) fun φ1 v u he hv => ?_
  cases hv with
  | @int k' n =>
    simp only []
    by_cases e : k = k'
    · simp only [if_pos e]; exact .pure .int
    · rw [if_neg e]; exact .halt
  | ptr ha => cases k <;> first | exact .halt | exact .pure (.ptr ha)
  | _ => cases k <;> exact .halt
theorem sr_intArith (op : BinOp) (k : IntKind) (x y : Int) : SR P VR φ (Op.intArith op k x y) (Op.intArith op k x y) := by
  unfold Op.intArith
  split <;> first | exact .pure .int | exact .halt
def caseArgs (as : Array Value) : Nat := as.size
theorem sr_x (k : IntKind) (x : XKind) (hx : x ≠ .acas) {as bs : Array Value} (h : AsR φ as bs) : SR P VR φ (xrun k x as) (xrun k x bs) := by
  obtain ⟨l⟩ := as
  obtain ⟨m⟩ := bs
  have hg := h.2
  have none_ : ∀ φ1, SR P VR φ1 (Pure.pure Extern.Atomic.none_) (Pure.pure Extern.Atomic.none_) := fun _ => .pure vr_undef
  match l, m, h.1 with
  | [], [], _ => cases x <;> exact .halt
  | [a], [a'], _ =>
    have ha : VR φ a a' := hg 0 a a' rfl rfl
    cases x with
    | aload => exact SR.bind' (sr_asAddr ha) fun φ1 p q _ hp => sr_aread k hp
    | same => exact .pure ha
    | _ => exact .halt
  | [a, b], [a', b'], _ =>
    have ha : VR φ a a' := hg 0 a a' rfl rfl
    have hb : VR φ b b' := hg 1 b b' rfl rfl
    cases x with
    | astore => exact SR.bind' (sr_asAddr ha) fun φ1 p q he hp => SR.bindEq (.store hp (hb.mono he) (.pure rfl)) fun φ2 _ _ => none_ φ2
    | aswap =>
      refine SR.bind' (sr_asAddr ha) fun φ1 p q he hp => ?_
      refine SR.bind' (sr_aread k hp) fun φ2 v u he2 hv => ?_
      exact SR.bindEq (.store (hp.mono he2) ((hb.mono he).mono he2) (.pure rfl)) fun φ3 _ he3 => .pure (hv.mono he3)
    | aadd =>
      refine SR.bind' (sr_asAddr ha) fun φ1 p q he hp => ?_
      refine SR.bind' (sr_aread k hp) fun φ2 v u he2 hv => ?_
      refine SR.bindEq (sr_asInt hv) fun φ3 n he3 => ?_
      refine SR.bindEq (sr_asInt (((hb.mono he).mono he2).mono he3)) fun φ4 n2 he4 => ?_
      refine SR.bind' (sr_intArith .add k n n2) fun φ5 v2 u2 he5 hv2 => ?_
      exact SR.bindEq (.store ((((hp.mono he2).mono he3).mono he4).mono he5) hv2 (.pure rfl)) fun φ6 _ he6 => .pure (hv2.mono he6)
    | _ => exact .halt
  | [a, b, c], [a', b', c'], _ =>
    have ha : VR φ a a' := hg 0 a a' rfl rfl
    have hb : VR φ b b' := hg 1 b b' rfl rfl
    have hc : VR φ c c' := hg 2 c c' rfl rfl
    cases x <;> first | exact absurd rfl hx | exact .halt
  | a :: b :: c :: d :: l, a' :: b' :: c' :: d' :: m, _ => cases x <;> exact .halt
  | [], _ :: _, e => simp at e
  | _ :: _, [], e => simp at e
  | [_], _ :: _ :: _, e => simp at e
  | _ :: _ :: _, [_], e => simp at e
  | [_, _], _ :: _ :: _ :: _, e => simp at e
  | _ :: _ :: _ :: _, [_, _], e => simp at e
  | [_, _, _], _ :: _ :: _ :: _ :: _, e => simp at e
  | _ :: _ :: _ :: _ :: _, [_, _, _], e => simp at e

/-- A function of the library without a body. -/
def xV (P : Program) (k : IntKind) (x : XKind) (args : Array Value) (h : AHeap) : Option (Value × AHeap) :=
  match x with
  | .acas => match args.toList with
    | [.pointer (some a), .int k1 old, .int k2 new] => match aload h a with
      | some (.int k0 v) => if k0 = k ∧ k1 = k ∧ k2 = k then
          if v = old then match astore h a (.int k new) with
            | some h' => some (.bool true, h')
            | none => none
          else some (.bool false, h)
        else none
      | _ => none
    | _ => none
  | x => arun P (xrun k x args) h
theorem x_run (H : HR w0 base φ h w) {xt : XTab} (hxt : XOk P xt) {f : FuncId} {k : IntKind} {x : XKind} (hf : xt f = some (k, x)) {as bs : Array Value} (hab : AsR φ as bs) {v : Value} (hr : xV P k x as h = some (v, h')) :
    ∃ φ' u w', (callFunc f bs).run P w = .ok (.value u) w' ∧ VR φ' v u ∧ HR w0 base φ' h' w' ∧ Ext φ φ' := by
  obtain ⟨fn, h1, h2, h3, h4, h5⟩ := hxt f k x hf
  have gen : ∀ x, x ≠ .acas → Extern.find fn = some (xrun k x) → arun P (xrun k x as) h = some (v, h') → ∃ φ' u w', (callFunc f bs).run P w = .ok (.value u) w' ∧ VR φ' v u ∧ HR w0 base φ' h' w' ∧ Ext φ φ' := by
    intro x hx h5 hr
    obtain ⟨φ', u, w', e, r⟩ := arun_sound (sr_x k x hx hab) H hr
    refine ⟨φ', u, w', ?_, r⟩
    rw [run_callFunc_extern h1 h2 h3 h4 h5, e]
    rfl
  cases x with
  | acas =>
    unfold xV at hr
    simp only at hr
    split at hr <;> first | (cases hr; done) | skip
    rename_i a k1 old k2 new hl
    split at hr <;> first | (cases hr; done) | skip
    rename_i k0 v0 hv0
    split at hr <;> first | (cases hr; done) | skip
    rename_i hk
    obtain ⟨rfl, rfl, rfl⟩ := hk
    obtain ⟨l⟩ := as
    obtain ⟨m⟩ := bs
    simp only at hl
    subst hl
    have hg := hab.2
    have hm3 : ∃ b1 b2 b3, m = [b1, b2, b3] := by
      match m, hab.1 with
      | [b1, b2, b3], _ => exact ⟨b1, b2, b3, rfl⟩
      | [], e => simp at e
      | [_], e => simp at e
      | [_, _], e => simp at e
      | _ :: _ :: _ :: _ :: _, e => simp at e
    obtain ⟨b1, b2, b3, rfl⟩ := hm3
    have c1 : VR φ (.pointer (some a)) b1 := hg 0 _ b1 rfl rfl
    have c2 : VR φ (.int k2 old) b2 := hg 1 _ b2 rfl rfl
    have c3 : VR φ (.int k2 new) b3 := hg 2 _ b3 rfl rfl
    cases c2
    cases c3
    cases c1 with
    | @ptr _ a' ha =>
      obtain ⟨u, hu, hvu⟩ := aload_sound H ha hv0
      cases hvu
      by_cases e : v0 = old
      · rw [if_pos e] at hr
        subst e
        split at hr <;> first | (cases hr; done) | skip
        rename_i h1' hst
        cases hr
        obtain ⟨_, hz, _, H'⟩ := astore_sound H ha (.int (k := k2) (n := new)) hst
        exact ⟨φ, .bool true, _, run_call_cas_hit h1 h2 h3 h4 k2 h5 hu hz, .bool, H', Ext.refl _⟩
      · rw [if_neg e] at hr
        cases hr
        have hz : w.frozen? a' = false := by
          cases ha with
          | @mk b c o hφ =>
            unfold aload at hv0
            cases hg : h.blocks.get b with
            | none => simp [hg] at hv0
            | some y =>
              cases y with
              | cells e1 n1 x1 ro1 kin1 t1 =>
                obtain ⟨c', arr, q1, q2, _⟩ := H.blocks b _ (H.real hφ) hg
                have : c' = c := Option.some.inj (q1.symm.trans hφ)
                subst this
                simp [World.frozen?, q2]
              | obj o => simp [hg] at hv0
              | dead => simp [hg] at hv0
        exact ⟨φ, .bool false, w, run_call_cas_miss h1 h2 h3 h4 k2 h5 hu hz e, .bool, H, Ext.refl _⟩
  | aload => exact gen _ (by simp) h5 hr
  | astore => exact gen _ (by simp) h5 hr
  | aswap => exact gen _ (by simp) h5 hr
  | aadd => exact gen _ (by simp) h5 hr
  | same => exact gen _ (by simp) h5 hr
end
end
end Go.Ab

/- An evaluator of the model's code over an abstract heap: unsafe pointers, strings out of bytes, zeros that are appended, the entry of an iterator. -/
namespace Go.Ab
open Go.RowKit
noncomputable section
/-- A pointer turned into an unsafe pointer, and back. -/
def unsafeV (P : Program) (s d : TypeId) (a : Addr) (h : AHeap) : Option Value :=
  match a.spot, h.blocks.get a.block with
  | none, some (.cells e n true _ _ _) => match P.underlying s, P.underlying d with
    | some (.pointer t), some .unsafePointer => match P.info? t with
      | some i => match Nat.blt a.off n && Nat.blt 0 i.size with
        | true => some (.pointer (some a))
        | false => none
      | none => none
    | some .unsafePointer, some (.pointer u) => match P.info? u with
      | some _ => match liesAt P P.depth e (n / P.cellsOf e) a.off u 1 with
        | true => some (.pointer (some a))
        | false => none
      | none => none
    | _, _ => none
  | _, _ => none
section
variable {P : Program} {w0 : World} {base : Nat} {φ : Phi} {h h' : AHeap} {w : World}
theorem unsafe_run (H : HR w0 base φ h w) {s d : TypeId} {a a' : Addr} (ha : AddrR φ a a') {v : Value} (hv : unsafeV P s d a h = some v) :
    RunV P w0 base φ w v h (convert s d (.pointer (some a'))) := by
  cases ha with
  | @mk b c o hφ =>
    unfold unsafeV at hv
    simp only at hv
    split at hv <;> first | (cases hv; done) | skip
    rename_i e n ro kin t _ hg
    have hb := H.blocks b _ (H.real hφ) hg
    obtain ⟨c', arr, q1, q2, q3, q4⟩ := hb
    obtain rfl : c' = c := Option.some.inj (q1.symm.trans hφ)
    have hn : arr.size = n := q3.2.1 rfl
    have hsh : w.shape? c' = some (e, n) := by simp [World.shape?, q2, hn]
    have hseen : (Conv.seenAt ⟨c', o, none⟩).run P w = .ok ⟨c', o, none⟩ w := by simp [Conv.seenAt, viewAt, shape, Sem.run, hsh, Result.andThen]
    have hinfo : ∀ (t : TypeId) (i : TypeInfo), P.info? t = some i → (typeInfo t).run P w = .ok i w := fun t i h => by simp [typeInfo, h]
    split at hv <;> first | (cases hv; done) | skip
    · rename_i t hs hd
      split at hv <;> first | (cases hv; done) | skip
      rename_i i hi
      split at hv <;> first | (cases hv; done) | skip
      rename_i hc
      cases hv
      simp only [Bool.and_eq_true] at hc
      have h1 : o < n := by simpa using hc.1
      have h2 : 0 < i.size := by simpa using hc.2
      refine ⟨φ, .pointer (some ⟨c', o, none⟩), w, ?_, .ptr (.mk hφ), H, Ext.refl _⟩
      have h3 : ¬ n ≤ o := by omega
      have h4 : ¬ i.size = 0 := by omega
      simp [convert, Conv.unsafePointer, run_underlying hs, run_underlying hd, hseen, cellsIn, shape, Sem.run, hsh, sizeOf, hinfo _ _ hi, h1, h3, h4, Result.andThen]
    · rename_i u hs hd
      split at hv <;> first | (cases hv; done) | skip
      rename_i i hi
      split at hv <;> first | (cases hv; done) | skip
      rename_i hc
      cases hv
      refine ⟨φ, .pointer (some ⟨c', o, none⟩), w, ?_, .ptr (.mk hφ), H, Ext.refl _⟩
      simp [convert, Conv.unsafePointer, run_underlying hs, run_underlying hd, hseen, variablesAt, shape, program, Sem.run, hsh, sizeOf, hinfo _ _ hi, hc, Result.andThen]

/-! ### Bytes read as a string -/
def bytesLoop (cs : Array Value) : Sem Value := do
  let mut s := ByteArray.empty
  for c in cs do
    let .int .u8 n := c | stuck "bytesToString: byte expected"
    s := s.push (UInt8.ofNat n.toNat)
  pure (.string s)
theorem bytesToString_eq (a : Addr) (n k : Nat) : Conv.bytesToString (.slice (some a) n k) = (do let cs ← loadCells a n; bytesLoop cs) := rfl
def strV (v : Value) : Option Value := match v with
  | .string s => some (.string s)
  | _ => none
def bytesV (P : Program) (a : Addr) (n : Nat) (h : AHeap) : Option (Value × AHeap) :=
  match arun P (loadCells a n) h with
  | some (cs, h2) => match allB plainB cs.toList with
    | true => match qrun P (bytesLoop cs) with
      | some v => match strV v with
        | some v => some (v, h2)
        | none => none
      | none => none
    | false => none
  | none => none
theorem plain_list {φ : Phi} : ∀ {l l' : List Value}, allB plainB l = true → AsR φ l.toArray l'.toArray → l' = l := by
  intro l l' h hr
  have hsz : l.length = l'.length := by have := hr.1; simpa using this
  refine List.ext_getElem? fun i => ?_
  rcases Nat.lt_or_ge i l.length with hlt | hge
  · have hlt' : i < l'.length := by omega
    rw [List.getElem?_eq_getElem hlt, List.getElem?_eq_getElem hlt']
    congr 1
    exact plain_eq (φ := φ) (allB_iff h _ (List.getElem_mem hlt)) (hr.2 i _ _ (by simp [hlt]) (by simp [hlt']))
  · have hge' : l'.length ≤ i := by omega
    rw [List.getElem?_eq_none hge, List.getElem?_eq_none hge']
theorem plain_arr {l l' : Array Value} (h : allB plainB l.toList = true) (hr : AsR φ l l') : l' = l := by
  have := plain_list (φ := φ) (l := l.toList) (l' := l'.toList) h (by simpa using hr)
  exact Array.toList_inj.mp this
theorem bytes_run (H : HR w0 base φ h w) {s d e : TypeId} (hs : P.underlying s = some (.slice e)) (hd : P.underlying d = some .string) (he : P.underlying e = some (.int .u8)) {a a' : Addr} (ha : AddrR φ a a') {n k' : Nat} {v : Value} (hv : bytesV P a n h = some (v, h')) :
    RunV P w0 base φ w v h' (convert s d (.slice (some a') n k')) := by
  unfold bytesV at hv
  split at hv <;> first | (cases hv; done) | skip
  rename_i cs h2 hc
  split at hv <;> first | (cases hv; done) | skip
  rename_i hp
  split at hv <;> first | (cases hv; done) | skip
  rename_i v0 hq
  split at hv <;> first | (cases hv; done) | skip
  rename_i v1 hst
  cases hv
  obtain ⟨φ', cs', w', e1, r1, H', he'⟩ := arun_sound (sr_loadCells (P := P) ha n) H hc
  obtain rfl := plain_arr hp r1
  unfold strV at hst
  split at hst <;> first | (cases hst; done) | skip
  rename_i st
  cases hst
  refine ⟨φ', .string st, w', ?_, .string, H', he'⟩
  have hq' := qrun_run P (bytesLoop cs') w' hq
  have hconv : (convert s d (.slice (some a') n k')).run P w = (Conv.bytesToString (.slice (some a') n k')).run P w := by
    simp [convert, run_underlying hs, run_underlying hd, run_underlying he]
  rw [hconv, bytesToString_eq, Sem.run_bind, e1]
  exact hq'

/-! ### The row under a string -/
def killAll : T AObj → List Nat → T AObj
  | t, [] => t
  | t, k :: l => match t.get k with
    | some (.cells _ _ _ _ _ _) => killAll (t.set k .dead) l
    | _ => killAll t l
theorem killAll_or : ∀ (l : List Nat) (t : T AObj) (b : Nat), (killAll t l).get b = t.get b ∨ ((killAll t l).get b = some .dead ∧ t.get b ≠ none)
  | [], t, b => .inl rfl
  | k :: l, t, b => by
    rw [killAll]
    split
    · rename_i e n x ro kin c hk
      rcases killAll_or l (t.set k .dead) b with h1 | ⟨h1, h2⟩
      · rw [T.get_set] at h1
        by_cases e : b = k
        · rw [if_pos e] at h1
          exact .inr ⟨h1, by rw [e, hk]; simp⟩
        · rw [if_neg e] at h1
          exact .inl h1
      · refine .inr ⟨h1, ?_⟩
        rw [T.get_set] at h2
        by_cases e : b = k
        · rw [e, hk]; simp
        · rw [if_neg e] at h2; exact h2
    · exact killAll_or l t b
theorem killAll_mem : ∀ (l : List Nat) (t : T AObj) (b : Nat) (e : TypeId) (n : Nat) (x ro : Bool) (kin : List Nat) (c : T Value), b ∈ l → (killAll t l).get b = some (.cells e n x ro kin c) → False
  | k :: l, t, b, e, n, x, ro, kin, c, hm, hg => by
    rw [killAll] at hg
    rcases List.mem_cons.1 hm with rfl | hm
    · split at hg
      · rcases killAll_or l (t.set b .dead) b with h1 | ⟨h1, _⟩
        · rw [h1, T.get_set, if_pos rfl] at hg; cases hg
        · rw [h1] at hg; cases hg
      · rename_i hn
        rcases killAll_or l t b with h1 | ⟨h1, _⟩
        · rw [h1] at hg; exact hn _ _ _ _ _ _ hg
        · rw [h1] at hg; cases hg
    · split at hg
      · exact killAll_mem l _ b e n x ro kin c hm hg
      · exact killAll_mem l _ b e n x ro kin c hm hg
theorem freeze_heap (w : World) (c o n k : Nat) (h : k ≠ c) : (w.freeze ⟨c, o, none⟩ n).heap[k]? = w.heap[k]? := by
  unfold World.freeze
  split
  · rfl
  · show (w.heap.modify c _)[k]? = _
    rw [Array.getElem?_modify, if_neg (fun e => h e.symm)]
theorem freeze_size (w : World) (a : Addr) (n : Nat) : (w.freeze a n).heap.size = w.heap.size := by
  unfold World.freeze
  split
  · rfl
  · simp
theorem freeze_rest (w : World) (a : Addr) (n : Nat) : (w.freeze a n).os = w.os ∧ (w.freeze a n).tape = w.tape ∧ (w.freeze a n).output = w.output := by
  unfold World.freeze
  split <;> exact ⟨rfl, rfl, rfl⟩
/-- A row that is not written any more is dead to the evaluator. -/
theorem HR.freeze (H : HR w0 base φ h w) {b c : Nat} (hφ : φ b = some c) {e : TypeId} {n : Nat} {x : Bool} {kin : List Nat} {t : T Value} (hg : h.blocks.get b = some (.cells e n x false kin t)) (o m : Nat) :
    HR w0 base φ ⟨(killAll h.blocks kin).set b .dead, h.next⟩ (w.freeze ⟨c, o, none⟩ m) := by
  have hget : ∀ k, ((killAll h.blocks kin).set b .dead).get k = if k = b then some .dead else (killAll h.blocks kin).get k := fun k => T.get_set _ _ _ _
  have alive : ∀ k y, ((killAll h.blocks kin).set b .dead).get k = some y → y ≠ .dead → k ≠ b ∧ h.blocks.get k = some y := by
    intro k y hy hd
    rw [hget] at hy
    by_cases e : k = b
    · rw [if_pos e] at hy; injection hy with hy; exact absurd hy.symm hd
    · rw [if_neg e] at hy
      refine ⟨e, ?_⟩
      rcases killAll_or kin h.blocks k with h1 | ⟨h1, _⟩
      · rw [← h1]; exact hy
      · rw [h1] at hy; injection hy with hy; exact absurd hy.symm hd
  have far : ∀ k y c', ((killAll h.blocks kin).set b .dead).get k = some y → y ≠ .dead → φ k = some c' → c' ≠ c := by
    intro k y c' hy hd hc e
    subst e
    obtain ⟨hk, hy0⟩ := alive k y hy hd
    rcases H.apart b k c' _ y hφ hc hg hy0 (by simp) hd (Ne.symm hk) with hkin | hkin
    · obtain ⟨e1, n1, x1, r1, k1, t1, e2, n2, x2, k2, t2, g1, g2, g3, g4⟩ := hkin
      rw [hg] at g1
      injection g1 with g1
      injection g1 with _ _ _ _ g1 _
      subst g1
      rw [g2] at hy0
      injection hy0 with hy0
      subst hy0
      rw [hget, if_neg hk] at hy
      exact killAll_mem kin h.blocks k _ _ _ _ _ _ g3 hy
    · obtain ⟨e1, n1, x1, r1, k1, t1, e2, n2, x2, k2, t2, g1, g2, g3, g4⟩ := hkin
      rw [hg] at g2
      injection g2 with g2
      injection g2 with _ _ _ g2 _ _
      cases g2
  have hsome : ∀ k, ((killAll h.blocks kin).set b .dead).get k = none → h.blocks.get k = none := by
    intro k hk
    rw [hget] at hk
    by_cases e : k = b
    · rw [if_pos e] at hk; cases hk
    · rw [if_neg e] at hk
      rcases killAll_or kin h.blocks k with h1 | ⟨h1, _⟩
      · rw [← h1]; exact hk
      · rw [h1] at hk; cases hk
  have hb0 := H.lo b c hφ
  refine ⟨fun k y hgh hy => ?_, fun k hk => H.fresh k (hsome k hk), fun k c' hc => ⟨(H.lo k c' hc).1, by rw [freeze_size]; exact (H.lo k c' hc).2⟩, fun b1 b2 c' y1 y2 p1 p2 p3 p4 p5 p6 p7 => ?_, ?_, H.base_le, fun k hk => ⟨(H.ghost k hk).1, fun e => (H.ghost k hk).2 (hsome k e)⟩⟩
  · by_cases hd : y = .dead
    · subst hd; trivial
    · obtain ⟨hk, hy0⟩ := alive k y hy hd
      exact (H.blocks k y hgh hy0).keep (Ext.refl φ).toExt0 fun c' hc => freeze_heap w c o m c' (far k y c' hy hd hc)
  · obtain ⟨k1, z1⟩ := alive b1 y1 p3 p5
    obtain ⟨k2, z2⟩ := alive b2 y2 p4 p6
    have same : ∀ k y, ((killAll h.blocks kin).set b .dead).get k = some y → y ≠ .dead → ∀ y', h.blocks.get k = some y' → ((killAll h.blocks kin).set b .dead).get k = some y' := by
      intro k y hy hd y' hy'
      rw [(alive k y hy hd).2] at hy'
      rw [hy, hy']
    have back : ∀ b1 b2 y1 y2, ((killAll h.blocks kin).set b .dead).get b1 = some y1 → y1 ≠ .dead → ((killAll h.blocks kin).set b .dead).get b2 = some y2 → y2 ≠ .dead → KinR h b1 b2 → KinR ⟨(killAll h.blocks kin).set b .dead, h.next⟩ b1 b2 := by
      intro b1 b2 y1 y2 q1 q2 q3 q4 hk
      obtain ⟨e1, n1, x1, r1, k1, t1, e2, n2, x2, k2, t2, g1, g2, g3, g4⟩ := hk
      exact ⟨e1, n1, x1, r1, k1, t1, e2, n2, x2, k2, t2, same _ _ q1 q2 _ g1, same _ _ q3 q4 _ g2, g3, g4⟩
    exact (H.apart b1 b2 c' y1 y2 p1 p2 z1 z2 p5 p6 p7).imp (back _ _ _ _ p3 p5 p4 p6) (back _ _ _ _ p4 p6 p3 p5)
  · have hr := freeze_rest w ⟨c, o, none⟩ m
    exact ⟨hr.1.trans H.below.os, hr.2.1.trans H.below.tape, hr.2.2.trans H.below.output, by rw [freeze_size]; exact H.below.size, fun k hk => (freeze_heap w c o m k (by omega)).trans (H.below.block k hk)⟩

theorem rowAt_mono (p : Program) (fits : TypeId → Bool) : ∀ (d : Nat) (e : TypeId) (count count' off n : Nat), count ≤ count' → rowAt p fits d e count off n = true → rowAt p fits d e count' off n = true
  | 0, _, _, _, _, _, _, h => by simp [rowAt] at h
  | d + 1, e, count, count', off, n, hc, h => by
    unfold rowAt at h ⊢
    simp only at h ⊢
    by_cases hs : p.cellsOf e = 0
    · rw [if_pos hs] at h; cases h
    · rw [if_neg hs] at h ⊢
      rw [Bool.or_eq_true] at h ⊢
      rcases h with h | h
      · left
        simp only [Bool.and_eq_true, beq_iff_eq, decide_eq_true_eq] at h ⊢
        exact ⟨⟨h.1.1, by omega⟩, h.2⟩
      · right
        rw [Bool.and_eq_true] at h ⊢
        refine ⟨?_, h.2⟩
        have := h.1
        simp only [decide_eq_true_eq] at this ⊢
        omega
theorem liesAt_mono (p : Program) : ∀ (d : Nat) (e : TypeId) (count count' off : Nat) (u : TypeId) (n : Nat), count ≤ count' → liesAt p d e count off u n = true → liesAt p d e count' off u n = true
  | 0, _, _, _, _, _, _, _, h => by simp [liesAt] at h
  | d + 1, e, count, count', off, u, n, hc, h => by
    unfold liesAt at h ⊢
    rw [Bool.or_eq_true] at h ⊢
    rcases h with h | h
    · exact .inl (rowAt_mono p _ _ _ _ _ _ _ hc h)
    · right
      split at h
      · exact liesAt_mono p d _ _ _ _ _ _ hc h
      · cases h
theorem sr_loadBytes : ∀ (n : Nat) {φ : Phi} {a a' : Addr} (acc : ByteArray), AddrR φ a a' → SR P EqR φ (loadBytes a acc n) (loadBytes a' acc n)
  | 0, _, _, _, acc, _ => .pure rfl
  | n + 1, φ, a, a', acc, ha => by
    unfold loadBytes
    refine SR.bind' (sr_load ha) fun φ1 v u he hv => ?_
    cases hv with
    | @int k m =>
      cases k <;> first | exact .halt | exact sr_loadBytes n _ ((ha.mono he).add 1)
    | _ => exact .halt
/-- unsafe.String. -/
def unsafeStrV (P : Program) (pt : TypeId) (a : Addr) (n : Nat) (h : AHeap) : Option (Value × AHeap) :=
  match a with
  | ⟨b, o, none⟩ => match P.underlying pt, h.blocks.get b with
    | some (.pointer u), some (.cells e n0 _ false kin _) => match liesAt P P.depth e (n0 / P.cellsOf e) o u n && (Nat.blt 0 n && Nat.ble n 9223372036854775807) with
      | true => match arun P (loadBytes ⟨b, o, none⟩ .empty n) h with
        | some (s, _) => some (.string s, ⟨(killAll h.blocks kin).set b .dead, h.next⟩)
        | none => none
      | false => none
    | _, _ => none
  | _ => none
theorem still_loadBytes : ∀ (n : Nat) (a : Addr) (acc : ByteArray), Still P (loadBytes a acc n)
  | 0, _, _ => Still.pure _
  | n + 1, a, acc => by
    unfold loadBytes
    refine Still.bind (still_load _) fun v => ?_
    split
    · exact still_loadBytes n _ _
    · exact Still.halt _
theorem unsafeStr_run (H : HR w0 base φ h w) {pt ty : TypeId} {ts : Array TypeId} (hts : ts[0]? = some pt) {a a' : Addr} (ha : AddrR φ a a') {n : Nat} {kd : IntKind} {v : Value} (hv : unsafeStrV P pt a n h = some (v, h')) :
    RunV P w0 base φ w v h' (Builtin.unsafeString_ ts ty #[.pointer (some a'), .int kd (n : Int)]) := by
  cases ha with
  | @mk b c o hφ =>
    unfold unsafeStrV at hv
    simp only at hv
    split at hv <;> first | (cases hv; done) | skip
    rename_i u e n0 x kin t hu hg
    split at hv <;> first | (cases hv; done) | skip
    rename_i hc
    split at hv <;> first | (cases hv; done) | skip
    rename_i s h2 hl
    cases hv
    simp only [Bool.and_eq_true] at hc
    obtain ⟨hc1, hc2, hc3⟩ := hc
    have hn0 : 0 < n := by simpa using hc2
    have hn1 : n ≤ 9223372036854775807 := by simpa using hc3
    obtain ⟨c', arr, q1, q2, q3, q4⟩ := H.blocks b _ (H.real hφ) hg
    obtain rfl : c' = c := Option.some.inj (q1.symm.trans hφ)
    have hsh : w.shape? c' = some (e, arr.size) := by simp [World.shape?, q2]
    have hlie := liesAt_mono P P.depth e (n0 / P.cellsOf e) (arr.size / P.cellsOf e) o u n (Nat.div_le_div_right q3.1) hc1
    obtain ⟨φ', s', w', e1, r1, H', he'⟩ := arun_sound (sr_loadBytes (P := P) n .empty (.mk hφ : AddrR φ ⟨b, o, none⟩ ⟨c', o, none⟩)) H hl
    obtain rfl : s = s' := r1
    obtain rfl : w' = w := still_loadBytes n _ _ _ _ _ e1
    refine ⟨φ, .string s, w'.freeze ⟨c', o, none⟩ n, ?_, .string, H.freeze hφ hg o n, Ext.refl _⟩
    have m1 : ¬ ((n : Int) < 0) := by omega
    have m2 : ¬ ((n : Int) > IntKind.i64.max) := by show ¬ ((n : Int) > 9223372036854775807); omega
    have m3 : ¬ ((n : Int) = 0) := by omega
    have hel : (elemOf pt).run P w' = .ok u w' := by simp [elemOf, run_underlying hu]
    have hva : (variablesAt ⟨c', o, none⟩ u n).run P w' = .ok true w' := by simp [variablesAt, shape, program, Sem.run, hsh, hlie]
    have hdef : ∀ (A : Addr) (y : Int), Builtin.unsafeString_ ts ty #[.pointer (some A), .int kd y] = (do
        let n ← asInt (.int kd y)
        let some pt := ts[0]? | stuck "unsafe.String: no argument types"
        if n < 0 then runtimePanic (.error "unsafe.String: len out of range")
        if n > IntKind.i64.max then unsupported (.unsafePointer "String: a length above the largest int")
        if n = 0 then pure (.string .empty)
        else if ← variablesAt A (← elemOf pt) n.toNat then do
          let s ← loadBytes A .empty n.toNat
          Go.freeze A n.toNat
          pure (.string s)
        else unsupported (.unsafePointer "String: not so many bytes at ptr")) := fun _ _ => rfl
    have m4 : ¬ (9223372036854775807 < (n : Int)) := by omega
    have m5 : ¬ n = 0 := by omega
    rw [hdef]
    simp [asInt, asIntOf, hts, m4, m5, m1, m2, m3, hel, hva, e1, Result.andThen, Go.freeze, Sem.run]

theorem sliceData_run (H : HR w0 base φ h w) {ty : TypeId} {ts : Array TypeId} {a a' : Addr} (ha : AddrR φ a a') {n k' : Nat} (hk : k' ≠ 0) :
    RunV P w0 base φ w (.pointer (some a)) h (Builtin.unsafeSliceData_ ts ty #[.slice (some a') n k']) := by
  refine ⟨φ, .pointer (some a'), w, ?_, .ptr ha, H, Ext.refl _⟩
  have hdef : Builtin.unsafeSliceData_ ts ty #[.slice (some a') n k'] = (do
      if k' ≠ 0 then pure (.pointer (some a'))
      else if (← viewAt a'.block).isSome then pure (.pointer (some a'))
      else pure (.pointer (some ⟨← newObj (.view a' (← elemOf ty)), 0, none⟩))) := rfl
  rw [hdef]
  simp [hk]

/-! ### Zeros that are appended to nil -/
def madeAppV (P : Program) (t xt : TypeId) (s x : Value) (h : AHeap) : Option (Value × AHeap) :=
  match P.underlying t, P.underlying xt with
  | some (.slice e), some (.int _) => match P.info? e with
    | some i => match i.zero with
      | some z => match s, x with
        | .slice none 0 0, .int _ (.ofNat m) => match Nat.blt 0 m && Nat.ble m 9223372036854775807 && Nat.ble (m * i.bytes) 140737488355328 && Nat.blt 0 i.size with
          | true => some (.slice (some ⟨h.next, 0, none⟩) m (unk * (1 + i.size) + m), h.push (.cells e (m * i.size) false false [] (T.ofList (Builtin.zeroCells z.cells m).toList)))
          | false => none
        | _, _ => none
      | none => none
    | none => none
  | _, _ => none
theorem run_append_made {t xt e : TypeId} {i : TypeInfo} {z : Value} (E : ElemI P t e i z) {k : IntKind} (hx : P.underlying xt = some (.int k)) (ty : TypeId) {kd : IntKind} {m : Nat} (h0 : 0 < m) (h63 : m ≤ 9223372036854775807) (hfit : m * i.bytes ≤ 140737488355328) (hsz : i.size ≠ 0) :
    (Builtin.append_ #[t, xt] ty #[.slice none 0 0, .int kd (m : Int)]).run P w =
      .ok (.slice (some ⟨w.heap.size, 0, none⟩) m (grownCap w m 0 e)) (w.drew.alloc (.cells (#[] ++ Builtin.zeroCells z.cells m ++ Builtin.zeroCells z.cells (grownCap w m 0 e - m)) e)) := by
  have hw : IntKind.i64.wrap (m : Int) = (m : Int) := IntWalk.i64_in _ (by omega)
  have hf := growslice_fits (old := 0) h0 hfit
  have h48' : ¬ (281474976710656 < Builtin.nextslicecap m 0 * i.bytes) := by omega
  have h48 : ¬ (281474976710656 < m * i.bytes) := by omega
  have h1 : ¬ ((m : Int) < 0) := by omega
  have h2 : ¬ (m = 0) := by omega
  have h63' : ¬ (9223372036854775807 < (m : Int)) := by omega
  have h4 : ¬ (281474976710656 < (m : Int) * (i.bytes : Int)) := by
    have : ((m * i.bytes : Nat) : Int) = (m : Int) * (i.bytes : Int) := by simp
    omega
  simp [Builtin.append_, run_underlying E.hu, run_underlying hx, sizeOf, typeInfo, zeroValue, asInt, asIntOf, E.hi, E.hz, hw, h1, h2, h4, h48, h63', h48', hsz, Question.forced, Builtin.firstCells, newRow, grownCap]
  intro hz0
  rcases Nat.mul_eq_zero.1 hz0 with hz0 | hz0 <;> contradiction

theorem zeroCells_r (G : Good P) {e : TypeId} (he : hasT P e = true) {i : TypeInfo} {z : Value} (hi : P.info? e = some i) (hz : i.zero = some z) (m : Nat) : ∀ (j : Nat) v, (Builtin.zeroCells z.cells m)[j]? = some v → VR φ v v := by
  intro j v hv
  have hp := plains_r (G.zero e i z he hi hz)
  unfold Builtin.zeroCells at hv
  rw [Array.getElem?_map] at hv
  cases hr : (Array.range (m * z.cells.size))[j]? with
  | none => rw [hr] at hv; cases hv
  | some q =>
    rw [hr] at hv
    simp only [Option.map_some, Option.some.injEq] at hv
    have hs : z.cells.size ≠ 0 := by
      intro h0
      rw [h0, Nat.mul_zero] at hr
      simp at hr
    have hlt : q % z.cells.size < z.cells.size := Nat.mod_lt _ (by omega)
    rw [show z.cells[q % z.cells.size]! = z.cells[q % z.cells.size] from getElem!_pos z.cells _ hlt] at hv
    subst hv
    exact (hp _ (by simp)).vr
theorem made_sound (G : Good P) (S : Sized P) (H : HR w0 base φ h w) (hfree : h.room = true) {t xt ty : TypeId} (he : hasEl P t = true) {s x s' x' : Value} (hs : VR φ s s') (hx : VR φ x x') {v : Value} (ha : madeAppV P t xt s x h = some (v, h')) : RunV P w0 base φ w v h' (Builtin.append_ #[t, xt] ty #[s', x']) := by
  unfold madeAppV at ha
  split at ha <;> first | (cases ha; done) | skip
  rename_i e k hu hxt
  split at ha <;> first | (cases ha; done) | skip
  rename_i i hi
  split at ha <;> first | (cases ha; done) | skip
  rename_i z hz
  split at ha <;> first | (cases ha; done) | skip
  rename_i kd m
  split at ha <;> first | (cases ha; done) | skip
  rename_i hc
  cases ha
  simp only [Bool.and_eq_true] at hc
  obtain ⟨⟨⟨c1, c2⟩, c3⟩, c4⟩ := hc
  have h0 : 0 < m := by simpa using c1
  have h63 : m ≤ 9223372036854775807 := by simpa using c2
  have hfit : m * i.bytes ≤ 140737488355328 := by simpa using c3
  cases hs
  cases hx
  have hee := hasEl_slice he hu
  have hzs := S e i z hee hi hz
  have hsz : i.size ≠ 0 := by have : 0 < i.size := by simpa using c4
                              omega
  · have hrun := run_append_made (w := w) (ty := ty) ⟨hu, hi, hz⟩ hxt (kd := kd) h0 h63 hfit hsz
    obtain ⟨φ2, q1, q2, q3⟩ := grow_push (w := w) (nc := grownCap w m 0 e) (n := 0) (m := m) (old := #[]) (new := Builtin.zeroCells z.cells m) (t := T.ofList (Builtin.zeroCells z.cells m).toList) S H hfree [] hee hi hz (by unfold unk; omega) (by simp) (by rw [zeroCells_size, ← hzs]) (by have := grownCap_le w m 0 e; omega) (by
      intro j v hv
      rw [T.get_ofList] at hv
      have hv' : (Builtin.zeroCells z.cells m)[j]? = some v := by simpa using hv
      have hb := cell_bound hv'
      rw [zeroCells_size, ← hzs] at hb
      exact ⟨by simpa using hb, v, by simpa using hv', zeroCells_r G hee hi hz m j v hv'⟩)
    exact ⟨φ2, _, _, hrun, by simpa using q1, by simpa using q2, q3⟩

/-! ### The entry at which an iterator stands -/
theorem EL.find {φ : Phi} {l l' : List MapEntry} (h : EL φ l l') (p : Nat → Bool) : (l.find? (fun e => p e.born) = none ∧ l'.find? (fun e => p e.born) = none) ∨ ∃ x y, l.find? (fun e => p e.born) = some x ∧ l'.find? (fun e => p e.born) = some y ∧ EntryR φ x y := by
  induction h with
  | nil => exact .inl ⟨rfl, rfl⟩
  | @cons e e' _ _ he _ ih =>
    rw [List.find?_cons, List.find?_cons, ← he.born]
    cases p e.born with
    | true => exact .inr ⟨e, e', rfl, rfl, he⟩
    | false => exact ih
def entryEnd (es : Array MapEntry) (stamp : Nat) : Sem Value := match es.find? (·.born == stamp) with
  | some e => pure (.tuple #[e.key, e.val])
  | none => unsupported (.noEntry "instr/Entry.removed")
def entryMap (st stamp : Nat) (o : Obj) : Sem Value := do
  let .map es clock := o | stuck "Entry: map expected"
  if clock != st then unsupported (.noEntry "instr/Entry: an insertion since the step")
  entryEnd es stamp
def entryOf (m : Nat) (seen : Array Nat) (st : Nat) : Sem Value := do
  let some stamp := seen.back? | stuck "Entry: no step yet"
  entryMap st stamp (← getObj m)
theorem sr_entryEnd {es es' : Array MapEntry} (hes : EntriesR φ es es') (stamp : Nat) : SR P VR φ (entryEnd es stamp) (entryEnd es' stamp) := by
  unfold entryEnd
  have h1 : es.find? (·.born == stamp) = es.toList.find? (fun e => e.born == stamp) := by rw [Array.find?_toList]
  have h2 : es'.find? (·.born == stamp) = es'.toList.find? (fun e => e.born == stamp) := by rw [Array.find?_toList]
  rw [h1, h2]
  rcases hes.toL.find (fun b => b == stamp) with ⟨e1, e2⟩ | ⟨x, y, e1, e2, e3⟩
  · rw [e1, e2]
    exact .halt
  · rw [e1, e2]
    have := (AsR.one e3.key).push e3.val
    exact .pure (.tuple this.1 this.2)
theorem sr_entry {v u : Value} (h : VR φ v u) : SR P VR φ (Instr.entry v) (Instr.entry u) := by
  unfold Instr.entry
  cases h with
  | @ptr a a' ha =>
    cases ha with
    | @mk r r' o hr =>
      cases o with
      | succ o => exact .halt
      | zero =>
        refine .getObj hr fun o o' ho => ?_
        cases ho with
        | @iter m m' s seen st hm =>
          show SR P VR φ (entryOf m seen st) (entryOf m' seen st)
          unfold entryOf
          cases seen.back? with
          | none => exact .halt
          | some stamp =>
            refine .getObj hm fun o o' ho => ?_
            show SR P VR φ (entryMap st stamp o) (entryMap st stamp o')
            unfold entryMap
            cases ho with
            | @map es es' clock hes =>
              cases hc : clock != st with
              | true => simp only [hc]; exact .halt
              | false =>
                simp only [hc]
                exact sr_entryEnd hes stamp
            | _ => exact .halt
        | _ => exact .halt
  | _ => exact .halt
end
end
end Go.Ab
