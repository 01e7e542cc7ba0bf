/- An evaluator of the model's code over an abstract heap: more trees; maps. -/
import Derived.Test.YtmhgicpjeeegcaaGreatAb10
namespace Go.Ab
open Go.RowKit
noncomputable section
section
variable {P : Program} {w0 : World} {base : Nat} {φ : Phi} {h h' : AHeap} {w : World}
theorem AsR.get0 {as bs : Array Value} (h : AsR φ as bs) (i : Nat) : OptVR φ as[i]? bs[i]? := by
  cases ha : as[i]? with
  | none => exact .inl ⟨rfl, h.none ha⟩
  | some x =>
    obtain ⟨y, hy, hr⟩ := h.get ha
    exact .inr ⟨x, y, rfl, hy, hr⟩
theorem sr_copy (ts : Array TypeId) (ty : TypeId) {as bs : Array Value} (h : AsR φ as bs) : SR P VR φ (Builtin.copy_ ts ty as) (Builtin.copy_ ts ty bs) := by
  unfold Builtin.copy_
  rcases h.get0 0 with ⟨e1, e2⟩ | ⟨d, d', e1, e2, hd⟩
  · rw [e1, e2]; cases ts[0]? <;> exact .halt
  · rcases h.get0 1 with ⟨e3, e4⟩ | ⟨s, s', e3, e4, hs⟩
    · rw [e1, e2, e3, e4]; cases ts[0]? <;> exact .halt
    · rw [e1, e2, e3, e4]
      cases ts[0]? with
      | none => exact .halt
      | some t =>
        simp only []
        refine SR.bind' (sr_underlying t) fun φ1 x x' he1 hx => ?_
        obtain ⟨rfl, _⟩ := hx
        cases x with
        | slice elem =>
          simp only []
          have hlen : SR P EqR φ1 (Builtin.lenOf s) (Builtin.lenOf s') := by
            cases hs <;> first | exact .halt | exact .pure rfl
          have fin : ∀ (bs bs' : Option Addr) (dLen : Nat), OptAddrR φ1 bs bs' → SR P VR φ1
              (do let n := Nat.min (← Builtin.lenOf s) dLen
                  let cells ← Builtin.firstCells (← sizeOf elem) n s
                  if let some a := bs then storeCells a cells.toList
                  pure (goInt n))
              (do let n := Nat.min (← Builtin.lenOf s') dLen
                  let cells ← Builtin.firstCells (← sizeOf elem) n s'
                  if let some a := bs' then storeCells a cells.toList
                  pure (goInt n)) := by
            intro b b' dLen hb
            refine SR.bindEq hlen fun φ2 n he2 => ?_
            refine SR.bindEq (sr_sizeOf elem) fun φ3 sz he3 => ?_
            refine SR.bind' (sr_firstCells sz _ (((hs.mono he1).mono he2).mono he3)) fun φ4 c c' he4 hc => ?_
            rcases hb with ⟨rfl, rfl⟩ | ⟨a, a', rfl, rfl, ha⟩
            · exact .pure .int
            · exact SR.bindEq (sr_storeCells _ _ 0 (((ha.mono he2).mono he3).mono he4) hc.ofList) fun φ5 _ _ => .pure .int
          have hd1 := hd.mono he1
          cases hd1 with
          | @slNil n k hk => exact fin none none n (.inl ⟨rfl, rfl⟩)
          | @sl a a' n k k' ha hk => exact fin (some a) (some a') n (.inr ⟨a, a', rfl, rfl, ha⟩)
          | _ => exact .halt
        | _ => exact .halt
theorem sr_len (ts : Array TypeId) (ty : TypeId) {as bs : Array Value} (h : AsR φ as bs) : SR P VR φ (Builtin.len_ ts ty as) (Builtin.len_ ts ty bs) := by
  unfold Builtin.len_
  rcases h.get0 0 with ⟨e1, e2⟩ | ⟨d, d', e1, e2, hd⟩
  · rw [e1, e2]; cases ts[0]? <;> exact .halt
  · rw [e1, e2]
    cases ts[0]? with
    | none => exact .halt
    | some t =>
      simp only []
      refine SR.bind' (sr_underlying t) fun φ1 x x' he1 hx => ?_
      obtain ⟨rfl, _⟩ := hx
      have hd1 := hd.mono he1
      cases x with
      | string => cases hd1 <;> first | exact .halt | exact .pure .int
      | array n e => exact .pure .int
      | slice e => cases hd1 <;> first | exact .halt | exact .pure .int
      | map k e =>
        cases hd1 with
        | mapNil => exact .pure .int
        | map hm =>
          refine .getObj hm fun o o' ho => ?_
          cases ho with
          | @map es es' c hes =>
            show SR P VR φ1 (Sem.pure (goInt es.size)) (Sem.pure (goInt es'.size))
            rw [hes.1]
            exact .pure .int
          | _ => exact .halt
        | _ => exact .halt
      | pointer e =>
        refine SR.bind' (sr_underlying e) fun φ2 y y' he2 hy => ?_
        obtain ⟨rfl, _⟩ := hy
        cases y <;> first | exact .halt | exact .pure .int
      | _ => cases hd1 <;> exact .halt
theorem sr_typeAssert (G : Good P) {v u : Value} (h : VR φ v u) (xt at_ : TypeId) (ht : hasT P at_ = true) (ok : Bool) : SR P VR φ (Instr.typeAssert v xt at_ ok) (Instr.typeAssert u xt at_ ok) := by
  unfold Instr.typeAssert
  have holds : ∀ φ1 (a b : Value), VR φ1 a b → SR P VR φ1 (Pure.pure (if ok then .tuple #[a, .bool true] else a)) (Pure.pure (if ok then .tuple #[b, .bool true] else b)) := fun φ1 a b hab => by
    cases ok with
    | true =>
      have := (AsR.one hab).push (x := .bool true) (y := .bool true) .bool
      exact .pure (.tuple this.1 this.2)
    | false => exact .pure hab
  have fails : ∀ φ1 (a b : Option TypeId) (m : String), SR P VR φ1
      (if ok then (do pure (.tuple #[← zeroValue at_, .bool false])) else runtimePanic (.typeAssertion a b at_ m))
      (if ok then (do pure (.tuple #[← zeroValue at_, .bool false])) else runtimePanic (.typeAssertion a b at_ m)) := fun φ1 a b m => by
    cases ok with
    | true =>
      refine SR.bind' (sr_zero G at_ ht) fun φ2 x y _ hz => ?_
      obtain ⟨rfl, hp⟩ := hz
      have := (AsR.one (hp.vr (φ := φ2))).push (x := .bool false) (y := .bool false) .bool
      exact .pure (.tuple this.1 this.2)
    | false =>
      show SR P VR φ1 (runtimePanic (.typeAssertion a b at_ m)) (runtimePanic (.typeAssertion a b at_ m))
      exact .stops (stops_panic _)
  refine SR.bind' (sr_underlying at_) fun φ1 x x' he1 hx => ?_
  obtain ⟨rfl, _⟩ := hx
  have h1 := h.mono he1
  cases x with
  | interface want =>
    cases h1 with
    | nilIface => exact fails _ _ _ _
    | @iface t a b hab =>
      refine SR.bind' (sr_typeInfo t) fun φ2 i i' he2 hi => ?_
      obtain ⟨rfl, _⟩ := hi
      cases Instr.missingMethod want i.methods with
      | none => exact holds _ _ _ (.iface (hab.mono he2))
      | some m => exact fails _ _ _ _
    | _ => exact .halt
  | _ =>
    cases h1 with
    | nilIface => exact fails _ _ _ _
    | @iface t a b hab =>
      simp only []
      by_cases e : t = at_
      · rw [if_pos e, if_pos e]; exact holds _ _ _ hab
      · rw [if_neg e, if_neg e]; exact fails _ _ _ _
    | _ => exact .halt
theorem sr_range (t : TypeId) {v u : Value} (h : VR φ v u) : SR P VR φ (Instr.range t v) (Instr.range t u) := by
  unfold Instr.range
  have fin : ∀ φ1 (o o' : Obj), OR φ1 o o' → SR P VR φ1 (do pure (.pointer (some ⟨← newObj o, 0, none⟩))) (do pure (.pointer (some ⟨← newObj o', 0, none⟩))) := fun φ1 o o' ho =>
    SR.bind' (R := fun φ a b => φ a = some b) (SR.newObj ho fun _ _ _ _ h => .pure h) fun φ2 a b _ hab => .pure (.ptr (.mk hab))
  refine SR.bind' (sr_underlying t) fun φ1 x x' he1 hx => ?_
  obtain ⟨rfl, _⟩ := hx
  have h1 := h.mono he1
  cases x with
  | string =>
    cases h1 with
    | string => exact fin _ _ _ .str
    | _ => exact .halt
  | map k e =>
    cases h1 with
    | mapNil => exact fin _ _ _ .iterNil
    | @map r r' hm =>
      refine .getObj hm fun o o' ho => ?_
      cases ho with
      | map hes => exact fin _ _ _ (.iter hm)
      | _ => exact .halt
    | _ => exact .halt
  | _ => exact .halt

/-! ### Iterators -/
inductive EL (φ : Phi) : List MapEntry → List MapEntry → Prop
  | nil : EL φ [] []
  | cons {e e' : MapEntry} {l l' : List MapEntry} (h : EntryR φ e e') (h' : EL φ l l') : EL φ (e :: l) (e' :: l')
theorem EL.of {φ : Phi} : ∀ (l l' : List MapEntry), l.length = l'.length → (∀ (i : Nat) x y, l[i]? = some x → l'[i]? = some y → EntryR φ x y) → EL φ l l'
  | [], [], _, _ => .nil
  | [], _ :: _, h, _ => by simp at h
  | _ :: _, [], h, _ => by simp at h
  | a :: l, b :: l', h, hr => .cons (hr 0 a b (by simp) (by simp)) (EL.of l l' (by simpa using h) fun i x y hx hy => hr (i + 1) x y (by simpa using hx) (by simpa using hy))
theorem EntriesR.toL {φ : Phi} {as bs : Array MapEntry} (h : EntriesR φ as bs) : EL φ as.toList bs.toList := EL.of _ _ (by simpa using h.1) fun i x y hx hy => h.2 i x y (by simpa using hx) (by simpa using hy)
theorem EL.length {φ : Phi} {l l' : List MapEntry} (h : EL φ l l') : l.length = l'.length := by
  induction h with
  | nil => rfl
  | cons _ _ ih => simp [ih]
theorem EL.get {φ : Phi} {l l' : List MapEntry} (h : EL φ l l') : ∀ (i : Nat) x y, l[i]? = some x → l'[i]? = some y → EntryR φ x y := by
  induction h with
  | nil => intro i x y hx; simp at hx
  | cons he _ ih =>
    intro i x y hx hy
    cases i with
    | zero => simp at hx hy; subst hx hy; exact he
    | succ i => exact ih i x y (by simpa using hx) (by simpa using hy)
theorem EL.toE {φ : Phi} {as bs : Array MapEntry} (h : EL φ as.toList bs.toList) : EntriesR φ as bs := ⟨by simpa using h.length, fun i x y hx hy => h.get i x y (by simpa using hx) (by simpa using hy)⟩
theorem EL.filter {φ : Phi} {l l' : List MapEntry} (h : EL φ l l') (p : Nat → Bool) : EL φ (l.filter fun e => p e.born) (l'.filter fun e => p e.born) := by
  induction h with
  | nil => exact .nil
  | @cons e e' _ _ he _ ih =>
    rw [List.filter_cons, List.filter_cons, ← he.born]
    cases p e.born with
    | true => exact .cons he ih
    | false => exact ih
theorem EL.all {φ : Phi} {l l' : List MapEntry} (h : EL φ l l') (p : Nat → Bool) : (l.all fun e => p e.born) = (l'.all fun e => p e.born) := by
  induction h with
  | nil => rfl
  | @cons e e' _ _ he _ ih => rw [List.all_cons, List.all_cons, ← he.born, ih]
theorem EntriesR.filter {φ : Phi} {as bs : Array MapEntry} (h : EntriesR φ as bs) (p : Nat → Bool) : EntriesR φ (as.filter fun e => p e.born) (bs.filter fun e => p e.born) := by
  refine EL.toE ?_
  rw [Array.toList_filter, Array.toList_filter]
  exact h.toL.filter p
theorem EntriesR.all {φ : Phi} {as bs : Array MapEntry} (h : EntriesR φ as bs) (p : Nat → Bool) : (as.all fun e => p e.born) = (bs.all fun e => p e.born) := by
  rw [← Array.all_toList, ← Array.all_toList]
  exact h.toL.all p
theorem EntriesR.empty {φ : Phi} {as bs : Array MapEntry} (h : EntriesR φ as bs) : as.isEmpty = bs.isEmpty := by
  simp only [Array.isEmpty, h.1]
theorem EntriesR.append {φ : Phi} {as bs cs ds : Array MapEntry} (h : EntriesR φ as bs) (h' : EntriesR φ cs ds) : EntriesR φ (as ++ cs) (bs ++ ds) := by
  refine ⟨by simp [h.1, h'.1], fun i a b ha hb => ?_⟩
  rw [Array.getElem?_append] at ha hb
  by_cases hi : i < as.size
  · rw [if_pos hi] at ha
    rw [if_pos (h.1 ▸ hi)] at hb
    exact h.2 i a b ha hb
  · rw [if_neg hi] at ha
    rw [if_neg (h.1 ▸ hi)] at hb
    rw [h.1] at ha
    exact h'.2 _ a b ha hb
def nextPick (r m s : Nat) (seen : Array Nat) (clock : Nat) (c : Option (Option MapEntry)) : Sem Value :=
  match c with
  | some (some e) => do
    setObj r (.mapIter (some m) s (seen.push e.born) clock)
    pure (.tuple #[.bool true, e.key, e.val])
  | some none => pure (.tuple #[.bool false])
  | none => stuck "Next: no such candidate"
theorem sr_next {v u : Value} (h : VR φ v u) (b : Bool) (ty : TypeId) : SR P VR φ (Instr.next v b ty) (Instr.next u b ty) := by
  unfold Instr.next
  have over : ∀ φ1, SR P VR φ1 (Pure.pure (.tuple #[.bool false])) (Pure.pure (.tuple #[.bool false])) := fun φ1 => by
    have := AsR.one (φ := φ1) (x := .bool false) (y := .bool false) .bool
    exact .pure (.tuple this.1 this.2)
  cases h with
  | @ptr a a' ha =>
    cases ha with
    | @mk r r' o hr =>
      cases o with
      | succ o => exact .halt
      | zero =>
        refine .getObj hr fun o o' ho => ?_
        cases ho with
        | @str s p =>
          cases b with
          | false => exact .halt
          | true =>
            show SR P VR φ (if p < s.size then _ else _) (if p < s.size then _ else _)
            split
            · refine SR.bindEq (sr_setObj hr .str) fun φ2 _ _ => ?_
              have := ((AsR.one (φ := φ2) (x := .bool true) (y := .bool true) .bool).push (x := goInt p) (y := goInt p) .int).push (x := .int .i32 (Utf8.decode s p).1) (y := .int .i32 (Utf8.decode s p).1) .int
              exact .pure (.tuple this.1 this.2)
            · exact over φ
        | iterNil =>
          cases b with
          | false => exact over φ
          | true => exact .halt
        | @iter m m' s seen st hm =>
          cases b with
          | true => exact .halt
          | false =>
            refine .getObj hm fun o o' ho => ?_
            cases ho with
            | @map es es' clock hes =>
              have fin : SR P VR φ
                  (do let left := es.filter fun e => !seen.contains e.born
                      let old := left.filter (·.born < s)
                      let new := left.filter (·.born ≥ s)
                      let candidates := (if old.isEmpty then #[none] else #[]) ++ (old ++ new).map some
                      match candidates[← choose (.mapNext candidates.size)]? with
                      | some (some e) =>
                        setObj r (.mapIter (some m) s (seen.push e.born) clock)
                        pure (.tuple #[.bool true, e.key, e.val])
                      | some none => pure (.tuple #[.bool false])
                      | none => stuck "Next: no such candidate")
                  (do let left := es'.filter fun e => !seen.contains e.born
                      let old := left.filter (·.born < s)
                      let new := left.filter (·.born ≥ s)
                      let candidates := (if old.isEmpty then #[none] else #[]) ++ (old ++ new).map some
                      match candidates[← choose (.mapNext candidates.size)]? with
                      | some (some e) =>
                        setObj r' (.mapIter (some m') s (seen.push e.born) clock)
                        pure (.tuple #[.bool true, e.key, e.val])
                      | some none => pure (.tuple #[.bool false])
                      | none => stuck "Next: no such candidate") := by
                have hl := hes.filter fun b => !seen.contains b
                have ho := hl.filter fun b => decide (b < s)
                have hn := hl.filter fun b => decide (b ≥ s)
                generalize es.filter (fun e => !seen.contains e.born) = left at *
                generalize es'.filter (fun e => !seen.contains e.born) = left' at *
                simp only []
                generalize left.filter (fun e => decide (e.born < s)) = old at *
                generalize left'.filter (fun e => decide (e.born < s)) = old' at *
                generalize left.filter (fun e => decide (e.born ≥ s)) = new at *
                generalize left'.filter (fun e => decide (e.born ≥ s)) = new' at *
                rw [← ho.empty]
                have hon := ho.append hn
                generalize old ++ new = on at *
                generalize old' ++ new' = on' at *
                generalize hc0 : (if old.isEmpty then #[none] else #[] : Array (Option MapEntry)) = c0
                have hsz : (c0 ++ on.map some).size = (c0 ++ on'.map some).size := by simp [hon.1]
                rw [← hsz]
                refine .choose (fun hq => hq) fun hq => ?_
                show SR P VR φ (nextPick r m s seen clock ((c0 ++ on.map some)[0]?)) (nextPick r' m' s seen clock ((c0 ++ on'.map some)[0]?))
                rw [Array.getElem?_append, Array.getElem?_append]
                by_cases hlt : 0 < c0.size
                · rw [if_pos hlt, if_pos hlt]
                  have hc : c0[0]? = some none := by
                    subst hc0
                    cases hoe : old.isEmpty with
                    | true => rfl
                    | false => rw [hoe] at hlt; simp at hlt
                  rw [hc]
                  exact over φ
                · rw [if_neg hlt, if_neg hlt, Array.getElem?_map, Array.getElem?_map]
                  cases hx : on[0 - c0.size]? with
                  | none => exact .halt
                  | some e =>
                    have hlt2 : 0 - c0.size < on.size := by
                      rcases Nat.lt_or_ge (0 - c0.size) on.size with hl | hg
                      · exact hl
                      · rw [Array.getElem?_eq_none hg] at hx; cases hx
                    have hy : on'[0 - c0.size]? = some (on'[0 - c0.size]'(by rw [← hon.1]; exact hlt2)) := Array.getElem?_eq_getElem _
                    have hr2 := hon.2 _ _ _ hx hy
                    rw [hy]
                    generalize on'[0 - c0.size]'(by rw [← hon.1]; exact hlt2) = e' at hr2
                    show SR P VR φ (setObj r (.mapIter (some m) s (seen.push e.born) clock) >>= fun _ => pure (.tuple #[.bool true, e.key, e.val])) (setObj r' (.mapIter (some m') s (seen.push e'.born) clock) >>= fun _ => pure (.tuple #[.bool true, e'.key, e'.val]))
                    rw [← hr2.born]
                    refine SR.bindEq (sr_setObj hr (.iter hm)) fun φ2 _ he2 => ?_
                    have := ((AsR.one (φ := φ2) (x := .bool true) (y := .bool true) .bool).push (hr2.key.mono he2)).push (hr2.val.mono he2)
                    exact .pure (.tuple this.1 this.2)
              show SR P VR φ (if _ then _ else _) (if _ then _ else _)
              rw [← hes.empty, ← hes.all fun b => decide (b ≥ st)]
              split
              · exact .halt
              · exact fin
            | _ => exact .halt
        | _ => exact .halt
  | ptrNil => exact .halt
  | _ => exact .halt
end
end
end Go.Ab
