/- An evaluator of the model's code over an abstract heap: unsafe pointers, strings out of bytes, zeros that are appended, the entry of an iterator. -/
import Derived.Test.YtmhgicpjeeegcaaGreatAb13
import Derived.IntWalk
namespace Go.Ab
open Go.RowKit
noncomputable section
/-- A pointer turned into an unsafe pointer, and back. -/
def unsafeV (P : Program) (s d : TypeId) (a : Addr) (h : AHeap) : Option Value :=
  match a.spot, h.blocks.get a.block with
  | none, some (.cells e n true _ _ _) => match P.underlying s, P.underlying d with
    | some (.pointer t), some .unsafePointer => match P.info? t with
      | some i => match Nat.blt a.off n && Nat.blt 0 i.size with
        | true => some (.pointer (some a))
        | false => none
      | none => none
    | some .unsafePointer, some (.pointer u) => match P.info? u with
      | some _ => match liesAt P P.depth e (n / P.cellsOf e) a.off u 1 with
        | true => some (.pointer (some a))
        | false => none
      | none => none
    | _, _ => none
  | _, _ => none
section
variable {P : Program} {w0 : World} {base : Nat} {φ : Phi} {h h' : AHeap} {w : World}
theorem unsafe_run (H : HR w0 base φ h w) {s d : TypeId} {a a' : Addr} (ha : AddrR φ a a') {v : Value} (hv : unsafeV P s d a h = some v) :
    RunV P w0 base φ w v h (convert s d (.pointer (some a'))) := by
  cases ha with
  | @mk b c o hφ =>
    unfold unsafeV at hv
    simp only at hv
    split at hv <;> first | (cases hv; done) | skip
    rename_i e n ro kin t _ hg
    have hb := H.blocks b _ (H.real hφ) hg
    obtain ⟨c', arr, q1, q2, q3, q4⟩ := hb
    obtain rfl : c' = c := Option.some.inj (q1.symm.trans hφ)
    have hn : arr.size = n := q3.2.1 rfl
    have hsh : w.shape? c' = some (e, n) := by simp [World.shape?, q2, hn]
    have hseen : (Conv.seenAt ⟨c', o, none⟩).run P w = .ok ⟨c', o, none⟩ w := by simp [Conv.seenAt, viewAt, shape, Sem.run, hsh, Result.andThen]
    have hinfo : ∀ (t : TypeId) (i : TypeInfo), P.info? t = some i → (typeInfo t).run P w = .ok i w := fun t i h => by simp [typeInfo, h]
    split at hv <;> first | (cases hv; done) | skip
    · rename_i t hs hd
      split at hv <;> first | (cases hv; done) | skip
      rename_i i hi
      split at hv <;> first | (cases hv; done) | skip
      rename_i hc
      cases hv
      simp only [Bool.and_eq_true] at hc
      have h1 : o < n := by simpa using hc.1
      have h2 : 0 < i.size := by simpa using hc.2
      refine ⟨φ, .pointer (some ⟨c', o, none⟩), w, ?_, .ptr (.mk hφ), H, Ext.refl _⟩
      have h3 : ¬ n ≤ o := by omega
      have h4 : ¬ i.size = 0 := by omega
      simp [convert, Conv.unsafePointer, run_underlying hs, run_underlying hd, hseen, cellsIn, shape, Sem.run, hsh, sizeOf, hinfo _ _ hi, h1, h3, h4, Result.andThen]
    · rename_i u hs hd
      split at hv <;> first | (cases hv; done) | skip
      rename_i i hi
      split at hv <;> first | (cases hv; done) | skip
      rename_i hc
      cases hv
      refine ⟨φ, .pointer (some ⟨c', o, none⟩), w, ?_, .ptr (.mk hφ), H, Ext.refl _⟩
      simp [convert, Conv.unsafePointer, run_underlying hs, run_underlying hd, hseen, variablesAt, shape, program, Sem.run, hsh, sizeOf, hinfo _ _ hi, hc, Result.andThen]

/-! ### Bytes read as a string -/
def bytesLoop (cs : Array Value) : Sem Value := do
  let mut s := ByteArray.empty
  for c in cs do
    let .int .u8 n := c | stuck "bytesToString: byte expected"
    s := s.push (UInt8.ofNat n.toNat)
  pure (.string s)
theorem bytesToString_eq (a : Addr) (n k : Nat) : Conv.bytesToString (.slice (some a) n k) = (do let cs ← loadCells a n; bytesLoop cs) := rfl
def strV (v : Value) : Option Value := match v with
  | .string s => some (.string s)
  | _ => none
def bytesV (P : Program) (a : Addr) (n : Nat) (h : AHeap) : Option (Value × AHeap) :=
  match arun P (loadCells a n) h with
  | some (cs, h2) => match allB plainB cs.toList with
    | true => match qrun P (bytesLoop cs) with
      | some v => match strV v with
        | some v => some (v, h2)
        | none => none
      | none => none
    | false => none
  | none => none
theorem plain_list {φ : Phi} : ∀ {l l' : List Value}, allB plainB l = true → AsR φ l.toArray l'.toArray → l' = l := by
  intro l l' h hr
  have hsz : l.length = l'.length := by have := hr.1; simpa using this
  refine List.ext_getElem? fun i => ?_
  rcases Nat.lt_or_ge i l.length with hlt | hge
  · have hlt' : i < l'.length := by omega
    rw [List.getElem?_eq_getElem hlt, List.getElem?_eq_getElem hlt']
    congr 1
    exact plain_eq (φ := φ) (allB_iff h _ (List.getElem_mem hlt)) (hr.2 i _ _ (by simp [hlt]) (by simp [hlt']))
  · have hge' : l'.length ≤ i := by omega
    rw [List.getElem?_eq_none hge, List.getElem?_eq_none hge']
theorem plain_arr {l l' : Array Value} (h : allB plainB l.toList = true) (hr : AsR φ l l') : l' = l := by
  have := plain_list (φ := φ) (l := l.toList) (l' := l'.toList) h (by simpa using hr)
  exact Array.toList_inj.mp this
theorem bytes_run (H : HR w0 base φ h w) {s d e : TypeId} (hs : P.underlying s = some (.slice e)) (hd : P.underlying d = some .string) (he : P.underlying e = some (.int .u8)) {a a' : Addr} (ha : AddrR φ a a') {n k' : Nat} {v : Value} (hv : bytesV P a n h = some (v, h')) :
    RunV P w0 base φ w v h' (convert s d (.slice (some a') n k')) := by
  unfold bytesV at hv
  split at hv <;> first | (cases hv; done) | skip
  rename_i cs h2 hc
  split at hv <;> first | (cases hv; done) | skip
  rename_i hp
  split at hv <;> first | (cases hv; done) | skip
  rename_i v0 hq
  split at hv <;> first | (cases hv; done) | skip
  rename_i v1 hst
  cases hv
  obtain ⟨φ', cs', w', e1, r1, H', he'⟩ := arun_sound (sr_loadCells (P := P) ha n) H hc
  obtain rfl := plain_arr hp r1
  unfold strV at hst
  split at hst <;> first | (cases hst; done) | skip
  rename_i st
  cases hst
  refine ⟨φ', .string st, w', ?_, .string, H', he'⟩
  have hq' := qrun_run P (bytesLoop cs') w' hq
  have hconv : (convert s d (.slice (some a') n k')).run P w = (Conv.bytesToString (.slice (some a') n k')).run P w := by
    simp [convert, run_underlying hs, run_underlying hd, run_underlying he]
  rw [hconv, bytesToString_eq, Sem.run_bind, e1]
  exact hq'

/-! ### The row under a string -/
def killAll : T AObj → List Nat → T AObj
  | t, [] => t
  | t, k :: l => match t.get k with
    | some (.cells _ _ _ _ _ _) => killAll (t.set k .dead) l
    | _ => killAll t l
theorem killAll_or : ∀ (l : List Nat) (t : T AObj) (b : Nat), (killAll t l).get b = t.get b ∨ ((killAll t l).get b = some .dead ∧ t.get b ≠ none)
  | [], t, b => .inl rfl
  | k :: l, t, b => by
    rw [killAll]
    split
    · rename_i e n x ro kin c hk
      rcases killAll_or l (t.set k .dead) b with h1 | ⟨h1, h2⟩
      · rw [T.get_set] at h1
        by_cases e : b = k
        · rw [if_pos e] at h1
          exact .inr ⟨h1, by rw [e, hk]; simp⟩
        · rw [if_neg e] at h1
          exact .inl h1
      · refine .inr ⟨h1, ?_⟩
        rw [T.get_set] at h2
        by_cases e : b = k
        · rw [e, hk]; simp
        · rw [if_neg e] at h2; exact h2
    · exact killAll_or l t b
theorem killAll_mem : ∀ (l : List Nat) (t : T AObj) (b : Nat) (e : TypeId) (n : Nat) (x ro : Bool) (kin : List Nat) (c : T Value), b ∈ l → (killAll t l).get b = some (.cells e n x ro kin c) → False
  | k :: l, t, b, e, n, x, ro, kin, c, hm, hg => by
    rw [killAll] at hg
    rcases List.mem_cons.1 hm with rfl | hm
    · split at hg
      · rcases killAll_or l (t.set b .dead) b with h1 | ⟨h1, _⟩
        · rw [h1, T.get_set, if_pos rfl] at hg; cases hg
        · rw [h1] at hg; cases hg
      · rename_i hn
        rcases killAll_or l t b with h1 | ⟨h1, _⟩
        · rw [h1] at hg; exact hn _ _ _ _ _ _ hg
        · rw [h1] at hg; cases hg
    · split at hg
      · exact killAll_mem l _ b e n x ro kin c hm hg
      · exact killAll_mem l _ b e n x ro kin c hm hg
theorem freeze_heap (w : World) (c o n k : Nat) (h : k ≠ c) : (w.freeze ⟨c, o, none⟩ n).heap[k]? = w.heap[k]? := by
  unfold World.freeze
  split
  · rfl
  · show (w.heap.modify c _)[k]? = _
    rw [Array.getElem?_modify, if_neg (fun e => h e.symm)]
theorem freeze_size (w : World) (a : Addr) (n : Nat) : (w.freeze a n).heap.size = w.heap.size := by
  unfold World.freeze
  split
  · rfl
  · simp
theorem freeze_rest (w : World) (a : Addr) (n : Nat) : (w.freeze a n).os = w.os ∧ (w.freeze a n).tape = w.tape ∧ (w.freeze a n).output = w.output := by
  unfold World.freeze
  split <;> exact ⟨rfl, rfl, rfl⟩
/-- A row that is not written any more is dead to the evaluator. -/
theorem HR.freeze (H : HR w0 base φ h w) {b c : Nat} (hφ : φ b = some c) {e : TypeId} {n : Nat} {x : Bool} {kin : List Nat} {t : T Value} (hg : h.blocks.get b = some (.cells e n x false kin t)) (o m : Nat) :
    HR w0 base φ ⟨(killAll h.blocks kin).set b .dead, h.next⟩ (w.freeze ⟨c, o, none⟩ m) := by
  have hget : ∀ k, ((killAll h.blocks kin).set b .dead).get k = if k = b then some .dead else (killAll h.blocks kin).get k := fun k => T.get_set _ _ _ _
  have alive : ∀ k y, ((killAll h.blocks kin).set b .dead).get k = some y → y ≠ .dead → k ≠ b ∧ h.blocks.get k = some y := by
    intro k y hy hd
    rw [hget] at hy
    by_cases e : k = b
    · rw [if_pos e] at hy; injection hy with hy; exact absurd hy.symm hd
    · rw [if_neg e] at hy
      refine ⟨e, ?_⟩
      rcases killAll_or kin h.blocks k with h1 | ⟨h1, _⟩
      · rw [← h1]; exact hy
      · rw [h1] at hy; injection hy with hy; exact absurd hy.symm hd
  have far : ∀ k y c', ((killAll h.blocks kin).set b .dead).get k = some y → y ≠ .dead → φ k = some c' → c' ≠ c := by
    intro k y c' hy hd hc e
    subst e
    obtain ⟨hk, hy0⟩ := alive k y hy hd
    rcases H.apart b k c' _ y hφ hc hg hy0 (by simp) hd (Ne.symm hk) with hkin | hkin
    · obtain ⟨e1, n1, x1, r1, k1, t1, e2, n2, x2, k2, t2, g1, g2, g3, g4⟩ := hkin
      rw [hg] at g1
      injection g1 with g1
      injection g1 with _ _ _ _ g1 _
      subst g1
      rw [g2] at hy0
      injection hy0 with hy0
      subst hy0
      rw [hget, if_neg hk] at hy
      exact killAll_mem kin h.blocks k _ _ _ _ _ _ g3 hy
    · obtain ⟨e1, n1, x1, r1, k1, t1, e2, n2, x2, k2, t2, g1, g2, g3, g4⟩ := hkin
      rw [hg] at g2
      injection g2 with g2
      injection g2 with _ _ _ g2 _ _
      cases g2
  have hsome : ∀ k, ((killAll h.blocks kin).set b .dead).get k = none → h.blocks.get k = none := by
    intro k hk
    rw [hget] at hk
    by_cases e : k = b
    · rw [if_pos e] at hk; cases hk
    · rw [if_neg e] at hk
      rcases killAll_or kin h.blocks k with h1 | ⟨h1, _⟩
      · rw [← h1]; exact hk
      · rw [h1] at hk; cases hk
  have hb0 := H.lo b c hφ
  refine ⟨fun k y hgh hy => ?_, fun k hk => H.fresh k (hsome k hk), fun k c' hc => ⟨(H.lo k c' hc).1, by rw [freeze_size]; exact (H.lo k c' hc).2⟩, fun b1 b2 c' y1 y2 p1 p2 p3 p4 p5 p6 p7 => ?_, ?_, H.base_le, fun k hk => ⟨(H.ghost k hk).1, fun e => (H.ghost k hk).2 (hsome k e)⟩⟩
  · by_cases hd : y = .dead
    · subst hd; trivial
    · obtain ⟨hk, hy0⟩ := alive k y hy hd
      exact (H.blocks k y hgh hy0).keep (Ext.refl φ).toExt0 fun c' hc => freeze_heap w c o m c' (far k y c' hy hd hc)
  · obtain ⟨k1, z1⟩ := alive b1 y1 p3 p5
    obtain ⟨k2, z2⟩ := alive b2 y2 p4 p6
    have same : ∀ k y, ((killAll h.blocks kin).set b .dead).get k = some y → y ≠ .dead → ∀ y', h.blocks.get k = some y' → ((killAll h.blocks kin).set b .dead).get k = some y' := by
      intro k y hy hd y' hy'
      rw [(alive k y hy hd).2] at hy'
      rw [hy, hy']
    have back : ∀ b1 b2 y1 y2, ((killAll h.blocks kin).set b .dead).get b1 = some y1 → y1 ≠ .dead → ((killAll h.blocks kin).set b .dead).get b2 = some y2 → y2 ≠ .dead → KinR h b1 b2 → KinR ⟨(killAll h.blocks kin).set b .dead, h.next⟩ b1 b2 := by
      intro b1 b2 y1 y2 q1 q2 q3 q4 hk
      obtain ⟨e1, n1, x1, r1, k1, t1, e2, n2, x2, k2, t2, g1, g2, g3, g4⟩ := hk
      exact ⟨e1, n1, x1, r1, k1, t1, e2, n2, x2, k2, t2, same _ _ q1 q2 _ g1, same _ _ q3 q4 _ g2, g3, g4⟩
    exact (H.apart b1 b2 c' y1 y2 p1 p2 z1 z2 p5 p6 p7).imp (back _ _ _ _ p3 p5 p4 p6) (back _ _ _ _ p4 p6 p3 p5)
  · have hr := freeze_rest w ⟨c, o, none⟩ m
    exact ⟨hr.1.trans H.below.os, hr.2.1.trans H.below.tape, hr.2.2.trans H.below.output, by rw [freeze_size]; exact H.below.size, fun k hk => (freeze_heap w c o m k (by omega)).trans (H.below.block k hk)⟩

theorem rowAt_mono (p : Program) (fits : TypeId → Bool) : ∀ (d : Nat) (e : TypeId) (count count' off n : Nat), count ≤ count' → rowAt p fits d e count off n = true → rowAt p fits d e count' off n = true
  | 0, _, _, _, _, _, _, h => by simp [rowAt] at h
  | d + 1, e, count, count', off, n, hc, h => by
    unfold rowAt at h ⊢
    simp only at h ⊢
    by_cases hs : p.cellsOf e = 0
    · rw [if_pos hs] at h; cases h
    · rw [if_neg hs] at h ⊢
      rw [Bool.or_eq_true] at h ⊢
      rcases h with h | h
      · left
        simp only [Bool.and_eq_true, beq_iff_eq, decide_eq_true_eq] at h ⊢
        exact ⟨⟨h.1.1, by omega⟩, h.2⟩
      · right
        rw [Bool.and_eq_true] at h ⊢
        refine ⟨?_, h.2⟩
        have := h.1
        simp only [decide_eq_true_eq] at this ⊢
        omega
theorem liesAt_mono (p : Program) : ∀ (d : Nat) (e : TypeId) (count count' off : Nat) (u : TypeId) (n : Nat), count ≤ count' → liesAt p d e count off u n = true → liesAt p d e count' off u n = true
  | 0, _, _, _, _, _, _, _, h => by simp [liesAt] at h
  | d + 1, e, count, count', off, u, n, hc, h => by
    unfold liesAt at h ⊢
    rw [Bool.or_eq_true] at h ⊢
    rcases h with h | h
    · exact .inl (rowAt_mono p _ _ _ _ _ _ _ hc h)
    · right
      split at h
      · exact liesAt_mono p d _ _ _ _ _ _ hc h
      · cases h
theorem sr_loadBytes : ∀ (n : Nat) {φ : Phi} {a a' : Addr} (acc : ByteArray), AddrR φ a a' → SR P EqR φ (loadBytes a acc n) (loadBytes a' acc n)
  | 0, _, _, _, acc, _ => .pure rfl
  | n + 1, φ, a, a', acc, ha => by
    unfold loadBytes
    refine SR.bind' (sr_load ha) fun φ1 v u he hv => ?_
    cases hv with
    | @int k m =>
      cases k <;> first | exact .halt | exact sr_loadBytes n _ ((ha.mono he).add 1)
    | _ => exact .halt
/-- unsafe.String. -/
def unsafeStrV (P : Program) (pt : TypeId) (a : Addr) (n : Nat) (h : AHeap) : Option (Value × AHeap) :=
  match a with
  | ⟨b, o, none⟩ => match P.underlying pt, h.blocks.get b with
    | some (.pointer u), some (.cells e n0 _ false kin _) => match liesAt P P.depth e (n0 / P.cellsOf e) o u n && (Nat.blt 0 n && Nat.ble n 9223372036854775807) with
      | true => match arun P (loadBytes ⟨b, o, none⟩ .empty n) h with
        | some (s, _) => some (.string s, ⟨(killAll h.blocks kin).set b .dead, h.next⟩)
        | none => none
      | false => none
    | _, _ => none
  | _ => none
theorem still_loadBytes : ∀ (n : Nat) (a : Addr) (acc : ByteArray), Still P (loadBytes a acc n)
  | 0, _, _ => Still.pure _
  | n + 1, a, acc => by
    unfold loadBytes
    refine Still.bind (still_load _) fun v => ?_
    split
    · exact still_loadBytes n _ _
    · exact Still.halt _
theorem unsafeStr_run (H : HR w0 base φ h w) {pt ty : TypeId} {ts : Array TypeId} (hts : ts[0]? = some pt) {a a' : Addr} (ha : AddrR φ a a') {n : Nat} {kd : IntKind} {v : Value} (hv : unsafeStrV P pt a n h = some (v, h')) :
    RunV P w0 base φ w v h' (Builtin.unsafeString_ ts ty #[.pointer (some a'), .int kd (n : Int)]) := by
  cases ha with
  | @mk b c o hφ =>
    unfold unsafeStrV at hv
    simp only at hv
    split at hv <;> first | (cases hv; done) | skip
    rename_i u e n0 x kin t hu hg
    split at hv <;> first | (cases hv; done) | skip
    rename_i hc
    split at hv <;> first | (cases hv; done) | skip
    rename_i s h2 hl
    cases hv
    simp only [Bool.and_eq_true] at hc
    obtain ⟨hc1, hc2, hc3⟩ := hc
    have hn0 : 0 < n := by simpa using hc2
    have hn1 : n ≤ 9223372036854775807 := by simpa using hc3
    obtain ⟨c', arr, q1, q2, q3, q4⟩ := H.blocks b _ (H.real hφ) hg
    obtain rfl : c' = c := Option.some.inj (q1.symm.trans hφ)
    have hsh : w.shape? c' = some (e, arr.size) := by simp [World.shape?, q2]
    have hlie := liesAt_mono P P.depth e (n0 / P.cellsOf e) (arr.size / P.cellsOf e) o u n (Nat.div_le_div_right q3.1) hc1
    obtain ⟨φ', s', w', e1, r1, H', he'⟩ := arun_sound (sr_loadBytes (P := P) n .empty (.mk hφ : AddrR φ ⟨b, o, none⟩ ⟨c', o, none⟩)) H hl
    obtain rfl : s = s' := r1
    obtain rfl : w' = w := still_loadBytes n _ _ _ _ _ e1
    refine ⟨φ, .string s, w'.freeze ⟨c', o, none⟩ n, ?_, .string, H.freeze hφ hg o n, Ext.refl _⟩
    have m1 : ¬ ((n : Int) < 0) := by omega
    have m2 : ¬ ((n : Int) > IntKind.i64.max) := by show ¬ ((n : Int) > 9223372036854775807); omega
    have m3 : ¬ ((n : Int) = 0) := by omega
    have hel : (elemOf pt).run P w' = .ok u w' := by simp [elemOf, run_underlying hu]
    have hva : (variablesAt ⟨c', o, none⟩ u n).run P w' = .ok true w' := by simp [variablesAt, shape, program, Sem.run, hsh, hlie]
    have hdef : ∀ (A : Addr) (y : Int), Builtin.unsafeString_ ts ty #[.pointer (some A), .int kd y] = (do
        let n ← asInt (.int kd y)
        let some pt := ts[0]? | stuck "unsafe.String: no argument types"
        if n < 0 then runtimePanic (.error "unsafe.String: len out of range")
        if n > IntKind.i64.max then unsupported (.unsafePointer "String: a length above the largest int")
        if n = 0 then pure (.string .empty)
        else if ← variablesAt A (← elemOf pt) n.toNat then do
          let s ← loadBytes A .empty n.toNat
          Go.freeze A n.toNat
          pure (.string s)
        else unsupported (.unsafePointer "String: not so many bytes at ptr")) := fun _ _ => rfl
    have m4 : ¬ (9223372036854775807 < (n : Int)) := by omega
    have m5 : ¬ n = 0 := by omega
    rw [hdef]
    simp [asInt, asIntOf, hts, m4, m5, m1, m2, m3, hel, hva, e1, Result.andThen, Go.freeze, Sem.run]

theorem sliceData_run (H : HR w0 base φ h w) {ty : TypeId} {ts : Array TypeId} {a a' : Addr} (ha : AddrR φ a a') {n k' : Nat} (hk : k' ≠ 0) :
    RunV P w0 base φ w (.pointer (some a)) h (Builtin.unsafeSliceData_ ts ty #[.slice (some a') n k']) := by
  refine ⟨φ, .pointer (some a'), w, ?_, .ptr ha, H, Ext.refl _⟩
  have hdef : Builtin.unsafeSliceData_ ts ty #[.slice (some a') n k'] = (do
      if k' ≠ 0 then pure (.pointer (some a'))
      else if (← viewAt a'.block).isSome then pure (.pointer (some a'))
      else pure (.pointer (some ⟨← newObj (.view a' (← elemOf ty)), 0, none⟩))) := rfl
  rw [hdef]
  simp [hk]

/-! ### Zeros that are appended to nil -/
def madeAppV (P : Program) (t xt : TypeId) (s x : Value) (h : AHeap) : Option (Value × AHeap) :=
  match P.underlying t, P.underlying xt with
  | some (.slice e), some (.int _) => match P.info? e with
    | some i => match i.zero with
      | some z => match s, x with
        | .slice none 0 0, .int _ (.ofNat m) => match Nat.blt 0 m && Nat.ble m 9223372036854775807 && Nat.ble (m * i.bytes) 140737488355328 && Nat.blt 0 i.size with
          | true => some (.slice (some ⟨h.next, 0, none⟩) m (unk * (1 + i.size) + m), h.push (.cells e (m * i.size) false false [] (T.ofList (Builtin.zeroCells z.cells m).toList)))
          | false => none
        | _, _ => none
      | none => none
    | none => none
  | _, _ => none
theorem run_append_made {t xt e : TypeId} {i : TypeInfo} {z : Value} (E : ElemI P t e i z) {k : IntKind} (hx : P.underlying xt = some (.int k)) (ty : TypeId) {kd : IntKind} {m : Nat} (h0 : 0 < m) (h63 : m ≤ 9223372036854775807) (hfit : m * i.bytes ≤ 140737488355328) (hsz : i.size ≠ 0) :
    (Builtin.append_ #[t, xt] ty #[.slice none 0 0, .int kd (m : Int)]).run P w =
      .ok (.slice (some ⟨w.heap.size, 0, none⟩) m (grownCap w m 0 e)) (w.drew.alloc (.cells (#[] ++ Builtin.zeroCells z.cells m ++ Builtin.zeroCells z.cells (grownCap w m 0 e - m)) e)) := by
  have hw : IntKind.i64.wrap (m : Int) = (m : Int) := IntWalk.i64_in _ (by omega)
  have hf := growslice_fits (old := 0) h0 hfit
  have h48' : ¬ (281474976710656 < Builtin.nextslicecap m 0 * i.bytes) := by omega
  have h48 : ¬ (281474976710656 < m * i.bytes) := by omega
  have h1 : ¬ ((m : Int) < 0) := by omega
  have h2 : ¬ (m = 0) := by omega
  have h63' : ¬ (9223372036854775807 < (m : Int)) := by omega
  have h4 : ¬ (281474976710656 < (m : Int) * (i.bytes : Int)) := by
    have : ((m * i.bytes : Nat) : Int) = (m : Int) * (i.bytes : Int) := by simp
    omega
  simp [Builtin.append_, run_underlying E.hu, run_underlying hx, sizeOf, typeInfo, zeroValue, asInt, asIntOf, E.hi, E.hz, hw, h1, h2, h4, h48, h63', h48', hsz, Question.forced, Builtin.firstCells, newRow, grownCap]
  intro hz0
  rcases Nat.mul_eq_zero.1 hz0 with hz0 | hz0 <;> contradiction

theorem zeroCells_r (G : Good P) {e : TypeId} (he : hasT P e = true) {i : TypeInfo} {z : Value} (hi : P.info? e = some i) (hz : i.zero = some z) (m : Nat) : ∀ (j : Nat) v, (Builtin.zeroCells z.cells m)[j]? = some v → VR φ v v := by
  intro j v hv
  have hp := plains_r (G.zero e i z he hi hz)
  unfold Builtin.zeroCells at hv
  rw [Array.getElem?_map] at hv
  cases hr : (Array.range (m * z.cells.size))[j]? with
  | none => rw [hr] at hv; cases hv
  | some q =>
    rw [hr] at hv
    simp only [Option.map_some, Option.some.injEq] at hv
    have hs : z.cells.size ≠ 0 := by
      intro h0
      rw [h0, Nat.mul_zero] at hr
      simp at hr
    have hlt : q % z.cells.size < z.cells.size := Nat.mod_lt _ (by omega)
    rw [show z.cells[q % z.cells.size]! = z.cells[q % z.cells.size] from getElem!_pos z.cells _ hlt] at hv
    subst hv
    exact (hp _ (by simp)).vr
theorem made_sound (G : Good P) (S : Sized P) (H : HR w0 base φ h w) (hfree : h.room = true) {t xt ty : TypeId} (he : hasEl P t = true) {s x s' x' : Value} (hs : VR φ s s') (hx : VR φ x x') {v : Value} (ha : madeAppV P t xt s x h = some (v, h')) : RunV P w0 base φ w v h' (Builtin.append_ #[t, xt] ty #[s', x']) := by
  unfold madeAppV at ha
  split at ha <;> first | (cases ha; done) | skip
  rename_i e k hu hxt
  split at ha <;> first | (cases ha; done) | skip
  rename_i i hi
  split at ha <;> first | (cases ha; done) | skip
  rename_i z hz
  split at ha <;> first | (cases ha; done) | skip
  rename_i kd m
  split at ha <;> first | (cases ha; done) | skip
  rename_i hc
  cases ha
  simp only [Bool.and_eq_true] at hc
  obtain ⟨⟨⟨c1, c2⟩, c3⟩, c4⟩ := hc
  have h0 : 0 < m := by simpa using c1
  have h63 : m ≤ 9223372036854775807 := by simpa using c2
  have hfit : m * i.bytes ≤ 140737488355328 := by simpa using c3
  cases hs
  cases hx
  have hee := hasEl_slice he hu
  have hzs := S e i z hee hi hz
  have hsz : i.size ≠ 0 := by have : 0 < i.size := by simpa using c4
                              omega
  · have hrun := run_append_made (w := w) (ty := ty) ⟨hu, hi, hz⟩ hxt (kd := kd) h0 h63 hfit hsz
    obtain ⟨φ2, q1, q2, q3⟩ := grow_push (w := w) (nc := grownCap w m 0 e) (n := 0) (m := m) (old := #[]) (new := Builtin.zeroCells z.cells m) (t := T.ofList (Builtin.zeroCells z.cells m).toList) S H hfree [] hee hi hz (by unfold unk; omega) (by simp) (by rw [zeroCells_size, ← hzs]) (by have := grownCap_le w m 0 e; omega) (by
      intro j v hv
      rw [T.get_ofList] at hv
      have hv' : (Builtin.zeroCells z.cells m)[j]? = some v := by simpa using hv
      have hb := cell_bound hv'
      rw [zeroCells_size, ← hzs] at hb
      exact ⟨by simpa using hb, v, by simpa using hv', zeroCells_r G hee hi hz m j v hv'⟩)
    exact ⟨φ2, _, _, hrun, by simpa using q1, by simpa using q2, q3⟩

/-! ### The entry at which an iterator stands -/
theorem EL.find {φ : Phi} {l l' : List MapEntry} (h : EL φ l l') (p : Nat → Bool) : (l.find? (fun e => p e.born) = none ∧ l'.find? (fun e => p e.born) = none) ∨ ∃ x y, l.find? (fun e => p e.born) = some x ∧ l'.find? (fun e => p e.born) = some y ∧ EntryR φ x y := by
  induction h with
  | nil => exact .inl ⟨rfl, rfl⟩
  | @cons e e' _ _ he _ ih =>
    rw [List.find?_cons, List.find?_cons, ← he.born]
    cases p e.born with
    | true => exact .inr ⟨e, e', rfl, rfl, he⟩
    | false => exact ih
def entryEnd (es : Array MapEntry) (stamp : Nat) : Sem Value := match es.find? (·.born == stamp) with
  | some e => pure (.tuple #[e.key, e.val])
  | none => unsupported (.noEntry "instr/Entry.removed")
def entryMap (st stamp : Nat) (o : Obj) : Sem Value := do
  let .map es clock := o | stuck "Entry: map expected"
  if clock != st then unsupported (.noEntry "instr/Entry: an insertion since the step")
  entryEnd es stamp
def entryOf (m : Nat) (seen : Array Nat) (st : Nat) : Sem Value := do
  let some stamp := seen.back? | stuck "Entry: no step yet"
  entryMap st stamp (← getObj m)
theorem sr_entryEnd {es es' : Array MapEntry} (hes : EntriesR φ es es') (stamp : Nat) : SR P VR φ (entryEnd es stamp) (entryEnd es' stamp) := by
  unfold entryEnd
  have h1 : es.find? (·.born == stamp) = es.toList.find? (fun e => e.born == stamp) := by rw [Array.find?_toList]
  have h2 : es'.find? (·.born == stamp) = es'.toList.find? (fun e => e.born == stamp) := by rw [Array.find?_toList]
  rw [h1, h2]
  rcases hes.toL.find (fun b => b == stamp) with ⟨e1, e2⟩ | ⟨x, y, e1, e2, e3⟩
  · rw [e1, e2]
    exact .halt
  · rw [e1, e2]
    have := (AsR.one e3.key).push e3.val
    exact .pure (.tuple this.1 this.2)
theorem sr_entry {v u : Value} (h : VR φ v u) : SR P VR φ (Instr.entry v) (Instr.entry u) := by
  unfold Instr.entry
  cases h with
  | @ptr a a' ha =>
    cases ha with
    | @mk r r' o hr =>
      cases o with
      | succ o => exact .halt
      | zero =>
        refine .getObj hr fun o o' ho => ?_
        cases ho with
        | @iter m m' s seen st hm =>
          show SR P VR φ (entryOf m seen st) (entryOf m' seen st)
          unfold entryOf
          cases seen.back? with
          | none => exact .halt
          | some stamp =>
            refine .getObj hm fun o o' ho => ?_
            show SR P VR φ (entryMap st stamp o) (entryMap st stamp o')
            unfold entryMap
            cases ho with
            | @map es es' clock hes =>
              cases hc : clock != st with
              | true => simp only [hc]; exact .halt
              | false =>
                simp only [hc]
                exact sr_entryEnd hes stamp
            | _ => exact .halt
        | _ => exact .halt
  | _ => exact .halt
end
end
end Go.Ab
