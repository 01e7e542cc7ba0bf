/- An evaluator of the model's code over an abstract heap: append. -/
import Derived.Test.YtmhgicpjeeegcaaGreatAb9
import Derived.Laws.Append
namespace Go.Ab
open Go.RowKit
noncomputable section
section
variable {P : Program} {w0 : World} {base : Nat} {φ : Phi} {h h' : AHeap} {w : World}
def lenV : Value → Option Nat
  | .slice _ n _ => some n
  | .string s => some s.size
  | _ => none
theorem lenV_run {x y : Value} (hx : VR φ x y) {n : Nat} (hn : lenV x = some n) : Builtin.lenOf y = pure n := by
  cases hx <;> simp only [lenV] at hn <;> first | (cases hn; done) | (cases hn; rfl)
theorem sr_firstCells (size n : Nat) {x y : Value} (hx : VR φ x y) : SR P AsR φ (Builtin.firstCells size n x) (Builtin.firstCells size n y) := by
  cases hx with
  | sl ha _ => exact sr_loadCells ha _
  | slNil _ => exact .pure (AsR.empty _)
  | @string s =>
    refine .pure ⟨rfl, fun i a b h1 h2 => ?_⟩
    rw [h1] at h2
    injection h2 with h2
    subst h2
    rw [Array.getElem?_map] at h1
    cases hs : (s.extract 0 n).data[i]? with
    | none => rw [hs] at h1; cases h1
    | some b => rw [hs] at h1; simp at h1; rw [← h1]; exact .int
  | _ => exact .halt
theorem still_firstCells (size n : Nat) (x : Value) : Still P (Builtin.firstCells size n x) := by
  unfold Builtin.firstCells
  split
  · exact still_loadCellsFrom _ _ _ _
  · exact Still.pure _
  · exact Still.pure _
  · exact Still.halt _

/-- The element type and what is known of it. -/
structure ElemI (P : Program) (t e : TypeId) (i : TypeInfo) (z : Value) : Prop where
  hu : P.underlying t = some (.slice e)
  hi : P.info? e = some i
  hz : i.zero = some z
def notInt : TypeDesc → Bool
  | .slice _ => true
  | .string => true
  | _ => false
theorem run_append_room' {t xt e : TypeId} {i : TypeInfo} {z : Value} (E : ElemI P t e i z) {d : TypeDesc} (hx : P.underlying xt = some d) (hd : notInt d = true) (ty : TypeId) {base : Option Addr} {n k m : Nat} {x : Value} (hl : Builtin.lenOf x = pure m)
    (hr : n + m ≤ k) {new : Array Value} (hn : (Builtin.firstCells i.size m x).run P w = .ok new w) :
    (Builtin.append_ #[t, xt] ty #[.slice base n k, x]).run P w = match base with
      | some a => ((storeCells (a.add (n * i.size)) new.toList).run P w).andThen fun _ w' => .ok (.slice base (n + m) k) w'
      | none => .ok (.slice none (n + m) k) w := by
  cases d <;> first | (cases hd; done) | skip
  all_goals
    cases base with
    | none => simp [Builtin.append_, run_underlying E.hu, run_underlying hx, sizeOf, typeInfo, E.hi, hl, hn, hr]
    | some a => simp [Builtin.append_, run_underlying E.hu, run_underlying hx, sizeOf, typeInfo, E.hi, hl, hn, hr]
theorem run_append_grow' {t xt e : TypeId} {i : TypeInfo} {z : Value} (E : ElemI P t e i z) {d : TypeDesc} (hx : P.underlying xt = some d) (hd : notInt d = true) (ty : TypeId) {base : Option Addr} {n k m : Nat} {x : Value} (hl : Builtin.lenOf x = pure m)
    (hr : k < n + m) (h63 : ((n + m : Nat) : Int) ≤ 9223372036854775807) (hfit : (n + m) * i.bytes ≤ 140737488355328) {old new : Array Value} (ho : (Builtin.firstCells i.size n (.slice base n k)).run P w.drew = .ok old w.drew) (hn : (Builtin.firstCells i.size m x).run P w.drew = .ok new w.drew) :
    (Builtin.append_ #[t, xt] ty #[.slice base n k, x]).run P w =
      .ok (.slice (some ⟨w.heap.size, 0, none⟩) (n + m) (grownCap w (n + m) k e)) (w.drew.alloc (.cells (old ++ new ++ Builtin.zeroCells z.cells (grownCap w (n + m) k e - (n + m))) e)) := by
  have hn' : ¬ (n + m ≤ k) := by omega
  have h63' : ¬ (9223372036854775807 < ((n : Int) + (m : Int))) := by omega
  have hf := growslice_fits hr hfit
  have h48' : ¬ (281474976710656 < Builtin.nextslicecap (n + m) k * i.bytes) := by omega
  cases d <;> first | (cases hd; done) | skip
  all_goals simp [Builtin.append_, run_underlying E.hu, run_underlying hx, sizeOf, typeInfo, zeroValue, E.hi, E.hz, hl, hn', h63', h48', Question.forced, ho, hn, newRow, grownCap]

def appendV (P : Program) (t xt : TypeId) (s x : Value) (h : AHeap) : Option (Value × AHeap) :=
  match P.underlying t with
  | some (.slice e) => match P.info? e with
    | some i => match i.zero with
      | some _ => match P.underlying xt with
        | some d => match notInt d with
          | true => match s with
            | .slice bs n k => match lenV x with
              | some m => match arun P (Builtin.firstCells i.size m x) h with
                | some (new, _) =>
                  if n + m ≤ (if k < unk then k else k % unk) then
                    match bs with
                    | none => some (.slice none (n + m) k, h)
                    | some a => match arun P (storeCells (a.add (n * i.size)) new.toList) h with
                      | some (_, h') => some (.slice bs (n + m) k, h')
                      | none => none
                  else match Nat.ble (n + m) 9223372036854775807 && Nat.ble ((n + m) * i.bytes) 140737488355328 && Nat.ble new.size (m * i.size) && Nat.ble (m * i.size) new.size && allB oneV new.toList with
                    | true =>
                      if k < unk then match arun P (Builtin.firstCells i.size n s) h with
                        | some (old, _) => match Nat.ble old.size (n * i.size) && Nat.ble (n * i.size) old.size with
                          | true => some (.slice (some ⟨h.next, 0, none⟩) (n + m) (unk * (1 + i.size) + (n + m)), h.push (.cells e ((n + m) * i.size) false false [] (T.ofListFrom new.toList (n * i.size) (T.ofList old.toList))))
                          | false => none
                        | none => none
                      else match bs with
                        | some ⟨b, 0, none⟩ => match h.blocks.get b with
                          | some (.cells e' k' x false kin t') => if e' = e ∧ k' = n * i.size ∧ x = false ∧ k / unk - 1 = i.size ∧ 1 ≤ i.size then
                              some (.slice (some ⟨h.next, 0, none⟩) (n + m) (unk * (1 + i.size) + (n + m)),
                                (⟨h.blocks.set b (.cells e' k' x true kin t'), h.next⟩ : AHeap).push (.cells e ((n + m) * i.size) false false (b :: kin) (T.ofListFrom new.toList (n * i.size) t')))
                            else none
                          | _ => none
                        | _ => none
                    | false => none
                | none => none
              | none => none
            | _ => none
          | false => none
        | none => none
      | none => none
    | none => none
  | _ => none

/-- A run of stores into one row. -/
theorem storeRow (c : Nat) (e : TypeId) (o0 : Nat) : ∀ (vs : List Value) (i : Nat) (w : World) (arr : Array Value), w.heap[c]? = some (.cells arr e (0, 0)) → (∀ v ∈ vs, oneV v = true) → o0 + i + vs.length ≤ arr.size →
    ∃ w' arr', (storeCells ⟨c, o0, none⟩ vs i).run P w = .ok () w' ∧ w'.heap[c]? = some (.cells arr' e (0, 0)) ∧ arr'.size = arr.size ∧
      (∀ j, arr'[j]? = if o0 + i ≤ j ∧ j < o0 + i + vs.length then vs[j - (o0 + i)]? else arr[j]?) ∧ (∀ k, k ≠ c → w'.heap[k]? = w.heap[k]?) ∧ w'.heap.size = w.heap.size ∧ w'.os = w.os ∧ w'.tape = w.tape ∧ w'.output = w.output
  | [], i, w, arr, hc, _, _ => ⟨w, arr, rfl, hc, rfl, fun j => by rw [if_neg (by simp)], fun _ _ => rfl, rfl, rfl, rfl, rfl⟩
  | v :: vs, i, w, arr, hc, h1, hs => by
    have hs' : o0 + i + (vs.length + 1) ≤ arr.size := hs
    have hadd : (⟨c, o0, none⟩ : Addr).add i = ⟨c, o0 + i, none⟩ := by
      unfold Addr.add
      split
      · rename_i h0; subst h0; rfl
      · rfl
    have hv := h1 v (List.mem_cons_self ..)
    have hcell : w.cell? ⟨c, o0 + i, none⟩ = some (arr[o0 + i]'(by omega)) := by simp [World.cell?, hc, Array.getElem?_eq_getElem (show o0 + i < arr.size by omega)]
    have hfz : w.frozen? ⟨c, o0 + i, none⟩ = false := by simp [World.frozen?, hc]
    have hstep : (store ((⟨c, o0, none⟩ : Addr).add i) v).run P w = .ok () (w.setCell ⟨c, o0 + i, none⟩ v) := by
      rw [hadd, run_store P w _ v .plain (by cases v <;> first | rfl | (simp [oneV] at hv)), hcell, hfz]
      rfl
    have hheap : ∀ k, (w.setCell ⟨c, o0 + i, none⟩ v).heap[k]? = if c = k then some (.cells (arr.setIfInBounds (o0 + i) v) e (0, 0)) else w.heap[k]? := fun k => by
      simp only [World.setCell, Array.getElem?_modify]
      by_cases e : c = k
      · subst e; simp [hc]
      · rw [if_neg e, if_neg e]
    obtain ⟨w', arr', r1, r2, r3, r4, r5, r6, r7, r8, r9⟩ := storeRow c e o0 vs (i + 1) (w.setCell ⟨c, o0 + i, none⟩ v) (arr.setIfInBounds (o0 + i) v) (by rw [hheap, if_pos rfl]) (fun u hu => h1 u (List.mem_cons_of_mem _ hu)) (by simp; omega)
    refine ⟨w', arr', ?_, r2, by simpa using r3, fun j => ?_, fun k hk => ?_, by rw [r6]; simp [World.setCell], r7, r8, r9⟩
    · show ((store ((⟨c, o0, none⟩ : Addr).add i) v) >>= fun _ => storeCells ⟨c, o0, none⟩ vs (i + 1)).run P w = _
      rw [Sem.run_bind, hstep]
      exact r1
    · rw [r4, Array.getElem?_setIfInBounds]
      have hl : (v :: vs).length = vs.length + 1 := rfl
      rw [hl]
      by_cases e : j = o0 + i
      · subst e
        rw [if_neg (by omega), if_pos rfl, if_pos (by omega), if_pos (by omega)]
        simp
      · by_cases e2 : o0 + (i + 1) ≤ j ∧ j < o0 + (i + 1) + vs.length
        · rw [if_pos e2, if_pos (by omega)]
          obtain ⟨q, rfl⟩ : ∃ q, j = o0 + (i + 1) + q := ⟨j - (o0 + (i + 1)), by omega⟩
          have a1 : o0 + (i + 1) + q - (o0 + (i + 1)) = q := by omega
          have a2 : o0 + (i + 1) + q - (o0 + i) = q + 1 := by omega
          rw [a1, a2]
          simp
        · rw [if_neg e2, if_neg (fun e' => e e'.symm), if_neg (by omega)]
    · rw [r5 k hk, hheap, if_neg (fun e => hk e.symm)]

theorem cell_bound {arr : Array Value} {j : Nat} {u : Value} (h : arr[j]? = some u) : j < arr.size := by
  rcases Nat.lt_or_ge j arr.size with hlt | hge
  · exact hlt
  · rw [Array.getElem?_eq_none hge] at h; cases h
theorem capR_grown {N m es k' : Nat} (hm : m < unk) (h1 : m ≤ k') (h2 : k' * es ≤ N) : CapR N 0 (unk * (1 + es) + m) k' := by
  have hu : 0 < unk := by unfold unk; omega
  refine ⟨fun hlt => ?_, fun _ => ?_⟩
  · exfalso
    have : unk * 1 ≤ unk * (1 + es) := Nat.mul_le_mul_left _ (by omega)
    omega
  · have e1 : (unk * (1 + es) + m) % unk = m := by rw [Nat.mul_add_mod, Nat.mod_eq_of_lt hm]
    have e2 : (unk * (1 + es) + m) / unk = 1 + es := by rw [Nat.mul_add_div hu, Nat.div_eq_of_lt hm]; omega
    rw [e1, e2]
    have e3 : 1 + es - 1 = es := by omega
    rw [e3]
    omega
theorem grownCap_le (w : World) (need old : Nat) (e : TypeId) : need ≤ grownCap w need old e := by
  unfold grownCap Question.cut
  exact Nat.le_add_right _ _
theorem zeroCells_size (z : Array Value) (n : Nat) : (Builtin.zeroCells z n).size = n * z.size := by simp [Builtin.zeroCells]
/-- A row that append made anew. -/
theorem grow_push (S : Sized P) (H : HR w0 base φ h w) (hroom : h.room = true) (kin : List Nat) {e : TypeId} {i : TypeInfo} {z : Value} (hte : hasT P e = true) (hi : P.info? e = some i) (hz : i.zero = some z) {old new : Array Value} {t : T Value} {n m nc : Nat} (hm : n + m < unk) (ho : old.size = n * i.size) (hn : new.size = m * i.size) (hnc : n + m ≤ nc)
    (ht : ∀ j v, t.get j = some v → j < (n + m) * i.size ∧ ∃ u, (old ++ new)[j]? = some u ∧ VR φ v u) :
    ∃ φ', VR φ' (.slice (some ⟨h.next, 0, none⟩) (n + m) (unk * (1 + i.size) + (n + m))) (.slice (some ⟨w.heap.size, 0, none⟩) (n + m) nc) ∧
      HR w0 base φ' (h.push (.cells e ((n + m) * i.size) false false kin t)) (w.drew.alloc (.cells (old ++ new ++ Builtin.zeroCells z.cells (nc - (n + m))) e)) ∧ Ext φ φ' := by
  have Hd : HR w0 base φ h w.drew := H.drew _
  have hsz := S e i z hte hi hz
  have hN : (old ++ new ++ Builtin.zeroCells z.cells (nc - (n + m))).size = nc * i.size := by
    rw [Array.size_append, Array.size_append, ho, hn, zeroCells_size, ← hsz, ← Nat.add_mul, ← Nat.add_mul]
    congr 1
    omega
  have hext := ext_more (H.free hroom) w.heap.size (nc * i.size)
  refine ⟨φ.more h.next w.heap.size (nc * i.size), ?_, ?_, hext⟩
  · refine .sl (.mk (by simp [more_to])) ?_
    show CapR ((φ.more h.next w.heap.size (nc * i.size)).size h.next) 0 _ _
    rw [more_size, if_pos rfl]
    exact capR_grown hm hnc (Nat.le_refl _)
  · refine Hd.push hroom (.cells (old ++ new ++ Builtin.zeroCells z.cells (nc - (n + m))) e) _ (nc * i.size) ?_
    refine ⟨w.heap.size, old ++ new ++ Builtin.zeroCells z.cells (nc - (n + m)), (by rw [more_to, if_pos rfl]; rfl), Array.getElem?_push_size, ⟨?_, (fun hx => by cases hx), fun j v hv => ?_⟩, ?_⟩
    · rw [hN]; exact Nat.mul_le_mul_right _ hnc
    · obtain ⟨h1, u, h2, h3⟩ := ht j v hv
      refine ⟨h1, u, ?_, h3.mono hext⟩
      rw [Array.getElem?_append, if_pos (cell_bound h2)]
      exact h2
    · rw [hN]
      show _ = (φ.more h.next w.heap.size (nc * i.size)).size h.next
      rw [more_size, if_pos rfl]

/-- A row that append went on in place: its elder state is not written any more. -/
theorem alias_push (H : HR w0 base φ h w) (hroom : h.room = true) {b c n n1 : Nat} {e : TypeId} {kin : List Nat} {t t1 : T Value} {arr arr1 : Array Value} {w1 : World} (hb : h.blocks.get b = some (.cells e n false false kin t)) (hφ : φ b = some c) (hc : w.heap[c]? = some (.cells arr e (0, 0)))
    (hc1 : w1.heap[c]? = some (.cells arr1 e (0, 0))) (hsz : arr1.size = arr.size) (hlow : ∀ j, j < n → arr1[j]? = arr[j]?) (hoth : ∀ k, k ≠ c → w1.heap[k]? = w.heap[k]?) (hws : w1.heap.size = w.heap.size) (hos : w1.os = w.os) (htp : w1.tape = w.tape) (hout : w1.output = w.output)
    (hn1 : n ≤ n1) (hn2 : n1 ≤ arr1.size) (ht : ∀ j v, t1.get j = some v → j < n1 ∧ ∃ u, arr1[j]? = some u ∧ VR φ v u) :
    HR w0 base (φ.more h.next c (φ.size b)) ((⟨h.blocks.set b (.cells e n false true kin t), h.next⟩ : AHeap).push (.cells e n1 false false (b :: kin) t1)) w1 := by
  have hbn : b ≠ h.next := fun e => by rw [e, H.free hroom] at hφ; cases hφ
  have hext := ext_more (H.free hroom) c (φ.size b)
  have hB := H.blocks b _ (H.real hφ) hb
  obtain ⟨c0, arr0, p1, p2, ⟨p3, p4, p5⟩, p6⟩ := hB
  have : c0 = c := Option.some.inj (p1.symm.trans hφ)
  subst this
  rw [hc] at p2
  injection p2 with p2
  injection p2 with p2 _
  subst p2
  have hget : ∀ bb, ((⟨h.blocks.set b (.cells e n false true kin t), h.next⟩ : AHeap).push (.cells e n1 false false (b :: kin) t1)).blocks.get bb = if bb = h.next then some (.cells e n1 false false (b :: kin) t1) else if bb = b then some (.cells e n false true kin t) else h.blocks.get bb := fun bb => by
    show ((h.blocks.set b (.cells e n false true kin t)).set h.next (.cells e n1 false false (b :: kin) t1)).get bb = _
    rw [T.get_set, T.get_set]
  -- another state of the same row
  have hal : ∀ b2 y, b2 ≠ b → φ b2 = some c0 → h.blocks.get b2 = some y → y ≠ .dead → ∃ e2 n2 x2 kin2 t2, y = .cells e2 n2 x2 true kin2 t2 ∧ b2 ∈ kin ∧ n2 ≤ n := fun b2 y hne h2 hy hd => by
    rcases H.apart b b2 c0 _ y hφ h2 hb hy (by simp) hd (fun e => hne e.symm) with hk | hk
    · obtain ⟨f1, f2, f3, f4, f5, f6, f7, f8, f9, f10, f11, m1, m2, m3, m4⟩ := hk
      rw [hb] at m1; injection m1 with m1; injection m1 with _ a2 _ _ a5
      rw [hy] at m2; injection m2 with m2
      exact ⟨f7, f8, f9, f10, f11, m2, by rw [a5]; exact m3, by omega⟩
    · obtain ⟨f1, f2, f3, f4, f5, f6, f7, f8, f9, f10, f11, m1, m2, m3, m4⟩ := hk
      rw [hb] at m2; injection m2 with m2; injection m2 with _ _ _ a4; cases a4
  have hrow : ∀ {n2 : Nat} {x2 : Bool} {t2 : T Value}, n2 ≤ n → RowR φ n2 x2 t2 arr → RowR (φ.more h.next c0 (φ.size b)) n2 x2 t2 arr1 := fun hle hr => by
    refine ⟨by rw [hsz]; exact hr.1, fun hx => by rw [hsz]; exact hr.2.1 hx, fun j v hv => ?_⟩
    obtain ⟨q1, u, q2, q3⟩ := hr.2.2 j v hv
    exact ⟨q1, u, by rw [hlow j (by omega)]; exact q2, q3.mono hext⟩
  refine ⟨fun bb y hgb hy => ?_, fun bb hbb => ?_, fun bb c2 hc2 => ?_, fun b1 b2 c2 y1 y2 g1 g2 g3 g4 g5 g6 g7 => ?_, ?_, H.base_le, fun bb hgb => ?_⟩
  · rw [hget] at hy
    by_cases e1 : bb = h.next
    · rw [if_pos e1] at hy
      injection hy with hy
      subst hy e1
      refine ⟨c0, arr1, by rw [more_to, if_pos rfl], hc1, ⟨hn2, (fun hx => by cases hx), fun j v hv => ?_⟩, by rw [more_size, if_pos rfl, hsz]; exact p6⟩
      obtain ⟨q1, u, q2, q3⟩ := ht j v hv
      exact ⟨q1, u, q2, q3.mono hext⟩
    · rw [if_neg e1] at hy
      by_cases e2 : bb = b
      · rw [if_pos e2] at hy
        injection hy with hy
        subst hy e2
        exact ⟨c0, arr1, hext _ _ hφ, hc1, hrow (Nat.le_refl _) ⟨p3, p4, p5⟩, by rw [hext.sz _ _ hφ, hsz]; exact p6⟩
      · rw [if_neg e2] at hy
        have hBB := H.blocks bb y hgb hy
        cases y with
        | dead => trivial
        | obj o =>
          obtain ⟨c2, o', q1, q2, q3⟩ := hBB
          refine ⟨c2, o', hext _ _ q1, ?_, q3.mono hext⟩
          rw [hoth c2 (fun e => by subst e; rw [hc] at q2; injection q2 with q2; exact (q3.noCells.2 _ _ _ q2.symm))]
          exact q2
        | cells f1 f2 f3 f4 f5 f6 =>
          obtain ⟨c2, arr2, q1, q2, q3, q4⟩ := hBB
          by_cases ec : c2 = c0
          · subst ec
            rw [hc] at q2
            injection q2 with q2
            injection q2 with q2 q2'
            subst q2 q2'
            obtain ⟨_, n2, _, _, _, a1, _, a3⟩ := hal bb _ e2 q1 hy (by simp)
            injection a1 with _ a1
            exact ⟨c2, arr1, hext _ _ q1, hc1, hrow (by omega) q3, by rw [hext.sz _ _ q1, hsz]; exact q4⟩
          · exact ⟨c2, arr2, hext _ _ q1, by rw [hoth c2 ec]; exact q2, ⟨q3.1, q3.2.1, fun j v hv => by
              obtain ⟨r1, u, r2, r3⟩ := q3.2.2 j v hv
              exact ⟨r1, u, r2, r3.mono hext⟩⟩, by rw [hext.sz _ _ q1]; exact q4⟩
  · rw [hget] at hbb
    by_cases e1 : bb = h.next
    · rw [if_pos e1] at hbb; cases hbb
    · rw [if_neg e1] at hbb
      rw [more_to, if_neg e1]
      by_cases e2 : bb = b
      · rw [if_pos e2] at hbb; cases hbb
      · rw [if_neg e2] at hbb; exact H.fresh bb hbb
  · rw [more_to] at hc2
    rw [hws]
    by_cases e1 : bb = h.next
    · rw [if_pos e1] at hc2
      injection hc2 with hc2
      subst hc2
      exact H.lo b _ hφ
    · rw [if_neg e1] at hc2
      exact H.lo bb c2 hc2
  · rw [hget] at g3 g4
    rw [more_to] at g1 g2
    have hkn : ∀ y, y ≠ h.next → φ y = some c0 → (∃ o, (if y = b then some (AObj.cells e n false true kin t) else h.blocks.get y) = some o ∧ o ≠ .dead) → KinR ((⟨h.blocks.set b (.cells e n false true kin t), h.next⟩ : AHeap).push (.cells e n1 false false (b :: kin) t1)) h.next y := fun y hy hφy ⟨o, ho, hod⟩ => by
      by_cases e2 : y = b
      · subst e2
        exact ⟨e, n1, false, false, y :: kin, t1, e, n, false, kin, t, by rw [hget, if_pos rfl], by rw [hget, if_neg hy, if_pos rfl], List.mem_cons_self .., hn1⟩
      · rw [if_neg e2] at ho
        obtain ⟨f1, f2, f3, f5, f6, a1, a2, a3⟩ := hal y o e2 hφy ho hod
        subst a1
        exact ⟨e, n1, false, false, b :: kin, t1, f1, f2, f3, f5, f6, by rw [hget, if_pos rfl], by rw [hget, if_neg hy, if_neg e2]; exact ho, List.mem_cons_of_mem _ a2, by omega⟩
    by_cases e1 : b1 = h.next
    · by_cases e2 : b2 = h.next
      · exact absurd (e1.trans e2.symm) g7
      · rw [if_pos e1] at g1
        rw [if_neg e2] at g2 g4
        injection g1 with g1
        subst g1 e1
        exact .inl (hkn b2 e2 g2 ⟨_, g4, g6⟩)
    · by_cases e2 : b2 = h.next
      · rw [if_pos e2] at g2
        rw [if_neg e1] at g1 g3
        injection g2 with g2
        subst g2 e2
        exact .inr (hkn b1 e1 g1 ⟨_, g3, g5⟩)
      · rw [if_neg e1] at g1 g3
        rw [if_neg e2] at g2 g4
        have hold : ∀ bb y, (if bb = b then some (AObj.cells e n false true kin t) else h.blocks.get bb) = some y → y ≠ .dead → ∃ y0, h.blocks.get bb = some y0 ∧ y0 ≠ .dead := fun bb y hy hd => by
          by_cases e : bb = b
          · subst e; exact ⟨_, hb, by simp⟩
          · rw [if_neg e] at hy; exact ⟨y, hy, hd⟩
        have hk : ∀ x y, x ≠ h.next → y ≠ h.next → KinR h x y → KinR ((⟨h.blocks.set b (.cells e n false true kin t), h.next⟩ : AHeap).push (.cells e n1 false false (b :: kin) t1)) x y := fun x y hxn hyn hk => by
          obtain ⟨f1, f2, f3, f4, f5, f6, f7, f8, f9, f10, f11, m1, m2, m3, m4⟩ := hk
          have hy : y ≠ b := fun e => by subst e; rw [hb] at m2; injection m2 with m2; injection m2 with _ _ _ a4; cases a4
          by_cases e : x = b
          · subst e
            rw [hb] at m1; injection m1 with m1; injection m1 with a1 a2 a3 a4 a5 a6
            exact ⟨_, n, false, true, kin, t, f7, f8, f9, f10, f11, by rw [hget, if_neg hxn, if_pos rfl], by rw [hget, if_neg hyn, if_neg hy]; exact m2, by rw [a5]; exact m3, by omega⟩
          · exact ⟨f1, f2, f3, f4, f5, f6, f7, f8, f9, f10, f11, by rw [hget, if_neg hxn, if_neg e]; exact m1, by rw [hget, if_neg hyn, if_neg hy]; exact m2, m3, m4⟩
        obtain ⟨z1, hz1, hd1⟩ := hold b1 y1 g3 g5
        obtain ⟨z2, hz2, hd2⟩ := hold b2 y2 g4 g6
        exact (H.apart b1 b2 c2 z1 z2 g1 g2 hz1 hz2 hd1 hd2 g7).imp (hk _ _ e1 e2) (hk _ _ e2 e1)
  · exact H.below.trans ⟨hos, htp, hout, by omega, fun k hk => hoth k (fun e => by subst e; have := (H.lo b _ hφ).1; omega)⟩
  · obtain ⟨q1, q2⟩ := H.ghost bb hgb
    have hne : bb ≠ h.next := fun e => q2 (by rw [e]; exact AHeap.room_none hroom)
    refine ⟨by rw [more_to, if_neg hne]; exact q1, ?_⟩
    rw [hget, if_neg hne]
    by_cases e2 : bb = b
    · rw [if_pos e2]; simp
    · rw [if_neg e2]; exact q2

theorem appended_cells {φ : Phi} {old new old' new' : Array Value} {k : Nat} (ho : AsR φ old old') (hn : AsR φ new new') (hk : old.size = k) {t0 : T Value} (h0 : ∀ j v, t0.get j = some v → j < k ∧ ∃ u, old'[j]? = some u ∧ VR φ v u) :
    ∀ j v, (T.ofListFrom new.toList k t0).get j = some v → j < k + new.size ∧ ∃ u, (old' ++ new')[j]? = some u ∧ VR φ v u := by
  intro j v hv
  rw [T.get_ofListFrom] at hv
  have hk' : old'.size = k := ho.1.symm.trans hk
  by_cases hj : k ≤ j ∧ j < k + new.toList.length
  · rw [if_pos hj] at hv
    have hlt : j < k + new.size := by simpa using hj.2
    refine ⟨hlt, ?_⟩
    have hv' : new[j - k]? = some v := by simpa using hv
    obtain ⟨u, hu, hr⟩ := hn.get hv'
    exact ⟨u, by rw [Array.getElem?_append, if_neg (by omega), hk']; exact hu, hr⟩
  · rw [if_neg hj] at hv
    obtain ⟨h1, u, h2, h3⟩ := h0 j v hv
    exact ⟨by omega, u, by rw [Array.getElem?_append, if_pos (by omega)]; exact h2, h3⟩
theorem ofList_cells {φ : Phi} {old old' : Array Value} (ho : AsR φ old old') : ∀ j v, (T.ofList old.toList).get j = some v → j < old.size ∧ ∃ u, old'[j]? = some u ∧ VR φ v u := by
  intro j v hv
  rw [T.get_ofList] at hv
  have hv' : old[j]? = some v := by simpa using hv
  obtain ⟨u, hu, hr⟩ := ho.get hv'
  exact ⟨cell_bound hv', u, hu, hr⟩
theorem arun_load1 {a : Addr} {r : Value} {hp : AHeap} (hr : arun P (load a) h = some (r, hp)) : hp = h := by
  have hr' : arun P (.load .plain a .pure) h = some (r, hp) := hr
  rw [arun_load] at hr'
  cases hv : aload h a with
  | none => rw [hv] at hr'; cases hr'
  | some v => rw [hv] at hr'; cases hr'; rfl
theorem arun_loadCells {h : AHeap} : ∀ (n i : Nat) (a : Addr) (c r : Array Value) (hp : AHeap), arun P (loadCellsFrom a i n c) h = some (r, hp) → hp = h
  | 0, _, _, _, _, _, hr => by cases hr; rfl
  | n + 1, i, a, c, r, hp, hr => by
    have hr' : arun P ((load (a.add i)).bind fun v => loadCellsFrom a (i + 1) n (c.push v)) h = some (r, hp) := hr
    rw [arun_bind] at hr'
    cases hv : arun P (load (a.add i)) h with
    | none => rw [hv] at hr'; cases hr'
    | some x =>
      obtain ⟨v, h1⟩ := x
      rw [hv] at hr'
      have e1 := arun_load1 hv
      subst e1
      exact arun_loadCells n (i + 1) a _ r hp hr'
theorem firstCells_heap {size n : Nat} {x : Value} {r : Array Value} {hp : AHeap} (hr : arun P (Builtin.firstCells size n x) h = some (r, hp)) : hp = h := by
  unfold Builtin.firstCells at hr
  split at hr
  · exact arun_loadCells _ _ _ _ _ _ hr
  · cases hr; rfl
  · cases hr; rfl
  · cases hr
/-- The cells of a slice or a string, read in both worlds. -/
theorem cells_read (H : HR w0 base φ h w) {size n : Nat} {x y : Value} (hx : VR φ x y) {r : Array Value} {hp : AHeap} (hr : arun P (Builtin.firstCells size n x) h = some (r, hp)) :
    ∃ φ1 r', (Builtin.firstCells size n y).run P w = .ok r' w ∧ AsR φ1 r r' ∧ HR w0 base φ1 h w ∧ Ext φ φ1 := by
  obtain ⟨φ1, r', w1, e1, hr1, hh1, he1⟩ := arun_sound (sr_firstCells (P := P) size n hx) H hr
  obtain rfl := still_firstCells size n y w r' w1 e1
  obtain rfl := firstCells_heap hr
  exact ⟨φ1, r', e1, hr1, hh1, he1⟩
theorem append_sound (S : Sized P) (H : HR w0 base φ h w) (hfree : h.room = true) {t xt ty : TypeId} (he : hasEl P t = true) {s x s' x' : Value} (hs : VR φ s s') (hx : VR φ x x') {v : Value} (ha : appendV P t xt s x h = some (v, h')) : RunV P w0 base φ w v h' (Builtin.append_ #[t, xt] ty #[s', x']) := by
  unfold appendV at ha
  split at ha <;> first | (cases ha; done) | skip
  rename_i e hu
  split at ha <;> first | (cases ha; done) | skip
  rename_i i hi
  split at ha <;> first | (cases ha; done) | skip
  rename_i z hz
  split at ha <;> first | (cases ha; done) | skip
  rename_i d hd
  split at ha <;> first | (cases ha; done) | skip
  rename_i hni
  split at ha <;> first | (cases ha; done) | skip
  rename_i bs n k
  split at ha <;> first | (cases ha; done) | skip
  rename_i m hm
  split at ha <;> first | (cases ha; done) | skip
  rename_i new hp hnew
  have E : ElemI P t e i z := ⟨hu, hi, hz⟩
  have hl := lenV_run hx hm
  by_cases hroom : n + m ≤ (if k < unk then k else k % unk)
  · rw [if_pos hroom] at ha
    obtain ⟨φ0, new', hn1, hn2, H0, he0⟩ := cells_read H hx hnew
    have hs0 := hs.mono he0
    cases bs with
    | none =>
      cases ha
      cases hs with
      | slNil hk =>
        rw [if_pos hk] at hroom
        exact ⟨φ, _, w, run_append_room' E hd hni ty hl hroom hn1, .slNil hk, H, Ext.refl _⟩
    | some a =>
      clear hs
      simp only at ha
      split at ha <;> first | (cases ha; done) | skip
      rename_i h1 hst
      cases ha
      cases hs0 with
      | @sl _ a' _ _ k' haa hk =>
        have hle : n + m ≤ k' := by
          by_cases hku : k < unk
          · rw [if_pos hku] at hroom; have := hk.1 hku; omega
          · rw [if_neg hku] at hroom; have := (hk.2 (by omega)).1; omega
        obtain ⟨φ1, _, w1, e1, _, hh1, he1⟩ := arun_sound (sr_storeCells (P := P) new.toList new'.toList 0 (haa.add (n * i.size)) hn2.ofList) H0 hst
        refine ⟨φ1, .slice (some a') (n + m) k', w1, ?_, VR.mono he1 (.sl haa hk), hh1, he0.trans he1⟩
        rw [run_append_room' E hd hni ty hl hle hn1]
        simp only [e1, Result.andThen]
  · rw [if_neg hroom] at ha
    split at ha <;> first | (cases ha; done) | skip
    rename_i hck
    simp only [Bool.and_eq_true, Nat.ble_eq] at hck
    obtain ⟨⟨⟨⟨c1, c2⟩, c3⟩, c4⟩, c5⟩ := hck
    have hnsz : new.size = m * i.size := by omega
    have hmu : n + m < unk := by unfold unk; omega
    by_cases hku : k < unk
    · rw [if_pos hku] at hroom ha
      split at ha <;> first | (cases ha; done) | skip
      rename_i old hp2 hold
      split at ha <;> first | (cases ha; done) | skip
      rename_i hck2
      simp only [Bool.and_eq_true, Nat.ble_eq] at hck2
      cases ha
      have hosz : old.size = n * i.size := by omega
      obtain ⟨φ0, new', hn1, hn2, H0, he0⟩ := cells_read (H.drew (w.drawn + 1)) hx hnew
      obtain ⟨φ1, old', ho1, ho2, H1, he1⟩ := cells_read H0 (hs.mono he0) hold
      have hs1 := (hs.mono he0).mono he1
      obtain ⟨bs', hs'⟩ : ∃ bs', s' = .slice bs' n k := by
        cases hs with
        | slNil _ => exact ⟨_, rfl⟩
        | sl _ hk => rw [hk.1 hku]; exact ⟨_, rfl⟩
      subst hs'
      have hrun := run_append_grow' (w := w) E hd hni ty hl (by omega) (by omega) c2 ho1 hn1
      obtain ⟨φ2, q1, q2, q3⟩ := grow_push (w := w) (nc := grownCap w (n + m) k e) S (H1.drew w.drawn) hfree [] (hasEl_slice he hu) hi hz (old := old') (new := new') (t := T.ofListFrom new.toList (n * i.size) (T.ofList old.toList)) hmu (ho2.1.symm.trans hosz) ((hn2.mono he1).1.symm.trans hnsz) (grownCap_le _ _ _ _) (by
        have := appended_cells ho2 (hn2.mono he1) hosz (t0 := T.ofList old.toList) (by
          intro j v hv
          have := ofList_cells ho2 j v hv
          rw [hosz] at this
          exact this)
        intro j v hv
        have hh := this j v hv
        rw [hnsz, ← Nat.add_mul] at hh
        exact hh)
      exact ⟨φ2, _, _, hrun, q1, q2, he0.trans (he1.trans q3)⟩
    · rw [if_neg hku] at hroom ha
      split at ha <;> first | (cases ha; done) | skip
      rename_i b
      split at ha <;> first | (cases ha; done) | skip
      rename_i e' k0 xx kin t' hb
      split at ha <;> first | (cases ha; done) | skip
      rename_i hcond
      obtain ⟨rfl, rfl, rfl, hes, hes1⟩ := hcond
      cases ha
      cases hs with
      | @sl _ a' _ _ k' haa hk =>
        obtain ⟨hk1, hk2⟩ := hk.2 (by omega)
        rw [hes] at hk2
        cases haa with
        | @mk _ c _ hφ =>
          obtain ⟨c', arr, b1, b2, ⟨b3, b4, b5⟩, b6⟩ := H.blocks b _ (H.real hφ) hb
          have : c' = c := Option.some.inj (b1.symm.trans hφ)
          subst this
          have hu0 : 0 < unk := by unfold unk; omega
          have hbn : b ≠ h.next := fun e => by rw [e, H.free hfree] at b1; cases b1
          have hroom' : (⟨h.blocks.set b (.cells e' (n * i.size) false true kin t'), h.next⟩ : AHeap).room = true := by
            unfold AHeap.room
            rw [show (h.blocks.set b (.cells e' (n * i.size) false true kin t')).get h.next = h.blocks.get h.next from by rw [T.get_set, if_neg hbn.symm], AHeap.room_none hfree]
          -- the elder row is not written any more
          have Hro : ∀ {φ1 : Phi} {wx : World}, HR w0 base φ1 h wx → HR w0 base φ1 ⟨h.blocks.set b (.cells e' (n * i.size) false true kin t'), h.next⟩ wx := by
            intro φ1 wx H1
            have hget : ∀ bb, (h.blocks.set b (.cells e' (n * i.size) false true kin t')).get bb = if bb = b then some (.cells e' (n * i.size) false true kin t') else h.blocks.get bb := fun bb => T.get_set _ _ _ _
            refine ⟨fun bb y hgb hy => ?_, fun bb hy => H1.fresh bb (by
              rw [hget] at hy
              by_cases e : bb = b
              · rw [if_pos e] at hy; cases hy
              · rw [if_neg e] at hy; exact hy), H1.lo, fun b1 b2 c2 y1 y2 g1 g2 g3 g4 g5 g6 g7 => ?_, H1.below, H1.base_le, fun bb hgb => ⟨(H1.ghost bb hgb).1, fun hy => (H1.ghost bb hgb).2 (by
              have hy : (h.blocks.set b (.cells e' (n * i.size) false true kin t')).get bb = none := hy
              rw [hget] at hy
              by_cases e : bb = b
              · rw [if_pos e] at hy; cases hy
              · rw [if_neg e] at hy; exact hy)⟩⟩
            · rw [hget] at hy
              by_cases e : bb = b
              · rw [if_pos e] at hy; injection hy with hy; subst hy e
                exact (show BlockR φ1 wx bb (.cells e' (n * i.size) false false kin t') from H1.blocks bb _ hgb hb)
              · rw [if_neg e] at hy
                exact H1.blocks bb y hgb hy
            · have hold : ∀ bb y, (h.blocks.set b (.cells e' (n * i.size) false true kin t')).get bb = some y → y ≠ .dead → ∃ y0, h.blocks.get bb = some y0 ∧ y0 ≠ .dead := fun bb y hy hd => by
                rw [hget] at hy
                by_cases e : bb = b
                · subst e; exact ⟨_, hb, by simp⟩
                · rw [if_neg e] at hy; exact ⟨y, hy, hd⟩
              have hk : ∀ x y, KinR h x y → KinR ⟨h.blocks.set b (.cells e' (n * i.size) false true kin t'), h.next⟩ x y := fun x y hk => by
                obtain ⟨f1, f2, f3, f4, f5, f6, f7, f8, f9, f10, f11, m1, m2, m3, m4⟩ := hk
                have hx : ∃ r, (h.blocks.set b (.cells e' (n * i.size) false true kin t')).get x = some (.cells f1 f2 f3 r f5 f6) := by
                  rw [hget]
                  by_cases e : x = b
                  · subst e
                    rw [hb] at m1; injection m1 with m1; injection m1 with a1 a2 a3 a4 a5 a6
                    subst a1 a2 a3 a5 a6
                    exact ⟨true, by rw [if_pos rfl]⟩
                  · exact ⟨f4, by rw [if_neg e]; exact m1⟩
                have hy : (h.blocks.set b (.cells e' (n * i.size) false true kin t')).get y = some (.cells f7 f8 f9 true f10 f11) := by
                  rw [hget]
                  by_cases e : y = b
                  · subst e
                    rw [hb] at m2; injection m2 with m2; injection m2 with _ _ _ a4; cases a4
                  · rw [if_neg e]; exact m2
                obtain ⟨r, hx⟩ := hx
                exact ⟨f1, f2, f3, r, f5, f6, f7, f8, f9, f10, f11, hx, hy, m3, m4⟩
              obtain ⟨z1, hz1, hd1⟩ := hold b1 y1 g3 g5
              obtain ⟨z2, hz2, hd2⟩ := hold b2 y2 g4 g6
              exact (H1.apart b1 b2 c2 z1 z2 g1 g2 hz1 hz2 hd1 hd2 g7).imp (hk _ _) (hk _ _)
          by_cases hin : n + m ≤ k'
          · -- in place
            obtain ⟨φ0, new', hn1, hn2, H0, he0⟩ := cells_read H hx hnew
            have hN : k' * i.size ≤ arr.size := by rw [b6]; simpa using hk2
            have hnm : (n + m) * i.size ≤ k' * i.size := Nat.mul_le_mul_right _ hin
            have hns' : new'.size = m * i.size := hn2.1.symm.trans hnsz
            have hadd : (⟨c', 0, none⟩ : Addr).add (n * i.size) = ⟨c', n * i.size, none⟩ := by
              unfold Addr.add
              split
              · rename_i h0; rw [h0]
              · simp
            have hone : ∀ u ∈ new'.toList, oneV u = true := fun u hu => by
              obtain ⟨q, hq⟩ := List.mem_iff_getElem?.1 hu
              have hq' : new'[q]? = some u := by simpa using hq
              have hql := cell_bound hq'
              have hqn : q < new.size := by omega
              have hv := allB_iff c5 new[q] (by simp)
              have hvu := hn2.2 q _ _ (Array.getElem?_eq_getElem hqn) hq'
              obtain ⟨z1, z2⟩ := oneV_of hvu hv
              cases u <;> first | rfl | exact absurd rfl (z1 _) | exact absurd rfl (z2 _)
            rw [Nat.add_mul] at hnm
            obtain ⟨w1, arr1, r1, r2, r3, r4, r5, r6, r7, r8, r9⟩ := storeRow (P := P) c' e' (n * i.size) new'.toList 0 w arr b2 hone (by simp; omega)
            have hl' : new'.toList.length = new'.size := by simp
            simp only [Nat.add_zero, hl'] at r4
            have hR := alias_push H0 hfree (n1 := (n + m) * i.size) (t1 := T.ofListFrom new.toList (n * i.size) t') hb (he0 _ _ hφ) b2 r2 r3 (fun j hj => by rw [r4, if_neg (by omega)]) r5 r6 r7 r8 r9 (Nat.mul_le_mul_right _ (by omega)) (by rw [Nat.add_mul]; omega) (by
              intro j v hv
              rw [T.get_ofListFrom] at hv
              rw [Nat.add_mul]
              by_cases hj : n * i.size ≤ j ∧ j < n * i.size + new.toList.length
              · rw [if_pos hj] at hv
                have hlt : j < n * i.size + new.size := by simpa using hj.2
                refine ⟨by omega, ?_⟩
                have hv' : new[j - n * i.size]? = some v := by simpa using hv
                obtain ⟨u, hu', hr⟩ := hn2.get hv'
                exact ⟨u, by rw [r4, if_pos (by omega)]; simpa using hu', hr⟩
              · rw [if_neg hj] at hv
                obtain ⟨h1, u, h2, h3⟩ := b5 j v hv
                exact ⟨by omega, u, by rw [r4, if_neg (by omega)]; exact h2, h3.mono he0⟩)
            refine ⟨_, .slice (some ⟨c', 0, none⟩) (n + m) k', w1, ?_, ?_, hR, he0.trans (ext_more (H0.free hfree) _ _)⟩
            · rw [run_append_room' E hd hni ty hl hin hn1]
              simp only [hadd, r1, Result.andThen]
            · refine .sl (.mk (by rw [more_to, if_pos rfl])) ?_
              show CapR ((φ0.more h.next c' (φ0.size b)).size h.next) 0 _ _
              rw [more_size, if_pos rfl, he0.sz _ _ hφ]
              exact capR_grown hmu hin (by simpa using hk2)
          · -- a new row
            obtain ⟨φ0, new', hn1, hn2, H0, he0⟩ := cells_read (H.drew (w.drawn + 1)) hx hnew
            have hold : ∀ j, (arr.toList.take (n * i.size)).toArray[j]? = if j < n * i.size then arr[j]? else none := fun j => by
              rw [List.getElem?_toArray, List.getElem?_take]
              split <;> simp
            have hosz : (arr.toList.take (n * i.size)).toArray.size = n * i.size := by simp; omega
            have hcells : (Builtin.firstCells i.size n (.slice (some ⟨c', 0, none⟩) n k')).run P w.drew = .ok (arr.toList.take (n * i.size)).toArray w.drew :=
              run_firstCells_some (P := P) w.drew i.size n ⟨c', 0, none⟩ n k' (arr.toList.take (n * i.size)) (by simpa using hosz) (fun j v hv => by
                have hj : (arr.toList.take (n * i.size)).toArray[j]? = some v := by simpa using hv
                rw [hold] at hj
                split at hj
                · have hadd : (⟨c', 0, none⟩ : Addr).add j = ⟨c', j, none⟩ := by
                    unfold Addr.add
                    split
                    · rename_i h0; subst h0; rfl
                    · simp
                  rw [hadd]
                  have hc : w.drew.heap[c']? = some (.cells arr e' (0, 0)) := b2
                  simp only [World.cell?, hc]
                  simpa using hj
                · cases hj)
            have hrun := run_append_grow' (w := w) E hd hni ty hl (by omega) (by omega) c2 hcells hn1
            obtain ⟨φ2, q1, q2, q3⟩ := grow_push (w := w) (nc := grownCap w (n + m) k' e') S (Hro (H0.drew w.drawn)) hroom' (b :: kin) (hasEl_slice he hu) hi hz (old := (arr.toList.take (n * i.size)).toArray) (new := new') (t := T.ofListFrom new.toList (n * i.size) t') hmu hosz (hn2.1.symm.trans hnsz) (grownCap_le _ _ _ _) (by
              intro j v hv
              rw [T.get_ofListFrom] at hv
              rw [Nat.add_mul]
              by_cases hj : n * i.size ≤ j ∧ j < n * i.size + new.toList.length
              · rw [if_pos hj] at hv
                have hlt : j < n * i.size + new.size := by simpa using hj.2
                refine ⟨by omega, ?_⟩
                have hv' : new[j - n * i.size]? = some v := by simpa using hv
                obtain ⟨u, hu', hr⟩ := hn2.get hv'
                exact ⟨u, by rw [Array.getElem?_append, if_neg (by omega), hosz]; exact hu', hr⟩
              · rw [if_neg hj] at hv
                obtain ⟨h1, u, h2, h3⟩ := b5 j v hv
                exact ⟨by omega, u, by rw [Array.getElem?_append, if_pos (by omega), hold, if_pos h1]; exact h2, h3.mono he0⟩)
            exact ⟨φ2, _, _, hrun, q1, q2, he0.trans q3⟩
end
end
end Go.Ab
