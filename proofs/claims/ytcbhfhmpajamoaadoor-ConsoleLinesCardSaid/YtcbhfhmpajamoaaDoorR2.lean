/- Walk: text.Result's closure put. -/
import Derived.Test.YtcbhfhmpajamoaaDoorK5
namespace Go.Proofs.YtcbhfhmpajamoaaDoor
open Go.RowKit

/-- The world in text.Result: the variable out holds a row of the call's own, the blocks of F stand. -/
structure OutS (w W : World) (F : Nat → Option Obj) (ob : Nat) (v : Value) (ls : List (List Int)) : Prop where
  at_ : W.heap[ob]? = some (.cells #[v] 51)
  own : W.ownsRow w.heap.size 9 1 v ls.length (strs ls)
  ne : v.ownBlock ≠ some ob
  far : ∀ q, v.ownBlock = some q → F q = none
  kept : ∀ q o, F q = some o → W.heap[q]? = some o ∧ q ≠ ob
  bel : Below w.heap.size w W
  low : w.heap.size ≤ ob
theorem OutS.below {w W W' : World} {F : Nat → Option Obj} {ob : Nat} {v : Value} {ls : List (List Int)} (h : OutS w W F ob v ls) (hb : Below W.heap.size W W') : OutS w W' F ob v ls :=
  ⟨(hb.block ob (heap_lt h.at_)).trans h.at_, own_grown h.own hb, h.ne, h.far, fun q o hq => ⟨(hb.block q (heap_lt (h.kept q o hq).1)).trans (h.kept q o hq).1, (h.kept q o hq).2⟩, below_then h.bel h.bel.size hb, h.low⟩
theorem OutS.drew {w W : World} {F : Nat → Option Obj} {ob : Nat} {v : Value} {ls : List (List Int)} (h : OutS w W F ob v ls) : OutS w W.drew F ob v ls :=
  ⟨h.at_, h.own, h.ne, h.far, h.kept, below_drewN h.bel 1, h.low⟩
theorem OutS.cell {w W : World} {F : Nat → Option Obj} {ob : Nat} {v : Value} {ls : List (List Int)} (h : OutS w W F ob v ls) : W.cell? ⟨ob, 0, none⟩ = some v := by
  rw [cell_of_row _ _ _ _ _ _ h.at_]; rfl
def PutRes (w : World) (F : Nat → Option Obj) (ob : Nat) (ls : List (List Int)) (xs : List Int) (e : Ending) (w' : World) : Prop :=
  if ∀ x ∈ xs, 0 ≤ x ∧ x ≤ 9999999999 then e = .returned (.bool true) ∧ ∃ v, OutS w w' F ob v (ls ++ xs.map fun x => decL x.toNat) else e = .returned (.bool false) ∧ Below w.heap.size w w'
theorem OutS.sub {w W : World} {F F' : Nat → Option Obj} {ob : Nat} {v : Value} {ls : List (List Int)} (h : OutS w W F ob v ls) (hf : ∀ q o, F' q = some o → F q = some o) : OutS w W F' ob v ls :=
  ⟨h.at_, h.own, h.ne, (fun q hq => by
    cases hF : F' q with
    | none => rfl
    | some o => have := hf q o hF; rw [h.far q hq] at this; cases this), fun q o hq => h.kept q o (hf q o hq), h.bel, h.low⟩
/-- One append and the store into the variable. -/
theorem OutS.push {w W W1 : World} {F : Nat → Option Obj} {ob g n cap : Nat} {v : Value} {ls : List (List Int)} {s : List Int} {O : Obj} (h : OutS w W F ob v ls)
    (ho : W1.ownsRow w.heap.size 9 1 (.slice (some ⟨g, 0, none⟩) n cap) n (strs ls ++ [.string (bs s)])) (hg : (W.alloc O).grownBy W1 v.ownBlock) (hat : v.ownBlock = some g ∨ g = W.heap.size + 1) :
    W1.cell? ⟨ob, 0, none⟩ = some v ∧ W1.frozen? ⟨ob, 0, none⟩ = false ∧ OutS w (W1.setCell ⟨ob, 0, none⟩ (.slice (some ⟨g, 0, none⟩) n cap)) F ob (.slice (some ⟨g, 0, none⟩) n cap) (ls ++ [s]) := by
  have hlt := heap_lt h.at_
  have hob : W1.heap[ob]? = some (.cells #[v] 51) := by
    rw [hg.block ob (by simp; omega) (fun e => h.ne e.symm), Below.heap_alloc _ _ _ hlt]; exact h.at_
  have hgo : g ≠ ob := by
    rcases hat with e | e
    · intro e2; subst e2; exact h.ne e
    · omega
  have hbel := below_row h.bel (Nat.le_refl _) h.bel.size h.own hg
  have hn : n = (ls ++ [s]).length := by
    have := ho.1
    simp [strs] at this
    simp; omega
  refine ⟨by rw [cell_of_row _ _ _ _ _ _ hob]; rfl, by simp [World.frozen?, hob], one_setCell hob, ?_, ?_, ?_, ?_, Below.setCell hbel h.low _, h.low⟩
  · rw [strs_snoc, ← hn]
    exact ownsRow_setCell_other ho (by simp [Value.ownBlock]; exact hgo) _
  · simp [Value.ownBlock]; exact hgo
  · intro q hq
    have hq : g = q := by simpa [Value.ownBlock] using hq
    subst hq
    cases hF : F g with
    | none => rfl
    | some o =>
      exfalso
      have hk := h.kept g o hF
      rcases hat with e | e
      · rw [h.far g e] at hF; cases hF
      · have := heap_lt hk.1; omega
  · intro q o hq
    have hk := h.kept q o hq
    refine ⟨?_, hk.2⟩
    rw [Below.heap_setCell _ _ _ _ hk.2, hg.block q (by have := heap_lt hk.1; simp; omega) (fun e => by rw [h.far q e.symm] at hq; cases hq), Below.heap_alloc _ _ _ (heap_lt hk.1)]
    exact hk.1
abbrev argsBox (xs : List Int) : Obj := .cells (xs.map (Value.int .i64)).toArray 3
set_option maxHeartbeats 0 in
set_option maxRecDepth 100000 in
theorem putFn (b c : Nat) (xs : List Int) (F : Nat → Option Obj) (ob : Nat) (v : Value) (ls : List (List Int)) (w W : World) (ht : Tab w) (hS : OutS w W F ob v ls) (hF : F b = some (argsBox xs)) (hl : xs.length ≤ 100) (hls : ls.length ≤ 1000) :
    Calls Tryd.prog 19 #[.slice (some ⟨b, 0, none⟩) xs.length c, .pointer (some ⟨ob, 0, none⟩)] W (PutRes w F ob ls xs) := by
  have HS := Lib.hid hS
  have HT := Lib.hid ht
  have HC : Hid (∀ {W : World} {v : Value} {ls : List (List Int)}, OutS w W F ob v ls → ∀ k, k < xs.length → W.cell? ⟨b, k, none⟩ = some (.int .i64 (xs.getD k 0))) := by
    intro W v ls h k hk
    rw [cell_of_row _ _ _ _ _ _ (h.kept b _ hF).1]
    simp [List.getD_eq_getElem?_getD, hk]
  clear hS ht hF
  generalize hn : xs.length = n at *
  have HN := Lib.hid hn
  clear hn
  go_enter Tryd.func19, Tryd.ntmps19
  go_wp2_with fail
  go_loopw [8] (fun i wr => ∃ (k : Nat) (v' : Value), k ≤ n ∧ i = .int .i64 k ∧ Hid (OutS w wr F ob v' (ls ++ (xs.take k).map fun x => decL x.toNat)) ∧ Hid (∀ x ∈ xs.take k, 0 ≤ x ∧ x ≤ 9999999999)) (fun i _ => n - (intOf i).toNat)
  case atStart => exact ⟨0, v, Nat.zero_le _, rfl, by show OutS _ _ _ _ _ _; simpa using HS.out, by intro x hx; simp at hx⟩
  case round =>
    obtain ⟨k, v', hk, rfl, HO, HX⟩ := hrel
    clear HS
    by_cases hlt : k < n
    · have hki : (k : Int) < (n : Int) := by omega
      have hkl : k < xs.length := by rw [HN.out]; exact hlt
      have hcx := HC.out HO.out k (by first | exact hlt | exact hkl)
      have HTK := Lib.hid (take_snoc (getD_at 0 xs k hkl))
      have hmem := getD_mem 0 xs k hkl
      clear hkl
      generalize xs.getD k 0 = x at *
      by_cases hx : 0 ≤ x ∧ x ≤ 9999999999
      · obtain ⟨hx0, hx1⟩ := hx
        have HI := Lib.hid (fun (V : World) (h : Tab V) => itoaFn x.toNat (by omega) V h)
        rw [Int.toNat_of_nonneg (by omega)] at HI
        unfold StrRes at HI
        obtain ⟨A', c', rfl⟩ := own_form HO.out.own
        obtain ⟨i0, hi, hz0, hz1, hz2⟩ := info_parts str_info
        have HTD := Lib.hid (HT.out.below (below_drewN HO.out.bel 1))
        have hcl := HO.out.cell
        have hll : (ls ++ (xs.take k).map fun x => decL x.toNat).length ≤ 2000 := by simp; omega
        generalize hLL : ls ++ (xs.take k).map (fun x => decL x.toNat) = LL at *
        have HLL := Lib.hid hLL
        clear hLL
        go_upto_region 6 with fail
        go_region_law (first
          | (go_simp; go_at_call 15; refine (HI.out _ HTD.out).mono ?_; rintro e wz ⟨rfl, hbz⟩; (have HO2 := Lib.hid (HO.out.drew.below hbz)); clear hbz; have hcl2 := HO2.out.cell; have hcl3 := (HO2.out.below (below_box wz (.cells #[.string (bs (decL x.toNat))] 9))).cell)
          | (refine step_append_lies _ rfl (.tmp 18) (.tmp 21) 51 rfl w.heap.size 9 i0 (.string ⟨#[]⟩) 1 16 Tryd.underlying51 hi hz0 hz1 hz2 rfl (by decide) _ _ _ (by simp [Act.eval, Act.put]) (HO2.out.own.alloc _) _ 1 1 [.string (bs (decL x.toNat))] (by simp [Act.eval, Act.put]) rfl (news_val _ _ _) (one_str _) (by omega) (by unfold maxLen; omega) (by omega) (by simp; have := HO2.out.bel.size; omega) _ rfl ?_; intro g cap w11 hown hgrow hat _; obtain ⟨hc1, hc2, hS⟩ := HO2.out.push (s := decL x.toNat) hown hgrow (by simpa using hat); (have HO3 := Lib.hid hS); clear hS hown hgrow hat))
        all_goals
          go_wp2_with fail
          go_roundw
          case rel => exact ⟨k + 1, _, by omega, by go_num, by show OutS _ _ _ _ _ _; rw [HTK.out, List.map_append, ← List.append_assoc, HLL.out]; exact HO3.out, by
            intro y hy
            rw [HTK.out] at hy
            rcases List.mem_append.1 hy with hy | hy
            · exact HX.out y hy
            · simp at hy; subst hy; exact ⟨hx0, hx1⟩⟩
          case measure => simp [intOf]; omega
      · have HR : Hid (∀ e w', (e = .returned (.bool false) ∧ Below w.heap.size w w') → PutRes w F ob ls xs e w') := fun e w' h => by
          unfold PutRes
          rw [if_neg (fun hh => hx (hh _ hmem))]
          exact h
        by_cases hx0 : x < 0
        · go_wp2_with fail
          go_ret
          exact HR.out _ _ ⟨rfl, HO.out.bel⟩
        · have hx1 : 9999999999 < x := by omega
          go_wp2_with fail
          go_ret
          exact HR.out _ _ ⟨rfl, HO.out.bel⟩
    · obtain rfl : k = n := by omega
      have hT := List.take_of_length_le (l := xs) (i := k) (by rw [HN.out]; omega)
      rw [hT] at HO HX
      have HR : Hid (PutRes w F ob ls xs (.returned (.bool true)) wr) := by
        show PutRes _ _ _ _ _ _ _
        unfold PutRes
        rw [if_pos HX.out]
        exact ⟨rfl, _, HO.out⟩
      clear hT
      go_wp2_with fail
      go_ret
      exact HR.out
end Go.Proofs.YtcbhfhmpajamoaaDoor
