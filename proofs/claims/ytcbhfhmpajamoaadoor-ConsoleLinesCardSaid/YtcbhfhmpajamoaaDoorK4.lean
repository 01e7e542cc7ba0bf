/- Walks: rows of strings, Join; console.numbers. -/
import Derived.Test.YtcbhfhmpajamoaaDoorK3
namespace Go.Proofs.YtcbhfhmpajamoaaDoor
open Go.RowKit

/-- Words with a blank between them. -/
def joinL : List (List Int) → List Int
  | [] => []
  | [x] => x
  | x :: y :: r => x ++ 32 :: joinL (y :: r)
def strs (ls : List (List Int)) : List Value := ls.map fun l => Value.string (bs l)
theorem strs_snoc (ls : List (List Int)) (l : List Int) : strs (ls ++ [l]) = strs ls ++ [Value.string (bs l)] := by simp [strs]
theorem joinL_snoc (ls : List (List Int)) (l : List Int) (h : ls ≠ []) : joinL (ls ++ [l]) = joinL ls ++ 32 :: l := by
  induction ls with
  | nil => exact absurd rfl h
  | cons x ls ih =>
    cases ls with
    | nil => rfl
    | cons y r =>
      have := ih (by simp)
      show x ++ 32 :: joinL ((y :: r) ++ [l]) = _
      rw [this]; simp [joinL]
theorem bs_data (l : List Int) : (bs l).data.toList = l.map fun i => UInt8.ofNat i.toNat := by simp [bs]
theorem join_more (x y : List UInt8) (r : List (List UInt8)) (sep : List UInt8) : Lib.join (x :: y :: r) sep = x ++ (sep ++ Lib.join (y :: r) sep) := by
  rw [Lib.join_cons, Lib.join_cons]
  simp [Lib.joinTail]
def by8 (l : List Int) : List UInt8 := l.map fun i => UInt8.ofNat i.toNat
theorem join_by8 (ls : List (List Int)) : Lib.join (ls.map by8) [32] = by8 (joinL ls) := by
  induction ls with
  | nil => rfl
  | cons x ls ih =>
    cases ls with
    | nil => simp [Lib.join_one, joinL]
    | cons y r =>
      simp only [List.map_cons] at ih ⊢
      rw [join_more, ih]
      simp [joinL, by8]
theorem bs_joinL (ls : List (List Int)) : (⟨(Lib.join ((ls.map bs).map (·.data.toList)) (⟨#[32]⟩ : ByteArray).data.toList).toArray⟩ : ByteArray) = bs (joinL ls) := by
  have e : (ls.map bs).map (·.data.toList) = ls.map by8 := by rw [List.map_map]; rfl
  rw [e, show (⟨#[32]⟩ : ByteArray).data.toList = [32] from rfl, join_by8]
  rfl
theorem joinL_le (ls : List (List Int)) (m : Nat) (h : ∀ l ∈ ls, l.length ≤ m) : (joinL ls).length ≤ ls.length * (m + 1) := by
  induction ls with
  | nil => simp [joinL]
  | cons x ls ih =>
    have hx := h x (by simp)
    have hr := ih (fun l hl => h l (by simp [hl]))
    cases ls with
    | nil => simp [joinL]; omega
    | cons y r =>
      simp only [joinL, List.length_append, List.length_cons] at hr ⊢
      have : (r.length + 1 + 1) * (m + 1) = (r.length + 1) * (m + 1) + (m + 1) := by rw [Nat.add_mul, Nat.one_mul]
      omega
theorem getD_at {α : Type} (d : α) (xs : List α) (k : Nat) (h : k < xs.length) : xs[k]? = some (xs.getD k d) := by simp [List.getD_eq_getElem?_getD, h]
theorem getD_mem {α : Type} (d : α) (xs : List α) (k : Nat) (h : k < xs.length) : xs.getD k d ∈ xs := List.mem_of_getElem? (getD_at d xs k h)
theorem own_grown {w w' : World} {B n : Nat} {e : TypeId} {sz : Nat} {v : Value} {l : List Value} (h : w.ownsRow B e sz v n l) (hb : Below w.heap.size w w') : w'.ownsRow B e sz v n l :=
  h.kept (row := none) ⟨hb.os, hb.tape, hb.output, hb.size, fun k hk _ => hb.block k hk⟩ (by cases hv : v.ownBlock <;> simp)
/-- A row of strings of the call's own. -/
theorem joinFn (B : Nat) (v : Value) (ls : List (List Int)) (w : World) (hown : w.ownsRow B 9 1 v ls.length (strs ls)) (h0 : 0 < ls.length) (hl : ls.length ≤ 1000000) (hm : (joinL ls).length ≤ 100000000) :
    Calls Tryd.prog 17 #[v, .string ⟨#[32]⟩] w (StrRes (joinL ls) w) := by
  obtain ⟨g, cap, rfl, hB, hlt⟩ := hown.form h0
  have hcap : ls.length ≤ cap := by
    rcases hown.2 with ⟨e, _⟩ | ⟨g', cap', cur, e, _, _, hc, _⟩
    · cases e
    · injection e with _ _ e; omega
  have hj := bs_joinL ls
  have h := Tryd.strings_Join g 0 cap (ls.map bs) ⟨#[32]⟩ w (fun j x hx => by
    have h1 := hown.cells (g := g) rfl j (.string x) (by
      simp only [strs, List.getElem?_map] at hx ⊢
      cases h2 : ls[j]? with
      | none => rw [h2] at hx; cases hx
      | some l => rw [h2] at hx; simp at hx ⊢; exact hx)
    rw [← h1]; unfold Addr.add; by_cases h0 : j = 0 <;> simp [h0]) hlt (by simp; omega) (by simpa using hcap) (by
      have := congrArg ByteArray.size hj
      rw [bs_size] at this
      have e2 : (Lib.join ((ls.map bs).map (·.data.toList)) (⟨#[32]⟩ : ByteArray).data.toList).length = (joinL ls).length := by
        rw [← this]; show _ = (List.toArray _).size; rw [List.size_toArray]
      omega)
  rw [List.length_map, hj] at h
  exact h
theorem str_info : (Tryd.prog.info? 9).map (fun i => (i.zero, i.size, i.bytes)) = some (some (.string ⟨#[]⟩), 1, 16) := by kernel_rfl
theorem one_str (s : ByteArray) : ∀ u ∈ ([Value.string s] : List Value), u.oneCell' = true := by intro u hu; simp at hu; subst hu; rfl
theorem news_val (W : World) (v : Value) (t : TypeId) : ∀ j u, ([v] : List Value)[j]? = some u → (W.alloc (.cells #[v] t)).cell? ((⟨W.heap.size, 0, none⟩ : Addr).add j) = some u := news_cells W #[v] t
def numL (x : Int) : List Int := if x = -1 then [45, 49] else decL x.toNat
theorem itoaN (x : Int) (h0 : -1 ≤ x) (h1 : x ≤ 9999999999) (w : World) (ht : Tab w) : Calls Tryd.prog 15 #[.int .i64 x] w (StrRes (numL x) w) := by
  unfold numL
  by_cases h : x = -1
  · subst h; rw [if_pos rfl]; exact itoaNeg w ht
  · rw [if_neg h]
    obtain ⟨n, rfl⟩ : ∃ n : Nat, x = n := ⟨x.toNat, by omega⟩
    exact itoaFn n (by omega) w ht
theorem numL_le (x : Int) (h1 : x ≤ 9999999999) : (numL x).length ≤ 10 := by
  unfold numL; split
  · decide
  · exact decL_len _ 10 (by omega) (by omega)
set_option maxHeartbeats 0 in
set_option maxRecDepth 100000 in
theorem numbersFn (A : Option Addr) (c : Nat) (xs : List Int) (w : World) (ht : Tab w) (hI : Ints w w.heap.size A xs) (h0 : 0 < xs.length) (hl : xs.length ≤ 100) (hx : ∀ x ∈ xs, -1 ≤ x ∧ x ≤ 9999999999) :
    Calls Tryd.prog 8 #[.slice A xs.length c] w (StrRes (joinL (xs.map numL)) w) := by
  obtain ⟨b, o, rfl, hb, hcx⟩ := hI h0
  have HC := Lib.hid hcx
  have HX := Lib.hid hx
  have HT := Lib.hid ht
  have HB0 := Lib.hid (Below.refl w.heap.size w)
  have HJ := Lib.hid (joinL_le (xs.map numL) 10 (by intro l hl; simp at hl; obtain ⟨x, hx', rfl⟩ := hl; exact numL_le x (hx x hx').2))
  clear hI hcx hx ht
  generalize hn : xs.length = n at *
  have HN := Lib.hid hn
  clear hn
  go_enter Tryd.func8, Tryd.ntmps8
  go_wp2_with fail
  go_loopw [3, 8] (fun v i wr => ∃ (k : Nat) (v' : Value), k ≤ n ∧ v = v' ∧ i = .int .i64 k ∧ Hid (wr.ownsRow w.heap.size 9 1 v' k (strs ((xs.take k).map numL))) ∧ Hid (Below w.heap.size w wr)) (fun _ i _ => n - (intOf i).toNat)
  case atStart => exact ⟨0, _, Nat.zero_le _, rfl, rfl, World.ownsRow_nil _ _ _ _, HB0.out⟩
  case round =>
    obtain ⟨k, v', hk, rfl, rfl, HV, HW⟩ := hrel
    clear HB0
    by_cases hlt : k < n
    · have hki : (k : Int) < (n : Int) := by omega
      have hkl : k < xs.length := by rw [HN.out]; exact hlt
      have hcx := HC.out k (by first | exact hlt | exact hkl)
      rw [← HW.out.cell (p := ⟨b, o + k, none⟩) hb] at hcx
      have hbd := HX.out _ (getD_mem 0 xs k hkl)
      have HTK := Lib.hid (take_snoc (getD_at 0 xs k hkl))
      clear hkl
      generalize xs.getD k 0 = x at *
      have HI := Lib.hid (itoaN x hbd.1 hbd.2 wr (HT.out.below HW.out))
      unfold StrRes at HI
      obtain ⟨A', c', rfl⟩ := own_form HV.out
      go_wp2_with fail
      refine HI.out.mono ?_
      rintro e w1 ⟨rfl, hb1⟩
      have HW1 := Lib.hid (below_then HW.out HW.out.size hb1)
      have HV1 := Lib.hid (own_grown HV.out hb1)
      have hB := HW1.out.size
      clear hb1 HV HW hcx HI
      obtain ⟨i0, hi, hz0, hz1, hz2⟩ := info_parts str_info
      go_wp2_with (at_builtin; refine wpList_append_own _ rfl _ _ 51 rfl w.heap.size 9 i0 (.string ⟨#[]⟩) 1 16 Tryd.underlying51 hi hz0 hz1 hz2 rfl (by decide) _ _ _ rfl (HV1.out.alloc _) ⟨w1.heap.size, 0, none⟩ 1 1 [.string (bs (numL x))] rfl rfl (news_val _ _ _) (one_str _) ?c3 ?c4 ?c5 ?_)
      case c3 => unfold maxLen; omega
      case c4 => omega
      case c5 => simp; omega
      intro v' w2 hown hgrow _
      have HW2 := Lib.hid (below_row HW1.out (Nat.le_refl _) hB HV1.out hgrow)
      have HV2 : Hid (w2.ownsRow w.heap.size 9 1 v' (k + 1) (strs ((xs.take (k + 1)).map numL))) := by
        show World.ownsRow _ _ _ _ _ _ _
        rw [HTK.out, List.map_append, List.map_singleton, strs_snoc]
        first | exact hown | (rw [List.map_take]; exact hown)
      clear hown hgrow HV1 HW1
      go_wp2_with fail
      go_roundw
      case rel => exact ⟨k + 1, _, by omega, rfl, by go_num, HV2.out, HW2.out⟩
      case measure => simp [intOf]; omega
    · obtain rfl : k = n := by omega
      have HV2 := HV.out
      rw [List.take_of_length_le (by rw [HN.out]; omega)] at HV2
      have hlen : (xs.map numL).length = k := by rw [List.length_map, HN.out]
      have HJF := Lib.hid (joinFn w.heap.size _ (xs.map numL) wr (by rw [hlen]; exact HV2) (by omega) (by omega) (by have := HJ.out; rw [List.length_map] at this; have h2 := HN.out; rw [h2] at this; omega))
      unfold StrRes at HJF
      obtain ⟨A', c', rfl⟩ := own_form HV.out
      clear HV2
      go_wp2_with fail
      refine HJF.out.mono ?_
      rintro e w1 ⟨rfl, hb1⟩
      have HW1 := Lib.hid (below_then HW.out HW.out.size hb1)
      clear hb1
      go_wp2_with fail
      go_ret
      exact ⟨rfl, HW1.out⟩
end Go.Proofs.YtcbhfhmpajamoaaDoor
