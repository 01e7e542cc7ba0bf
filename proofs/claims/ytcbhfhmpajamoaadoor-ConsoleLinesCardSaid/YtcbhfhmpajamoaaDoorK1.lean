/- Walks: a string as a word of hexadecimal digits, by the program and by the reference. -/
import Derived.Test.YtcbhfhmpajamoaaDoorBase
import Derived.Laws.OwnMore
import Derived.Laws.BitsLemmas
import Derived.Deep.RegionHeld3
import Derived.Deep.RegionLaw
namespace Go.Proofs.YtcbhfhmpajamoaaDoor
open Go.RowKit

abbrev hexs : ByteArray := ⟨#[48, 49, 50, 51, 52, 53, 54, 55, 56, 57, 97, 98, 99, 100, 101, 102]⟩
def hxd (x : Nat) : Int := if x < 10 then 48 + x else 87 + x
theorem hexv (x : Nat) (h : x < hexs.size) : ((hexs[x]'h).toNat : Int) = hxd x := by
  have h' : x < 16 := h
  have h'' : x = 0 ∨ x = 1 ∨ x = 2 ∨ x = 3 ∨ x = 4 ∨ x = 5 ∨ x = 6 ∨ x = 7 ∨ x = 8 ∨ x = 9 ∨ x = 10 ∨ x = 11 ∨ x = 12 ∨ x = 13 ∨ x = 14 ∨ x = 15 := by omega
  rcases h'' with rfl | rfl | rfl | rfl | rfl | rfl | rfl | rfl | rfl | rfl | rfl | rfl | rfl | rfl | rfl | rfl <;> rfl
theorem hxd_bd (x : Nat) (h : x < 16) : 0 ≤ hxd x ∧ hxd x < 256 := by unfold hxd; split <;> omega
/-- A string of these bytes. -/
def bs (l : List Int) : ByteArray := ⟨(l.map fun i => UInt8.ofNat i.toNat).toArray⟩
theorem bs_size (l : List Int) : (bs l).size = l.length := by show (List.map _ l).toArray.size = _; rw [List.size_toArray, List.length_map]
theorem bs_app (l l' : List Int) : bs l ++ bs l' = bs (l ++ l') := by
  apply ByteArray.ext
  simp [bs]
def BL (l : List Int) : Prop := ∀ x ∈ l, 0 ≤ x ∧ x < 256
/-- The bytes of a string. -/
def ints (s : ByteArray) : List Int := s.data.toList.map fun b => (b.toNat : Int)
theorem ints_len (s : ByteArray) : (ints s).length = s.size := by unfold ints; rw [List.length_map, Array.length_toList]; rfl
theorem ints_BL (s : ByteArray) : BL (ints s) := by
  intro x hx
  simp only [ints, List.mem_map] at hx
  obtain ⟨b, _, rfl⟩ := hx
  have := UInt8.toNat_lt b
  omega
theorem bs_ints (s : ByteArray) : bs (ints s) = s := by
  apply ByteArray.ext
  unfold bs ints
  rw [List.map_map]
  have e : ((fun i : Int => UInt8.ofNat i.toNat) ∘ fun b : UInt8 => (b.toNat : Int)) = id := by funext b; simp
  rw [e, List.map_id]
theorem ints_at (s : ByteArray) (k : Nat) (hk : k < s.size) : (ints s)[k]? = some ((s[k]'hk).toNat : Int) := by
  have h2 : k < s.data.size := hk
  simp only [ints, List.getElem?_map]
  rw [show s.data.toList[k]? = some (s.data[k]'h2) by simp [h2]]
  rfl
theorem take_snoc {α : Type} {l : List α} {k : Nat} {x : α} (h : l[k]? = some x) : l.take (k + 1) = l.take k ++ [x] := by
  rw [List.take_add_one, h]; rfl
/-- The word's digits. -/
def hexL (l : List Int) : List Int := l.flatMap fun b => [hxd (b.toNat / 16), hxd (b.toNat % 16)]
theorem hexL_snoc (l : List Int) (b : Int) : hexL (l ++ [b]) = hexL l ++ [hxd (b.toNat / 16), hxd (b.toNat % 16)] := by simp [hexL]
theorem hexL_len (l : List Int) : (hexL l).length = 2 * l.length := by
  induction l with
  | nil => rfl
  | cons b l ih =>
    have e : hexL (b :: l) = [hxd (b.toNat / 16), hxd (b.toNat % 16)] ++ hexL l := by simp [hexL]
    rw [e, List.length_append, ih]; simp; omega
theorem hexL_BL {l : List Int} (h : BL l) : BL (hexL l) := by
  intro x hx
  simp only [hexL, List.mem_flatMap] at hx
  obtain ⟨b, hb, hx⟩ := hx
  have hb := h b hb
  simp at hx
  rcases hx with rfl | rfl
  · exact hxd_bd _ (by omega)
  · exact hxd_bd _ (by omega)
def quoteL (s : ByteArray) : List Int := 43 :: hexL (ints s)
theorem quoteL_BL (s : ByteArray) : BL (quoteL s) := by
  intro x hx
  rcases List.mem_cons.1 hx with rfl | hx
  · decide
  · exact hexL_BL (ints_BL s) x hx
theorem quoteL_len (s : ByteArray) : (quoteL s).length = 1 + 2 * s.size := by simp [quoteL, hexL_len, ints_len]; omega
theorem u8_info : (Tryd.prog.info? 5).map (fun i => (i.zero, i.size, i.bytes)) = some (some (.int .u8 0), 1, 1) := by kernel_rfl
theorem und5 : Tryd.prog.underlying 5 = some (.int .u8) := Tryd.underlying5
theorem und9 : Tryd.prog.underlying 9 = some .string := Tryd.underlying9
theorem news_cells (W : World) (vs : Array Value) (t : TypeId) : ∀ j u, vs.toList[j]? = some u → (W.alloc (.cells vs t)).cell? ((⟨W.heap.size, 0, none⟩ : Addr).add j) = some u :=
  World.news_of_block (fr := (0, 0)) (heap_alloc_new _ _)
theorem own_form {w : World} {base : Nat} {e : TypeId} {size n : Nat} {v : Value} {xs : List Value} (h : w.ownsRow base e size v n xs) : ∃ A c, v = .slice A n c := by
  rcases h.2 with ⟨rfl, rfl⟩ | ⟨g, cap, cur, rfl, _⟩
  · exact ⟨_, _, rfl⟩
  · exact ⟨_, _, rfl⟩
theorem own_drew {W : World} {B : Nat} {e : TypeId} {sz n : Nat} {v : Value} {l : List Value} (h : W.ownsRow B e sz v n l) : W.drew.ownsRow B e sz v n l := h
theorem grown_undrew {W w1 : World} {r : Option Nat} (hg : W.drew.grownBy w1 r) : W.grownBy w1 r := ⟨hg.os, hg.tape, hg.output, hg.size, hg.block⟩
theorem heap_lt {w : World} {b : Nat} {o : Obj} (h : w.heap[b]? = some o) : b < w.heap.size := by
  rcases Nat.lt_or_ge b w.heap.size with hlt | hge
  · exact hlt
  · rw [Array.getElem?_eq_none hge] at h; cases h
theorem below_box (w : World) (o : Obj) : Below w.heap.size w (w.alloc o) := (Below.refl _ _).alloc (Nat.le_refl _) o
theorem below_then {B : Nat} {a b c : World} (h : Below B a b) (hB : B ≤ b.heap.size) (k : Below b.heap.size b c) : Below B a c := h.trans (k.mono hB)
/-- An append to a row of the call's own leaves what lies below it. -/
theorem below_row {B lim n : Nat} {w W w1 : World} {e : TypeId} {size : Nat} {v : Value} {vs : List Value} {O : Obj} (h : Below B w W) (hl : B ≤ lim) (hB : B ≤ W.heap.size) (hown : W.ownsRow lim e size v n vs) (hg : (W.alloc O).grownBy w1 v.ownBlock) : Below B w w1 := by
  have hs := hg.size
  simp only [World.size_alloc] at hs
  refine h.trans ⟨hg.os, hg.tape, hg.output, by omega, fun k hk => ?_⟩
  rw [hg.block k (by simp; omega) (fun e => by have := (World.ownsRow.lt hown k e.symm).1; omega)]
  exact Below.heap_alloc _ _ _ (by omega)
theorem conv_row {W : World} {B n c : Nat} {A : Option Addr} {l : List Int} (hl : BL l) (hown : W.ownsRow B 5 1 (.slice A n c) l.length (l.map (Value.int .u8))) (h0 : 0 < l.length) :
    (convert 75 9 (.slice A n c)).run Tryd.prog W = .ok (.string (bs l)) W := by
  obtain ⟨g, cap, hv, _, hlt⟩ := hown.form h0
  have hA : A = some ⟨g, 0, none⟩ := by injection hv
  have hn : n = l.length := by injection hv
  subst hA hn
  have := run_convert_bytes_back (P := Tryd.prog) W 75 9 5 ⟨g, 0, none⟩ c (l.map fun i => UInt8.ofNat i.toNat) Tryd.underlying75 und5 und9 (by
    intro j hj
    have hj' : j < l.length := by simpa using hj
    have hx := hl l[j] (List.getElem_mem hj')
    simp only [List.getElem_map, UInt8.toNat_ofNat']
    have e : ((l[j].toNat % 2 ^ 8 : Nat) : Int) = l[j] := by omega
    rw [e]
    exact hown.cells (g := g) rfl j (.int .u8 l[j]) (by simp [hj']))
  simpa [bs] using this
def StrRes (l : List Int) (w : World) (e : Ending) (w' : World) : Prop := e = .returned (.string (bs l)) ∧ Below w.heap.size w w'
set_option maxHeartbeats 0 in
set_option maxRecDepth 100000 in
theorem quoteFn (s : ByteArray) (w : World) (hs : s.size ≤ 100000) : Calls Tryd.prog 16 #[.string s] w (StrRes (quoteL s) w) := by
  have HO := Lib.hid (World.ownsRow_lit (base := w.heap.size) (e := 5) (size := 1) w #[.int .u8 43] 1 (Nat.le_refl _) (by unfold maxLen; omega) rfl)
  have HB0 := Lib.hid (below_box w (.cells #[.int .u8 43] 5))
  go_enter Tryd.func16, Tryd.ntmps16
  go_wp2_with fail
  generalize hv0 : (Value.slice (some { block := w.heap.size, off := 0 }) 1 1) = v0 at *
  generalize hW0 : w.alloc (.cells #[.int .u8 43] 5) = W0 at *
  clear hv0 hW0
  go_loopw [3, 8] (fun v i wr => ∃ (k : Nat) (v' : Value), k ≤ s.size ∧ v = v' ∧ i = .int .i64 k ∧ Hid (wr.ownsRow w.heap.size 5 1 v' (1 + 2 * k) ((43 :: hexL ((ints s).take k)).map (Value.int .u8))) ∧ Hid (Below w.heap.size w wr)) (fun _ i _ => s.size - (intOf i).toNat)
  case atStart => exact ⟨0, _, Nat.zero_le _, rfl, rfl, by show World.ownsRow _ _ _ _ _ _ _; simpa [hexL] using HO.out, HB0.out⟩
  case round =>
    obtain ⟨k, v', hk, rfl, rfl, HV, HW⟩ := hrel
    clear HO HB0
    by_cases hlt : k < s.size
    · have hki : (k : Int) < (s.size : Int) := by omega
      have hb := UInt8.toNat_lt (s[k]'hlt)
      have HT := Lib.hid (take_snoc (ints_at s k hlt))
      obtain ⟨A, c, rfl⟩ := own_form HV.out
      obtain ⟨i0, hi, hz0, hz1, hz2⟩ := info_parts u8_info
      have hB : w.heap.size ≤ wr.heap.size := HW.out.size
      have e1 : ((((s[k]'hlt).toNat : Nat) : Int) / 16).toNat = (s[k]'hlt).toNat / 16 := by omega
      have e2 : (0 : Int) ≤ (((s[k]'hlt).toNat : Nat) : Int) / 16 := by omega
      have e3 : (((s[k]'hlt).toNat : Nat) : Int) / 16 < 16 := by omega
      have hv := hexv
      have e4 : bits BinOp.and IntKind.u8 (((s[k]'hlt).toNat : Nat) : Int) 15 = (((s[k]'hlt).toNat : Nat) : Int) % 16 := u8_and15 _ (by omega) (by omega)
      have e5 : ((((s[k]'hlt).toNat : Nat) : Int) % 16).toNat = (s[k]'hlt).toNat % 16 := by omega
      have e6 : (0 : Int) ≤ (((s[k]'hlt).toNat : Nat) : Int) % 16 := by omega
      have e7 : (((s[k]'hlt).toNat : Nat) : Int) % 16 < 16 := by omega
      go_wp2_with fail
      go_region_law (refine step_append_lies _ rfl (.tmp 11) (.tmp 22) 75 rfl w.heap.size 5 i0 (.int .u8 0) 1 1 Tryd.underlying75 hi hz0 hz1 hz2 rfl (by decide) (.slice A (1 + 2 * k) c) (1 + 2 * k) _ (by simp [Act.eval]) (own_drew (HV.out.alloc _)) _ 2 2 [.int .u8 (hxd ((s[k]'hlt).toNat / 16)), .int .u8 (hxd ((s[k]'hlt).toNat % 16))] (by simp [Act.eval]) rfl (news_cells _ _ _) (by intro u hu; simp at hu; rcases hu with rfl | rfl <;> rfl) (by omega) (by unfold maxLen; omega) (by omega) (by simp; omega) _ rfl ?_; intro g cap w11 hown hgrow _ _; (have HB2 := Lib.hid (below_row HW.out (Nat.le_refl _) hB HV.out (grown_undrew hgrow))); (have HV2 := Lib.hid hown); clear hown hgrow)
      all_goals
        go_wp2_with fail
        go_roundw
        case rel =>
          refine ⟨k + 1, _, by omega, rfl, by go_num, ?_, HB2.out⟩
          have hh := HV2.out
          show World.ownsRow _ _ _ _ _ _ _
          rw [HT.out, hexL_snoc, show 1 + 2 * (k + 1) = 1 + 2 * k + 2 by omega]
          simpa using hh
        case measure => simp [intOf]; omega
    · obtain rfl : k = s.size := by omega
      obtain ⟨A, c, rfl⟩ := own_form HV.out
      have HV2 : Hid (wr.ownsRow w.heap.size 5 1 (.slice A (1 + 2 * s.size) c) (quoteL s).length ((quoteL s).map (Value.int .u8))) := by
        have := HV.out
        rw [List.take_of_length_le (by rw [ints_len]; omega)] at this
        rw [quoteL_len]; exact this
      have hcv := conv_row (quoteL_BL s) HV2.out (by rw [quoteL_len]; omega)
      clear HV
      go_wp2_with fail
      go_ret
      exact ⟨rfl, HW.out⟩
end Go.Proofs.YtcbhfhmpajamoaaDoor
