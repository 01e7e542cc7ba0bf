/- Walks: digits, hex (reference), Itoa: with what it needs of the world. -/
import Derived.Test.YtcbhfhmpajamoaaDoorK2
import Derived.Test.YtcbhfhmpajamoaaDoorShelf
import Derived.Lib.AppendIntMem
import Derived.Lib.ItoaMem
namespace Go.Proofs.YtcbhfhmpajamoaaDoor
open Go.RowKit

/-- The library's table of powers of ten, as the start lays it. -/
def Tab (w : World) : Prop := Lib.TabIs Tryd.prog w "internal/strconv.uint64pow10" .u64 Lib.pow10Tab
theorem Tab.below {w w' : World} (h : Tab w) (hb : Below w.heap.size w w') : Tab w' := by
  unfold Tab Lib.TabIs World.var? at *
  cases hg : Tryd.prog.globalNamed "internal/strconv.uint64pow10" with
  | none => rw [hg] at h; simp at h
  | some g =>
    rw [hg] at h
    simp only [Option.bind_some] at h ⊢
    have hlt : g < w.heap.size := by
      rcases Nat.lt_or_ge g w.heap.size with h' | h'
      · exact h'
      · rw [Array.getElem?_eq_none h'] at h; cases h
    rw [hb.block g hlt]
    exact h
theorem bs_itoa (n : Nat) : (⟨(Lib.itoa (n : Int)).toArray⟩ : ByteArray) = bs (decL n) := by rw [Lib.itoa_nonneg, bs_decL]
theorem bs_itoa1 : (⟨(Lib.itoa (-1)).toArray⟩ : ByteArray) = bs [45, 49] := by
  have := Lib.itoa_neg 1 (by omega)
  rw [show (-((1 : Nat) : Int)) = -1 from rfl] at this
  rw [this, Lib.decDigits_one (by omega)]; rfl
theorem itoaFn (n : Nat) (hn : n ≤ 9223372036854775807) (w : World) (ht : Tab w) : Calls Tryd.prog 15 #[.int .i64 n] w (StrRes (decL n) w) :=
  (Tryd.strconv_Itoa n (by omega) (by omega) w ht).mono fun e w' ⟨h1, k, os, h2⟩ => ⟨by rw [h1, bs_itoa], by rw [h2]; exact Lib.below_grow _ w (Nat.le_refl _) k os⟩
theorem itoaNeg (w : World) (ht : Tab w) : Calls Tryd.prog 15 #[.int .i64 (-1)] w (StrRes [45, 49] w) :=
  (Tryd.strconv_Itoa (-1) (by omega) (by omega) w ht).mono fun e w' ⟨h1, k, os, h2⟩ => ⟨by rw [h1, bs_itoa1], by rw [h2]; exact Lib.below_grow _ w (Nat.le_refl _) k os⟩
set_option maxHeartbeats 0 in
set_option maxRecDepth 100000 in
theorem digitsFn (n : Nat) : n ≤ 9223372036854775807 → ∀ w : World, Calls Tryd.prog 36 #[.int .i64 n] w (StrRes (decL n) w) := by
  induction n using Nat.strongRecOn with
  | ind n ih =>
    intro hn w
    have hcv := conv_one w (48 + (n : Int) % 10) (by omega) (by omega)
    have HB := Lib.hid (below_box w (.cells #[.int .u8 (48 + (n : Int) % 10)] 5))
    have hw1 : wrap64 (48 + (n : Int) % 10) = 48 + (n : Int) % 10 := by unfold wrap64; omega
    by_cases h : n < 10
    · have hni : (n : Int) < 10 := by omega
      have hL : Hid (bs [48 + (n : Int) % 10] = bs (decL n)) := by show _ = _; rw [decL_one h]; congr 2; omega
      generalize bs [48 + (n : Int) % 10] = y at *
      clear ih
      go_enter Tryd.func36, Tryd.ntmps36
      go_wp2
      go_ret
      exact ⟨by rw [← hL.out]; rfl, HB.out⟩
    · have hni : ¬ (n : Int) < 10 := by omega
      have hL : Hid (bs (decL (n / 10)) ++ bs [48 + (n : Int) % 10] = bs (decL n)) := by show _ = _; rw [decL_more h, bs_app]
      have HR := Lib.hid (fun W : World => ih (n / 10) (by omega) (by omega) W)
      have hz : (bs (decL (n / 10))).size ≤ 19 := by rw [bs_size]; exact decL_len _ 19 (by omega) (by omega)
      have hz1 : (bs [48 + (n : Int) % 10]).size = 1 := by rw [bs_size]; rfl
      unfold StrRes at HR
      generalize bs [48 + (n : Int) % 10] = y at *
      generalize bs (decL (n / 10)) = z at *
      have hct : ¬ 9223372036854775807 < z.size + 1 := by omega
      have hq : (((n / 10 : Nat)) : Int) = (n : Int) / 10 := by omega
      rw [hq] at HR
      clear ih
      go_enter Tryd.func36, Tryd.ntmps36
      go_wp2_with (go_at_call 36; refine (HR.out _).mono ?_; rintro e w1 ⟨rfl, hb⟩; (have HB2 := Lib.hid (below_then HB.out (by simp) hb)); clear hb)
      go_ret
      exact ⟨by rw [← hL.out]; rfl, HB2.out⟩
set_option maxHeartbeats 0 in
theorem hexFn (x : Nat) (h : x < 16) (w : World) : Calls Tryd.prog 37 #[.int .u8 x] w (fun e w' => e = .returned (.int .u8 (hxd x)) ∧ w' = w) := by
  unfold hxd
  by_cases h1 : x < 10
  · have hi : (x : Int) < 10 := by omega
    have hw : IntKind.u8.wrap (48 + (x : Int)) = 48 + (x : Int) := wraps_u8 _ (by omega) (by omega)
    rw [if_pos h1]
    go_enter Tryd.func37, Tryd.ntmps37
    go_wp2
    go_ret
    exact ⟨rfl, rfl⟩
  · have hi : ¬ (x : Int) < 10 := by omega
    have hw : IntKind.u8.wrap (87 + (x : Int)) = 87 + (x : Int) := wraps_u8 _ (by omega) (by omega)
    rw [if_neg h1]
    go_enter Tryd.func37, Tryd.ntmps37
    go_wp2
    go_ret
    exact ⟨rfl, rfl⟩
end Go.Proofs.YtcbhfhmpajamoaaDoor
