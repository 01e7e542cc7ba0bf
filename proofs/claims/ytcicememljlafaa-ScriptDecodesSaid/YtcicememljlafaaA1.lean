import Derived.Test.YtcicememljlafaaBase
namespace Go.Proofs.Ytcicememljlafaa
open Go.RowKit

theorem take_succ_eq (xs ys : List Int) (k : Nat) (hx : k < xs.length) (hy : k < ys.length) (h : xs.take k = ys.take k) (he : xs.getD k 0 = ys.getD k 0) :
    xs.take (k+1) = ys.take (k+1) := by
  rw [List.take_succ_eq_append_getElem hx, List.take_succ_eq_append_getElem hy, h]
  simp [List.getD_eq_getElem?_getD, hx, hy] at he
  rw [he]

set_option maxHeartbeats 400000 in
theorem eqInts_some (b o b' o' c c' : Nat) (xs ys : List Int) (w : World)
    (hl : xs.length = ys.length) (hm : xs.length ≤ 9223372036854775807)
    (h : ∀ j, j < xs.length → w.cell? ⟨b, o + j, none⟩ = some (.int .i64 (xs.getD j 0)))
    (h' : ∀ j, j < ys.length → w.cell? ⟨b', o' + j, none⟩ = some (.int .i64 (ys.getD j 0))) :
    Calls Try.prog 24 #[.slice (some ⟨b, o, none⟩) xs.length c, .slice (some ⟨b', o', none⟩) ys.length c'] w (BoolDrew (decide (xs = ys)) w) := by
  have HL := Lib.hid hl
  rw [← hl]
  generalize hn : xs.length = n at *
  have hn' : n = ys.length := hl
  have HN := Lib.hid hn
  clear hn hl hn'
  have HH := Lib.hid h
  have HH' := Lib.hid h'
  clear h h'
  have hne : ((n : Int) != (n : Int)) = false := by simp
  go_enter Try.func24, Try.ntmps24
  go_wp2
  go_loopw [5] (fun i wr => ∃ k : Nat, k ≤ n ∧ i = .int .i64 k ∧ Hid (xs.take k = ys.take k) ∧ Hid (∃ m, wr = w.drewN m)) (fun i _ => n - (intOf i).toNat)
  case atStart => exact ⟨0, Nat.zero_le _, rfl, rfl, 0, rfl⟩
  case round =>
    obtain ⟨k, hk, rfl, HT, HW⟩ := hrel
    have hwr : ∀ p, wr.cell? p = w.cell? p := by obtain ⟨m, rfl⟩ := HW.out; intro p; rfl
    by_cases hlt : k < n
    · have hx : wr.cell? ⟨b, o + k, none⟩ = some (.int .i64 (xs.getD k 0)) := by rw [hwr]; exact HH.out k hlt
      have hy : wr.cell? ⟨b', o' + k, none⟩ = some (.int .i64 (ys.getD k 0)) := by rw [hwr]; exact HH'.out k (by rw [← HL.out]; exact hlt)
      clear hwr
      have hki : (k : Int) < (n : Int) := by omega
      generalize hxv : xs.getD k 0 = xv at *
      generalize hyv : ys.getD k 0 = yv at *
      have HX := Lib.hid hxv
      have HY := Lib.hid hyv
      clear hxv hyv
      by_cases hxy : xv = yv
      · subst hxy
        have hbe : (xv != xv) = false := by simp
        go_wp2
        go_quiet (fail)
        go_wp2
        go_roundw
        case rel => 
          refine ⟨k + 1, by omega, by go_num, ?_, ?_⟩
          · exact take_succ_eq xs ys k (by rw [HN.out]; exact hlt) (by rw [← HL.out]; exact hlt) HT.out (HX.out.trans HY.out.symm)
          · obtain ⟨m, rfl⟩ := HW.out
            exact ⟨_, World.drewN_drewN _ _ _⟩
        case measure => simp [intOf]; omega
      · have hbe : (xv != yv) = true := by simpa using hxy
        go_wp2
        go_quiet (fail)
        go_wp2
        go_ret
        refine ⟨?_, ?_⟩
        · have : xs ≠ ys := fun e => hxy (by rw [← HX.out, ← HY.out, e])
          simp [this]
        · obtain ⟨m, rfl⟩ := HW.out
          exact ⟨_, World.drewN_drewN _ _ _⟩
    · clear hwr
      go_wp2
      go_ret
      obtain rfl : k = n := by omega
      have e : xs = ys := by
        have := HT.out
        rwa [List.take_of_length_le (by rw [HN.out]; omega), List.take_of_length_le (by rw [← HL.out]; omega)] at this
      exact ⟨by simp [e], HW.out⟩

theorem eqInts_lens (A A' : Option Addr) (n n' c c' : Nat) (w : World) (h : n ≠ n') : Calls Try.prog 24 #[.slice A n c, .slice A' n' c'] w (BoolDrew false w) := by
  have hne : ((n : Int) != (n' : Int)) = true := by simp; omega
  clear h
  go_enter Try.func24, Try.ntmps24
  go_wp2
  go_ret
  exact ⟨rfl, 0, rfl⟩
theorem eqInts_zero (A A' : Option Addr) (c c' : Nat) (w : World) : Calls Try.prog 24 #[.slice A 0 c, .slice A' 0 c'] w (BoolDrew true w) := by
  go_enter Try.func24, Try.ntmps24
  go_wp2
  refine wp_loop_rounds 1 ?_
  rw [rounds_succ]
  go_wp2
  go_ret
  exact ⟨rfl, 0, rfl⟩

/-- K.EqualInts: it compares the lists that the slices read as; it only reads. -/
theorem eqInts_any (A A' : Option Addr) (c c' B B' : Nat) (xs ys : List Int) (w : World) (hm : xs.length ≤ 9223372036854775807) (h : Ints w B A xs) (h' : Ints w B' A' ys) :
    Calls Try.prog 24 #[.slice A xs.length c, .slice A' ys.length c'] w (BoolDrew (decide (xs = ys)) w) := by
  by_cases hl : xs.length = ys.length
  · by_cases h0 : 0 < xs.length
    · obtain ⟨b, o, rfl, _, hc⟩ := h h0
      obtain ⟨b', o', rfl, _, hc'⟩ := h' (by omega)
      exact eqInts_some b o b' o' c c' xs ys w hl hm hc hc'
    · have e1 : xs = [] := List.eq_nil_of_length_eq_zero (by omega)
      have e2 : ys = [] := List.eq_nil_of_length_eq_zero (by omega)
      subst e1 e2
      exact eqInts_zero A A' c c' w
  · have : decide (xs = ys) = false := by simp; intro e; exact hl (by rw [e])
    rw [this]
    exact eqInts_lens A A' _ _ c c' w hl
end Go.Proofs.Ytcicememljlafaa
