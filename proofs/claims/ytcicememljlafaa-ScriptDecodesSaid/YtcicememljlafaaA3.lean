import Derived.Test.YtcicememljlafaaA2
namespace Go.Proofs.Ytcicememljlafaa
open Go.RowKit

theorem OpsAt.drewN {w : World} {B : Nat} {A : Option Addr} {xs : List OpV} (h : OpsAt w B A xs) (k : Nat) : OpsAt (w.drewN k) B A xs := fun hx => by
  obtain ⟨b, o, e, hlt, hc⟩ := h hx
  exact ⟨b, o, e, hlt, fun j hj => (hc j hj).keep rfl⟩
theorem ProgsAt.drewN {w : World} {B : Nat} {A : Option Addr} {ps : List (List OpV)} (h : ProgsAt w B A ps) (k : Nat) : ProgsAt (w.drewN k) B A ps := fun hx => by
  obtain ⟨b, o, e, hlt, hc⟩ := h hx
  refine ⟨b, o, e, hlt, fun j hj => ?_⟩
  obtain ⟨A', c, h1, h2⟩ := hc j hj
  exact ⟨A', c, h1, h2.drewN k⟩
theorem equalFn (A A' : Option Addr) (c c' B B' : Nat) (xs ys : List OpV) (w : World) (hm : xs.length ≤ 9223372036854775807) (h : OpsAt w B A xs) (h' : OpsAt w B' A' ys) :
    Calls Try.prog 20 #[.slice A xs.length c, .slice A' ys.length c'] w (BoolDrew (same xs ys) w) := by
  have H := Lib.hid (sEqOps_any A A' c c' B B' xs ys w hm h h')
  clear h h'
  generalize xs.length = n at *
  generalize ys.length = n' at *
  go_enter Try.func20, Try.ntmps20
  go_wp2_with fail
  refine H.out.mono ?_
  rintro e w' ⟨he, m, rfl⟩
  subst he
  go_wp2
  go_ret
  exact ⟨rfl, m, rfl⟩

theorem getD_len_le (ps : List (List OpV)) (L : Nat) (h : ∀ q ∈ ps, q.length ≤ L) (k : Nat) : (ps.getD k []).length ≤ L := by
  by_cases hk : k < ps.length
  · simp [List.getD_eq_getElem?_getD, hk]; exact h _ (List.getElem_mem hk)
  · simp [List.getD_eq_getElem?_getD, hk]

set_option maxHeartbeats 800000 in
theorem eqFunc_some (b o b' o' c c' B B' : Nat) (ps qs : List (List OpV)) (w : World)
    (hl : ps.length = qs.length) (hm : ps.length ≤ 9223372036854775807) (hL : ∀ q ∈ ps, q.length ≤ 9223372036854775807)
    (h : ∀ j, j < ps.length → ∃ A' c, w.cell? ⟨b, o + j, none⟩ = some (.slice A' (ps.getD j []).length c) ∧ OpsAt w B A' (ps.getD j []))
    (h' : ∀ j, j < qs.length → ∃ A' c, w.cell? ⟨b', o' + j, none⟩ = some (.slice A' (qs.getD j []).length c) ∧ OpsAt w B' A' (qs.getD j [])) :
    Calls Try.prog 22 #[.slice (some ⟨b, o, none⟩) ps.length c, .slice (some ⟨b', o', none⟩) qs.length c', .func (.func 20) #[] #[]] w (BoolDrew (same ps qs) w) := by
  have HL := Lib.hid hl
  rw [← hl]
  generalize hn : ps.length = n at *
  have hn' : n = qs.length := hl
  have HN := Lib.hid hn
  clear hn hl hn'
  have HH := Lib.hid h
  have HH' := Lib.hid h'
  have HLL := Lib.hid (getD_len_le ps _ hL)
  clear h h' hL
  have hne : ((n : Int) != (n : Int)) = false := by simp
  go_enter Try.func22, Try.ntmps22
  go_wp2
  go_loopw [17] (fun i wr => ∃ k : Nat, k ≤ n ∧ i = .int .i64 k ∧ Hid (ps.take k = qs.take k) ∧ Hid (∃ m, wr = w.drewN m)) (fun i _ => n - (intOf i).toNat)
  case atStart => exact ⟨0, Nat.zero_le _, rfl, rfl, 0, rfl⟩
  case round =>
    obtain ⟨k, hk, rfl, HT, HW⟩ := hrel
    by_cases hlt : k < n
    · obtain ⟨A1, c1, hx, ha⟩ := HH.out k hlt
      obtain ⟨A2, c2, hy, ha'⟩ := HH'.out k (by rw [← HL.out]; exact hlt)
      have hx : wr.cell? ⟨b, o + k, none⟩ = some (.slice A1 (ps.getD k []).length c1) := by obtain ⟨m, rfl⟩ := HW.out; exact hx
      have hy : wr.cell? ⟨b', o' + k, none⟩ = some (.slice A2 (qs.getD k []).length c2) := by obtain ⟨m, rfl⟩ := HW.out; exact hy
      have HE : Hid (Calls Try.prog 20 #[.slice A1 (ps.getD k []).length c1, .slice A2 (qs.getD k []).length c2] wr (BoolDrew (same (ps.getD k []) (qs.getD k [])) wr)) := by
        obtain ⟨m, rfl⟩ := HW.out
        exact equalFn A1 A2 c1 c2 B B' _ _ _ (HLL.out k) (ha.drewN _) (ha'.drewN _)
      clear ha ha'
      have hki : (k : Int) < (n : Int) := by omega
      generalize hxl : (ps.getD k []).length = l1 at *
      generalize hyl : (qs.getD k []).length = l2 at *
      clear hxl hyl
      by_cases hxy : ps.getD k [] = qs.getD k []
      · rw [hxy, same_self] at HE
        have HXY := Lib.hid hxy
        clear hxy
        go_wp2_with fail
        refine HE.out.mono ?_
        rintro e w' ⟨rfl, m, rfl⟩
        go_wp2
        go_roundw
        case rel =>
          refine ⟨k + 1, by omega, by go_num, ?_, ?_⟩
          · exact take_succ_gen [] ps qs k (by rw [HN.out]; exact hlt) (by rw [← HL.out]; exact hlt) HT.out HXY.out
          · obtain ⟨m', rfl⟩ := HW.out
            exact ⟨_, World.drewN_drewN _ _ _⟩
        case measure => simp [intOf]; omega
      · rw [same_ne hxy] at HE
        have HXY := Lib.hid hxy
        clear hxy
        go_wp2_with fail
        refine HE.out.mono ?_
        rintro e w' ⟨rfl, m, rfl⟩
        go_wp2
        go_ret
        refine ⟨?_, ?_⟩
        · have : ps ≠ qs := fun e => HXY.out (by rw [e])
          simp [same_ne this]
        · obtain ⟨m', rfl⟩ := HW.out
          exact ⟨_, World.drewN_drewN _ _ _⟩
    · go_wp2
      go_ret
      obtain rfl : k = n := by omega
      have e : ps = qs := by
        have := HT.out
        rwa [List.take_of_length_le (by rw [HN.out]; omega), List.take_of_length_le (by rw [← HL.out]; omega)] at this
      exact ⟨by simp [e, same], HW.out⟩
theorem eqFunc_lens (A A' : Option Addr) (n n' c c' : Nat) (f : Value) (w : World) (h : n ≠ n') : Calls Try.prog 22 #[.slice A n c, .slice A' n' c', f] w (BoolDrew false w) := by
  have hne : ((n : Int) != (n' : Int)) = true := by simp; omega
  clear h
  go_enter Try.func22, Try.ntmps22
  go_wp2
  go_ret
  exact ⟨rfl, 0, rfl⟩
theorem eqFunc_zero (A A' : Option Addr) (c c' : Nat) (f : Value) (w : World) : Calls Try.prog 22 #[.slice A 0 c, .slice A' 0 c', f] w (BoolDrew true w) := by
  go_enter Try.func22, Try.ntmps22
  go_wp2
  refine wp_loop_rounds 1 ?_
  rw [rounds_succ]
  go_wp2
  go_ret
  exact ⟨rfl, 0, rfl⟩
theorem eqFunc_any (A A' : Option Addr) (c c' B B' : Nat) (ps qs : List (List OpV)) (w : World) (hm : ps.length ≤ 9223372036854775807) (hL : ∀ q ∈ ps, q.length ≤ 9223372036854775807) (h : ProgsAt w B A ps) (h' : ProgsAt w B' A' qs) :
    Calls Try.prog 22 #[.slice A ps.length c, .slice A' qs.length c', .func (.func 20) #[] #[]] w (BoolDrew (same ps qs) w) := by
  by_cases hl : ps.length = qs.length
  · by_cases h0 : 0 < ps.length
    · obtain ⟨b, o, rfl, _, hc⟩ := h h0
      obtain ⟨b', o', rfl, _, hc'⟩ := h' (by omega)
      exact eqFunc_some b o b' o' c c' B B' ps qs w hl hm hL hc hc'
    · have e1 : ps = [] := List.eq_nil_of_length_eq_zero (by omega)
      have e2 : qs = [] := List.eq_nil_of_length_eq_zero (by omega)
      subst e1 e2
      rw [same_self]
      exact eqFunc_zero A A' c c' _ w
  · rw [same_ne (fun e => hl (by rw [e]))]
    exact eqFunc_lens A A' _ _ c c' _ w hl
end Go.Proofs.Ytcicememljlafaa
