import Derived.Test.YtcicememljlafaaA4
namespace Go.Proofs.Ytcicememljlafaa
open Go.RowKit

theorem same_scr2 (a b : ScrV) : same a b = (same a.cfg b.cfg && (same a.picks b.picks && same a.progs b.progs)) := by
  rw [same_scr, Bool.and_comm (same a.progs b.progs)]

set_option maxHeartbeats 1600000 in
theorem eqScript_at (a b : ScrV) (Ap Ak Bp Bk : Option Addr) (cp ck dp dk : Nat) (w : World) (ha : Sized a)
    (h1 : ProgsAt w w.heap.size Ap a.progs) (h2 : Ints w w.heap.size Ak a.picks) (h3 : ProgsAt w w.heap.size Bp b.progs) (h4 : Ints w w.heap.size Bk b.picks) :
    Calls Try.prog 11 #[scrVal a.cfg (.slice Ap a.progs.length cp) (.slice Ak a.picks.length ck), scrVal b.cfg (.slice Bp b.progs.length dp) (.slice Bk b.picks.length dk)] w (BoolBelow (same a b) w) := by
  obtain ⟨ha1, ha2, ha3⟩ := ha
  have hbel : ∀ o o' : Obj, Below w.heap.size w ((w.alloc o).alloc o') := fun o o' => ((Below.refl _ _).alloc (Nat.le_refl _) o).alloc (by simp) o'
  have HP1 := Lib.hid (fun (o o' : Obj) (m : Nat) => (h1.below (hbel o o') (Nat.le_refl _)).drewN m)
  have HP2 := Lib.hid (fun (o o' : Obj) (m : Nat) => (h3.below (hbel o o') (Nat.le_refl _)).drewN m)
  have HK := Lib.hid (fun (o o' : Obj) => eqInts_any Ak Bk ck dk _ _ a.picks b.picks _ ha2 (h2.below (hbel o o') (Nat.le_refl _)) (h4.below (hbel o o') (Nat.le_refl _)))
  have HB := Lib.hid hbel
  have HLL := Lib.hid (getD_len_le a.progs _ ha3)
  rw [same_scr2]
  clear h1 h2 h3 h4 hbel ha2 ha3
  obtain ⟨cfg, ps, ks⟩ := a
  obtain ⟨cfg', qs, ls⟩ := b
  dsimp only at *
  rw [same_ints] at HK
  generalize hn1 : ps.length = n1 at *
  generalize hn2 : qs.length = n2 at *
  generalize ks.length = n3 at *
  generalize ls.length = n4 at *
  have HN1 := Lib.hid hn1
  have HN2 := Lib.hid hn2
  clear hn1 hn2
  by_cases hc : cfg = cfg'
  · subst hc
    have hce := cfgNe_same cfg
    rw [same_self, Bool.true_and]
    generalize hbp : same ks ls = bk at *
    clear hbp
    cases bk
    · rw [Bool.false_and]
      go_enter Try.func11, Try.ntmps11
      go_wp2_with fail
      refine (HK.out _ _).mono ?_
      rintro e w' ⟨rfl, m, rfl⟩
      go_wp2
      go_ret
      exact ⟨rfl, below_drewN (HB.out _ _) _⟩
    · rw [Bool.true_and]
      by_cases hl : n1 = n2
      · subst hl
        have hne : ((n1 : Int) != (n1 : Int)) = false := by simp
        go_enter Try.func11, Try.ntmps11
        go_wp2_with fail
        refine (HK.out _ _).mono ?_
        rintro e w' ⟨rfl, m, rfl⟩
        go_wp2
        go_loopw [5] (fun i wr => ∃ k : Nat, k ≤ n1 ∧ i = .int .i64 k ∧ Hid (ps.take k = qs.take k) ∧ wr.cell? ⟨w.heap.size, 8, none⟩ = some (.slice Ap n1 cp) ∧ wr.cell? ⟨w.heap.size + 1, 8, none⟩ = some (.slice Bp n1 dp) ∧
          Hid (ProgsAt wr w.heap.size Ap ps) ∧ Hid (ProgsAt wr w.heap.size Bp qs) ∧ Hid (Below w.heap.size w wr)) (fun i _ => n1 - (intOf i).toNat)
        case atStart => exact ⟨0, Nat.zero_le _, rfl, rfl, by go_simp, by go_simp, HP1.out _ _ _, HP2.out _ _ _, below_drewN (HB.out _ _) _⟩
        case round =>
          obtain ⟨k, hk, rfl, HT, q1, q2, HQ1, HQ2, HW⟩ := hrel
          by_cases hlt : k < n1
          · obtain ⟨b, o, rfl, hb, hcx⟩ := HQ1.out (by rw [HN1.out]; omega)
            obtain ⟨b', o', rfl, hb', hcy⟩ := HQ2.out (by rw [HN2.out]; omega)
            obtain ⟨A1, c1, hx, ha⟩ := hcx k (by rw [HN1.out]; exact hlt)
            obtain ⟨A2, c2, hy, ha'⟩ := hcy k (by rw [HN2.out]; exact hlt)
            have HE := Lib.hid (fun (m : Nat) => eqOps_any A1 A2 c1 c2 _ _ _ _ (wr.drewN m) (HLL.out k) (ha.drewN m) (ha'.drewN m))
            clear ha ha' hcx hcy
            have hki : (k : Int) < (n1 : Int) := by omega
            generalize hxl : (ps.getD k []).length = l1 at *
            generalize hyl : (qs.getD k []).length = l2 at *
            clear hxl hyl
            by_cases hxy : ps.getD k [] = qs.getD k []
            · rw [hxy, same_self] at HE
              have HXY := Lib.hid hxy
              clear hxy
              go_wp2
              go_quiet ((go_at_call 25; exact Calls.quiet_of (HE.out _)))
              go_wp2
              go_roundw
              case rel => exact ⟨k + 1, by omega, by go_num, take_succ_gen [] ps qs k (by rw [HN1.out]; exact hlt) (by rw [HN2.out]; exact hlt) HT.out HXY.out, q1, q2, HQ1.out.drewN _, HQ2.out.drewN _, below_drewN HW.out _⟩
              case measure => simp [intOf]; omega
            · rw [same_ne hxy] at HE
              have HXY := Lib.hid hxy
              clear hxy
              go_wp2
              go_quiet ((go_at_call 25; exact Calls.quiet_of (HE.out _)))
              go_wp2
              go_ret
              rw [same_ne (fun e => HXY.out (by rw [e]))]
              exact ⟨rfl, below_drewN HW.out _⟩
          · obtain rfl : k = n1 := by omega
            go_wp2
            go_ret
            have e : ps = qs := by
              have := HT.out
              rwa [List.take_of_length_le (by rw [HN1.out]; omega), List.take_of_length_le (by rw [HN2.out]; omega)] at this
            rw [e, same_self]
            exact ⟨rfl, HW.out⟩
      · have hne : ((n1 : Int) != (n2 : Int)) = true := by simp; omega
        rw [same_ne (fun e => hl (by rw [← HN1.out, ← HN2.out, e]))]
        clear hl
        go_enter Try.func11, Try.ntmps11
        go_wp2_with fail
        refine (HK.out _ _).mono ?_
        rintro e w' ⟨rfl, m, rfl⟩
        go_wp2
        go_ret
        exact ⟨rfl, below_drewN (HB.out _ _) _⟩
  · have hce := cfgNe_other cfg cfg' hc
    rw [same_ne hc, Bool.false_and]
    clear hc
    go_enter Try.func11, Try.ntmps11
    go_wp2
    go_ret
    exact ⟨rfl, HB.out _ _⟩
end Go.Proofs.Ytcicememljlafaa
