import Derived.Test.YtcicememljlafaaA3
namespace Go.Proofs.Ytcicememljlafaa
open Go.RowKit

/-- A script whose slices are of a length that can be counted. -/
def Sized (s : ScrV) : Prop := s.progs.length ≤ 9223372036854775807 ∧ s.picks.length ≤ 9223372036854775807 ∧ ∀ q ∈ s.progs, q.length ≤ 9223372036854775807

theorem same_scr (a b : ScrV) : same a b = (same a.cfg b.cfg && (same a.progs b.progs && same a.picks b.picks)) := by
  by_cases h1 : a.cfg = b.cfg
  · by_cases h2 : a.progs = b.progs
    · by_cases h3 : a.picks = b.picks
      · obtain ⟨x, y, z⟩ := a
        obtain ⟨x', y', z'⟩ := b
        dsimp only at h1 h2 h3
        subst h1 h2 h3
        simp [same_self]
      · rw [same_ne (fun e => h3 (by rw [e])), same_ne h3]; simp
    · rw [same_ne (fun e => h2 (by rw [e])), same_ne h2]; simp
  · rw [same_ne (fun e => h1 (by rw [e])), same_ne h1]; simp

set_option maxHeartbeats 800000 in
theorem equal_at (a b : ScrV) (Ap Ak Bp Bk : Option Addr) (cp ck dp dk : Nat) (w : World) (ha : Sized a) (hb : Sized b)
    (h1 : ProgsAt w w.heap.size Ap a.progs) (h2 : Ints w w.heap.size Ak a.picks) (h3 : ProgsAt w w.heap.size Bp b.progs) (h4 : Ints w w.heap.size Bk b.picks) :
    Calls Try.prog 10 #[scrVal a.cfg (.slice Ap a.progs.length cp) (.slice Ak a.picks.length ck), scrVal b.cfg (.slice Bp b.progs.length dp) (.slice Bk b.picks.length dk)] w (BoolBelow (same a b) w) := by
  obtain ⟨ha1, ha2, ha3⟩ := ha
  have hbel : ∀ o o' : Obj, Below w.heap.size w ((w.alloc o).alloc o') := fun o o' => ((Below.refl _ _).alloc (Nat.le_refl _) o).alloc (by simp) o'
  have HP := Lib.hid (fun (o o' : Obj) => eqFunc_any Ap Bp cp dp _ _ a.progs b.progs _ ha1 ha3 (h1.below (hbel o o') (Nat.le_refl _)) (h3.below (hbel o o') (Nat.le_refl _)))
  have HK := Lib.hid (fun (o o' : Obj) (m : Nat) => sEqInts_any Ak Bk ck dk _ _ a.picks b.picks _ ha2 ((h2.below (hbel o o') (Nat.le_refl _)).drewN m) ((h4.below (hbel o o') (Nat.le_refl _)).drewN m))
  have HB := Lib.hid hbel
  rw [same_scr]
  clear h1 h2 h3 h4 hbel ha1 ha2 ha3
  obtain ⟨cfg, ps, ks⟩ := a
  obtain ⟨cfg', qs, ls⟩ := b
  dsimp only at *
  generalize ps.length = n1 at *
  generalize qs.length = n2 at *
  generalize ks.length = n3 at *
  generalize ls.length = n4 at *
  by_cases hc : cfg = cfg'
  · subst hc
    have hce := cfgEq_same cfg
    rw [same_self, Bool.true_and]
    generalize same ks ls = bk at *
    generalize hbp : same ps qs = bp at *
    clear hbp
    cases bp
    · go_enter Try.func10, Try.ntmps10
      go_wp2_with fail
      refine (HP.out _ _).mono ?_
      rintro e w' ⟨rfl, m, rfl⟩
      go_wp2
      go_ret
      exact ⟨rfl, below_drewN (HB.out _ _) _⟩
    · rw [Bool.true_and]
      go_enter Try.func10, Try.ntmps10
      go_wp2_with fail
      refine (HP.out _ _).mono ?_
      rintro e w' ⟨rfl, m, rfl⟩
      go_wp2_with fail
      refine (HK.out _ _ _).mono ?_
      rintro e w' ⟨rfl, m', rfl⟩
      go_wp2
      go_ret
      exact ⟨rfl, below_drewN (HB.out _ _) _⟩
  · have hce := cfgEq_other cfg cfg' hc
    rw [same_ne hc, Bool.false_and]
    clear hc
    go_enter Try.func10, Try.ntmps10
    go_wp2
    go_ret
    exact ⟨rfl, HB.out _ _⟩
end Go.Proofs.Ytcicememljlafaa
