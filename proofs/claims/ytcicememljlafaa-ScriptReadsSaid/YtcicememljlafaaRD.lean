/- ScriptReads: the two readings are the same script. -/
import Derived.Test.YtcicememljlafaaRR4
import Derived.Test.YtcicememljlafaaA5
namespace Go.Proofs.Ytcicememljlafaa
open Go.RowKit

theorem progsN_mem (s : ByteArray) : ∀ (k : Nat), ∀ q ∈ (progsN s k).1, q.length ≤ 8
  | 0, q, hq => by simp [progsN] at hq
  | k + 1, q, hq => by
    simp only [progsN, List.mem_append, List.mem_singleton] at hq
    rcases hq with hq | rfl
    · exact progsN_mem s k q hq
    · rw [opsN_len]
      have := Int.emod_lt_of_pos (hd (progsN s k).2) (show (0 : Int) < 8 by omega)
      omega
theorem readScr_sized (s : ByteArray) (hs : s.size ≤ 3000) : Sized (readScr s) := by
  have h1 : (readScr s).progs.length ≤ 4 := by
    show (progsN (restCfg s) (hd (tlN s 2) % 4).toNat).1.length ≤ 4
    rw [progsN_len]
    have := Int.emod_lt_of_pos (hd (tlN s 2)) (show (0 : Int) < 4 by omega)
    omega
  have h2 : (readScr s).picks.length ≤ 3000 := by
    show (picksN (restProgs s) (hd (tlN s 2) % 4) (restProgs s).size).length ≤ 3000
    rw [picksN_len]
    have := progsN_size (restCfg s) (hd (tlN s 2) % 4).toNat
    have e : (restCfg s).size ≤ 3000 := by unfold restCfg; rw [tlN_size, tl_size, tlN_size]; omega
    show (progsN (restCfg s) (hd (tlN s 2) % 4).toNat).2.size ≤ 3000
    omega
  exact ⟨by omega, by omega, fun q hq => by have := progsN_mem _ _ q hq; omega⟩

set_option maxHeartbeats 400000 in
theorem scriptReads_walk (s : ByteArray) (w : World) (hm : s.size ≤ 9223372036854775807) : Calls Try.prog 4 #[.string s] w (BoolBelow true w) := by
  by_cases hs : s.size ≤ 3000
  · have HP := Lib.hid (read_prog s w hs)
    have HQ := Lib.hid (fun w => read_ref s w hs)
    have HZ := Lib.hid (readScr_sized s hs)
    go_enter Try.func4, Try.ntmps4
    go_wp2_with fail
    refine HP.out.mono ?_
    rintro e w1 ⟨v1, rfl, h1, b1⟩
    have H1 := Lib.hid h1
    have B1 := Lib.hid b1
    clear h1 b1 HP
    go_wp2_with fail
    refine (HQ.out w1).mono ?_
    rintro e w2 ⟨v2, rfl, h2, b2⟩
    have H1' := Lib.hid (H1.out.below b2 b2.size)
    have H2 := Lib.hid h2
    have B2 := Lib.hid (B1.out.trans (b2.mono B1.out.size))
    clear h2 b2 HQ H1 B1
    obtain ⟨Ap, cp, Ak, ck, rfl, p1, k1⟩ := H1'.out
    obtain ⟨Bp, dp, Bk, dk, rfl, p2, k2⟩ := H2.out
    have HE := Lib.hid (eqScript_at _ _ Ap Ak Bp Bk cp ck dp dk w2 HZ.out p1 k1 p2 k2)
    clear p1 k1 p2 k2
    generalize (readScr s).progs.length = np at *
    generalize (readScr s).picks.length = nk at *
    generalize (readScr s).cfg = cf at *
    go_wp2_with fail
    refine HE.out.mono ?_
    rintro e w3 ⟨rfl, b3⟩
    have B3 := Lib.hid (B2.out.trans (b3.mono B2.out.size))
    clear b3
    rw [same_self]
    go_wp2
    go_ret
    exact ⟨rfl, B3.out⟩
  · have hs' : (3000 : Int) < (s.size : Int) := by omega
    go_enter Try.func4, Try.ntmps4
    go_wp2
    go_ret
    exact ⟨rfl, Below.refl _ _⟩
end Go.Proofs.Ytcicememljlafaa
