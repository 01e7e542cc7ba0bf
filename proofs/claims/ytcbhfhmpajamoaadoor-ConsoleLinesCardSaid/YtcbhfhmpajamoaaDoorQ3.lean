/- Walk: the check of a delta, by the reference. -/
import Derived.Test.YtcbhfhmpajamoaaDoorQ2
namespace Go.Proofs.YtcbhfhmpajamoaaDoor
open Go.RowKit

set_option maxHeartbeats 0 in
set_option maxRecDepth 100000 in
theorem checkR (A : Option Addr) (c : Nat) (ps : List PieceV) (w : World) (hP : PiecesAt w w.heap.size A ps) (hl : ps.length ≤ 4096) (ht : ∀ p ∈ ps, p.text.size ≤ 1000000) :
    Calls Tryd.prog 35 #[.slice A ps.length c] w (fun e w' => e = .returned (.int .i64 (chkD ps 0 0)) ∧ Below w.heap.size w w') := by
  have HP := Lib.hid hP
  have HD := Lib.hid (drop_cons noPiece ps)
  have HT := Lib.hid ht
  have HB0 := Lib.hid (Below.refl w.heap.size w)
  have HE0 : Hid (chkD ps 0 0 = chkD (ps.drop 0) 0 0) := rfl
  clear hP ht
  generalize chkD ps 0 0 = R at *
  generalize hn : ps.length = n at *
  have HN := Lib.hid hn
  clear hn
  go_enter Tryd.func35, Tryd.ntmps35
  go_wp2_with fail
  go_loopw [3, 4, 5] (fun iv ov jv wr => ∃ (k : Nat) (i o : Int), k ≤ n ∧ jv = .int .i64 k ∧ iv = .int .i64 i ∧ ov = .int .i64 o ∧ 0 ≤ i ∧ i ≤ 1048576 ∧ 0 ≤ o ∧ o ≤ 1048576 ∧ Hid (R = chkD (ps.drop k) i o) ∧ Hid (Below w.heap.size w wr)) (fun _ _ j _ => n - (intOf j).toNat)
  case atStart => exact ⟨0, 0, 0, Nat.zero_le _, rfl, rfl, rfl, by omega, by omega, by omega, by omega, HE0.out, HB0.out⟩
  case round =>
    obtain ⟨k, i, o, hk, rfl, rfl, rfl, hi0, hi1, ho0, ho1, HE, HW⟩ := hrel
    clear HB0 HE0
    by_cases hlt : k < n
    · have hki : (k : Int) < (n : Int) := by omega
      have hkl : k < ps.length := by rw [HN.out]; exact hlt
      obtain ⟨b, off, rfl, hb, hc⟩ := HP.out (by omega)
      have hpc := (hc k hkl).keep (HW.out.block b hb)
      have HDK := Lib.hid (HD.out k (by first | exact hlt | exact hkl))
      have htx := HT.out _ (getD_mem noPiece ps k hkl)
      clear hc hkl
      generalize ps.getD k noPiece = p at *
      have HVP := Lib.hid (fun W : World => validR p W)
      have HEK : Hid (R = chkD (p :: ps.drop (k + 1)) i o) := by show _ = _; rw [← HDK.out]; exact HE.out
      have HWA := Lib.hid (HW.out.alloc HW.out.size (pieceBox p))
      have HPN := Lib.hid (pieceAt_new wr p)
      obtain ⟨m0, m1, m2⟩ := hpc
      by_cases hok : okP p
      · have hob : okB p = true := by simp [okB, hok]
        rw [hob] at HVP
        have HCL := Lib.hid (fun h => chk_long (r := ps.drop (k + 1)) (i := i) (o := o) hok h)
        have HCG := Lib.hid (fun h h' => chk_go (r := ps.drop (k + 1)) (i := i) (o := o) hok h h')
        have HPI : Hid (inP p = (if p.kind = 2 then 0 else p.n)) := rfl
        have HPO : Hid (outP p = (if p.kind = 1 then p.n else p.text.size)) := rfl
        clear hob HE
        generalize inP p = pi at *
        generalize outP p = po at *
        obtain ⟨x0, x1, x2⟩ := p
        rcases hok with ⟨h1, h2, h3⟩ | ⟨h1 | h1, h2, h3⟩
        · dsimp only at h1 h2 h3 htx m0 m1 m2
          subst h1
          have e1 : pi = 0 := HPI.out
          have e2 : po = x2.size := HPO.out
          have hx2 : x1 = 0 := h2
          subst hx2
          clear h2 h3
          go_wp2_with fail
          refine (HVP.out _).mono ?_
          rintro e w1 ⟨rfl, hb1⟩
          have HW1 := Lib.hid (below_then HWA.out HWA.out.size hb1)
          have HPN1 := Lib.hid (HPN.out.keep (hb1.block _ (by simp)))
          obtain ⟨n0, n1, n2⟩ := HPN1.out
          simp only [Nat.zero_add] at n0 n1 n2
          clear hb1 m0 m1 m2 HPN HWA HVP HW HPN1
          have hi32 : (x2.size : Int) ≤ 1000000 := by omega
          by_cases hc2 : 1048576 - o < (x2.size : Int)
          ·
            have HR : Hid (R = 5) := by show _ = _; rw [HEK.out, HCL.out (.inr (by omega))]
            go_wp2_with fail
            all_goals
              go_ret
              exact ⟨by rw [HR.out]; rfl, HW1.out⟩
          ·
            have HR : Hid (R = chkD (ps.drop (k + 1)) (i) (o + (x2.size : Int))) := by
              show _ = _
              rw [HEK.out, HCG.out (by omega) (by omega)]
              congr 1 <;> omega
            go_wp2_with fail
            go_roundw
            case rel => exact ⟨k + 1, i, o + (x2.size : Int), by omega, by go_num, rfl, rfl, by omega, by omega, by omega, by omega, HR.out, HW1.out⟩
            case measure => simp [intOf]; omega
        · dsimp only at h1 h2 h3 htx m0 m1 m2
          subst h1
          have e1 : pi = x1 := HPI.out
          have e2 : po = x1 := HPO.out
          go_wp2_with fail
          refine (HVP.out _).mono ?_
          rintro e w1 ⟨rfl, hb1⟩
          have HW1 := Lib.hid (below_then HWA.out HWA.out.size hb1)
          have HPN1 := Lib.hid (HPN.out.keep (hb1.block _ (by simp)))
          obtain ⟨n0, n1, n2⟩ := HPN1.out
          simp only [Nat.zero_add] at n0 n1 n2
          clear hb1 m0 m1 m2 HPN HWA HVP HW HPN1
          have hi32 : (x2.size : Int) ≤ 1000000 := by omega
          have hz : (x2.size : Int) = 0 := by omega
          by_cases hc1 : 1048576 - i < x1
          ·
            have HR : Hid (R = 5) := by show _ = _; rw [HEK.out, HCL.out (.inl (by omega))]
            go_wp2_with fail
            all_goals
              go_ret
              exact ⟨by rw [HR.out]; rfl, HW1.out⟩
          · by_cases hc2 : 1048576 - o < x1
            ·
              have HR : Hid (R = 5) := by show _ = _; rw [HEK.out, HCL.out (.inr (by omega))]
              go_wp2_with fail
              all_goals
                go_ret
                exact ⟨by rw [HR.out]; rfl, HW1.out⟩
            ·
              have HR : Hid (R = chkD (ps.drop (k + 1)) (i + x1) (o + x1)) := by
                show _ = _
                rw [HEK.out, HCG.out (by omega) (by omega)]
                congr 1 <;> omega
              go_wp2_with fail
              go_roundw
              case rel => exact ⟨k + 1, i + x1, o + x1, by omega, by go_num, rfl, rfl, by omega, by omega, by omega, by omega, HR.out, HW1.out⟩
              case measure => simp [intOf]; omega
        · dsimp only at h1 h2 h3 htx m0 m1 m2
          subst h1
          have e1 : pi = x1 := HPI.out
          have e2 : po = x2.size := HPO.out
          go_wp2_with fail
          refine (HVP.out _).mono ?_
          rintro e w1 ⟨rfl, hb1⟩
          have HW1 := Lib.hid (below_then HWA.out HWA.out.size hb1)
          have HPN1 := Lib.hid (HPN.out.keep (hb1.block _ (by simp)))
          obtain ⟨n0, n1, n2⟩ := HPN1.out
          simp only [Nat.zero_add] at n0 n1 n2
          clear hb1 m0 m1 m2 HPN HWA HVP HW HPN1
          have hi32 : (x2.size : Int) ≤ 1000000 := by omega
          have hz : (x2.size : Int) = 0 := by omega
          by_cases hc1 : 1048576 - i < x1
          ·
            have HR : Hid (R = 5) := by show _ = _; rw [HEK.out, HCL.out (.inl (by omega))]
            go_wp2_with fail
            all_goals
              go_ret
              exact ⟨by rw [HR.out]; rfl, HW1.out⟩
          ·
            have HR : Hid (R = chkD (ps.drop (k + 1)) (i + x1) (o)) := by
              show _ = _
              rw [HEK.out, HCG.out (by omega) (by omega)]
              congr 1 <;> omega
            go_wp2_with fail
            go_roundw
            case rel => exact ⟨k + 1, i + x1, o, by omega, by go_num, rfl, rfl, by omega, by omega, by omega, by omega, HR.out, HW1.out⟩
            case measure => simp [intOf]; omega
      · have hob : okB p = false := by simp [okB, hok]
        rw [hob] at HVP
        have HR : Hid (R = 2) := by show _ = _; rw [HEK.out, chk_no hok]
        clear hob hok HE HEK
        obtain ⟨x0, x1, x2⟩ := p
        dsimp only at m0 m1 m2
        go_wp2_with fail
        refine (HVP.out _).mono ?_
        rintro e w1 ⟨rfl, hb1⟩
        have HW1 := Lib.hid (below_then HWA.out HWA.out.size hb1)
        clear hb1 m0 m1 m2 HPN HWA HVP HW
        go_wp2_with fail
        go_ret
        exact ⟨by rw [HR.out]; rfl, HW1.out⟩
    · obtain rfl : k = n := by omega
      have HR : Hid (R = 0) := by show _ = _; rw [HE.out, List.drop_eq_nil_of_le (by rw [HN.out]; omega)]; rfl
      go_wp2_with fail
      go_ret
      exact ⟨by rw [HR.out]; rfl, HW.out⟩
end Go.Proofs.YtcbhfhmpajamoaaDoor
