/- Walks: ScriptBack. -/
import Derived.Test.YtcicememljlafaaL2
import Derived.Test.YtcicememljlafaaA5
namespace Go.Proofs.Ytcicememljlafaa
open Go.RowKit
open Runes (bs bt)

theorem decodeOf (t : ByteArray) (w : World) (h : t.size ≤ 9223372036854775807) : Calls Try.prog 18 #[.string t] w (DecodeRes (bytesL t) w) := by
  have := scriptDecode (bytesL t) w (bytesL_BL t) (by rw [bytesL_len]; exact h)
  rwa [bs_bytesL] at this
theorem scr_sz {s : ScrV} (h : ScrOk s) (ht : ScrTy s) : ScrSz s :=
  dScr_sz (encScr_BL s) h.size ((dec_iff (encScr s) (encScr_BL s) s).2 ⟨h, ht, rfl⟩).1

set_option maxHeartbeats 1000000 in
set_option maxRecDepth 100000 in
theorem scriptBack (hsm : ∀ (s : ScrV) (Ap Ak : Option Addr) (cp ck : Nat) (w : World), ScrSz s → ProgsAt w w.heap.size Ap s.progs → Calls Try.prog 9 #[scrVal s.cfg (.slice Ap s.progs.length cp) (.slice Ak s.picks.length ck)] w (fun e w' => ∃ b, e = .returned (.bool b) ∧ Below w.heap.size w w'))
    (s : ScrV) (t : ByteArray) (Ap Ak : Option Addr) (cp ck : Nat) (w : World) (hz : ScrSz s) (hty : ScrTy s) (hsd : Sized s) (ht : t.size ≤ 9223372036854775807)
    (hP : ProgsAt w w.heap.size Ap s.progs) (hK : Ints w w.heap.size Ak s.picks) :
    Calls Try.prog 7 #[scrVal s.cfg (.slice Ap s.progs.length cp) (.slice Ak s.picks.length ck), .string t] w (BoolBelow true w) := by
  have HB := Lib.hid (fun o : Obj => (Below.refl _ w).alloc (Nat.le_refl _) o)
  have HP := Lib.hid (fun o : Obj => hP.below (below_box w o) (by simp : w.heap.size ≤ (w.alloc o).heap.size))
  have HK := Lib.hid (fun o : Obj => hK.below (below_box w o) (by simp : w.heap.size ≤ (w.alloc o).heap.size))
  have HS := Lib.hid (fun o : Obj => hsm s Ap Ak cp ck (w.alloc o) hz (HP.out o))
  have HZ := Lib.hid (And.intro hz (And.intro hty (And.intro hsd ht)))
  clear hP hK hsm hz hty ht hsd
  go_enter Try.func7, Try.ntmps7
  go_wp2_with fail
  refine (HS.out _).mono ?_
  rintro e w1 ⟨b, rfl, hw⟩
  have gA : w1.heap[w.heap.size]? = some (scrBox s.cfg (.slice Ap s.progs.length cp) (.slice Ak s.picks.length ck)) := (hw.block _ (by simp)).trans (heap_alloc_new _ _)
  have GW : Hid (Below w.heap.size w w1) := (HB.out _).trans (hw.mono (by simp))
  have HPK := Lib.hid (And.intro ((HP.out _).below hw hw.size) ((HK.out _).below hw hw.size))
  obtain ⟨c0, c1, c2, c3, c4, c5, c6, c7, c8, c9⟩ := box_cell gA
  have GA := Lib.hid gA
  clear hw gA HS HP HK HB
  cases b
  case false =>
    by_cases h3 : (t.size : Int) > 3000
    case pos =>
      have h3' : decide ((3000 : Int) < (t.size : Int)) = true := by simpa using h3
      clear c0 c1 c2 c3 c4 c5 c6 c7 c8 c9
      go_wp2
      exact bodyPost_ret (v := .bool true) (by simp [results, Try.results7, go_sem]) rfl ⟨rfl, GW.out⟩
    case neg =>
      have h3' : decide ((3000 : Int) < (t.size : Int)) = false := by simpa using h3
      have HT3 := Lib.hid h3
      clear h3
      clear c0 c1 c2 c3 c4 c5 c6 c7 c8 c9
      have HD := Lib.hid (decodeOf t w1 (by have := HT3.out; omega))
      go_wp2_with fail
      refine HD.out.mono ?_
      rintro e wx ⟨hb, hx⟩
      have GX : Hid (Below w.heap.size w wx) := GW.out.trans (hb.mono GW.out.size)
      clear hb h3'
      rcases hx with ⟨s', v, o1, o2, o3, rfl, hv⟩ | ⟨hn, rfl⟩
      case inr =>
        have hm : decErr (bytesL t) = 4 := decErr_cut (by rw [bytesL_len]; have := HT3.out; omega)
        rw [hm]
        clear hm
        go_wp2
        exact bodyPost_ret (v := .bool true) (by simp [results, Try.results7, go_sem]) rfl ⟨rfl, GX.out.alloc GX.out.size _⟩
      case inl =>
        obtain ⟨Bp, dp, Bk, dk, rfl, hp, hk⟩ := hv
        have HPK := Lib.hid (And.intro hp hk)
        have HO3 := Lib.hid (And.intro o1 (And.intro o2 o3))
        clear hp hk o1 o2 o3
        go_upto_region 12 with fail
        have gB := heap_alloc_new wx (scrBox s'.cfg (.slice Bp s'.progs.length dp) (.slice Bk s'.picks.length dk))
        have gX := Lib.hid (GX.out.alloc GX.out.size (scrBox s'.cfg (.slice Bp s'.progs.length dp) (.slice Bk s'.picks.length dk)))
        have gY := below_box wx (scrBox s'.cfg (.slice Bp s'.progs.length dp) (.slice Bk s'.picks.length dk))
        have HPK2 := Lib.hid (And.intro (HPK.out.1.below gY gY.size) (HPK.out.2.below gY gY.size))
        clear gY GX HD
        generalize wx.alloc (scrBox s'.cfg (.slice Bp s'.progs.length dp) (.slice Bk s'.picks.length dk)) = wy at *
        generalize wx.heap.size = N at *
        obtain ⟨c0, c1, c2, c3, c4, c5, c6, c7, c8, c9⟩ := box_cell gB
        clear gB HPK
        have HE := Lib.hid (scriptEncode s' Bp Bk dp dk wy (scr_sz HO3.out.1 HO3.out.2.1) HPK2.out.1 HPK2.out.2 HO3.out.2.1)
        have hkk := (chk_iff s').2 HO3.out.1
        go_wp2_with fail
        refine HE.out.mono ?_
        rintro e wz ⟨rfl, hw⟩
        rw [if_pos hkk, hkk, HO3.out.2.2, bs_bytesL]
        have GZ : Hid (Below w.heap.size w wz) := gX.out.trans (hw.mono gX.out.size)
        clear hw c0 c1 c2 c3 c4 c5 c6 c7 c8 c9
        have htt : (t.toList == t.toList) = true := by simp
        go_wp2
        exact bodyPost_ret (v := .bool true) (by simp [results, Try.results7, go_sem]) rfl ⟨rfl, GZ.out⟩
  case true =>
    have HE := Lib.hid (scriptEncode s Ap Ak cp ck w1 HZ.out.1 HPK.out.1 HPK.out.2 HZ.out.2.1)
    go_wp2_with fail
    refine HE.out.mono ?_
    rintro e w2 ⟨rfl, hw⟩
    have gA : w2.heap[w.heap.size]? = some (scrBox s.cfg (.slice Ap s.progs.length cp) (.slice Ak s.picks.length ck)) := (hw.block _ (heap_lt GA.out)).trans GA.out
    have GW2 : Hid (Below w.heap.size w w2) := GW.out.trans (hw.mono GW.out.size)
    have HPK2 := Lib.hid (And.intro (HPK.out.1.below hw hw.size) (HPK.out.2.below hw hw.size))
    clear hw c0 c1 c2 c3 c4 c5 c6 c7 c8 c9 HE GW HPK GA
    obtain ⟨c0, c1, c2, c3, c4, c5, c6, c7, c8, c9⟩ := box_cell gA
    have GA := Lib.hid gA
    clear gA
    have HCk := Lib.hid (scriptCheck s Ap Ak cp ck w2 HZ.out.1 HPK2.out.1 HPK2.out.2)
    by_cases hk : chkScr s = 0
    case neg =>
      rw [if_neg hk]
      generalize chkScr s = kk at *
      have hkk : (kk == 0) = false := by simpa using hk
      clear hk
      go_wp2_with fail
      refine HCk.out.mono ?_
      rintro e w3 ⟨rfl, hw⟩
      have GW : Hid (Below w.heap.size w w3) := GW2.out.trans (hw.mono GW2.out.size)
      clear hw GW2 HPK2
      by_cases h3 : (t.size : Int) > 3000
      case pos =>
        have h3' : decide ((3000 : Int) < (t.size : Int)) = true := by simpa using h3
        clear c0 c1 c2 c3 c4 c5 c6 c7 c8 c9
        go_wp2
        exact bodyPost_ret (v := .bool true) (by simp [results, Try.results7, go_sem]) rfl ⟨rfl, GW.out⟩
      case neg =>
        have h3' : decide ((3000 : Int) < (t.size : Int)) = false := by simpa using h3
        have HT3 := Lib.hid h3
        clear h3
        clear c0 c1 c2 c3 c4 c5 c6 c7 c8 c9
        have HD := Lib.hid (decodeOf t w3 (by have := HT3.out; omega))
        go_wp2_with fail
        refine HD.out.mono ?_
        rintro e wx ⟨hb, hx⟩
        have GX : Hid (Below w.heap.size w wx) := GW.out.trans (hb.mono GW.out.size)
        clear hb h3'
        rcases hx with ⟨s', v, o1, o2, o3, rfl, hv⟩ | ⟨hn, rfl⟩
        case inr =>
          have hm : decErr (bytesL t) = 4 := decErr_cut (by rw [bytesL_len]; have := HT3.out; omega)
          rw [hm]
          clear hm
          go_wp2
          exact bodyPost_ret (v := .bool true) (by simp [results, Try.results7, go_sem]) rfl ⟨rfl, GX.out.alloc GX.out.size _⟩
        case inl =>
          obtain ⟨Bp, dp, Bk, dk, rfl, hp, hk⟩ := hv
          have HPK := Lib.hid (And.intro hp hk)
          have HO3 := Lib.hid (And.intro o1 (And.intro o2 o3))
          clear hp hk o1 o2 o3
          go_upto_region 12 with fail
          have gB := heap_alloc_new wx (scrBox s'.cfg (.slice Bp s'.progs.length dp) (.slice Bk s'.picks.length dk))
          have gX := Lib.hid (GX.out.alloc GX.out.size (scrBox s'.cfg (.slice Bp s'.progs.length dp) (.slice Bk s'.picks.length dk)))
          have gY := below_box wx (scrBox s'.cfg (.slice Bp s'.progs.length dp) (.slice Bk s'.picks.length dk))
          have HPK2 := Lib.hid (And.intro (HPK.out.1.below gY gY.size) (HPK.out.2.below gY gY.size))
          clear gY GX HD
          generalize wx.alloc (scrBox s'.cfg (.slice Bp s'.progs.length dp) (.slice Bk s'.picks.length dk)) = wy at *
          generalize wx.heap.size = N at *
          obtain ⟨c0, c1, c2, c3, c4, c5, c6, c7, c8, c9⟩ := box_cell gB
          clear gB HPK
          have HE := Lib.hid (scriptEncode s' Bp Bk dp dk wy (scr_sz HO3.out.1 HO3.out.2.1) HPK2.out.1 HPK2.out.2 HO3.out.2.1)
          have hkk := (chk_iff s').2 HO3.out.1
          go_wp2_with fail
          refine HE.out.mono ?_
          rintro e wz ⟨rfl, hw⟩
          rw [if_pos hkk, hkk, HO3.out.2.2, bs_bytesL]
          have GZ : Hid (Below w.heap.size w wz) := gX.out.trans (hw.mono gX.out.size)
          clear hw c0 c1 c2 c3 c4 c5 c6 c7 c8 c9
          have htt : (t.toList == t.toList) = true := by simp
          go_wp2
          exact bodyPost_ret (v := .bool true) (by simp [results, Try.results7, go_sem]) rfl ⟨rfl, GZ.out⟩
    case pos =>
      rw [if_pos hk, hk]
      rw [hk] at HCk
      have HO := Lib.hid ((chk_iff s).1 hk)
      clear hk
      go_wp2_with fail
      refine HCk.out.mono ?_
      rintro e w3 ⟨rfl, hw⟩
      have gA : w3.heap[w.heap.size]? = some (scrBox s.cfg (.slice Ap s.progs.length cp) (.slice Ak s.picks.length ck)) := (hw.block _ (heap_lt GA.out)).trans GA.out
      have GW3 : Hid (Below w.heap.size w w3) := GW2.out.trans (hw.mono GW2.out.size)
      have HPK3 := Lib.hid (And.intro (HPK2.out.1.below hw hw.size) (HPK2.out.2.below hw hw.size))
      clear hw c0 c1 c2 c3 c4 c5 c6 c7 c8 c9 GW2 HPK2 GA HCk
      have GA := Lib.hid gA
      clear gA
      have h6 : decide ((65536 : Int) < ((bs (encScr s)).size : Int)) = false := by rw [bs_size]; have := HO.out.size; simp; omega
      have HD := Lib.hid (scriptDecode (encScr s) w3 (encScr_BL s) (by have := HO.out.size; omega))
      go_wp2_with fail
      refine HD.out.mono ?_
      rintro e w4 ⟨hb, hx⟩
      have GW4 : Hid (Below w.heap.size w w4) := GW3.out.trans (hb.mono GW3.out.size)
      have gA : Hid (w4.heap[w.heap.size]? = some (scrBox s.cfg (.slice Ap s.progs.length cp) (.slice Ak s.picks.length ck))) := (hb.block _ (heap_lt GA.out)).trans GA.out
      have HPK4 := Lib.hid (And.intro (HPK3.out.1.below hb hb.size) (HPK3.out.2.below hb hb.size))
      clear hb h6 GW3 HPK3 GA HD
      rcases hx with ⟨s', v, o1, o2, o3, rfl, hv⟩ | ⟨hn, rfl⟩
      case inr => exact absurd ⟨s, HO.out, HZ.out.2.1, rfl⟩ hn
      obtain rfl := enc_one o1 o2 HO.out HZ.out.2.1 o3
      obtain ⟨Bp, dp, Bk, dk, rfl, hp, hk⟩ := hv
      have HPB := Lib.hid (And.intro hp hk)
      clear hp hk o1 o2 o3
      go_upto_region 7 with fail
      have gB := heap_alloc_new w4 (scrBox s'.cfg (.slice Bp s'.progs.length dp) (.slice Bk s'.picks.length dk))
      have GW := Lib.hid (GW4.out.alloc GW4.out.size (scrBox s'.cfg (.slice Bp s'.progs.length dp) (.slice Bk s'.picks.length dk)))
      have gY := below_box w4 (scrBox s'.cfg (.slice Bp s'.progs.length dp) (.slice Bk s'.picks.length dk))
      have gA := (gY.block _ (heap_lt gA.out)).trans gA.out
      have HQ := Lib.hid (eqScript_at s' s' Ap Ak Bp Bk cp ck dp dk (w4.alloc (scrBox s'.cfg (.slice Bp s'.progs.length dp) (.slice Bk s'.picks.length dk))) HZ.out.2.2.1 (HPK4.out.1.below gY gY.size) (HPK4.out.2.below gY gY.size) (HPB.out.1.below gY gY.size) (HPB.out.2.below gY gY.size))
      rw [same_self] at HQ
      clear gY GW4 HPK4 HPB
      generalize w4.alloc (scrBox s'.cfg (.slice Bp s'.progs.length dp) (.slice Bk s'.picks.length dk)) = w5 at *
      generalize w4.heap.size = N at *
      obtain ⟨c0, c1, c2, c3, c4, c5, c6, c7, c8, c9⟩ := box_cell gA
      obtain ⟨d0, d1, d2, d3, d4, d5, d6, d7, d8, d9⟩ := box_cell gB
      clear gA gB
      go_wp2_with fail
      refine HQ.out.mono ?_
      rintro e w6 ⟨rfl, hw⟩
      have GW : Hid (Below w.heap.size w w6) := GW.out.trans (hw.mono GW.out.size)
      clear hw d0 d1 d2 d3 d4 d5 d6 d7 d8 d9 HQ
      by_cases h3 : (t.size : Int) > 3000
      case pos =>
        have h3' : decide ((3000 : Int) < (t.size : Int)) = true := by simpa using h3
        clear c0 c1 c2 c3 c4 c5 c6 c7 c8 c9
        go_wp2
        exact bodyPost_ret (v := .bool true) (by simp [results, Try.results7, go_sem]) rfl ⟨rfl, GW.out⟩
      case neg =>
        have h3' : decide ((3000 : Int) < (t.size : Int)) = false := by simpa using h3
        have HT3 := Lib.hid h3
        clear h3
        clear c0 c1 c2 c3 c4 c5 c6 c7 c8 c9
        have HD := Lib.hid (decodeOf t w6 (by have := HT3.out; omega))
        go_wp2_with fail
        refine HD.out.mono ?_
        rintro e wx ⟨hb, hx⟩
        have GX : Hid (Below w.heap.size w wx) := GW.out.trans (hb.mono GW.out.size)
        clear hb h3'
        rcases hx with ⟨s', v, o1, o2, o3, rfl, hv⟩ | ⟨hn, rfl⟩
        case inr =>
          have hm : decErr (bytesL t) = 4 := decErr_cut (by rw [bytesL_len]; have := HT3.out; omega)
          rw [hm]
          clear hm
          go_wp2
          exact bodyPost_ret (v := .bool true) (by simp [results, Try.results7, go_sem]) rfl ⟨rfl, GX.out.alloc GX.out.size _⟩
        case inl =>
          obtain ⟨Bp, dp, Bk, dk, rfl, hp, hk⟩ := hv
          have HPK := Lib.hid (And.intro hp hk)
          have HO3 := Lib.hid (And.intro o1 (And.intro o2 o3))
          clear hp hk o1 o2 o3
          go_upto_region 12 with fail
          have gB := heap_alloc_new wx (scrBox s'.cfg (.slice Bp s'.progs.length dp) (.slice Bk s'.picks.length dk))
          have gX := Lib.hid (GX.out.alloc GX.out.size (scrBox s'.cfg (.slice Bp s'.progs.length dp) (.slice Bk s'.picks.length dk)))
          have gY := below_box wx (scrBox s'.cfg (.slice Bp s'.progs.length dp) (.slice Bk s'.picks.length dk))
          have HPK2 := Lib.hid (And.intro (HPK.out.1.below gY gY.size) (HPK.out.2.below gY gY.size))
          clear gY GX HD
          generalize wx.alloc (scrBox s'.cfg (.slice Bp s'.progs.length dp) (.slice Bk s'.picks.length dk)) = wy at *
          generalize wx.heap.size = N at *
          obtain ⟨c0, c1, c2, c3, c4, c5, c6, c7, c8, c9⟩ := box_cell gB
          clear gB HPK
          have HE := Lib.hid (scriptEncode s' Bp Bk dp dk wy (scr_sz HO3.out.1 HO3.out.2.1) HPK2.out.1 HPK2.out.2 HO3.out.2.1)
          have hkk := (chk_iff s').2 HO3.out.1
          go_wp2_with fail
          refine HE.out.mono ?_
          rintro e wz ⟨rfl, hw⟩
          rw [if_pos hkk, hkk, HO3.out.2.2, bs_bytesL]
          have GZ : Hid (Below w.heap.size w wz) := gX.out.trans (hw.mono gX.out.size)
          clear hw c0 c1 c2 c3 c4 c5 c6 c7 c8 c9
          have htt : (t.toList == t.toList) = true := by simp
          go_wp2
          exact bodyPost_ret (v := .bool true) (by simp [results, Try.results7, go_sem]) rfl ⟨rfl, GZ.out⟩
end Go.Proofs.Ytcicememljlafaa
