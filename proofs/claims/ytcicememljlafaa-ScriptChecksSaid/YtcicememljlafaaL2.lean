/- Walks: ScriptCut. -/
import Derived.Test.YtcicememljlafaaD7
import Derived.Test.YtcicememljlafaaL0
import Derived.Test.YtcicememljlafaaE10
namespace Go.Proofs.Ytcicememljlafaa
open Go.RowKit
open Runes (bs bt)

def boxed (W : World) (c : CfgV) (p k : Value) : World := scrSet (W.alloc zeroScr) W.heap.size c p k
theorem boxed_own (W : World) (c : CfgV) (p k : Value) : Below W.heap.size W (boxed W c p k) := scrSet_b c p k (below_box W _) (Nat.le_refl _)
theorem boxed_below {w W : World} (h : Below w.heap.size w W) (c : CfgV) (p k : Value) : Below w.heap.size w (boxed W c p k) := h.trans ((boxed_own W c p k).mono h.size)
theorem boxed_at (W : World) (c : CfgV) (p k : Value) : (boxed W c p k).heap[W.heap.size]? = some (scrBox c p k) := scrSet_a (c0 := cfg0) (p0 := .slice none 0 0) (k0 := .slice none 0 0) (heap_alloc_new _ _)
theorem wrap64_sm {x : Int} (h1 : -9223372036854775808 ≤ x) (h2 : x ≤ 9223372036854775807) : wrap64 x = x := by unfold wrap64; omega
theorem cut_num (i L : Int) (h1 : 1 ≤ L) (h2 : L ≤ 3000) : ∃ n : Nat, (n : Int) < L ∧ (wrap64 (i.tmod L + L)).tmod L = n := by
  have ha : -L < i.tmod L := by
    have := Int.lt_tmod_of_pos i (show 0 < L by omega)
    omega
  have hb : i.tmod L < L := Int.tmod_lt_of_pos i (by omega)
  rw [wrap64_sm (by omega) (by omega)]
  have h0 : 0 ≤ (i.tmod L + L).tmod L := Int.tmod_nonneg _ (by omega)
  have hc : (i.tmod L + L).tmod L < L := Int.tmod_lt_of_pos _ (by omega)
  exact ⟨((i.tmod L + L).tmod L).toNat, by omega, by omega⟩
theorem empty_yes {t : ByteArray} (h : bytesL t = []) : t.toList.isEmpty = true := by
  rw [← bs_bytesL t, h]; decide +kernel
theorem empty_no {t : ByteArray} (h : bytesL t ≠ []) : t.toList.isEmpty = false := by
  rw [← bs_bytesL t]
  revert h
  cases bytesL t with
  | nil => intro h; exact absurd rfl h
  | cons x y => intro _; simp [bs]
/-- The number of an errno. -/
theorem decErr_cut {l : List Int} (h : l.length ≤ 65536) : decErr l = 4 := by unfold decErr; rw [if_neg (by omega)]

set_option maxHeartbeats 1000000 in
set_option maxRecDepth 100000 in
theorem scriptCut (hsm : ∀ (s : ScrV) (Ap Ak : Option Addr) (cp ck : Nat) (w : World), ScrSz s → ProgsAt w w.heap.size Ap s.progs → Calls Try.prog 9 #[scrVal s.cfg (.slice Ap s.progs.length cp) (.slice Ak s.picks.length ck)] w (fun e w' => ∃ b, e = .returned (.bool b) ∧ Below w.heap.size w w'))
    (s : ScrV) (i : Int) (t : ByteArray) (Ap Ak : Option Addr) (cp ck : Nat) (w : World) (hz : ScrSz s) (hty : ScrTy s) (ht : t.size ≤ 9223372036854775807)
    (hP : ProgsAt w w.heap.size Ap s.progs) (hK : Ints w w.heap.size Ak s.picks) :
    Calls Try.prog 8 #[scrVal s.cfg (.slice Ap s.progs.length cp) (.slice Ak s.picks.length ck), .int .i64 i, .string t] w (BoolBelow true w) := by
  have HB := Lib.hid (fun o : Obj => (Below.refl _ w).alloc (Nat.le_refl _) o)
  have HP := Lib.hid (fun o : Obj => hP.below (below_box w o) (by simp : w.heap.size ≤ (w.alloc o).heap.size))
  have HK := Lib.hid (fun o : Obj => hK.below (below_box w o) (by simp : w.heap.size ≤ (w.alloc o).heap.size))
  have HS := Lib.hid (fun o : Obj => hsm s Ap Ak cp ck (w.alloc o) hz (HP.out o))
  have HZ := Lib.hid (And.intro hz (And.intro hty ht))
  clear hP hK hsm hz hty ht
  go_enter Try.func8, Try.ntmps8
  go_wp2_with fail
  refine (HS.out _).mono ?_
  rintro e w1 ⟨b, rfl, hw⟩
  have gA : w1.heap[w.heap.size]? = some (scrBox s.cfg (.slice Ap s.progs.length cp) (.slice Ak s.picks.length ck)) := (hw.block _ (by simp)).trans (heap_alloc_new _ _)
  have GB : Hid (Below w.heap.size w w1) := (HB.out _).trans (hw.mono (by simp))
  have HE := Lib.hid (scriptEncode s Ap Ak cp ck w1 HZ.out.1 ((HP.out _).below hw hw.size) ((HK.out _).below hw hw.size) HZ.out.2.1)
  obtain ⟨c0, c1, c2, c3, c4, c5, c6, c7, c8, c9⟩ := box_cell gA
  have GA := Lib.hid gA
  clear hw gA HS HP HK HB
  cases b
  case false =>
    go_wp2
    exact bodyPost_ret (v := .bool true) (by simp [results, Try.results8, go_sem]) rfl ⟨rfl, GB.out⟩
  case true =>
    by_cases h100 : (t.size : Int) > 100
    case pos =>
      have h100' : decide ((100 : Int) < (t.size : Int)) = true := by simpa using h100
      go_wp2
      exact bodyPost_ret (v := .bool true) (by simp [results, Try.results8, go_sem]) rfl ⟨rfl, GB.out⟩
    case neg =>
      have h100' : decide ((100 : Int) < (t.size : Int)) = false := by simpa using h100
      go_wp2_with fail
      refine HE.out.mono ?_
      rintro e w2 ⟨rfl, hw⟩
      have GB2 : Hid (Below w.heap.size w w2) := GB.out.trans (hw.mono GB.out.size)
      clear hw c0 c1 c2 c3 c4 c5 c6 c7 c8 c9 HE GA GB
      by_cases hk : chkScr s = 0
      case neg =>
        rw [if_neg hk]
        generalize chkScr s = kk at *
        have hkk : (kk != 0) = true := by simpa using hk
        clear hk
        go_wp2
        exact bodyPost_ret (v := .bool true) (by simp [results, Try.results8, go_sem]) rfl ⟨rfl, GB2.out⟩
      case pos =>
        rw [if_pos hk, hk]
        have HO := Lib.hid ((chk_iff s).1 hk)
        have HL := Lib.hid (enc_pos s)
        clear hk
        have hsz : ((bs (encScr s)).size : Int) = ((encScr s).length : Int) := by rw [bs_size]
        by_cases h3 : ((encScr s).length : Int) > 3000
        case pos =>
          have h3' : decide ((3000 : Int) < ((encScr s).length : Int)) = true := by simpa using h3
          go_wp2
          exact bodyPost_ret (v := .bool true) (by simp [results, Try.results8, go_sem]) rfl ⟨rfl, GB2.out⟩
        case neg =>
          obtain ⟨L, hL⟩ : ∃ L : Int, L = ((encScr s).length : Int) := ⟨_, rfl⟩
          rw [← hL] at hsz h3
          have h3' : decide ((3000 : Int) < L) = false := by simpa using h3
          have h1 : 1 ≤ L := by have := HL.out; omega
          have h0' : (L == 0) = false := by simp; omega
          have HN := Lib.hid (cut_num i L h1 (by omega))
          have h1' : L ≠ 0 := by omega
          have HLL := Lib.hid hL
          have H13 := Lib.hid (And.intro h1 h3)
          have HT := Lib.hid h100
          clear h1 h3 hL h100
          generalize hE : bs (encScr s) = E at *
          have HEE := Lib.hid hE
          clear hE
          go_upto_region 8 with fail
          clear h3' h0' h100'
          go_upto_region 9 with fail
          obtain ⟨n, hn, e⟩ := HN.out
          rw [e]
          clear e HN
          have hnl : n < (encScr s).length := by have := HLL.out; omega
          have hns : n ≤ E.size := by have := HLL.out; omega
          have hni : (n : Int) ≤ (E.size : Int) := by omega
          have HD : Hid (Calls Try.prog 18 #[.string (E.extract 0 n)] w2 (DecodeRes ((encScr s).take n) w2)) := by
            have := scriptDecode ((encScr s).take n) w2 ((encScr_BL s).take n) (by have := HO.out.size; simp; omega)
            rw [← bs_take, HEE.out] at this
            exact this
          have HNO := Lib.hid (cut_no HO.out HZ.out.2.1 hnl)
          have HDE : Hid (decErr ((encScr s).take n) = 4) := decErr_cut (by have := HO.out.size; simp; omega)
          go_wp2_with fail
          refine HD.out.mono ?_
          rintro e w3 ⟨hb, h⟩
          rcases h with ⟨s', v, o1, o2, o3, rfl, hv⟩ | ⟨hx, rfl⟩
          case inl => exact absurd ⟨s', o1, o2, o3⟩ HNO.out
          rw [HDE.out]
          have GB3 : Hid (Below w.heap.size w (w3.alloc (scrBox cfg0 (.slice none 0 0) (.slice none 0 0)))) := (GB2.out.trans (hb.mono GB2.out.size)).alloc (GB2.out.trans (hb.mono GB2.out.size)).size _
          clear hb hx HD HNO HDE GB2 hni hns hnl hn
          go_upto_region 10 with fail
          generalize w3.alloc (scrBox cfg0 (.slice none 0 0) (.slice none 0 0)) = w4 at *
          go_upto_region 12 with fail
          have hcat : ¬ 9223372036854775807 < E.size + t.size := by have := HT.out; have := H13.out; omega
          have HD : Hid (Calls Try.prog 18 #[.string (E ++ t)] w4 (DecodeRes (encScr s ++ bytesL t) w4)) := by
            have := scriptDecode (encScr s ++ bytesL t) w4 ((encScr_BL s).app (bytesL_BL t)) (by have := HO.out.size; have := HT.out; simp only [List.length_append, bytesL_len]; omega)
            rw [← bs_app, HEE.out, bs_bytesL] at this
            exact this
          go_wp2_with fail
          refine HD.out.mono ?_
          rintro e w5 ⟨hb, h⟩
          have GB4 : Hid (Below w.heap.size w w5) := GB3.out.trans (hb.mono GB3.out.size)
          clear hb GB3 HD hcat
          by_cases ht : t.size = 0
          case pos =>
            have hl : bytesL t = [] := List.eq_nil_of_length_eq_zero (by rw [bytesL_len]; exact ht)
            rcases h with ⟨s', v, o1, o2, o3, rfl, hv⟩ | ⟨hx, rfl⟩
            case inr => exact absurd ((add_iff HO.out HZ.out.2.1 (bytesL t)).2 hl) hx
            have hte : t.toList.isEmpty = true := empty_yes hl
            clear hv o1 o2 o3 ht hl
            go_wp2_with fail
            exact bodyPost_ret (v := .bool true) (by simp [results, Try.results8, go_sem]) rfl ⟨rfl, GB4.out⟩
          case neg =>
            have hl : bytesL t ≠ [] := by intro e; have := congrArg List.length e; rw [bytesL_len] at this; exact ht this
            rcases h with ⟨s', v, o1, o2, o3, rfl, hv⟩ | ⟨hx, rfl⟩
            case inl => exact absurd ((add_iff HO.out HZ.out.2.1 (bytesL t)).1 ⟨s', o1, o2, o3⟩) hl
            have hde : decErr (encScr s ++ bytesL t) = 4 := decErr_cut (by have := H13.out; have := HLL.out; have := HT.out; simp only [List.length_append, bytesL_len]; omega)
            rw [hde]
            have hte : t.toList.isEmpty = false := empty_no hl
            clear hx hde ht hl
            go_wp2_with fail
            exact bodyPost_ret (v := .bool true) (by simp [results, Try.results8, go_sem]) rfl ⟨rfl, GB4.out⟩
end Go.Proofs.Ytcicememljlafaa
