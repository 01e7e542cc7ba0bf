/- Walks: ScriptDecodes. -/
import Derived.Test.YtcicememljlafaaF4
import Derived.Test.YtcicememljlafaaA5
import Derived.Test.YtcicememljlafaaL0
namespace Go.Proofs.Ytcicememljlafaa
open Go.RowKit
open Runes (bs bt)

theorem decodeR (l : List Int) (w : World) (hl : BL l) (hs : l.length ≤ 9223372036854775807) : Calls Try.prog 19 #[.string (bs l)] w (DecodeRes l w) := by
  by_cases hm : l.length ≤ 65536
  · exact decR_main l w hm hl
  · exact decR_long l w hm hs
/-- Both decodings have the same answer. -/
def Answer (s : ScrV) (e : Int) (w : World) (E : Ending) (w' : World) : Prop := ∃ Ap cp Ak ck, E = .returned (.tuple #[scrVal s.cfg (.slice Ap s.progs.length cp) (.slice Ak s.picks.length ck), .int .i64 e]) ∧ ProgsAt w' w'.heap.size Ap s.progs ∧ Ints w' w'.heap.size Ak s.picks ∧ Below w.heap.size w w'
theorem one_answer (l : List Int) : ∃ (s : ScrV) (e : Int), Sized s ∧ ∀ w E w', DecodeRes l w E w' → Answer s e w E w' := by
  by_cases h : ∃ s, ScrOk s ∧ ScrTy s ∧ encScr s = l
  · obtain ⟨s, h1, h2, h3⟩ := h
    have hz : ScrSz s := dScr_sz (encScr_BL s) h1.size ((dec_iff (encScr s) (encScr_BL s) s).2 ⟨h1, h2, rfl⟩).1
    refine ⟨s, 0, ⟨hz.progs, hz.picks, hz.lens⟩, fun w E w' ⟨hb, hd⟩ => ?_⟩
    rcases hd with ⟨s', v, g1, g2, g3, rfl, ga⟩ | ⟨hn, _⟩
    · obtain rfl := enc_one g1 g2 h1 h2 (g3.trans h3.symm)
      obtain ⟨Ap, cp, Ak, ck, rfl, hp, hk⟩ := ga
      exact ⟨Ap, cp, Ak, ck, rfl, hp, hk, hb⟩
    · exact absurd ⟨s, h1, h2, h3⟩ hn
  · refine ⟨⟨cfg0, [], []⟩, decErr l, ⟨Nat.zero_le _, Nat.zero_le _, fun q hq => by cases hq⟩, fun w E w' ⟨hb, hd⟩ => ?_⟩
    rcases hd with ⟨s', v, g1, g2, g3, _, _⟩ | ⟨_, rfl⟩
    · exact absurd ⟨s', g1, g2, g3⟩ h
    · exact ⟨none, 0, none, 0, rfl, fun hpos => absurd hpos (by simp), Ints.nil_ _ _ _, hb⟩

theorem decodeOfP (t : ByteArray) (w : World) (h : t.size ≤ 9223372036854775807) : Calls Try.prog 18 #[.string t] w (DecodeRes (bytesL t) w) := by
  have := scriptDecode (bytesL t) w (bytesL_BL t) (by rw [bytesL_len]; exact h)
  rwa [bs_bytesL] at this
theorem decodeOfR (t : ByteArray) (w : World) (h : t.size ≤ 9223372036854775807) : Calls Try.prog 19 #[.string t] w (DecodeRes (bytesL t) w) := by
  have := decodeR (bytesL t) w (bytesL_BL t) (by rw [bytesL_len]; exact h)
  rwa [bs_bytesL] at this
theorem answers (t : ByteArray) (h : t.size ≤ 9223372036854775807) : ∃ (s : ScrV) (e : Int), Sized s ∧ (∀ W, Calls Try.prog 18 #[.string t] W (Answer s e W)) ∧ ∀ W, Calls Try.prog 19 #[.string t] W (Answer s e W) := by
  obtain ⟨s, e, hs, ha⟩ := one_answer (bytesL t)
  exact ⟨s, e, hs, fun W => (decodeOfP t W h).mono (ha W), fun W => (decodeOfR t W h).mono (ha W)⟩
set_option maxHeartbeats 1000000 in
set_option maxRecDepth 100000 in
theorem scriptDecodes_walk (t : ByteArray) (w : World) (ht : t.size ≤ 9223372036854775807) : Calls Try.prog 6 #[.string t] w (BoolBelow true w) := by
  have HB := Lib.hid (Below.refl w.heap.size w)
  by_cases h3 : (t.size : Int) > 65546
  case pos =>
    have g1 : decide ((3000 : Int) < (t.size : Int)) = true := by simp; omega
    have g2 : decide ((t.size : Int) ≤ (65536 : Int)) = false := by simp; omega
    have g3 : decide ((65546 : Int) < (t.size : Int)) = true := by simpa using h3
    go_enter Try.func6, Try.ntmps6
    go_wp2
    exact bodyPost_ret (v := .bool true) (by simp [results, Try.results6, go_sem]) rfl ⟨rfl, HB.out⟩
  case neg =>
    have g3 : decide ((65546 : Int) < (t.size : Int)) = false := by simpa using h3
    by_cases h12 : (t.size : Int) > 3000 ∧ (t.size : Int) ≤ 65536
    case pos =>
      have g1 : decide ((3000 : Int) < (t.size : Int)) = true := by simpa using h12.1
      have g2 : decide ((t.size : Int) ≤ (65536 : Int)) = true := by simpa using h12.2
      go_enter Try.func6, Try.ntmps6
      go_wp2
      exact bodyPost_ret (v := .bool true) (by simp [results, Try.results6, go_sem]) rfl ⟨rfl, HB.out⟩
    case neg =>
      obtain ⟨s, e, hsd, ha1, ha2⟩ := answers t ht
      have HD1 := Lib.hid ha1
      have HD2 := Lib.hid ha2
      have HSD := Lib.hid hsd
      clear ha1 ha2 hsd
      have hc : (t.size : Int) ≤ 3000 ∨ ((t.size : Int) > 3000 ∧ (t.size : Int) > 65536) := by omega
      have hee : (e == e) = true := by simp
      rcases hc with hc | ⟨hc1, hc2⟩
      case inl =>
        have g1 : decide ((3000 : Int) < (t.size : Int)) = false := by simpa using hc
        clear hc h12 h3
        go_enter Try.func6, Try.ntmps6
        go_wp2_with fail
        refine (HD1.out _).mono ?_
        rintro E1 w1 ⟨Ap, cp, Ak, ck, rfl, hp1, hk1, hb1⟩
        have gY := below_box w1 (scrBox s.cfg (.slice Ap s.progs.length cp) (.slice Ak s.picks.length ck))
        have gA := heap_alloc_new w1 (scrBox s.cfg (.slice Ap s.progs.length cp) (.slice Ak s.picks.length ck))
        have HS1 := Lib.hid (And.intro (hp1.below gY gY.size) (And.intro (hk1.below gY gY.size) (And.intro (below_then hb1 hb1.size gY) gA)))
        clear hp1 hk1 hb1 gY gA HD1
        go_upto_region 4 with fail
        generalize w1.alloc (scrBox s.cfg (.slice Ap s.progs.length cp) (.slice Ak s.picks.length ck)) = W1 at *
        generalize w1.heap.size = q1 at *
        go_wp2_with fail
        refine (HD2.out _).mono ?_
        rintro E2 w2 ⟨Bp, dp, Bk, dk, rfl, hp2, hk2, hb2⟩
        have gY := below_box w2 (scrBox s.cfg (.slice Bp s.progs.length dp) (.slice Bk s.picks.length dk))
        have gB := heap_alloc_new w2 (scrBox s.cfg (.slice Bp s.progs.length dp) (.slice Bk s.picks.length dk))
        have hb3 := below_then hb2 hb2.size gY
        have gA := (hb3.block _ (heap_lt HS1.out.2.2.2)).trans HS1.out.2.2.2
        have HF := Lib.hid (below_then HS1.out.2.2.1 HS1.out.2.2.1.size hb3)
        have HQ := Lib.hid (eqScript_at s s Ap Ak Bp Bk cp ck dp dk (w2.alloc (scrBox s.cfg (.slice Bp s.progs.length dp) (.slice Bk s.picks.length dk))) HSD.out (HS1.out.1.below hb3 hb3.size) (HS1.out.2.1.below hb3 hb3.size) (hp2.below gY gY.size) (hk2.below gY gY.size))
        rw [same_self] at HQ
        clear hp2 hk2 hb2 hb3 gY HD2 HS1
        go_upto_region 5 with fail
        generalize w2.alloc (scrBox s.cfg (.slice Bp s.progs.length dp) (.slice Bk s.picks.length dk)) = W2 at *
        generalize w2.heap.size = q2 at *
        obtain ⟨c0, c1, c2, c3, c4, c5, c6, c7, c8, c9⟩ := box_cell gA
        obtain ⟨d0, d1, d2, d3, d4, d5, d6, d7, d8, d9⟩ := box_cell gB
        clear gA gB
        go_wp2_with fail
        refine HQ.out.mono ?_
        rintro E3 w3 ⟨rfl, hw⟩
        have HG := Lib.hid (below_then HF.out HF.out.size hw)
        clear hw c0 c1 c2 c3 c4 c5 c6 c7 c8 c9 d0 d1 d2 d3 d4 d5 d6 d7 d8 d9
        go_wp2_with fail
        exact bodyPost_ret (v := .bool true) (by simp [results, Try.results6, go_sem]) rfl ⟨rfl, HG.out⟩
      case inr =>
        have g1 : decide ((3000 : Int) < (t.size : Int)) = true := by simpa using hc1
        have g2 : decide ((t.size : Int) ≤ (65536 : Int)) = false := by simpa using hc2
        clear hc1 hc2 h12 h3
        go_enter Try.func6, Try.ntmps6
        go_wp2_with fail
        refine (HD1.out _).mono ?_
        rintro E1 w1 ⟨Ap, cp, Ak, ck, rfl, hp1, hk1, hb1⟩
        have gY := below_box w1 (scrBox s.cfg (.slice Ap s.progs.length cp) (.slice Ak s.picks.length ck))
        have gA := heap_alloc_new w1 (scrBox s.cfg (.slice Ap s.progs.length cp) (.slice Ak s.picks.length ck))
        have HS1 := Lib.hid (And.intro (hp1.below gY gY.size) (And.intro (hk1.below gY gY.size) (And.intro (below_then hb1 hb1.size gY) gA)))
        clear hp1 hk1 hb1 gY gA HD1
        go_upto_region 4 with fail
        generalize w1.alloc (scrBox s.cfg (.slice Ap s.progs.length cp) (.slice Ak s.picks.length ck)) = W1 at *
        generalize w1.heap.size = q1 at *
        go_wp2_with fail
        refine (HD2.out _).mono ?_
        rintro E2 w2 ⟨Bp, dp, Bk, dk, rfl, hp2, hk2, hb2⟩
        have gY := below_box w2 (scrBox s.cfg (.slice Bp s.progs.length dp) (.slice Bk s.picks.length dk))
        have gB := heap_alloc_new w2 (scrBox s.cfg (.slice Bp s.progs.length dp) (.slice Bk s.picks.length dk))
        have hb3 := below_then hb2 hb2.size gY
        have gA := (hb3.block _ (heap_lt HS1.out.2.2.2)).trans HS1.out.2.2.2
        have HF := Lib.hid (below_then HS1.out.2.2.1 HS1.out.2.2.1.size hb3)
        have HQ := Lib.hid (eqScript_at s s Ap Ak Bp Bk cp ck dp dk (w2.alloc (scrBox s.cfg (.slice Bp s.progs.length dp) (.slice Bk s.picks.length dk))) HSD.out (HS1.out.1.below hb3 hb3.size) (HS1.out.2.1.below hb3 hb3.size) (hp2.below gY gY.size) (hk2.below gY gY.size))
        rw [same_self] at HQ
        clear hp2 hk2 hb2 hb3 gY HD2 HS1
        go_upto_region 5 with fail
        generalize w2.alloc (scrBox s.cfg (.slice Bp s.progs.length dp) (.slice Bk s.picks.length dk)) = W2 at *
        generalize w2.heap.size = q2 at *
        obtain ⟨c0, c1, c2, c3, c4, c5, c6, c7, c8, c9⟩ := box_cell gA
        obtain ⟨d0, d1, d2, d3, d4, d5, d6, d7, d8, d9⟩ := box_cell gB
        clear gA gB
        go_wp2_with fail
        refine HQ.out.mono ?_
        rintro E3 w3 ⟨rfl, hw⟩
        have HG := Lib.hid (below_then HF.out HF.out.size hw)
        clear hw c0 c1 c2 c3 c4 c5 c6 c7 c8 c9 d0 d1 d2 d3 d4 d5 d6 d7 d8 d9
        go_wp2_with fail
        exact bodyPost_ret (v := .bool true) (by simp [results, Try.results6, go_sem]) rfl ⟨rfl, HG.out⟩
end Go.Proofs.Ytcicememljlafaa
