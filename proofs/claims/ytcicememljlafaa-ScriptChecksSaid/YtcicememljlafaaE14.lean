/- Walks: ScriptChecks. -/
import Derived.Test.YtcicememljlafaaE13
import Derived.Test.YtcicememljlafaaL2
namespace Go.Proofs.Ytcicememljlafaa
open Go.RowKit
open Runes (bs bt)

abbrev bxS (w : World) (c : CfgV) (p k : Value) (W : World) : Prop := Hid (Below w.heap.size w W ∧ W.heap[w.heap.size]? = some (scrBox c p k)) ∧
    W.cell? ⟨w.heap.size, 0, none⟩ = some (.int .i64 c.slots) ∧ W.cell? ⟨w.heap.size, 1, none⟩ = some (.int .u64 c.gens) ∧ W.cell? ⟨w.heap.size, 2, none⟩ = some (.int .i64 c.clients) ∧ W.cell? ⟨w.heap.size, 3, none⟩ = some (.int .i64 c.readers) ∧ W.cell? ⟨w.heap.size, 4, none⟩ = some (.int .i64 c.queue) ∧
    W.cell? ⟨w.heap.size, 5, none⟩ = some (.int .i64 c.batch) ∧ W.cell? ⟨w.heap.size, 6, none⟩ = some (.int .i64 c.feed) ∧ W.cell? ⟨w.heap.size, 7, none⟩ = some (.string c.text) ∧ W.cell? ⟨w.heap.size, 8, none⟩ = some p ∧ W.cell? ⟨w.heap.size, 9, none⟩ = some k
theorem bxS_of {w W : World} {c : CfgV} {p k : Value} (h : Below w.heap.size w W ∧ W.heap[w.heap.size]? = some (scrBox c p k)) : bxS w c p k W := ⟨h, box_cell h.2⟩
theorem bxS_step {w W W' : World} {c : CfgV} {p k : Value} (h : bxS w c p k W) (hb : Below W.heap.size W W') : bxS w c p k W' :=
  bxS_of ⟨below_then h.1.out.1 h.1.out.1.size hb, (hb.block _ (heap_lt h.1.out.2)).trans h.1.out.2⟩
theorem bxS_drew {w W : World} {c : CfgV} {p k : Value} (h : Below w.heap.size w W ∧ W.heap[w.heap.size]? = some (scrBox c p k)) : bxS w c p k W.drew := bxS_of ⟨h.1.drew, h.2⟩
theorem bxS_get {w W : World} {c : CfgV} {p k : Value} (h : bxS w c p k W) : Below w.heap.size w W := h.1.out.1

set_option maxHeartbeats 1000000 in
set_option maxRecDepth 100000 in
theorem scriptChecks (hsm : ∀ (s : ScrV) (Ap Ak : Option Addr) (cp ck : Nat) (w : World), ScrSz s → ProgsAt w w.heap.size Ap s.progs → Calls Try.prog 9 #[scrVal s.cfg (.slice Ap s.progs.length cp) (.slice Ak s.picks.length ck)] w (fun e w' => ∃ b, e = .returned (.bool b) ∧ Below w.heap.size w w'))
    (s : ScrV) (Ap Ak : Option Addr) (cp ck : Nat) (w : World) (hz : ScrSz s) (hty : ScrTy s) (hkb : ∀ p ∈ s.progs, ∀ o ∈ p, o.kind ≤ 255)
    (hP : ProgsAt w w.heap.size Ap s.progs) (hK : Ints w w.heap.size Ak s.picks) :
    Calls Try.prog 5 #[scrVal s.cfg (.slice Ap s.progs.length cp) (.slice Ak s.picks.length ck)] w (BoolBelow true w) := by
  have HB := Lib.hid (fun o : Obj => (Below.refl _ w).alloc (Nat.le_refl _) o)
  have HP := Lib.hid (fun o : Obj => hP.below (below_box w o) (by simp : w.heap.size ≤ (w.alloc o).heap.size))
  have HK := Lib.hid (fun o : Obj => hK.below (below_box w o) (by simp : w.heap.size ≤ (w.alloc o).heap.size))
  have HS := Lib.hid (fun o : Obj => hsm s Ap Ak cp ck (w.alloc o) hz (HP.out o))
  have HPW := Lib.hid (And.intro hP hK)
  have HZ := Lib.hid (And.intro hz (And.intro hty hkb))
  clear hP hK hsm hz hty hkb
  go_enter Try.func5, Try.ntmps5
  go_wp2_with fail
  refine (HS.out _).mono ?_
  rintro e w1 ⟨b, rfl, hw⟩
  have gA : w1.heap[w.heap.size]? = some (scrBox s.cfg (.slice Ap s.progs.length cp) (.slice Ak s.picks.length ck)) := (hw.block _ (by simp)).trans (heap_alloc_new _ _)
  have GW : Hid (Below w.heap.size w w1) := (HB.out _).trans (hw.mono (by simp))
  have HE := Lib.hid (scriptEncode s Ap Ak cp ck w1 HZ.out.1 ((HP.out _).below hw hw.size) ((HK.out _).below hw hw.size) HZ.out.2.1)
  obtain ⟨c0, c1, c2, c3, c4, c5, c6, c7, c8, c9⟩ := box_cell gA
  have GA := Lib.hid gA
  clear hw gA HS HB
  cases b
  case false =>
    go_wp2
    exact bodyPost_ret (v := .bool true) (by simp [results, Try.results5, go_sem]) rfl ⟨rfl, GW.out⟩
  case true =>
    go_wp2_with fail
    refine HE.out.mono ?_
    rintro e w2 ⟨rfl, hw⟩
    have gA := (hw.block _ (heap_lt GA.out)).trans GA.out
    have GW2 : Hid (Below w.heap.size w w2) := GW.out.trans (hw.mono GW.out.size)
    clear hw c0 c1 c2 c3 c4 c5 c6 c7 c8 c9 HE GW GA
    obtain ⟨c0, c1, c2, c3, c4, c5, c6, c7, c8, c9⟩ := box_cell gA
    have GA := Lib.hid gA
    have HE := Lib.hid (scriptEncodeR s Ap Ak cp ck w2 HZ.out.1 HZ.out.2.2 (HPW.out.1.below GW2.out GW2.out.size) (HPW.out.2.below GW2.out GW2.out.size) HZ.out.2.1)
    unfold EncResV at HE
    have HR1 := Lib.hid (fun (W : World) (h : Below w.heap.size w W) => scriptCheck s Ap Ak cp ck W HZ.out.1 (HPW.out.1.below h h.size) (HPW.out.2.below h h.size))
    have HR2 := Lib.hid (fun (W : World) (h : Below w.heap.size w W) => scriptCheckR s Ap Ak cp ck W HZ.out.1 HZ.out.2.2 (HPW.out.1.below h h.size) (HPW.out.2.below h h.size))
    unfold CheckRes at HR1 HR2
    clear gA HZ HPW HP HK
    generalize (if chkScr s = 0 then bs (encScr s) else ByteArray.empty) = E at *
    generalize chkScr s = kk at *
    go_wp2_with fail
    refine HE.out.mono ?_
    rintro e w3 ⟨rfl, hw⟩
    have gA := (hw.block _ (heap_lt GA.out)).trans GA.out
    have GW3 : Hid (Below w.heap.size w w3) := GW2.out.trans (hw.mono GW2.out.size)
    clear hw c0 c1 c2 c3 c4 c5 c6 c7 c8 c9 HE GW2 GA
    have GD := Lib.hid (bxS_drew ⟨GW3.out, gA⟩)
    clear gA
    have e1 : (kk == kk) = true := by simp
    have e2 : (E.toList == E.toList) = true := by simp
    go_wp2_with fail
    go_region_held3 (fun w' => bxS w s.cfg (.slice Ap s.progs.length cp) (.slice Ak s.picks.length ck) w')
      (first
        | (with_reducible assumption)
        | (with_reducible exact GD.out)
        | (with_reducible refine bxS_step ?_ hgrow; with_reducible assumption)
        | (with_reducible refine bxS_step ?_ hgrow; with_reducible exact GD.out))
      (first
        | (go_at_call 16; with_reducible refine (HR1.out _ (by first | (with_reducible exact bxS_get GD.out) | (with_reducible refine bxS_get (c := s.cfg) (p := .slice Ap s.progs.length cp) (k := .slice Ak s.picks.length ck) ?_; with_reducible assumption))).mono ?_; rintro e w6 ⟨rfl, hgrow⟩)
        | (go_at_call 17; with_reducible refine (HR2.out _ (by first | (with_reducible exact bxS_get GD.out) | (with_reducible refine bxS_get (c := s.cfg) (p := .slice Ap s.progs.length cp) (k := .slice Ak s.picks.length ck) ?_; with_reducible assumption))).mono ?_; rintro e w6 ⟨rfl, hgrow⟩))
    all_goals
      have GF := Lib.hid (bxS_get (W := w6) (c := s.cfg) (p := .slice Ap s.progs.length cp) (k := .slice Ak s.picks.length ck) (by assumption))
      go_wp2_with fail
      exact bodyPost_ret (v := .bool true) (by simp [results, Try.results5, go_sem]) rfl ⟨rfl, GF.out⟩
end Go.Proofs.Ytcicememljlafaa
