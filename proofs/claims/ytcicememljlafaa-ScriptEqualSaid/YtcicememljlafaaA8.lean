import Derived.Test.YtcicememljlafaaA6
import Derived.Test.YtcicememljlafaaA7
import Derived.Test.YtcicememljlafaaOpen
namespace Go.Proofs.Ytcicememljlafaa
open Go.RowKit

theorem ScrWf.sized {s : ScrV} (h : ScrWf s) : Sized s := by
  have e : maxLen = 9223372036854775807 := by unfold maxLen; rfl
  exact ⟨e ▸ h.progs, e ▸ h.picks, e ▸ h.lens⟩

theorem scriptEqual_walk (va vb : Value) (a b : ScrV) (w : World) (ha : ScrAt w w.heap.size va a) (hb : ScrAt w w.heap.size vb b) (wa : ScrWf a) (wb : ScrWf b) :
    Calls Try.prog 3 #[va, vb] w (BoolBelow true w) := by
  obtain ⟨Ap, cp, Ak, ck, rfl, p1, k1⟩ := ha
  obtain ⟨Bp, dp, Bk, dk, rfl, p2, k2⟩ := hb
  have e : maxLen = 9223372036854775807 := by unfold maxLen; rfl
  refine scriptEqual_big a.cfg b.cfg _ _ _ _ w (same a b) (Lib.hid fun W h => ?_) (Lib.hid fun W h => ?_) (Lib.hid fun W h => ?_) (Lib.hid fun W h => ?_) (Lib.hid fun W h => ?_) (Lib.hid fun W h => ?_)
  · exact equal_at a b Ap Ak Bp Bk cp ck dp dk W wa.sized wb.sized (p1.below h h.size) (k1.below h h.size) (p2.below h h.size) (k2.below h h.size)
  · exact eqScript_at a b Ap Ak Bp Bk cp ck dp dk W wa.sized (p1.below h h.size) (k1.below h h.size) (p2.below h h.size) (k2.below h h.size)
  · have := equal_at a a Ap Ak Ap Ak cp ck cp ck W wa.sized wa.sized (p1.below h h.size) (k1.below h h.size) (p1.below h h.size) (k1.below h h.size)
    rwa [same_self] at this
  · have := equal_at b a Bp Bk Ap Ak dp dk cp ck W wb.sized wa.sized (p2.below h h.size) (k2.below h h.size) (p1.below h h.size) (k1.below h h.size)
    rwa [same_comm] at this
  · refine (small_at a Ap Ak cp ck W (e ▸ wa.cfg.text) wa.sized (p1.below h h.size)).mono fun r w' ⟨q, h1, _, h3⟩ => ⟨q, h1, h3⟩
  · refine (small_at b Bp Bk dp dk W (e ▸ wb.cfg.text) wb.sized (p2.below h h.size)).mono fun r w' ⟨q, h1, _, h3⟩ => ⟨q, h1, h3⟩
end Go.Proofs.Ytcicememljlafaa
