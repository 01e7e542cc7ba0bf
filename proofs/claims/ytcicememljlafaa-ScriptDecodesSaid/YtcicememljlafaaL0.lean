/- Plain law: encodings cut short, encodings with more behind. -/
import Derived.Test.YtcicememljlafaaE0
import Derived.Test.YtcicememljlafaaA4
namespace Go.Proofs.Ytcicememljlafaa
open Runes (bs bt)

theorem cut_no {s : ScrV} (h : ScrOk s) (ht : ScrTy s) {n : Nat} (hn : n < (encScr s).length) : ¬ ∃ s', ScrOk s' ∧ ScrTy s' ∧ encScr s' = (encScr s).take n := by
  rintro ⟨s', h1, h2, h3⟩
  have e : encScr s' ++ (encScr s).drop n = encScr s := by rw [h3]; exact List.take_append_drop n _
  have := (enc_prefix h1 h2 h ht e).2
  have hl := congrArg List.length this
  simp at hl
  omega
theorem add_iff {s : ScrV} (h : ScrOk s) (ht : ScrTy s) (t : List Int) : (∃ s', ScrOk s' ∧ ScrTy s' ∧ encScr s' = encScr s ++ t) ↔ t = [] := by
  constructor
  · rintro ⟨s', h1, h2, h3⟩
    exact (enc_prefix h ht h1 h2 h3.symm).2
  · rintro rfl
    exact ⟨s, h, ht, by simp⟩
theorem enc_one {s s' : ScrV} (h : ScrOk s) (ht : ScrTy s) (h' : ScrOk s') (ht' : ScrTy s') (e : encScr s = encScr s') : s = s' :=
  (enc_prefix (r := []) h ht h' ht' (by simpa using e)).1
theorem enc_pos (s : ScrV) : 15 ≤ (encScr s).length := by rw [encScr_len]; omega
end Go.Proofs.Ytcicememljlafaa
