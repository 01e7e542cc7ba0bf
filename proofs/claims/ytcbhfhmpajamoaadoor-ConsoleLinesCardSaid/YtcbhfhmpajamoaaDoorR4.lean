/- Walk: text.Result. -/
import Derived.Test.YtcbhfhmpajamoaaDoorR1
import Derived.Test.YtcbhfhmpajamoaaDoorR2
import Derived.Test.YtcbhfhmpajamoaaDoorR3
namespace Go.Proofs.YtcbhfhmpajamoaaDoor
open Go.RowKit

abbrev okN (x : Int) : Prop := 0 ≤ x ∧ x ≤ 9999999999
def numsA (r : ResV) : List Int := [r.rev, r.slot, r.pos, r.grav]
def numsB (r : ResV) : List Int := [r.mb, r.mr, r.ml, r.ik, r.ifr, r.ito]
def decs (l : List Int) : List (List Int) := l.map fun x => decL x.toNat
def resParts (r : ResV) (ps : List PieceV) : List (List Int) := [[111, 107]] ++ decs (numsA r) ++ [quoteL r.text] ++ decs (numsB r) ++ (if deltaL ps = [] then [] else [deltaL ps])
/-- The line of a result. -/
def resL (r : ResV) (ps : List PieceV) : List Int := if r.err = 0 then joinL (resParts r ps) else [101, 114, 114, 111, 114, 32] ++ decL r.err.toNat
def resOk (r : ResV) (ps : List PieceV) : Prop :=
  if r.err = 0 then (∀ x ∈ numsA r, okN x) ∧ (∀ x ∈ numsB r, okN x) ∧ chkD ps 0 0 = 0 else okN r.err ∧ emptyR r ps.length
instance (r : ResV) (ps : List PieceV) : Decidable (resOk r ps) := by unfold resOk; infer_instance
def ResRes (r : ResV) (ps : List PieceV) (w : World) (e : Ending) (w' : World) : Prop :=
  (if resOk r ps then e = .returned (.tuple #[.string (bs (resL r ps)), .int .i64 0]) else e = .returned (.tuple #[.string ⟨#[]⟩, .int .i64 2])) ∧ Below w.heap.size w w'
theorem resRes_no {r : ResV} {ps : List PieceV} (h : ¬ resOk r ps) {w w' : World} (hb : Below w.heap.size w w') : ResRes r ps w (.returned (.tuple #[.string ⟨#[]⟩, .int .i64 2])) w' := ⟨by rw [if_neg h], hb⟩
theorem resRes_yes {r : ResV} {ps : List PieceV} (h : resOk r ps) {w w' : World} {s : ByteArray} (hs : s = bs (resL r ps)) (hb : Below w.heap.size w w') : ResRes r ps w (.returned (.tuple #[.string s, .int .i64 0])) w' := ⟨by rw [if_pos h, hs], hb⟩
theorem chk_empty {ps : List PieceV} (h : ps.length = 0) : chkD ps 0 0 = 0 := by rw [List.eq_nil_of_length_eq_zero h]; rfl
structure ResTy (r : ResV) : Prop where
  err : -9223372036854775808 ≤ r.err ∧ r.err ≤ 9223372036854775807
  grav : 0 ≤ r.grav ∧ r.grav < 256
  ik : 0 ≤ r.ik ∧ r.ik < 256
abbrev resBox (r : ResV) (A : Option Addr) (n c : Nat) : Obj := .cells (resCells r A n c) 32
abbrev itemBox (r : ResV) (A : Option Addr) (n c : Nat) : Obj := .cells #[.int .u8 r.ik, .int .i64 r.ifr, .int .i64 r.ito, .slice A n c] 30
set_option maxHeartbeats 0 in
set_option maxRecDepth 100000 in
theorem resultErr (r : ResV) (A : Option Addr) (c : Nat) (ps : List PieceV) (w : World) (hT : Tab w) (ht : ResTy r) (he : r.err ≠ 0) :
    Calls Tryd.prog 7 #[.agg (resCells r A ps.length c)] w (ResRes r ps w) := by
  have HE := Lib.hid (fun W : World => emptyFn r A ps.length c W)
  have HOK : Hid (resOk r ps ↔ okN r.err ∧ emptyR r ps.length) := by show _ ↔ _; unfold resOk; rw [if_neg he]
  have HR1 : Hid (∀ W, ¬ resOk r ps → Below w.heap.size w W → ResRes r ps w (.returned (.tuple #[.string ⟨#[]⟩, .int .i64 2])) W) := fun W h hb => resRes_no h hb
  have HR2 : Hid (∀ W, resOk r ps → Below w.heap.size w W → ResRes r ps w (.returned (.tuple #[.string (bs ([101, 114, 114, 111, 114, 32] ++ decL r.err.toNat)), .int .i64 0])) W) := fun W h hb => resRes_yes h (by unfold resL; rw [if_neg he]) hb
  have HB := Lib.hid (below_box w (resBox r A ps.length c))
  have HT := Lib.hid (hT.below (below_box w (resBox r A ps.length c)))
  generalize hE : decide (emptyR r ps.length) = E at *
  have HEE := Lib.hid hE
  have hx := ht.err
  clear hT ht hE
  obtain ⟨x0, x1, x2, x3, x4, x5, x6, x7, x8, x9, x10, x11⟩ := r
  dsimp only at *
  generalize ps.length = n at *
  have he2 : (x0 != 0) = true := by simpa using he
  by_cases h1 : x0 < 0
  · have hno : ¬ resOk ⟨x0, x1, x2, x3, x4, x5, x6, x7, x8, x9, x10, x11⟩ ps := fun h => by have := (HOK.out.1 h).1; omega
    go_enter Tryd.func7, Tryd.ntmps7
    go_wp2_with fail
    go_ret2
    exact HR1.out _ hno HB.out
  · by_cases hem : emptyR ⟨x0, x1, x2, x3, x4, x5, x6, x7, x8, x9, x10, x11⟩ n
    · have hE : E = true := by rw [← HEE.out]; simp [hem]
      subst hE
      by_cases h2 : 9999999999 < x0
      · have hno : ¬ resOk ⟨x0, x1, x2, x3, x4, x5, x6, x7, x8, x9, x10, x11⟩ ps := fun h => by have := (HOK.out.1 h).1; omega
        go_enter Tryd.func7, Tryd.ntmps7
        go_wp2_with fail
        refine (HE.out _).mono ?_
        rintro e w1 ⟨rfl, hb1⟩
        have HB1 := Lib.hid (below_then HB.out HB.out.size hb1)
        have hc := (hb1.cell (p := ⟨w.heap.size, 0, none⟩) (by simp)).trans (by rw [World.cell?_alloc_at _ _ _ _ rfl]; rfl : _ = some (Value.int .i64 x0))
        clear hb1 HE
        go_wp2_with fail
        go_ret2
        exact HR1.out _ hno HB1.out
      · have hyes : resOk ⟨x0, x1, x2, x3, x4, x5, x6, x7, x8, x9, x10, x11⟩ ps := HOK.out.2 ⟨⟨by omega, by omega⟩, hem⟩
        have HI := Lib.hid (fun (V : World) (h : Tab V) => itoaFn x0.toNat (by omega) V h)
        rw [Int.toNat_of_nonneg (by omega)] at HI
        unfold StrRes at HI
        have HS : Hid ((⟨#[101, 114, 114, 111, 114, 32]⟩ : ByteArray) ++ bs (decL x0.toNat) = bs ([101, 114, 114, 111, 114, 32] ++ decL x0.toNat)) := by
          show _ = _
          rw [← bs_app]; rfl
        go_enter Tryd.func7, Tryd.ntmps7
        go_wp2_with fail
        refine (HE.out _).mono ?_
        rintro e w1 ⟨rfl, hb1⟩
        have HB1 := Lib.hid (below_then HB.out HB.out.size hb1)
        have HT1 := Lib.hid (HT.out.below hb1)
        have hc := (hb1.cell (p := ⟨w.heap.size, 0, none⟩) (by simp)).trans (by rw [World.cell?_alloc_at _ _ _ _ rfl]; rfl : _ = some (Value.int .i64 x0))
        clear hb1 HE
        go_wp2_with fail
        refine (HI.out _ HT1.out).mono ?_
        rintro e w2 ⟨rfl, hb2⟩
        have HB2 := Lib.hid (below_then HB1.out HB1.out.size hb2)
        have hdz : (bs (decL x0.toNat)).size ≤ 10 := by rw [bs_size]; exact dec_le x0 (by omega) (by omega)
        clear hb2 hc
        go_wp2_with fail
        go_ret2
        rw [HS.out]
        exact HR2.out _ hyes HB2.out
    · have hno : ¬ resOk ⟨x0, x1, x2, x3, x4, x5, x6, x7, x8, x9, x10, x11⟩ ps := fun h => hem (HOK.out.1 h).2
      have hE : E = false := by rw [← HEE.out]; simp [hem]
      subst hE
      go_enter Tryd.func7, Tryd.ntmps7
      go_wp2_with fail
      refine (HE.out _).mono ?_
      rintro e w1 ⟨rfl, hb1⟩
      have HB1 := Lib.hid (below_then HB.out HB.out.size hb1)
      clear hb1 HE
      go_wp2_with fail
      go_ret2
      exact HR1.out _ hno HB1.out
end Go.Proofs.YtcbhfhmpajamoaaDoor
