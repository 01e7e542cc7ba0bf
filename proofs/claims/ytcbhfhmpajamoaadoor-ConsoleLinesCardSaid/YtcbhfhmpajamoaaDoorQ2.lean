/- Walks: deltas: their pieces, their checks, by the program and by the reference. -/
import Derived.Test.YtcbhfhmpajamoaaDoorP1
import Derived.OwnWalk
namespace Go.Proofs.YtcbhfhmpajamoaaDoor
open Go.RowKit

structure PieceV where
  kind : Int
  n : Int
  text : ByteArray
abbrev pieceVal (p : PieceV) : Value := .agg #[.int .u8 p.kind, .int .i64 p.n, .string p.text]
structure PieceAt (w : World) (b o : Nat) (p : PieceV) : Prop where
  c0 : w.cell? ⟨b, o, none⟩ = some (.int .u8 p.kind)
  c1 : w.cell? ⟨b, o + 1, none⟩ = some (.int .i64 p.n)
  c2 : w.cell? ⟨b, o + 2, none⟩ = some (.string p.text)
theorem PieceAt.keep {w w' : World} {b o : Nat} {p : PieceV} (h : PieceAt w b o p) (hk : w'.heap[b]? = w.heap[b]?) : PieceAt w' b o p :=
  ⟨(World.cell?_of_block (a := ⟨b, o, none⟩) hk).trans h.c0, (World.cell?_of_block (a := ⟨b, o + 1, none⟩) hk).trans h.c1, (World.cell?_of_block (a := ⟨b, o + 2, none⟩) hk).trans h.c2⟩
def noPiece : PieceV := ⟨0, 0, ByteArray.empty⟩
def PiecesAt (w : World) (B : Nat) (A : Option Addr) (ps : List PieceV) : Prop :=
  0 < ps.length → ∃ b o, A = some ⟨b, o, none⟩ ∧ b < B ∧ ∀ j, j < ps.length → PieceAt w b (o + j * 3) (ps.getD j noPiece)
theorem PiecesAt.below {w w' : World} {B B' : Nat} {A : Option Addr} {ps : List PieceV} (h : PiecesAt w B A ps) (hb : Below B w w') (hB : B ≤ B') : PiecesAt w' B' A ps := fun hx => by
  obtain ⟨b, o, rfl, hlt, hc⟩ := h hx
  exact ⟨b, o, rfl, by omega, fun j hj => (hc j hj).keep (hb.block b hlt)⟩
def okP (p : PieceV) : Prop := (p.kind = 2 ∧ p.n = 0 ∧ p.text.size ≠ 0) ∨ ((p.kind = 1 ∨ p.kind = 3) ∧ 1 ≤ p.n ∧ p.text.size = 0)
instance (p : PieceV) : Decidable (okP p) := by unfold okP; infer_instance
def okB (p : PieceV) : Bool := decide (okP p)
def inP (p : PieceV) : Int := if p.kind = 2 then 0 else p.n
def outP (p : PieceV) : Int := if p.kind = 1 then p.n else p.text.size
def chkD : List PieceV → Int → Int → Int
  | [], _, _ => 0
  | p :: r, i, o => if okP p then (if 1048576 - i < inP p ∨ 1048576 - o < outP p then 5 else chkD r (i + inP p) (o + outP p)) else 2
theorem okR {p : PieceV} {P : Prop} {b : Bool} (h : okP p ↔ P) (hb : b = true ↔ P) : Ending.returned (.bool b) = .returned (.bool (okB p)) := by
  have : b = okB p := by
    unfold okB
    by_cases hp : okP p
    · simp [hp, hb.2 (h.1 hp)]
    · have : ¬ b = true := fun hn => hp (h.2 (hb.1 hn))
      simp [hp, this]
  rw [this]
theorem empty_iff (s : ByteArray) : s.toList.isEmpty = true ↔ s.size = 0 := by rw [toList_empty]; simp
theorem okP_1 {x1 : Int} {x2 : ByteArray} : okP ⟨1, x1, x2⟩ ↔ 1 ≤ x1 ∧ x2.size = 0 := by unfold okP; simp
theorem okP_3 {x1 : Int} {x2 : ByteArray} : okP ⟨3, x1, x2⟩ ↔ 1 ≤ x1 ∧ x2.size = 0 := by unfold okP; simp
theorem okP_2 {x1 : Int} {x2 : ByteArray} : okP ⟨2, x1, x2⟩ ↔ x1 = 0 ∧ ¬ x2.size = 0 := by unfold okP; simp
theorem okP_o {x0 x1 : Int} {x2 : ByteArray} (h1 : ¬ x0 = 1) (h2 : ¬ x0 = 2) (h3 : ¬ x0 = 3) : okP ⟨x0, x1, x2⟩ ↔ False := by unfold okP; simp [h1, h2, h3]
set_option maxHeartbeats 0 in
theorem validP (p : PieceV) (w : World) : Calls Tryd.prog 63 #[pieceVal p] w (BoolBelow (okB p) w) := by
  obtain ⟨x0, x1, x2⟩ := p
  have HB := Lib.hid (fun ob : Obj => below_box w ob)
  by_cases h1 : x0 = 1
  · subst h1
    go_enter Tryd.func63, Tryd.ntmps63
    go_wp2
    all_goals
      go_ret
      refine ⟨okR okP_1 ?_, HB.out _⟩
      first
        | (simp only [toList_empty, decide_eq_true_eq, Bool.and_eq_true, Bool.false_eq_true, false_iff] at *; omega)
        | (simp [toList_empty] at *; omega)
  by_cases h3 : x0 = 3
  · subst h3
    go_enter Tryd.func63, Tryd.ntmps63
    go_wp2
    all_goals
      go_ret
      refine ⟨okR okP_3 ?_, HB.out _⟩
      first
        | (simp only [toList_empty, decide_eq_true_eq, Bool.and_eq_true, Bool.false_eq_true, false_iff] at *; omega)
        | (simp [toList_empty] at *; omega)
  by_cases h2 : x0 = 2
  · subst h2
    go_enter Tryd.func63, Tryd.ntmps63
    go_wp2
    all_goals
      go_ret
      refine ⟨okR okP_2 ?_, HB.out _⟩
      first
        | (simp only [toList_empty, decide_eq_true_eq, Bool.and_eq_true, Bool.false_eq_true, false_iff] at *; omega)
        | (simp [toList_empty] at *; omega)
  · go_enter Tryd.func63, Tryd.ntmps63
    go_wp2
    go_ret
    refine ⟨okR (okP_o h1 h2 h3) (by simp), HB.out _⟩
set_option maxHeartbeats 0 in
theorem validR (p : PieceV) (w : World) : Calls Tryd.prog 46 #[pieceVal p] w (BoolBelow (okB p) w) := by
  obtain ⟨x0, x1, x2⟩ := p
  have HB := Lib.hid (fun ob : Obj => below_box w ob)
  by_cases h1 : x0 = 1
  · subst h1
    go_enter Tryd.func46, Tryd.ntmps46
    go_wp2
    all_goals
      go_ret
      refine ⟨okR okP_1 ?_, HB.out _⟩
      first
        | (simp only [toList_empty, decide_eq_true_eq, Bool.and_eq_true, Bool.false_eq_true, false_iff] at *; omega)
        | (simp [toList_empty] at *; omega)
  by_cases h3 : x0 = 3
  · subst h3
    go_enter Tryd.func46, Tryd.ntmps46
    go_wp2
    all_goals
      go_ret
      refine ⟨okR okP_3 ?_, HB.out _⟩
      first
        | (simp only [toList_empty, decide_eq_true_eq, Bool.and_eq_true, Bool.false_eq_true, false_iff] at *; omega)
        | (simp [toList_empty] at *; omega)
  by_cases h2 : x0 = 2
  · subst h2
    go_enter Tryd.func46, Tryd.ntmps46
    go_wp2
    all_goals
      go_ret
      refine ⟨okR okP_2 ?_, HB.out _⟩
      first
        | (simp only [toList_empty, decide_eq_true_eq, Bool.and_eq_true, Bool.false_eq_true, false_iff] at *; omega)
        | (simp [toList_empty] at *; omega)
  · go_enter Tryd.func46, Tryd.ntmps46
    go_wp2
    all_goals
      go_ret
      refine ⟨okR (okP_o h1 h2 h3) (by simp), HB.out _⟩
theorem sizesP (p : PieceV) (hp : okP p) (w : World) : Calls Tryd.prog 64 #[pieceVal p] w (fun e w' => e = .returned (.tuple #[.int .i64 (inP p), .int .i64 (outP p)]) ∧ Below w.heap.size w w') := by
  obtain ⟨x0, x1, x2⟩ := p
  have HB := Lib.hid (fun ob : Obj => below_box w ob)
  rcases hp with ⟨h1, h2, h3⟩ | ⟨h1 | h1, h2, h3⟩ <;> (dsimp only at h1 h2 h3; subst h1)
  · go_enter Tryd.func64, Tryd.ntmps64
    go_wp2
    all_goals (try (go_quiet (fail); go_wp2))
    go_ret2
    first | exact ⟨rfl, HB.out _⟩ | exact ⟨rfl, below_drewN (HB.out _) _⟩
  · go_enter Tryd.func64, Tryd.ntmps64
    go_wp2
    all_goals (try (go_quiet (fail); go_wp2))
    go_ret2
    first | exact ⟨rfl, HB.out _⟩ | exact ⟨rfl, below_drewN (HB.out _) _⟩
  · have e : outP ⟨3, x1, x2⟩ = 0 := by show (if (3 : Int) = 1 then x1 else (x2.size : Int)) = 0; rw [if_neg (by decide)]; omega
    rw [e]
    go_enter Tryd.func64, Tryd.ntmps64
    go_wp2
    all_goals (try (go_quiet (fail); go_wp2))
    go_ret2
    first | exact ⟨rfl, HB.out _⟩ | exact ⟨rfl, below_drewN (HB.out _) _⟩
theorem chk_no {p : PieceV} {r : List PieceV} {i o : Int} (h : ¬ okP p) : chkD (p :: r) i o = 2 := by unfold chkD; rw [if_neg h]
theorem chk_long {p : PieceV} {r : List PieceV} {i o : Int} (h : okP p) (h2 : 1048576 - i < inP p ∨ 1048576 - o < outP p) : chkD (p :: r) i o = 5 := by unfold chkD; rw [if_pos h, if_pos h2]
theorem chk_go {p : PieceV} {r : List PieceV} {i o : Int} (h : okP p) (h2 : ¬ 1048576 - i < inP p) (h3 : ¬ 1048576 - o < outP p) : chkD (p :: r) i o = chkD r (i + inP p) (o + outP p) := by
  show (if okP p then _ else _) = _
  rw [if_pos h, if_neg (by omega)]
theorem in_pos {p : PieceV} (h : okP p) : 0 ≤ inP p ∧ 0 ≤ outP p := by
  unfold inP outP
  rcases h with ⟨h1, h2, h3⟩ | ⟨h1 | h1, h2, h3⟩ <;> rw [h1] <;> simp <;> omega
theorem drop_cons {α : Type} (d : α) (l : List α) (k : Nat) (h : k < l.length) : l.drop k = l.getD k d :: l.drop (k + 1) := by
  rw [List.drop_eq_getElem_cons h]
  simp [List.getD_eq_getElem?_getD, h]
abbrev pieceBox (p : PieceV) : Obj := .cells #[.int .u8 p.kind, .int .i64 p.n, .string p.text] 36
theorem pieceAt_new (w : World) (p : PieceV) : PieceAt (w.alloc (pieceBox p)) w.heap.size 0 p :=
  ⟨by rw [World.cell?_alloc_at _ _ _ _ rfl]; rfl, by rw [World.cell?_alloc_at _ _ _ _ rfl]; rfl, by rw [World.cell?_alloc_at _ _ _ _ rfl]; rfl⟩
set_option maxHeartbeats 0 in
set_option maxRecDepth 100000 in
theorem lengthsFn (A : Option Addr) (c : Nat) (ps : List PieceV) (w : World) (hP : PiecesAt w w.heap.size A ps) (hl : ps.length ≤ 4096) :
    Calls Tryd.prog 45 #[.slice A ps.length c] w (fun e w' => ∃ i o : Int, e = .returned (.tuple #[.int .i64 i, .int .i64 o, .int .i64 (chkD ps 0 0)]) ∧ Below w.heap.size w w') := by
  have HP := Lib.hid hP
  have HD := Lib.hid (drop_cons noPiece ps)
  have HB0 := Lib.hid (Below.refl w.heap.size w)
  have HE0 : Hid (chkD ps 0 0 = chkD (ps.drop 0) 0 0) := rfl
  clear hP
  generalize chkD ps 0 0 = R at *
  generalize hn : ps.length = n at *
  have HN := Lib.hid hn
  clear hn
  go_enter Tryd.func45, Tryd.ntmps45
  go_wp2_with fail
  go_loopw [2, 3, 14] (fun iv ov jv wr => ∃ (k : Nat) (i o : Int), k ≤ n ∧ jv = .int .i64 k ∧ iv = .int .i64 i ∧ ov = .int .i64 o ∧ 0 ≤ i ∧ i ≤ 1048576 ∧ 0 ≤ o ∧ o ≤ 1048576 ∧ Hid (R = chkD (ps.drop k) i o) ∧ Hid (Below w.heap.size w wr)) (fun _ _ j _ => n - (intOf j).toNat)
  case atStart => exact ⟨0, 0, 0, Nat.zero_le _, rfl, rfl, rfl, by omega, by omega, by omega, by omega, HE0.out, HB0.out⟩
  case round =>
    obtain ⟨k, i, o, hk, rfl, rfl, rfl, hi0, hi1, ho0, ho1, HE, HW⟩ := hrel
    clear HB0 HE0
    by_cases hlt : k < n
    · have hki : (k : Int) < (n : Int) := by omega
      have hkl : k < ps.length := by rw [HN.out]; exact hlt
      obtain ⟨b, off, rfl, hb, hc⟩ := HP.out (by omega)
      have hpc := (hc k hkl).keep (HW.out.block b hb)
      have HDK := Lib.hid (HD.out k (by first | exact hlt | exact hkl))
      clear hc hkl
      generalize ps.getD k noPiece = p at *
      have HVP := Lib.hid (fun W : World => validP p W)
      have HSP := Lib.hid (fun (h : okP p) (W : World) => sizesP p h W)
      have HEK : Hid (R = chkD (p :: ps.drop (k + 1)) i o) := by show _ = _; rw [← HDK.out]; exact HE.out
      have HWA := Lib.hid (HW.out.alloc HW.out.size (pieceBox p))
      have HPN := Lib.hid (pieceAt_new wr p)
      obtain ⟨m0, m1, m2⟩ := hpc
      by_cases hok : okP p
      · have hob : okB p = true := by simp [okB, hok]
        rw [hob] at HVP
        have HOK := Lib.hid hok
        have hpos := in_pos hok
        have HCL := Lib.hid (fun h => chk_long (r := ps.drop (k + 1)) (i := i) (o := o) hok h)
        have HCG := Lib.hid (fun h h' => chk_go (r := ps.drop (k + 1)) (i := i) (o := o) hok h h')
        have HSO := Lib.hid (HSP.out hok)
        clear hob hok HSP HE
        generalize inP p = pi at *
        generalize outP p = po at *
        obtain ⟨x0, x1, x2⟩ := p
        dsimp only at m0 m1 m2
        go_wp2_with fail
        refine (HVP.out _).mono ?_
        rintro e w1 ⟨rfl, hb1⟩
        have HW1 := Lib.hid (below_then HWA.out HWA.out.size hb1)
        have HPN1 := Lib.hid (HPN.out.keep (hb1.block _ (by simp)))
        obtain ⟨n0, n1, n2⟩ := HPN1.out
        simp only [Nat.zero_add] at n0 n1 n2
        clear hb1 m0 m1 m2 HPN HWA HVP HW
        go_wp2_with fail
        refine (HSO.out _).mono ?_
        rintro e w2 ⟨rfl, hb2⟩
        have HW2 := Lib.hid (below_then HW1.out HW1.out.size hb2)
        clear hb2 n0 n1 n2 HPN1 HW1 HSO
        by_cases hc1 : 1048576 - i < pi
        · have HR : Hid (R = 5) := by show _ = _; rw [HEK.out, HCL.out (.inl (by omega))]
          go_wp2_with fail
          all_goals
            go_ret3
            exact ⟨_, _, by rw [HR.out]; rfl, HW2.out⟩
        · by_cases hc2 : 1048576 - o < po
          · have HR : Hid (R = 5) := by show _ = _; rw [HEK.out, HCL.out (.inr (by omega))]
            go_wp2_with fail
            all_goals
              go_ret3
              exact ⟨_, _, by rw [HR.out]; rfl, HW2.out⟩
          · have HR : Hid (R = chkD (ps.drop (k + 1)) (i + pi) (o + po)) := by show _ = _; rw [HEK.out, HCG.out (by omega) (by omega)]
            go_wp2_with fail
            go_roundw
            case rel => exact ⟨k + 1, i + pi, o + po, by omega, by go_num, rfl, rfl, by omega, by omega, by omega, by omega, HR.out, HW2.out⟩
            case measure => simp [intOf]; omega
      · have hob : okB p = false := by simp [okB, hok]
        rw [hob] at HVP
        have HR : Hid (R = 2) := by show _ = _; rw [HEK.out, chk_no hok]
        clear hob hok HSP HE HEK
        obtain ⟨x0, x1, x2⟩ := p
        dsimp only at m0 m1 m2
        go_wp2_with fail
        refine (HVP.out _).mono ?_
        rintro e w1 ⟨rfl, hb1⟩
        have HW1 := Lib.hid (below_then HWA.out HWA.out.size hb1)
        clear hb1 m0 m1 m2 HPN HWA HVP HW
        go_wp2_with fail
        go_ret3
        exact ⟨_, _, by rw [HR.out]; rfl, HW1.out⟩
    · obtain rfl : k = n := by omega
      have HR : Hid (R = 0) := by show _ = _; rw [HE.out, List.drop_eq_nil_of_le (by rw [HN.out]; omega)]; rfl
      go_wp2_with fail
      go_ret3
      exact ⟨_, _, by rw [HR.out]; rfl, HW.out⟩
theorem checkP (A : Option Addr) (c : Nat) (ps : List PieceV) (w : World) (hP : PiecesAt w w.heap.size A ps) (hl : ps.length ≤ 4096) :
    Calls Tryd.prog 33 #[.slice A ps.length c] w (fun e w' => e = .returned (.int .i64 (chkD ps 0 0)) ∧ Below w.heap.size w w') := by
  have HL := Lib.hid (lengthsFn A c ps w hP hl)
  generalize ps.length = n at *
  generalize chkD ps 0 0 = R at *
  clear hP hl
  go_enter Tryd.func33, Tryd.ntmps33
  go_wp2_with fail
  refine HL.out.mono ?_
  rintro e w1 ⟨i, o, rfl, hb⟩
  have HB := Lib.hid hb
  clear hb
  go_wp2_with fail
  go_ret
  exact ⟨rfl, HB.out⟩
end Go.Proofs.YtcbhfhmpajamoaaDoor
