/- The reference's reader: numbers and texts. -/
import Derived.Test.YtcicememljlafaaE13
import Derived.Test.YtcicememljlafaaD7
namespace Go.Proofs.Ytcicememljlafaa
open Go.RowKit
open Runes (bs bt)

/-! ### What it reads, whatever lies there -/
def rv (l : List Int) (k : Nat) : Int := if k ≤ l.length then val (l.take k) else 0
def rd (l : List Int) (k : Nat) : List Int := if k ≤ l.length then l.drop k else []
def rx (l : List Int) (k : Nat) (b : Bool) : Bool := if k ≤ l.length then b else true
def tN (l : List Int) : Nat := (rv l 2).toNat
def tv (l : List Int) : ByteArray := if tN l ≤ (rd l 2).length then bs ((rd l 2).take (tN l)) else ⟨#[]⟩
def td (l : List Int) : List Int := if tN l ≤ (rd l 2).length then (rd l 2).drop (tN l) else []
def tx (l : List Int) (b : Bool) : Bool := if tN l ≤ (rd l 2).length then rx l 2 b else true
theorem dNum_r {l r : List Int} {k : Nat} {v : Int} (h : dNum l k = some (v, r)) (b : Bool) : rv l k = v ∧ rd l k = r ∧ rx l k b = b := by
  unfold dNum at h
  by_cases hk : k ≤ l.length
  · rw [if_pos hk] at h
    injection h with h
    injection h with h1 h2
    exact ⟨by unfold rv; rw [if_pos hk, h1], by unfold rd; rw [if_pos hk, h2], by unfold rx; rw [if_pos hk]⟩
  · rw [if_neg hk] at h; cases h
theorem dText_r {l r : List Int} {t : ByteArray} (h : dText l = some (t, r)) (b : Bool) : tv l = t ∧ td l = r ∧ tx l b = b := by
  unfold dText at h
  simp only [Option.bind_eq_some_iff, Option.map_eq_some_iff] at h
  obtain ⟨⟨n, l1⟩, h1, ⟨x, l2⟩, h2, h3⟩ := h
  obtain ⟨e1, e2, e3⟩ := dNum_r h1 b
  simp only [Prod.mk.injEq] at h3
  obtain ⟨rfl, rfl⟩ := h3
  unfold dTake at h2
  dsimp only at h2
  by_cases hk : n.toNat ≤ l1.length
  · rw [if_pos hk] at h2
    injection h2 with h2
    injection h2 with h4 h5
    unfold tv td tx tN
    rw [e1, e2, e3, if_pos hk, if_pos hk, if_pos hk, h4, h5]
    exact ⟨rfl, rfl, rfl⟩
  · rw [if_neg hk] at h2; cases h2
theorem rd_BL {l : List Int} (h : BL l) (k : Nat) : BL (rd l k) := by
  unfold rd; split
  · exact h.drop k
  · exact BL.nil_
theorem rd_len (l : List Int) (k : Nat) : (rd l k).length ≤ l.length := by
  unfold rd; split <;> simp
theorem rv_bd {l : List Int} (h : BL l) (k : Nat) : 0 ≤ rv l k ∧ rv l k < 256 ^ k := by
  unfold rv; split
  · rename_i hk
    have := val_bd _ (h.take k)
    rw [show (l.take k).length = k by simp; omega] at this
    exact this
  · exact ⟨Int.le_refl _, Int.pow_pos (by decide)⟩
theorem td_BL {l : List Int} (h : BL l) : BL (td l) := by
  unfold td; split
  · exact (rd_BL h 2).drop _
  · exact BL.nil_
theorem td_len (l : List Int) : (td l).length ≤ l.length := by
  have := rd_len l 2
  unfold td; split
  · simp; omega
  · simp
/-! ### Its box -/
structure RBox (W : World) (rb : Nat) (l : List Int) (b : Bool) : Prop where
  str : StrBox W rb 56 (bs l)
  bad : W.cell? ⟨rb, 1, none⟩ = some (.bool b)
theorem RBox.set {W : World} {rb : Nat} {l : List Int} {b : Bool} (h : RBox W rb l b) (l' : List Int) : RBox (W.setCell ⟨rb, 0, none⟩ (.string (bs l'))) rb l' b ∧ W.grownBy (W.setCell ⟨rb, 0, none⟩ (.string (bs l'))) (some rb) :=
  ⟨⟨(h.str.set _).1, (set_cell_ne _ (by decide)).trans h.bad⟩, (h.str.set _).2⟩
theorem RBox.fail {W : World} {rb : Nat} {l : List Int} {b : Bool} (h : RBox W rb l b) : RBox ((W.setCell ⟨rb, 1, none⟩ (.bool true)).setCell ⟨rb, 0, none⟩ (.string ⟨#[]⟩)) rb [] true ∧ W.grownBy ((W.setCell ⟨rb, 1, none⟩ (.bool true)).setCell ⟨rb, 0, none⟩ (.string ⟨#[]⟩)) (some rb) := by
  have h1 : RBox (W.setCell ⟨rb, 1, none⟩ (.bool true)) rb l true := ⟨⟨(set_cell_ne _ (by decide)).trans h.str.cell, h.str.elem.set _ _ rfl⟩, set_cell_at _ h.bad⟩
  have e : bs [] = (⟨#[]⟩ : ByteArray) := rfl
  have h2 := h1.set []
  rw [e] at h2
  exact ⟨h2.1, grown_trans (set_grown _ _ _ _) h2.2⟩
theorem or_byteU (a b : Int) (ha : 0 ≤ a) (ha' : a ≤ 16777216) (hb : 0 ≤ b) (hb' : b < 256) : bits BinOp.or IntKind.u64 (a * 256) b = a * 256 + b :=
  bits_join .u64 62 (by decide) (fun n h0 h1 => by simp [IntKind.wrap, IntKind.bits, IntKind.signed]; omega) 8 (a * 256) b (by omega) (by omega) (by omega) hb (by omega) (by omega)
theorem i64w (x : Int) (h0 : -9223372036854775808 ≤ x) (h1 : x ≤ 9223372036854775807) : wrap64 x = x := by unfold wrap64; omega
def RNum (rb : Nat) (l : List Int) (b : Bool) (k : Nat) (W : World) (e : Ending) (w' : World) : Prop :=
  e = .returned (.int .u64 (rv l k)) ∧ RBox w' rb (rd l k) (rx l k b) ∧ W.grownBy w' (some rb)
set_option maxHeartbeats 0 in
theorem numR1 (rb : Nat) (l : List Int) (b : Bool) (W : World) (h : RBox W rb l b) (hl : BL l) (hm : l.length ≤ 65536) :
    Calls Try.prog 46 #[.pointer (some ⟨rb, 0, none⟩), .int .i64 1] W (RNum rb l b 1 W) := by
  have hs : (bs l).size = l.length := bs_size l
  have hc := h.str.cell
  have f0 := h.str.elem.frozen 0
  by_cases hk : 1 ≤ l.length
  case neg =>
    have HE : Hid (rv l 1 = 0 ∧ rd l 1 = [] ∧ rx l 1 b = true) := by
      refine ⟨?_, ?_, ?_⟩
      · unfold rv; rw [if_neg hk]
      · unfold rd; rw [if_neg hk]
      · unfold rx; rw [if_neg hk]
    have f1 := h.str.elem.frozen 1
    have hb := h.bad
    have HF := Lib.hid h.fail
    have hlt : ((bs l).size : Int) < 1 := by omega
    clear h
    go_enter Try.func46, Try.ntmps46
    go_wp2
    go_ret
    refine ⟨?_, ?_, ?_⟩
    · rw [HE.out.1]; rfl
    · rw [HE.out.2.1, HE.out.2.2]; exact HF.out.1
    · exact HF.out.2
  case pos =>
    have HE : Hid (rv l 1 = val (l.take 1) ∧ rd l 1 = l.drop 1 ∧ rx l 1 b = b) := by
      refine ⟨?_, ?_, ?_⟩
      · unfold rv; rw [if_pos hk]
      · unfold rd; rw [if_pos hk]
      · unfold rx; rw [if_pos hk]
    have HF := Lib.hid (h.set (l.drop 1))
    have hlt : ¬ ((bs l).size : Int) < 1 := by omega
    have HBL := Lib.hid hl
    have HR := Lib.hid h
    have HD : Hid ((bs l).extract 1 l.length = bs (l.drop 1)) := by show _ = _; rw [← bs_size l]; exact bs_drop l 1
    have hle : (1 : Int) ≤ ((bs l).size : Int) := by omega
    clear h hl
    go_enter Try.func46, Try.ntmps46
    go_wp2_with fail
    go_loopw [5, 6] (fun nv i wr => ∃ (m : Nat) (v : Int), m ≤ 1 ∧ i = .int .i64 m ∧ nv = .int .u64 v ∧ Hid (v = val (l.take m)) ∧ Hid (wr = W)) (fun _ i _ => 1 - (intOf i).toNat)
    case atStart => exact ⟨0, 0, by omega, rfl, rfl, by show (0 : Int) = _; simp [val], rfl⟩
    case round =>
      obtain ⟨m, v, hm', rfl, rfl, HV, HW⟩ := hrel
      have hwr := HW.out
      subst hwr
      by_cases hltm : m < 1
      · have hmi : (m : Int) < 1 := by omega
        have hms : (m : Int) < ((bs l).size : Int) := by omega
        have hmt : m < l.length := by omega
        have HVS := Lib.hid (val_take_succ l m hmt)
        have hv0 : 0 ≤ v := by rw [HV.out]; exact (val_bd _ (HBL.out.take m)).1
        have hv1 : v ≤ 16777215 := by rw [HV.out]; exact val_le l HBL.out m (by omega)
        have hmb : m < (bs l).size := by omega
        have hbt : (((bs l)[m]'hmb).toNat : Int) = l.getD m 0 := by
          have e1 := Runes.bt_lt hmb
          have e2 := bt_bs HBL.out m hmt
          rw [← e1, e2]; simp [List.getD_eq_getElem?_getD, hmt]
        have hbb := UInt8.toNat_lt ((bs l)[m]'hmb)
        have hor := or_byteU v (((bs l)[m]'hmb).toNat : Int) hv0 (by omega) (by omega) (by omega)
        have hu1 := u64w (v * 256) (by omega) (by omega)
        have hu2 := u64w (((bs l)[m]'hmb).toNat : Int) (by omega) (by omega)
        have HBT := Lib.hid hbt
        clear hmt hbt
        go_wp2_with fail
        go_roundw
        case rel => exact ⟨m + 1, _, by omega, by go_num, rfl, by show _ = _; rw [HVS.out, ← HV.out, ← HBT.out], Lib.hid trivial⟩
        case measure => simp [intOf]; omega
      · obtain rfl : m = 1 := by omega
        have h2 := HD.out
        have hv := HV.out
        go_wp2_with fail
        go_ret
        refine ⟨?_, ?_, ?_⟩
        · rw [HE.out.1, ← hv]; rfl
        · rw [HE.out.2.1, HE.out.2.2]; first | exact HF.out.1 | simpa using HF.out.1
        · first | exact HF.out.2 | simpa using HF.out.2
set_option maxHeartbeats 0 in
theorem numR2 (rb : Nat) (l : List Int) (b : Bool) (W : World) (h : RBox W rb l b) (hl : BL l) (hm : l.length ≤ 65536) :
    Calls Try.prog 46 #[.pointer (some ⟨rb, 0, none⟩), .int .i64 2] W (RNum rb l b 2 W) := by
  have hs : (bs l).size = l.length := bs_size l
  have hc := h.str.cell
  have f0 := h.str.elem.frozen 0
  by_cases hk : 2 ≤ l.length
  case neg =>
    have HE : Hid (rv l 2 = 0 ∧ rd l 2 = [] ∧ rx l 2 b = true) := by
      refine ⟨?_, ?_, ?_⟩
      · unfold rv; rw [if_neg hk]
      · unfold rd; rw [if_neg hk]
      · unfold rx; rw [if_neg hk]
    have f1 := h.str.elem.frozen 1
    have hb := h.bad
    have HF := Lib.hid h.fail
    have hlt : ((bs l).size : Int) < 2 := by omega
    clear h
    go_enter Try.func46, Try.ntmps46
    go_wp2
    go_ret
    refine ⟨?_, ?_, ?_⟩
    · rw [HE.out.1]; rfl
    · rw [HE.out.2.1, HE.out.2.2]; exact HF.out.1
    · exact HF.out.2
  case pos =>
    have HE : Hid (rv l 2 = val (l.take 2) ∧ rd l 2 = l.drop 2 ∧ rx l 2 b = b) := by
      refine ⟨?_, ?_, ?_⟩
      · unfold rv; rw [if_pos hk]
      · unfold rd; rw [if_pos hk]
      · unfold rx; rw [if_pos hk]
    have HF := Lib.hid (h.set (l.drop 2))
    have hlt : ¬ ((bs l).size : Int) < 2 := by omega
    have HBL := Lib.hid hl
    have HR := Lib.hid h
    have HD : Hid ((bs l).extract 2 l.length = bs (l.drop 2)) := by show _ = _; rw [← bs_size l]; exact bs_drop l 2
    have hle : (2 : Int) ≤ ((bs l).size : Int) := by omega
    clear h hl
    go_enter Try.func46, Try.ntmps46
    go_wp2_with fail
    go_loopw [5, 6] (fun nv i wr => ∃ (m : Nat) (v : Int), m ≤ 2 ∧ i = .int .i64 m ∧ nv = .int .u64 v ∧ Hid (v = val (l.take m)) ∧ Hid (wr = W)) (fun _ i _ => 2 - (intOf i).toNat)
    case atStart => exact ⟨0, 0, by omega, rfl, rfl, by show (0 : Int) = _; simp [val], rfl⟩
    case round =>
      obtain ⟨m, v, hm', rfl, rfl, HV, HW⟩ := hrel
      have hwr := HW.out
      subst hwr
      by_cases hltm : m < 2
      · have hmi : (m : Int) < 2 := by omega
        have hms : (m : Int) < ((bs l).size : Int) := by omega
        have hmt : m < l.length := by omega
        have HVS := Lib.hid (val_take_succ l m hmt)
        have hv0 : 0 ≤ v := by rw [HV.out]; exact (val_bd _ (HBL.out.take m)).1
        have hv1 : v ≤ 16777215 := by rw [HV.out]; exact val_le l HBL.out m (by omega)
        have hmb : m < (bs l).size := by omega
        have hbt : (((bs l)[m]'hmb).toNat : Int) = l.getD m 0 := by
          have e1 := Runes.bt_lt hmb
          have e2 := bt_bs HBL.out m hmt
          rw [← e1, e2]; simp [List.getD_eq_getElem?_getD, hmt]
        have hbb := UInt8.toNat_lt ((bs l)[m]'hmb)
        have hor := or_byteU v (((bs l)[m]'hmb).toNat : Int) hv0 (by omega) (by omega) (by omega)
        have hu1 := u64w (v * 256) (by omega) (by omega)
        have hu2 := u64w (((bs l)[m]'hmb).toNat : Int) (by omega) (by omega)
        have HBT := Lib.hid hbt
        clear hmt hbt
        go_wp2_with fail
        go_roundw
        case rel => exact ⟨m + 1, _, by omega, by go_num, rfl, by show _ = _; rw [HVS.out, ← HV.out, ← HBT.out], Lib.hid trivial⟩
        case measure => simp [intOf]; omega
      · obtain rfl : m = 2 := by omega
        have h2 := HD.out
        have hv := HV.out
        go_wp2_with fail
        go_ret
        refine ⟨?_, ?_, ?_⟩
        · rw [HE.out.1, ← hv]; rfl
        · rw [HE.out.2.1, HE.out.2.2]; first | exact HF.out.1 | simpa using HF.out.1
        · first | exact HF.out.2 | simpa using HF.out.2
set_option maxHeartbeats 0 in
theorem numR4 (rb : Nat) (l : List Int) (b : Bool) (W : World) (h : RBox W rb l b) (hl : BL l) (hm : l.length ≤ 65536) :
    Calls Try.prog 46 #[.pointer (some ⟨rb, 0, none⟩), .int .i64 4] W (RNum rb l b 4 W) := by
  have hs : (bs l).size = l.length := bs_size l
  have hc := h.str.cell
  have f0 := h.str.elem.frozen 0
  by_cases hk : 4 ≤ l.length
  case neg =>
    have HE : Hid (rv l 4 = 0 ∧ rd l 4 = [] ∧ rx l 4 b = true) := by
      refine ⟨?_, ?_, ?_⟩
      · unfold rv; rw [if_neg hk]
      · unfold rd; rw [if_neg hk]
      · unfold rx; rw [if_neg hk]
    have f1 := h.str.elem.frozen 1
    have hb := h.bad
    have HF := Lib.hid h.fail
    have hlt : ((bs l).size : Int) < 4 := by omega
    clear h
    go_enter Try.func46, Try.ntmps46
    go_wp2
    go_ret
    refine ⟨?_, ?_, ?_⟩
    · rw [HE.out.1]; rfl
    · rw [HE.out.2.1, HE.out.2.2]; exact HF.out.1
    · exact HF.out.2
  case pos =>
    have HE : Hid (rv l 4 = val (l.take 4) ∧ rd l 4 = l.drop 4 ∧ rx l 4 b = b) := by
      refine ⟨?_, ?_, ?_⟩
      · unfold rv; rw [if_pos hk]
      · unfold rd; rw [if_pos hk]
      · unfold rx; rw [if_pos hk]
    have HF := Lib.hid (h.set (l.drop 4))
    have hlt : ¬ ((bs l).size : Int) < 4 := by omega
    have HBL := Lib.hid hl
    have HR := Lib.hid h
    have HD : Hid ((bs l).extract 4 l.length = bs (l.drop 4)) := by show _ = _; rw [← bs_size l]; exact bs_drop l 4
    have hle : (4 : Int) ≤ ((bs l).size : Int) := by omega
    clear h hl
    go_enter Try.func46, Try.ntmps46
    go_wp2_with fail
    go_loopw [5, 6] (fun nv i wr => ∃ (m : Nat) (v : Int), m ≤ 4 ∧ i = .int .i64 m ∧ nv = .int .u64 v ∧ Hid (v = val (l.take m)) ∧ Hid (wr = W)) (fun _ i _ => 4 - (intOf i).toNat)
    case atStart => exact ⟨0, 0, by omega, rfl, rfl, by show (0 : Int) = _; simp [val], rfl⟩
    case round =>
      obtain ⟨m, v, hm', rfl, rfl, HV, HW⟩ := hrel
      have hwr := HW.out
      subst hwr
      by_cases hltm : m < 4
      · have hmi : (m : Int) < 4 := by omega
        have hms : (m : Int) < ((bs l).size : Int) := by omega
        have hmt : m < l.length := by omega
        have HVS := Lib.hid (val_take_succ l m hmt)
        have hv0 : 0 ≤ v := by rw [HV.out]; exact (val_bd _ (HBL.out.take m)).1
        have hv1 : v ≤ 16777215 := by rw [HV.out]; exact val_le l HBL.out m (by omega)
        have hmb : m < (bs l).size := by omega
        have hbt : (((bs l)[m]'hmb).toNat : Int) = l.getD m 0 := by
          have e1 := Runes.bt_lt hmb
          have e2 := bt_bs HBL.out m hmt
          rw [← e1, e2]; simp [List.getD_eq_getElem?_getD, hmt]
        have hbb := UInt8.toNat_lt ((bs l)[m]'hmb)
        have hor := or_byteU v (((bs l)[m]'hmb).toNat : Int) hv0 (by omega) (by omega) (by omega)
        have hu1 := u64w (v * 256) (by omega) (by omega)
        have hu2 := u64w (((bs l)[m]'hmb).toNat : Int) (by omega) (by omega)
        have HBT := Lib.hid hbt
        clear hmt hbt
        go_wp2_with fail
        go_roundw
        case rel => exact ⟨m + 1, _, by omega, by go_num, rfl, by show _ = _; rw [HVS.out, ← HV.out, ← HBT.out], Lib.hid trivial⟩
        case measure => simp [intOf]; omega
      · obtain rfl : m = 4 := by omega
        have h2 := HD.out
        have hv := HV.out
        go_wp2_with fail
        go_ret
        refine ⟨?_, ?_, ?_⟩
        · rw [HE.out.1, ← hv]; rfl
        · rw [HE.out.2.1, HE.out.2.2]; first | exact HF.out.1 | simpa using HF.out.1
        · first | exact HF.out.2 | simpa using HF.out.2
def RTxt (rb : Nat) (l : List Int) (b : Bool) (W : World) (e : Ending) (w' : World) : Prop :=
  e = .returned (.string (tv l)) ∧ RBox w' rb (td l) (tx l b) ∧ W.grownBy w' (some rb)
set_option maxHeartbeats 0 in
theorem textR (rb : Nat) (l : List Int) (b : Bool) (W : World) (h : RBox W rb l b) (hl : BL l) (hm : l.length ≤ 65536) :
    Calls Try.prog 47 #[.pointer (some ⟨rb, 0, none⟩)] W (RTxt rb l b W) := by
  have HN := Lib.hid (numR2 rb l b W h hl hm)
  have hbd := rv_bd hl 2
  rw [pow2] at hbd
  have hlen := rd_len l 2
  have HTV : Hid (tN l ≤ (rd l 2).length → tv l = bs ((rd l 2).take (tN l)) ∧ td l = (rd l 2).drop (tN l) ∧ tx l b = rx l 2 b) := fun h => ⟨by unfold tv; rw [if_pos h], by unfold td; rw [if_pos h], by unfold tx; rw [if_pos h]⟩
  have HTN : Hid (¬ tN l ≤ (rd l 2).length → tv l = ⟨#[]⟩ ∧ td l = [] ∧ tx l b = true) := fun h => ⟨by unfold tv; rw [if_neg h], by unfold td; rw [if_neg h], by unfold tx; rw [if_neg h]⟩
  have hn : (rv l 2) = (tN l : Int) := by unfold tN; omega
  clear h hl
  unfold RNum at HN
  rw [hn] at HN hbd
  generalize tN l = n at *
  generalize rd l 2 = l1 at *
  generalize rx l 2 b = b1 at *
  clear hn
  have hw := i64w n (by omega) (by omega)
  go_enter Try.func47, Try.ntmps47
  go_wp2_with fail
  refine HN.out.mono ?_
  rintro e w1 ⟨rfl, hr, hg⟩
  have hs : (bs l1).size = l1.length := bs_size l1
  have hc := hr.str.cell
  have f0 := hr.str.elem.frozen 0
  by_cases hk : n ≤ l1.length
  case neg =>
    have f1 := hr.str.elem.frozen 1
    have hb := hr.bad
    have HF := Lib.hid hr.fail
    have HG := Lib.hid hg
    have hlt : ((bs l1).size : Int) < (n : Int) := by omega
    have HE := Lib.hid (HTN.out hk)
    clear hr hg hk
    go_wp2
    go_ret
    refine ⟨?_, ?_, ?_⟩
    · rw [HE.out.1]; rfl
    · rw [HE.out.2.1, HE.out.2.2]; exact HF.out.1
    · exact grown_trans HG.out HF.out.2
  case pos =>
    have HF := Lib.hid (hr.set (l1.drop n))
    have HG := Lib.hid hg
    have HE := Lib.hid (HTV.out hk)
    have hlt : ¬ ((bs l1).size : Int) < (n : Int) := by omega
    have hle : (n : Int) ≤ ((bs l1).size : Int) := by omega
    have h1 := bs_take l1 n
    have h2 : (bs l1).extract n l1.length = bs (l1.drop n) := by rw [← bs_size l1]; exact bs_drop l1 n
    clear hr hg
    go_wp2
    go_ret
    refine ⟨?_, ?_, ?_⟩
    · rw [HE.out.1]; rfl
    · rw [HE.out.2.1, HE.out.2.2]; exact HF.out.1
    · exact grown_trans HG.out HF.out.2
end Go.Proofs.Ytcicememljlafaa
