/- Merged texts: D1, D2, D3. -/
import Derived.Test.YtbjadgggpkbjmaaGreatGh
import Derived.Laws.BitsLemmas
namespace Go.Proofs.YtbjadgggpkbjmaaGreat
open Go.RowKit
open Runes (bs bt)

set_option maxHeartbeats 0 in
theorem take_no (n rb : Nat) (l : List Int) (W : World) (h : StrBox W rb 73 (bs l)) (hn : l.length < n) (hm : n ≤ 65536) :
    Calls Tryz.prog 33 #[.pointer (some ⟨rb, 0, none⟩), .int .i64 n] W (fun e w' => e = .panicked [{ v := .iface 31 (.int .i64 4), recovered := false }] ∧ w' = W) := by
  have hc := h.cell
  have hs : (bs l).size = l.length := bs_size l
  have hlt : ((bs l).size : Int) < (n : Int) := by omega
  clear h
  go_enter Tryz.func33, Tryz.ntmps33
  go_wp2
  exact ⟨rfl, rfl, rfl⟩
set_option maxHeartbeats 0 in
theorem take_yes (n rb : Nat) (l : List Int) (W : World) (h : StrBox W rb 73 (bs l)) (hn : n ≤ l.length) (hm : l.length ≤ 65536) :
    Calls Tryz.prog 33 #[.pointer (some ⟨rb, 0, none⟩), .int .i64 n] W (NextRes rb 73 (bs (l.drop n)) (.string (bs (l.take n))) W) := by
  have hc := h.cell
  have hf := h.elem.frozen 0
  have hs : (bs l).size = l.length := bs_size l
  have HS := Lib.hid (h.set (bs (l.drop n)))
  have h1 := bs_take l n
  have h2 : (bs l).extract n l.length = bs (l.drop n) := by rw [← hs]; exact bs_drop l n
  have hlt : ¬ ((bs l).size : Int) < (n : Int) := by omega
  have hle : (n : Int) ≤ ((bs l).size : Int) := by omega
  clear h
  go_enter Tryz.func33, Tryz.ntmps33
  go_wp2
  go_ret
  exact ⟨rfl, HS.out.1, HS.out.2⟩
theorem or_byte (a b : Int) (ha : 0 ≤ a) (ha' : a ≤ 16777216) (hb : 0 ≤ b) (hb' : b < 256) : bits BinOp.or IntKind.i64 (a * 256) b = a * 256 + b :=
  bits_join .i64 62 (by decide) (fun n h0 h1 => by rw [IntKind.wrap_i64]; omega) 8 (a * 256) b (by omega) (by omega) (by omega) hb (by omega) (by omega)
theorem val_take_succ (l : List Int) (k : Nat) (hk : k < l.length) : val (l.take (k + 1)) = val (l.take k) * 256 + l.getD k 0 := by
  rw [take_snoc 0 l k hk, val_snoc]
theorem val_le (l : List Int) (h : BL l) (k : Nat) (hk : k ≤ 3) : val (l.take k) ≤ 16777215 := by
  have h1 := (val_bd (l.take k) (h.take k)).2
  have h2 : (l.take k).length ≤ 3 := by simp; omega
  have h3 : (l.take k).length = 0 ∨ (l.take k).length = 1 ∨ (l.take k).length = 2 ∨ (l.take k).length = 3 := by omega
  have e0 : (256 : Int) ^ 0 = 1 := by decide
  have e3 : (256 : Int) ^ 3 = 16777216 := by decide
  rcases h3 with h3 | h3 | h3 | h3 <;> rw [h3] at h1 <;> first | (rw [e0] at h1; omega) | (rw [pow1] at h1; omega) | (rw [pow2] at h1; omega) | (rw [e3] at h1; omega)
abbrev ErrForm : Ending := .panicked [{ v := .iface 31 (.int .i64 4), recovered := false }]
set_option maxHeartbeats 0 in
theorem num1_no (rb : Nat) (l : List Int) (W : World) (h : StrBox W rb 73 (bs l)) (hn : l.length < 1) :
    Calls Tryz.prog 32 #[.pointer (some ⟨rb, 0, none⟩), .int .i64 1] W (fun e w' => e = ErrForm ∧ w' = W) := by
  have HT := Lib.hid (take_no 1 rb l W h hn (by omega))
  clear h
  go_enter Tryz.func32, Tryz.ntmps32
  go_wp2_with fail
  refine HT.out.mono ?_
  rintro e w' ⟨rfl, rfl⟩
  go_wp2_with fail
  exact ⟨rfl, rfl, rfl⟩
set_option maxHeartbeats 0 in
theorem num1_yes (rb : Nat) (l : List Int) (W : World) (h : StrBox W rb 73 (bs l)) (hl : BL l) (hn : 1 ≤ l.length) (hm : l.length ≤ 65536) :
    Calls Tryz.prog 32 #[.pointer (some ⟨rb, 0, none⟩), .int .i64 1] W (NextRes rb 73 (bs (l.drop 1)) (.int .i64 (val (l.take 1))) W) := by
  have HT := Lib.hid (take_yes 1 rb l W h hn hm)
  have hlen : (l.take 1).length = 1 := by simp; omega
  have hbl := hl.take 1
  clear h hl
  generalize l.take 1 = t at *
  have hsz : (bs t).size = 1 := by rw [bs_size, hlen]
  have HBL := Lib.hid hbl
  have HLE := Lib.hid hlen
  clear hlen hbl
  go_enter Tryz.func32, Tryz.ntmps32
  go_wp2_with fail
  refine HT.out.mono ?_
  rintro e w' ⟨rfl, h1, h2⟩
  have H1 := Lib.hid h1
  have H2 := Lib.hid h2
  clear h1 h2 HT
  go_wp2_with fail
  go_loopw [5, 13] (fun nv i wr => ∃ (m : Nat) (v : Int), m ≤ 1 ∧ i = .int .i64 m ∧ nv = .int .i64 v ∧ Hid (v = val (t.take m)) ∧ Hid (wr = w')) (fun _ i _ => 1 - (intOf i).toNat)
  case atStart => exact ⟨0, 0, by omega, rfl, rfl, by show (0 : Int) = _; simp [val], rfl⟩
  case round =>
    obtain ⟨m, v, hm', rfl, rfl, HV, HW⟩ := hrel
    have hwr := HW.out
    subst hwr
    by_cases hlt : m < 1
    · have hmi : (m : Int) < 1 := by omega
      have hms : (m : Int) < ((bs t).size : Int) := by omega
      have hmt : m < t.length := by rw [HLE.out]; exact hlt
      have HVS := Lib.hid (val_take_succ t m hmt)
      have hv0 : 0 ≤ v := by rw [HV.out]; exact (val_bd _ (HBL.out.take m)).1
      have hv1 : v ≤ 16777215 := by rw [HV.out]; exact val_le t HBL.out m (by omega)
      have hmb : m < (bs t).size := by omega
      have hbt : (((bs t)[m]'hmb).toNat : Int) = t.getD m 0 := by
        have e1 := Runes.bt_lt hmb
        have e2 := bt_bs HBL.out m hmt
        rw [← e1, e2]; simp [List.getD_eq_getElem?_getD, hmt]
      have hbb := UInt8.toNat_lt ((bs t)[m]'hmb)
      have hor := or_byte v (((bs t)[m]'hmb).toNat : Int) hv0 (by omega) (by omega) (by omega)
      have HBT := Lib.hid hbt
      clear hmt hbt
      go_wp2_with fail
      go_roundw
      case rel => exact ⟨m + 1, _, by omega, by go_num, rfl, by show _ = _; rw [HVS.out, ← HV.out, ← HBT.out], Lib.hid trivial⟩
      case measure => simp [intOf]; omega
    · obtain rfl : m = 1 := by omega
      go_wp2_with fail
      go_ret
      have hv := HV.out
      rw [List.take_of_length_le (by rw [HLE.out]; omega)] at hv
      exact ⟨ret_int hv, by first | exact H1.out | simpa using H1.out, H2.out⟩
set_option maxHeartbeats 0 in
theorem num2_no (rb : Nat) (l : List Int) (W : World) (h : StrBox W rb 73 (bs l)) (hn : l.length < 2) :
    Calls Tryz.prog 32 #[.pointer (some ⟨rb, 0, none⟩), .int .i64 2] W (fun e w' => e = ErrForm ∧ w' = W) := by
  have HT := Lib.hid (take_no 2 rb l W h hn (by omega))
  clear h
  go_enter Tryz.func32, Tryz.ntmps32
  go_wp2_with fail
  refine HT.out.mono ?_
  rintro e w' ⟨rfl, rfl⟩
  go_wp2_with fail
  exact ⟨rfl, rfl, rfl⟩
set_option maxHeartbeats 0 in
theorem num2_yes (rb : Nat) (l : List Int) (W : World) (h : StrBox W rb 73 (bs l)) (hl : BL l) (hn : 2 ≤ l.length) (hm : l.length ≤ 65536) :
    Calls Tryz.prog 32 #[.pointer (some ⟨rb, 0, none⟩), .int .i64 2] W (NextRes rb 73 (bs (l.drop 2)) (.int .i64 (val (l.take 2))) W) := by
  have HT := Lib.hid (take_yes 2 rb l W h hn hm)
  have hlen : (l.take 2).length = 2 := by simp; omega
  have hbl := hl.take 2
  clear h hl
  generalize l.take 2 = t at *
  have hsz : (bs t).size = 2 := by rw [bs_size, hlen]
  have HBL := Lib.hid hbl
  have HLE := Lib.hid hlen
  clear hlen hbl
  go_enter Tryz.func32, Tryz.ntmps32
  go_wp2_with fail
  refine HT.out.mono ?_
  rintro e w' ⟨rfl, h1, h2⟩
  have H1 := Lib.hid h1
  have H2 := Lib.hid h2
  clear h1 h2 HT
  go_wp2_with fail
  go_loopw [5, 13] (fun nv i wr => ∃ (m : Nat) (v : Int), m ≤ 2 ∧ i = .int .i64 m ∧ nv = .int .i64 v ∧ Hid (v = val (t.take m)) ∧ Hid (wr = w')) (fun _ i _ => 2 - (intOf i).toNat)
  case atStart => exact ⟨0, 0, by omega, rfl, rfl, by show (0 : Int) = _; simp [val], rfl⟩
  case round =>
    obtain ⟨m, v, hm', rfl, rfl, HV, HW⟩ := hrel
    have hwr := HW.out
    subst hwr
    by_cases hlt : m < 2
    · have hmi : (m : Int) < 2 := by omega
      have hms : (m : Int) < ((bs t).size : Int) := by omega
      have hmt : m < t.length := by rw [HLE.out]; exact hlt
      have HVS := Lib.hid (val_take_succ t m hmt)
      have hv0 : 0 ≤ v := by rw [HV.out]; exact (val_bd _ (HBL.out.take m)).1
      have hv1 : v ≤ 16777215 := by rw [HV.out]; exact val_le t HBL.out m (by omega)
      have hmb : m < (bs t).size := by omega
      have hbt : (((bs t)[m]'hmb).toNat : Int) = t.getD m 0 := by
        have e1 := Runes.bt_lt hmb
        have e2 := bt_bs HBL.out m hmt
        rw [← e1, e2]; simp [List.getD_eq_getElem?_getD, hmt]
      have hbb := UInt8.toNat_lt ((bs t)[m]'hmb)
      have hor := or_byte v (((bs t)[m]'hmb).toNat : Int) hv0 (by omega) (by omega) (by omega)
      have HBT := Lib.hid hbt
      clear hmt hbt
      go_wp2_with fail
      go_roundw
      case rel => exact ⟨m + 1, _, by omega, by go_num, rfl, by show _ = _; rw [HVS.out, ← HV.out, ← HBT.out], Lib.hid trivial⟩
      case measure => simp [intOf]; omega
    · obtain rfl : m = 2 := by omega
      go_wp2_with fail
      go_ret
      have hv := HV.out
      rw [List.take_of_length_le (by rw [HLE.out]; omega)] at hv
      exact ⟨ret_int hv, by first | exact H1.out | simpa using H1.out, H2.out⟩
set_option maxHeartbeats 0 in
theorem num4_no (rb : Nat) (l : List Int) (W : World) (h : StrBox W rb 73 (bs l)) (hn : l.length < 4) :
    Calls Tryz.prog 32 #[.pointer (some ⟨rb, 0, none⟩), .int .i64 4] W (fun e w' => e = ErrForm ∧ w' = W) := by
  have HT := Lib.hid (take_no 4 rb l W h hn (by omega))
  clear h
  go_enter Tryz.func32, Tryz.ntmps32
  go_wp2_with fail
  refine HT.out.mono ?_
  rintro e w' ⟨rfl, rfl⟩
  go_wp2_with fail
  exact ⟨rfl, rfl, rfl⟩
set_option maxHeartbeats 0 in
theorem num4_yes (rb : Nat) (l : List Int) (W : World) (h : StrBox W rb 73 (bs l)) (hl : BL l) (hn : 4 ≤ l.length) (hm : l.length ≤ 65536) :
    Calls Tryz.prog 32 #[.pointer (some ⟨rb, 0, none⟩), .int .i64 4] W (NextRes rb 73 (bs (l.drop 4)) (.int .i64 (val (l.take 4))) W) := by
  have HT := Lib.hid (take_yes 4 rb l W h hn hm)
  have hlen : (l.take 4).length = 4 := by simp; omega
  have hbl := hl.take 4
  clear h hl
  generalize l.take 4 = t at *
  have hsz : (bs t).size = 4 := by rw [bs_size, hlen]
  have HBL := Lib.hid hbl
  have HLE := Lib.hid hlen
  clear hlen hbl
  go_enter Tryz.func32, Tryz.ntmps32
  go_wp2_with fail
  refine HT.out.mono ?_
  rintro e w' ⟨rfl, h1, h2⟩
  have H1 := Lib.hid h1
  have H2 := Lib.hid h2
  clear h1 h2 HT
  go_wp2_with fail
  go_loopw [5, 13] (fun nv i wr => ∃ (m : Nat) (v : Int), m ≤ 4 ∧ i = .int .i64 m ∧ nv = .int .i64 v ∧ Hid (v = val (t.take m)) ∧ Hid (wr = w')) (fun _ i _ => 4 - (intOf i).toNat)
  case atStart => exact ⟨0, 0, by omega, rfl, rfl, by show (0 : Int) = _; simp [val], rfl⟩
  case round =>
    obtain ⟨m, v, hm', rfl, rfl, HV, HW⟩ := hrel
    have hwr := HW.out
    subst hwr
    by_cases hlt : m < 4
    · have hmi : (m : Int) < 4 := by omega
      have hms : (m : Int) < ((bs t).size : Int) := by omega
      have hmt : m < t.length := by rw [HLE.out]; exact hlt
      have HVS := Lib.hid (val_take_succ t m hmt)
      have hv0 : 0 ≤ v := by rw [HV.out]; exact (val_bd _ (HBL.out.take m)).1
      have hv1 : v ≤ 16777215 := by rw [HV.out]; exact val_le t HBL.out m (by omega)
      have hmb : m < (bs t).size := by omega
      have hbt : (((bs t)[m]'hmb).toNat : Int) = t.getD m 0 := by
        have e1 := Runes.bt_lt hmb
        have e2 := bt_bs HBL.out m hmt
        rw [← e1, e2]; simp [List.getD_eq_getElem?_getD, hmt]
      have hbb := UInt8.toNat_lt ((bs t)[m]'hmb)
      have hor := or_byte v (((bs t)[m]'hmb).toNat : Int) hv0 (by omega) (by omega) (by omega)
      have HBT := Lib.hid hbt
      clear hmt hbt
      go_wp2_with fail
      go_roundw
      case rel => exact ⟨m + 1, _, by omega, by go_num, rfl, by show _ = _; rw [HVS.out, ← HV.out, ← HBT.out], Lib.hid trivial⟩
      case measure => simp [intOf]; omega
    · obtain rfl : m = 4 := by omega
      go_wp2_with fail
      go_ret
      have hv := HV.out
      rw [List.take_of_length_le (by rw [HLE.out]; omega)] at hv
      exact ⟨ret_int hv, by first | exact H1.out | simpa using H1.out, H2.out⟩
end Go.Proofs.YtbjadgggpkbjmaaGreat
namespace Go.Proofs.YtbjadgggpkbjmaaGreat
open Go.RowKit
open Runes (bs bt)

theorem dFs_app (fs gs : List Int) (x : OpV × List Int) : dFs (fs ++ gs) x = (dFs fs x).bind (dFs gs) := by
  induction fs generalizing x with
  | nil => rfl
  | cons f fs ih =>
    show (dF f x).bind (dFs (fs ++ gs)) = ((dF f x).bind (dFs fs)).bind (dFs gs)
    cases h : dF f x with
    | none => rfl
    | some y => simp only [Option.bind_some]; exact ih y
theorem dFs_take (fs : List Int) (q : Nat) (hq : q < fs.length) (x : OpV × List Int) : dFs (fs.take (q + 1)) x = (dFs (fs.take q) x).bind (dF (fs.getD q 0)) := by
  rw [take_snoc 0 fs q hq, dFs_app]
  cases dFs (fs.take q) x with
  | none => rfl
  | some y =>
    simp only [Option.bind_some]
    show (dF (fs.getD q 0) y).bind (dFs []) = dF (fs.getD q 0) y
    cases dF (fs.getD q 0) y <;> rfl
theorem dFs_none (fs : List Int) (q : Nat) (x : OpV × List Int) (h : dFs (fs.take q) x = none) : dFs fs x = none := by
  have := dFs_app (fs.take q) (fs.drop q) x
  rw [List.take_append_drop, h] at this
  exact this
abbrev opZero : Obj := .cells #[.int .u8 0, .int .i64 0, .int .i64 0, .int .i64 0, .int .u32 0, .int .u8 0, .string ⟨#[]⟩] 40
/-- Reading an operation: the input's box rb, the operation's box ob. -/
structure DSt (W0 W : World) (rb ob : Nat) (o : OpV) (l : List Int) (A : Option Addr) (k : Int) : Prop where
  str : StrBox W rb 73 (bs l)
  op : OpAt W ob 0 o
  ope : ElemT W ob 40
  hob : W0.heap.size < ob
  u8 : U8s W A (fieldsOf k)
  res : W.heap[W0.heap.size]? = some opZero
  gr : W0.grownBy W (some rb)
  hrb : rb < W0.heap.size
theorem DSt.next {W0 W W' : World} {rb ob : Nat} {o : OpV} {l l' : List Int} {A : Option Addr} {k : Int} (h : DSt W0 W rb ob o l A k) (hs : StrBox W' rb 73 (bs l')) (hg : W.grownBy W' (some rb)) : DSt W0 W' rb ob o l' A k := by
  have h1 := h.hob
  have h2 := h.hrb
  have hk : ∀ q, q < W.heap.size → q ≠ rb → W'.heap[q]? = W.heap[q]? := fun q hq hn => hg.block q hq (fun e => hn (by injection e))
  exact ⟨hs, h.op.keep (hk ob h.ope.lt (by omega)), h.ope.keep (hk ob h.ope.lt (by omega)), h.hob, u8s_keep h.u8 fun q hq => hk q hq.lt (hq.ne h.str.elem (by decide)),
    (hk _ (heap_lt h.res) (by omega)).trans h.res, grown_trans h.gr hg, h.hrb⟩
theorem DSt.set {W0 W : World} {rb ob : Nat} {o o' : OpV} {l : List Int} {A : Option Addr} {k : Int} (h : DSt W0 W rb ob o l A k) (i : Nat) (v : Value) (ho : OpAt (W.setCell ⟨ob, i, none⟩ v) ob 0 o') : DSt W0 (W.setCell ⟨ob, i, none⟩ v) rb ob o' l A k := by
  have h1 := h.hob
  have h2 := h.hrb
  have hk : ∀ q, q ≠ ob → (W.setCell ⟨ob, i, none⟩ v).heap[q]? = W.heap[q]? := fun q hq => Below.heap_setCell _ _ _ _ (by show q ≠ ob; exact hq)
  refine ⟨⟨(World.cell?_of_block (a := ⟨rb, 0, none⟩) (hk rb (by omega))).trans h.str.cell, h.str.elem.keep (hk rb (by omega))⟩, ho, h.ope.set _ _ rfl, h.hob, u8s_keep h.u8 fun q hq => hk q (hq.ne h.ope (by decide)), (hk _ (by omega)).trans h.res, ?_, h.hrb⟩
  exact ⟨h.gr.os, h.gr.tape, h.gr.output, by simpa using h.gr.size, fun q hq hr => (hk q (by omega)).trans (h.gr.block q hq hr)⟩
theorem DSt.cells {W0 W : World} {rb ob : Nat} {l : List Int} {A : Option Addr} {k : Int} {x0 x1 x2 x3 x4 x5 : Int} {x6 : ByteArray} (h : DSt W0 W rb ob ⟨x0, x1, x2, x3, x4, x5, x6⟩ l A k) :
    W.cell? ⟨ob, 0, none⟩ = some (.int .u8 x0) ∧ W.cell? ⟨ob, 1, none⟩ = some (.int .i64 x1) ∧ W.cell? ⟨ob, 2, none⟩ = some (.int .i64 x2) ∧ W.cell? ⟨ob, 3, none⟩ = some (.int .i64 x3) ∧
      W.cell? ⟨ob, 4, none⟩ = some (.int .u32 x4) ∧ W.cell? ⟨ob, 5, none⟩ = some (.int .u8 x5) ∧ W.cell? ⟨ob, 6, none⟩ = some (.string x6) := by
  obtain ⟨m0, m1, m2, m3, m4, m5, m6⟩ := h.op
  simp only [Nat.zero_add] at m1 m2 m3 m4 m5 m6
  exact ⟨m0, m1, m2, m3, m4, m5, m6⟩
theorem OpAt.put1 {W : World} {ob : Nat} {o : OpV} (h : OpAt W ob 0 o) (x : Int) : OpAt (W.setCell ⟨ob, 1, none⟩ (.int .i64 x)) ob 0 { o with slot := x } := by
  refine ⟨?_, ?_, ?_, ?_, ?_, ?_, ?_⟩
  · exact (set_cell_ne _ (by decide)).trans h.c0
  · rw [Nat.zero_add]; exact set_cell_at _ (by have := h.c1; rwa [Nat.zero_add] at this)
  · rw [Nat.zero_add]; exact (set_cell_ne _ (by decide)).trans (by have := h.c2; rwa [Nat.zero_add] at this)
  · rw [Nat.zero_add]; exact (set_cell_ne _ (by decide)).trans (by have := h.c3; rwa [Nat.zero_add] at this)
  · rw [Nat.zero_add]; exact (set_cell_ne _ (by decide)).trans (by have := h.c4; rwa [Nat.zero_add] at this)
  · rw [Nat.zero_add]; exact (set_cell_ne _ (by decide)).trans (by have := h.c5; rwa [Nat.zero_add] at this)
  · rw [Nat.zero_add]; exact (set_cell_ne _ (by decide)).trans (by have := h.c6; rwa [Nat.zero_add] at this)
theorem OpAt.put2 {W : World} {ob : Nat} {o : OpV} (h : OpAt W ob 0 o) (x : Int) : OpAt (W.setCell ⟨ob, 2, none⟩ (.int .i64 x)) ob 0 { o with pos := x } := by
  refine ⟨?_, ?_, ?_, ?_, ?_, ?_, ?_⟩
  · exact (set_cell_ne _ (by decide)).trans h.c0
  · rw [Nat.zero_add]; exact (set_cell_ne _ (by decide)).trans (by have := h.c1; rwa [Nat.zero_add] at this)
  · rw [Nat.zero_add]; exact set_cell_at _ (by have := h.c2; rwa [Nat.zero_add] at this)
  · rw [Nat.zero_add]; exact (set_cell_ne _ (by decide)).trans (by have := h.c3; rwa [Nat.zero_add] at this)
  · rw [Nat.zero_add]; exact (set_cell_ne _ (by decide)).trans (by have := h.c4; rwa [Nat.zero_add] at this)
  · rw [Nat.zero_add]; exact (set_cell_ne _ (by decide)).trans (by have := h.c5; rwa [Nat.zero_add] at this)
  · rw [Nat.zero_add]; exact (set_cell_ne _ (by decide)).trans (by have := h.c6; rwa [Nat.zero_add] at this)
theorem OpAt.put3 {W : World} {ob : Nat} {o : OpV} (h : OpAt W ob 0 o) (x : Int) : OpAt (W.setCell ⟨ob, 3, none⟩ (.int .i64 x)) ob 0 { o with num := x } := by
  refine ⟨?_, ?_, ?_, ?_, ?_, ?_, ?_⟩
  · exact (set_cell_ne _ (by decide)).trans h.c0
  · rw [Nat.zero_add]; exact (set_cell_ne _ (by decide)).trans (by have := h.c1; rwa [Nat.zero_add] at this)
  · rw [Nat.zero_add]; exact (set_cell_ne _ (by decide)).trans (by have := h.c2; rwa [Nat.zero_add] at this)
  · rw [Nat.zero_add]; exact set_cell_at _ (by have := h.c3; rwa [Nat.zero_add] at this)
  · rw [Nat.zero_add]; exact (set_cell_ne _ (by decide)).trans (by have := h.c4; rwa [Nat.zero_add] at this)
  · rw [Nat.zero_add]; exact (set_cell_ne _ (by decide)).trans (by have := h.c5; rwa [Nat.zero_add] at this)
  · rw [Nat.zero_add]; exact (set_cell_ne _ (by decide)).trans (by have := h.c6; rwa [Nat.zero_add] at this)
theorem OpAt.put4 {W : World} {ob : Nat} {o : OpV} (h : OpAt W ob 0 o) (x : Int) : OpAt (W.setCell ⟨ob, 4, none⟩ (.int .u32 x)) ob 0 { o with id := x } := by
  refine ⟨?_, ?_, ?_, ?_, ?_, ?_, ?_⟩
  · exact (set_cell_ne _ (by decide)).trans h.c0
  · rw [Nat.zero_add]; exact (set_cell_ne _ (by decide)).trans (by have := h.c1; rwa [Nat.zero_add] at this)
  · rw [Nat.zero_add]; exact (set_cell_ne _ (by decide)).trans (by have := h.c2; rwa [Nat.zero_add] at this)
  · rw [Nat.zero_add]; exact (set_cell_ne _ (by decide)).trans (by have := h.c3; rwa [Nat.zero_add] at this)
  · rw [Nat.zero_add]; exact set_cell_at _ (by have := h.c4; rwa [Nat.zero_add] at this)
  · rw [Nat.zero_add]; exact (set_cell_ne _ (by decide)).trans (by have := h.c5; rwa [Nat.zero_add] at this)
  · rw [Nat.zero_add]; exact (set_cell_ne _ (by decide)).trans (by have := h.c6; rwa [Nat.zero_add] at this)
theorem OpAt.put5 {W : World} {ob : Nat} {o : OpV} (h : OpAt W ob 0 o) (x : Int) : OpAt (W.setCell ⟨ob, 5, none⟩ (.int .u8 x)) ob 0 { o with grav := x } := by
  refine ⟨?_, ?_, ?_, ?_, ?_, ?_, ?_⟩
  · exact (set_cell_ne _ (by decide)).trans h.c0
  · rw [Nat.zero_add]; exact (set_cell_ne _ (by decide)).trans (by have := h.c1; rwa [Nat.zero_add] at this)
  · rw [Nat.zero_add]; exact (set_cell_ne _ (by decide)).trans (by have := h.c2; rwa [Nat.zero_add] at this)
  · rw [Nat.zero_add]; exact (set_cell_ne _ (by decide)).trans (by have := h.c3; rwa [Nat.zero_add] at this)
  · rw [Nat.zero_add]; exact (set_cell_ne _ (by decide)).trans (by have := h.c4; rwa [Nat.zero_add] at this)
  · rw [Nat.zero_add]; exact set_cell_at _ (by have := h.c5; rwa [Nat.zero_add] at this)
  · rw [Nat.zero_add]; exact (set_cell_ne _ (by decide)).trans (by have := h.c6; rwa [Nat.zero_add] at this)
theorem OpAt.put6 {W : World} {ob : Nat} {o : OpV} (h : OpAt W ob 0 o) (x : ByteArray) : OpAt (W.setCell ⟨ob, 6, none⟩ (.string x)) ob 0 { o with text := x } := by
  refine ⟨?_, ?_, ?_, ?_, ?_, ?_, ?_⟩
  · exact (set_cell_ne _ (by decide)).trans h.c0
  · rw [Nat.zero_add]; exact (set_cell_ne _ (by decide)).trans (by have := h.c1; rwa [Nat.zero_add] at this)
  · rw [Nat.zero_add]; exact (set_cell_ne _ (by decide)).trans (by have := h.c2; rwa [Nat.zero_add] at this)
  · rw [Nat.zero_add]; exact (set_cell_ne _ (by decide)).trans (by have := h.c3; rwa [Nat.zero_add] at this)
  · rw [Nat.zero_add]; exact (set_cell_ne _ (by decide)).trans (by have := h.c4; rwa [Nat.zero_add] at this)
  · rw [Nat.zero_add]; exact (set_cell_ne _ (by decide)).trans (by have := h.c5; rwa [Nat.zero_add] at this)
  · rw [Nat.zero_add]; exact set_cell_at _ (by have := h.c6; rwa [Nat.zero_add] at this)
theorem u32w (x : Int) (h0 : 0 ≤ x) (h1 : x < 4294967296) : IntKind.u32.wrap x = x := by
  simp [IntKind.wrap, IntKind.bits, IntKind.signed]; omega
theorem u8w (x : Int) (h0 : 0 ≤ x) (h1 : x < 256) : IntKind.u8.wrap x = x := by rw [wrap_u8]; omega
/-- What reading an operation comes to. -/
def OpDec (rb : Nat) (l : List Int) (W : World) (e : Ending) (W' : World) : Prop :=
  match dOp l with
  | some (o, r) => e = .returned (opVal o) ∧ StrBox W' rb 73 (bs r) ∧ W.grownBy W' (some rb)
  | none => e = ErrForm ∧ W.grownBy W' (some rb)
theorem opDec_no {rb : Nat} {l : List Int} {W W' : World} (h : dOp l = none) (hg : W.grownBy W' (some rb)) : OpDec rb l W ErrForm W' := by unfold OpDec; rw [h]; exact ⟨rfl, hg⟩
theorem opDec_yes {rb : Nat} {l r : List Int} {o : OpV} {W W' : World} (h : dOp l = some (o, r)) (hs : StrBox W' rb 73 (bs r)) (hg : W.grownBy W' (some rb)) : OpDec rb l W (.returned (opVal o)) W' := by unfold OpDec; rw [h]; exact ⟨rfl, hs, hg⟩
theorem dst_start {W w1 : World} {rb : Nat} {l : List Int} (x : Int) (h : StrBox W rb 73 (bs l)) (l1 : List Int) (h1 : StrBox w1 rb 73 (bs l1)) (hg : (W.alloc opZero).grownBy w1 (some rb)) :
    StrBox (w1.alloc (opObj x)) rb 73 (bs l1) ∧ OpAt (w1.alloc (opObj x)) w1.heap.size 0 (op0 x) ∧ ElemT (w1.alloc (opObj x)) w1.heap.size 40 ∧ W.heap.size < w1.heap.size ∧ (w1.alloc (opObj x)).heap[W.heap.size]? = some opZero ∧ W.grownBy (w1.alloc (opObj x)) (some rb) ∧ rb < W.heap.size := by
  have hs := hg.size
  simp only [World.size_alloc] at hs
  have hlt := h.elem.lt
  have hz : w1.heap[W.heap.size]? = some opZero := (hg.block _ (by simp) (by intro e; injection e; omega)).trans (heap_alloc_new _ _)
  refine ⟨⟨(World.cell?_alloc_past _ _ _ h1.elem.lt).trans h1.cell, h1.elem.keep (Below.heap_alloc _ _ _ h1.elem.lt)⟩, ?_, ⟨_, heap_alloc_new _ _⟩, by omega, (Below.heap_alloc _ _ _ (by omega)).trans hz, ?_, hlt⟩
  · exact opAt_new w1 x 0 0 0 0 0 ⟨#[]⟩
  · exact ⟨hg.os, hg.tape, hg.output, by simp; omega, fun q hq hr => (Below.heap_alloc _ _ _ (by omega)).trans ((hg.block q (by simp; omega) hr).trans (Below.heap_alloc _ _ _ hq))⟩
set_option maxHeartbeats 0 in
set_option maxRecDepth 100000 in
theorem readOpFn (rb : Nat) (l : List Int) (W : World) (h : StrBox W rb 73 (bs l)) (hl : BL l) (hm : l.length ≤ 65536) :
    Calls Tryz.prog 34 #[.pointer (some ⟨rb, 0, none⟩)] W (OpDec rb l W) := by
  have hlt := h.elem.lt
  have HA : Hid (StrBox (W.alloc opZero) rb 73 (bs l)) := ⟨(World.cell?_alloc_past _ _ _ hlt).trans h.cell, h.elem.keep (Below.heap_alloc _ _ _ hlt)⟩
  have HG0 : Hid (W.grownBy (W.alloc opZero) (some rb)) := grown_alloc (World.grownBy.refl _ _) _
  have HST := Lib.hid (fun w1 x l1 h1 hg => dst_start (w1 := w1) x h l1 h1 hg)
  by_cases h1 : 1 ≤ l.length
  case neg =>
    have HD : Hid (dOp l = none) := by show _ = _; unfold dOp dNum; rw [if_neg h1]; rfl
    have HN := Lib.hid (num1_no rb l _ HA.out (by omega))
    go_enter Tryz.func34, Tryz.ntmps34
    go_wp2_with fail
    refine HN.out.mono ?_
    rintro e w1 ⟨rfl, rfl⟩
    go_wp2_with fail
    refine ⟨rfl, ?_⟩
    exact opDec_no HD.out HG0.out
  have HN := Lib.hid (num1_yes rb l _ HA.out hl h1 hm)
  have HD : Hid (dOp l = if 1 ≤ val (l.take 1) ∧ val (l.take 1) ≤ 16 then dFs (fieldsOf (val (l.take 1))) (op0 (val (l.take 1)), l.drop 1) else none) := by
    show _ = _; unfold dOp dNum; rw [if_pos h1]; rfl
  have hb := val_bd _ (hl.take 1)
  have hb2 : (l.take 1).length = 1 := by simp; omega
  rw [hb2, pow1] at hb
  have HBL := Lib.hid (hl.drop 1)
  have HLN : Hid ((l.drop 1).length ≤ 65535) := by show _ ≤ _; simp; omega
  generalize val (l.take 1) = x at *
  generalize l.drop 1 = l1 at *
  have hx0 := hb.1
  have hx1 := hb.2
  have hu8 := u8w x hx0 hx1
  clear hb hb2 h1 h HA hl hm
  have HDD := HD
  go_enter Tryz.func34, Tryz.ntmps34
  go_wp2_with fail
  refine HN.out.mono ?_
  rintro e w1 ⟨rfl, hs1, hg1⟩
  have HS := Lib.hid (HST.out w1 x l1 hs1 hg1)
  have c0 : (w1.alloc (opObj x)).cell? ⟨w1.heap.size, 0, none⟩ = some (.int .u8 x) := HS.out.2.1.c0
  clear hs1 hg1 HN HST
  by_cases hk : 1 ≤ x ∧ x ≤ 16
  case neg =>
    have HR : Hid (dOp l = none) := by show _ = _; rw [HD.out, if_neg hk]
    rcases (show x < 1 ∨ 16 < x by omega) with hk' | hk'
    all_goals go_wp2_with fail
    all_goals exact ⟨rfl, opDec_no HR.out HS.out.2.2.2.2.2.1⟩
  have hk1 := hk.1
  have hk2 := hk.2
  have HR : Hid (dOp l = dFs (fieldsOf x) (op0 x, l1)) := by show _ = _; rw [HD.out, if_pos hk]
  have HF := Lib.hid (fun W : World => fieldsFn x W hk1 hk2)
  clear hk HD
  go_wp2_with fail
  refine (HF.out _).mono ?_
  rintro e w2 ⟨A, c, rfl, hu, hg⟩
  have HQ0 : Hid (DSt W w2 rb w1.heap.size (op0 x) l1 A x) := by
    obtain ⟨a1, a2, a3, a4, a5, a6, a7⟩ := HS.out
    exact ⟨⟨(World.cell?_of_block (a := ⟨rb, 0, none⟩) (hg.block rb a1.elem.lt (by simp))).trans a1.cell, a1.elem.keep (hg.block rb a1.elem.lt (by simp))⟩, a2.grown hg, a3.keep (hg.block _ a3.lt (by simp)), a4, hu, (hg.block _ (heap_lt a5) (by simp)).trans a5,
      ⟨hg.os.trans a6.os, hg.tape.trans a6.tape, hg.output.trans a6.output, Nat.le_trans a6.size hg.size, fun q hq hr => (hg.block q (Nat.lt_of_lt_of_le hq a6.size) (by simp)).trans (a6.block q hq hr)⟩, a7⟩
  clear hu hg c0 HS HF
  generalize w1.heap.size = ob at *
  have HFB := Lib.hid (fields_bd2 x)
  have HFT := Lib.hid (fun q hq => dFs_take (fieldsOf x) q hq (op0 x, l1))
  have HFN0 := Lib.hid (fun q => dFs_none (fieldsOf x) q (op0 x, l1))
  have hf3 := (fieldsOf_bd x).1
  generalize hfl : (fieldsOf x).length = nf at *
  have HFN := Lib.hid hfl
  clear hfl
  go_wp2_with fail
  go_loopw [23] (fun i wr => ∃ (q : Nat) (o : OpV) (r : List Int), q ≤ nf ∧ i = .int .i64 q ∧ Hid (dFs ((fieldsOf x).take q) (op0 x, l1) = some (o, r)) ∧ Hid (DSt W wr rb ob o r A x) ∧ Hid (BL r ∧ r.length ≤ 65536)) (fun i _ => nf - (intOf i).toNat)
  case atStart => exact ⟨0, _, _, Nat.zero_le _, rfl, rfl, HQ0.out, HBL.out, Nat.le_trans HLN.out (by omega)⟩
  case round =>
    obtain ⟨q, o, r, hq, rfl, HDF, HQ, HB⟩ := hrel
    clear HQ0
    by_cases hqn : q < nf
    · obtain ⟨bu, ou, rfl, _, hcu⟩ := HQ.out.u8 (by rw [HFN.out]; omega)
      have hfq := hcu q (by rw [HFN.out]; exact hqn)
      clear hcu
      have HTQ := Lib.hid (HFT.out q (by first | exact hqn | (rw [HFN.out]; exact hqn)))
      have HTN := Lib.hid (HFN0.out (q + 1))
      have hin := HFB.out q (by first | exact hqn | (rw [HFN.out]; exact hqn))
      generalize (fieldsOf x).getD q 0 = f at *
      have hqi : (q : Int) < (nf : Int) := by omega
      obtain ⟨x0, x1, x2, x3, x4, x5, x6⟩ := o
      obtain ⟨m0, m1, m2, m3, m4, m5, m6⟩ := HQ.out.cells
      have fr0 := HQ.out.ope.frozen 1
      have fr1 := HQ.out.ope.frozen 2
      have fr2 := HQ.out.ope.frozen 3
      have fr3 := HQ.out.ope.frozen 4
      have fr4 := HQ.out.ope.frozen 5
      have fr5 := HQ.out.ope.frozen 6
      rcases hin with rfl | rfl | rfl | rfl | rfl | rfl
      · by_cases hr : 1 ≤ r.length
        · have HN := Lib.hid (num1_yes rb r wr HQ.out.str HB.out.1 hr HB.out.2)
          have hvb := val_bd _ (HB.out.1.take 1)
          have hvl : (r.take 1).length = 1 := by simp; omega
          rw [hvl, pow1] at hvb
          have HE : Hid (dFs ((fieldsOf x).take (q + 1)) (op0 x, l1) = some ({ (⟨x0, x1, x2, x3, x4, x5, x6⟩ : OpV) with slot := val (r.take 1) }, r.drop 1)) := by
            show _ = _; rw [HTQ.out, HDF.out]; simp [dF, dNum, hr]
          have HB2 : Hid (BL (r.drop 1) ∧ (r.drop 1).length ≤ 65536) := ⟨HB.out.1.drop 1, by have := HB.out.2; simp; omega⟩
          generalize val (r.take 1) = y at *
          generalize r.drop 1 = r2 at *
          have hy0 := hvb.1
          have hy1 := hvb.2
          go_wp2_with fail
          refine HN.out.mono ?_
          rintro e w3 ⟨rfl, hs3, hg3⟩
          have HQ2 := Lib.hid (HQ.out.next hs3 hg3)
          clear hs3 hg3 HN HQ m0 m1 m2 m3 m4 m5 m6 hfq fr0 fr1 fr2 fr3 fr4 fr5
          obtain ⟨m0, m1, m2, m3, m4, m5, m6⟩ := HQ2.out.cells
          have fr := HQ2.out.ope.frozen 1
          have HQ3 := Lib.hid (HQ2.out.set 1 _ (HQ2.out.op.put1 y))
          go_wp2_with fail
          go_roundw
          case rel => exact ⟨q + 1, _, _, by omega, by go_num, HE.out, HQ3.out, HB2.out⟩
          case measure => simp [intOf]; omega
        · have HN := Lib.hid (num1_no rb r wr HQ.out.str (by omega))
          have HE : Hid (dOp l = none) := by
            show _ = _; rw [HR.out]; refine HTN.out ?_; rw [HTQ.out, HDF.out]; simp [dF, dNum, hr]
          go_wp2_with fail
          refine HN.out.mono ?_
          rintro e w3 ⟨rfl, rfl⟩
          go_wp2_with fail
          refine ⟨rfl, ?_⟩
          exact opDec_no HE.out HQ.out.gr
      · by_cases hr : 2 ≤ r.length
        · have HN := Lib.hid (num2_yes rb r wr HQ.out.str HB.out.1 hr HB.out.2)
          have hvb := val_bd _ (HB.out.1.take 2)
          have hvl : (r.take 2).length = 2 := by simp; omega
          rw [hvl, pow2] at hvb
          have HE : Hid (dFs ((fieldsOf x).take (q + 1)) (op0 x, l1) = some ({ (⟨x0, x1, x2, x3, x4, x5, x6⟩ : OpV) with pos := val (r.take 2) }, r.drop 2)) := by
            show _ = _; rw [HTQ.out, HDF.out]; simp [dF, dNum, hr]
          have HB2 : Hid (BL (r.drop 2) ∧ (r.drop 2).length ≤ 65536) := ⟨HB.out.1.drop 2, by have := HB.out.2; simp; omega⟩
          generalize val (r.take 2) = y at *
          generalize r.drop 2 = r2 at *
          have hy0 := hvb.1
          have hy1 := hvb.2
          go_wp2_with fail
          refine HN.out.mono ?_
          rintro e w3 ⟨rfl, hs3, hg3⟩
          have HQ2 := Lib.hid (HQ.out.next hs3 hg3)
          clear hs3 hg3 HN HQ m0 m1 m2 m3 m4 m5 m6 hfq fr0 fr1 fr2 fr3 fr4 fr5
          obtain ⟨m0, m1, m2, m3, m4, m5, m6⟩ := HQ2.out.cells
          have fr := HQ2.out.ope.frozen 2
          have HQ3 := Lib.hid (HQ2.out.set 2 _ (HQ2.out.op.put2 y))
          go_wp2_with fail
          go_roundw
          case rel => exact ⟨q + 1, _, _, by omega, by go_num, HE.out, HQ3.out, HB2.out⟩
          case measure => simp [intOf]; omega
        · have HN := Lib.hid (num2_no rb r wr HQ.out.str (by omega))
          have HE : Hid (dOp l = none) := by
            show _ = _; rw [HR.out]; refine HTN.out ?_; rw [HTQ.out, HDF.out]; simp [dF, dNum, hr]
          go_wp2_with fail
          refine HN.out.mono ?_
          rintro e w3 ⟨rfl, rfl⟩
          go_wp2_with fail
          refine ⟨rfl, ?_⟩
          exact opDec_no HE.out HQ.out.gr
      · by_cases hr : 2 ≤ r.length
        · have HN := Lib.hid (num2_yes rb r wr HQ.out.str HB.out.1 hr HB.out.2)
          have hvb := val_bd _ (HB.out.1.take 2)
          have hvl : (r.take 2).length = 2 := by simp; omega
          rw [hvl, pow2] at hvb
          have HE : Hid (dFs ((fieldsOf x).take (q + 1)) (op0 x, l1) = some ({ (⟨x0, x1, x2, x3, x4, x5, x6⟩ : OpV) with num := val (r.take 2) }, r.drop 2)) := by
            show _ = _; rw [HTQ.out, HDF.out]; simp [dF, dNum, hr]
          have HB2 : Hid (BL (r.drop 2) ∧ (r.drop 2).length ≤ 65536) := ⟨HB.out.1.drop 2, by have := HB.out.2; simp; omega⟩
          generalize val (r.take 2) = y at *
          generalize r.drop 2 = r2 at *
          have hy0 := hvb.1
          have hy1 := hvb.2
          go_wp2_with fail
          refine HN.out.mono ?_
          rintro e w3 ⟨rfl, hs3, hg3⟩
          have HQ2 := Lib.hid (HQ.out.next hs3 hg3)
          clear hs3 hg3 HN HQ m0 m1 m2 m3 m4 m5 m6 hfq fr0 fr1 fr2 fr3 fr4 fr5
          obtain ⟨m0, m1, m2, m3, m4, m5, m6⟩ := HQ2.out.cells
          have fr := HQ2.out.ope.frozen 3
          have HQ3 := Lib.hid (HQ2.out.set 3 _ (HQ2.out.op.put3 y))
          go_wp2_with fail
          go_roundw
          case rel => exact ⟨q + 1, _, _, by omega, by go_num, HE.out, HQ3.out, HB2.out⟩
          case measure => simp [intOf]; omega
        · have HN := Lib.hid (num2_no rb r wr HQ.out.str (by omega))
          have HE : Hid (dOp l = none) := by
            show _ = _; rw [HR.out]; refine HTN.out ?_; rw [HTQ.out, HDF.out]; simp [dF, dNum, hr]
          go_wp2_with fail
          refine HN.out.mono ?_
          rintro e w3 ⟨rfl, rfl⟩
          go_wp2_with fail
          refine ⟨rfl, ?_⟩
          exact opDec_no HE.out HQ.out.gr
      · by_cases hr : 4 ≤ r.length
        · have HN := Lib.hid (num4_yes rb r wr HQ.out.str HB.out.1 hr HB.out.2)
          have hvb := val_bd _ (HB.out.1.take 4)
          have hvl : (r.take 4).length = 4 := by simp; omega
          rw [hvl, pow4] at hvb
          have HE : Hid (dFs ((fieldsOf x).take (q + 1)) (op0 x, l1) = some ({ (⟨x0, x1, x2, x3, x4, x5, x6⟩ : OpV) with id := val (r.take 4) }, r.drop 4)) := by
            show _ = _; rw [HTQ.out, HDF.out]; simp [dF, dNum, hr]
          have HB2 : Hid (BL (r.drop 4) ∧ (r.drop 4).length ≤ 65536) := ⟨HB.out.1.drop 4, by have := HB.out.2; simp; omega⟩
          generalize val (r.take 4) = y at *
          generalize r.drop 4 = r2 at *
          have hy0 := hvb.1
          have hy1 := hvb.2
          have hwf := u32w y hy0 hy1
          go_wp2_with fail
          refine HN.out.mono ?_
          rintro e w3 ⟨rfl, hs3, hg3⟩
          have HQ2 := Lib.hid (HQ.out.next hs3 hg3)
          clear hs3 hg3 HN HQ m0 m1 m2 m3 m4 m5 m6 hfq fr0 fr1 fr2 fr3 fr4 fr5
          obtain ⟨m0, m1, m2, m3, m4, m5, m6⟩ := HQ2.out.cells
          have fr := HQ2.out.ope.frozen 4
          have HQ3 := Lib.hid (HQ2.out.set 4 _ (HQ2.out.op.put4 y))
          go_wp2_with fail
          go_roundw
          case rel => exact ⟨q + 1, _, _, by omega, by go_num, HE.out, HQ3.out, HB2.out⟩
          case measure => simp [intOf]; omega
        · have HN := Lib.hid (num4_no rb r wr HQ.out.str (by omega))
          have HE : Hid (dOp l = none) := by
            show _ = _; rw [HR.out]; refine HTN.out ?_; rw [HTQ.out, HDF.out]; simp [dF, dNum, hr]
          go_wp2_with fail
          refine HN.out.mono ?_
          rintro e w3 ⟨rfl, rfl⟩
          go_wp2_with fail
          refine ⟨rfl, ?_⟩
          exact opDec_no HE.out HQ.out.gr
      · by_cases hr : 1 ≤ r.length
        · have HN := Lib.hid (num1_yes rb r wr HQ.out.str HB.out.1 hr HB.out.2)
          have hvb := val_bd _ (HB.out.1.take 1)
          have hvl : (r.take 1).length = 1 := by simp; omega
          rw [hvl, pow1] at hvb
          have HE : Hid (dFs ((fieldsOf x).take (q + 1)) (op0 x, l1) = some ({ (⟨x0, x1, x2, x3, x4, x5, x6⟩ : OpV) with grav := val (r.take 1) }, r.drop 1)) := by
            show _ = _; rw [HTQ.out, HDF.out]; simp [dF, dNum, hr]
          have HB2 : Hid (BL (r.drop 1) ∧ (r.drop 1).length ≤ 65536) := ⟨HB.out.1.drop 1, by have := HB.out.2; simp; omega⟩
          generalize val (r.take 1) = y at *
          generalize r.drop 1 = r2 at *
          have hy0 := hvb.1
          have hy1 := hvb.2
          have hwf := u8w y hy0 hy1
          go_wp2_with fail
          refine HN.out.mono ?_
          rintro e w3 ⟨rfl, hs3, hg3⟩
          have HQ2 := Lib.hid (HQ.out.next hs3 hg3)
          clear hs3 hg3 HN HQ m0 m1 m2 m3 m4 m5 m6 hfq fr0 fr1 fr2 fr3 fr4 fr5
          obtain ⟨m0, m1, m2, m3, m4, m5, m6⟩ := HQ2.out.cells
          have fr := HQ2.out.ope.frozen 5
          have HQ3 := Lib.hid (HQ2.out.set 5 _ (HQ2.out.op.put5 y))
          go_wp2_with fail
          go_roundw
          case rel => exact ⟨q + 1, _, _, by omega, by go_num, HE.out, HQ3.out, HB2.out⟩
          case measure => simp [intOf]; omega
        · have HN := Lib.hid (num1_no rb r wr HQ.out.str (by omega))
          have HE : Hid (dOp l = none) := by
            show _ = _; rw [HR.out]; refine HTN.out ?_; rw [HTQ.out, HDF.out]; simp [dF, dNum, hr]
          go_wp2_with fail
          refine HN.out.mono ?_
          rintro e w3 ⟨rfl, rfl⟩
          go_wp2_with fail
          refine ⟨rfl, ?_⟩
          exact opDec_no HE.out HQ.out.gr
      · have fr := fr5
        clear fr0 fr1 fr2 fr3 fr4 fr5
        by_cases hr : 2 ≤ r.length
        case neg =>
          have HN := Lib.hid (num2_no rb r wr HQ.out.str (by omega))
          have HE : Hid (dOp l = none) := by
            show _ = _; rw [HR.out]; refine HTN.out ?_; rw [HTQ.out, HDF.out]; simp [dF, dText, dNum, hr]
          go_wp2_with fail
          refine HN.out.mono ?_
          rintro e w3 ⟨rfl, rfl⟩
          go_wp2_with fail
          refine ⟨rfl, ?_⟩
          exact opDec_no HE.out HQ.out.gr
        have HN := Lib.hid (num2_yes rb r wr HQ.out.str HB.out.1 hr HB.out.2)
        have hvb := val_bd _ (HB.out.1.take 2)
        have hvl : (r.take 2).length = 2 := by simp; omega
        rw [hvl, pow2] at hvb
        have HTX : Hid (dFs ((fieldsOf x).take (q + 1)) (op0 x, l1) = (dTake (r.drop 2) (val (r.take 2)).toNat).map fun z => ({ (⟨x0, x1, x2, x3, x4, x5, x6⟩ : OpV) with text := bs z.1 }, z.2)) := by
          show _ = _; rw [HTQ.out, HDF.out]; simp [dF, dText, dNum, hr]
          cases dTake (r.drop 2) (val (r.take 2)).toNat <;> rfl
        have HB2 : Hid (BL (r.drop 2) ∧ (r.drop 2).length ≤ 65536) := ⟨HB.out.1.drop 2, by have := HB.out.2; simp; omega⟩
        obtain ⟨y, hy⟩ : ∃ y : Nat, val (r.take 2) = y := ⟨(val (r.take 2)).toNat, by omega⟩
        rw [hy] at HN HTX hvb
        clear hy
        generalize r.drop 2 = r2 at *
        have hy1 : y ≤ 65536 := by omega
        go_wp2_with fail
        refine HN.out.mono ?_
        rintro e w3 ⟨rfl, hs3, hg3⟩
        have HQ2 := Lib.hid (HQ.out.next hs3 hg3)
        clear hs3 hg3 HN HQ m0 m1 m2 m3 m4 m5 m6 hfq fr
        by_cases hr2 : y ≤ r2.length
        · have HN := Lib.hid (take_yes y rb r2 w3 HQ2.out.str hr2 HB2.out.2)
          have HE : Hid (dFs ((fieldsOf x).take (q + 1)) (op0 x, l1) = some ({ (⟨x0, x1, x2, x3, x4, x5, x6⟩ : OpV) with text := bs (r2.take y) }, r2.drop y)) := by
            show _ = _; rw [HTX.out]; unfold dTake; rw [if_pos (by simpa using hr2)]; rfl
          have HB3 : Hid (BL (r2.drop y) ∧ (r2.drop y).length ≤ 65536) := ⟨HB2.out.1.drop y, by have := HB2.out.2; simp; omega⟩
          generalize r2.take y = t2 at *
          generalize r2.drop y = r3 at *
          go_wp2_with fail
          refine HN.out.mono ?_
          rintro e w4 ⟨rfl, hs4, hg4⟩
          have HQ3 := Lib.hid (HQ2.out.next hs4 hg4)
          clear hs4 hg4 HN HQ2
          obtain ⟨m0, m1, m2, m3, m4, m5, m6⟩ := HQ3.out.cells
          have fr := HQ3.out.ope.frozen 6
          have HQ4 := Lib.hid (HQ3.out.set 6 _ (HQ3.out.op.put6 (bs t2)))
          go_wp2_with fail
          go_roundw
          case rel => exact ⟨q + 1, _, _, by omega, by go_num, HE.out, HQ4.out, HB3.out⟩
          case measure => simp [intOf]; omega
        · have HN := Lib.hid (take_no y rb r2 w3 HQ2.out.str (by omega) hy1)
          have HE : Hid (dOp l = none) := by
            show _ = _; rw [HR.out]; refine HTN.out ?_; rw [HTX.out]; unfold dTake; rw [if_neg (by simpa using hr2)]; rfl
          go_wp2_with fail
          refine HN.out.mono ?_
          rintro e w4 ⟨rfl, rfl⟩
          go_wp2_with fail
          refine ⟨rfl, ?_⟩
          exact opDec_no HE.out HQ2.out.gr
    · obtain rfl : q = nf := by omega
      have HE : Hid (dOp l = some (o, r)) := by
        show _ = _; rw [HR.out]; have := HDF.out; rwa [List.take_of_length_le (by rw [HFN.out]; omega)] at this
      obtain ⟨x0, x1, x2, x3, x4, x5, x6⟩ := o
      obtain ⟨m0, m1, m2, m3, m4, m5, m6⟩ := HQ.out.cells
      have hz : ElemT wr W.heap.size 40 := ⟨_, HQ.out.res⟩
      have r0 : wr.cell? ⟨W.heap.size, 0, none⟩ = some (.int .u8 0) := by rw [cell_of_row _ _ 0 _ _ _ HQ.out.res]; rfl
      have r1 : wr.cell? ⟨W.heap.size, 1, none⟩ = some (.int .i64 0) := by rw [cell_of_row _ _ 1 _ _ _ HQ.out.res]; rfl
      have r2 : wr.cell? ⟨W.heap.size, 2, none⟩ = some (.int .i64 0) := by rw [cell_of_row _ _ 2 _ _ _ HQ.out.res]; rfl
      have r3 : wr.cell? ⟨W.heap.size, 3, none⟩ = some (.int .i64 0) := by rw [cell_of_row _ _ 3 _ _ _ HQ.out.res]; rfl
      have r4 : wr.cell? ⟨W.heap.size, 4, none⟩ = some (.int .u32 0) := by rw [cell_of_row _ _ 4 _ _ _ HQ.out.res]; rfl
      have r5 : wr.cell? ⟨W.heap.size, 5, none⟩ = some (.int .u8 0) := by rw [cell_of_row _ _ 5 _ _ _ HQ.out.res]; rfl
      have r6 : wr.cell? ⟨W.heap.size, 6, none⟩ = some (.string ⟨#[]⟩) := by rw [cell_of_row _ _ 6 _ _ _ HQ.out.res]; rfl
      have z0 := hz.frozen 0
      have z1 := hz.frozen 1
      have z2 := hz.frozen 2
      have z3 := hz.frozen 3
      have z4 := hz.frozen 4
      have z5 := hz.frozen 5
      have z6 := hz.frozen 6
      have HZ := Lib.hid hz
      clear hz
      go_wp2_with fail
      refine bodyPost_ret (v := opVal ⟨x0, x1, x2, x3, x4, x5, x6⟩) (by simp [results, Tryz.results34, go_sem, r0, r1, r2, r3, r4, r5, r6]) rfl (opDec_yes HE.out ?_ ?_)
      · have hne : rb ≠ W.heap.size := by have := HQ.out.hrb; omega
        have hk : ∀ (W1 : World) (i : Nat) (v : Value), StrBox W1 rb 73 (bs r) → StrBox (W1.setCell ⟨W.heap.size, i, none⟩ v) rb 73 (bs r) := fun W1 i v h => ⟨(World.cell?_of_block (a := ⟨rb, 0, none⟩) (Below.heap_setCell _ _ _ _ hne)).trans h.cell, h.elem.set _ _ rfl⟩
        iterate 7 with_reducible refine hk _ _ _ ?_
        exact HQ.out.str
      · have hk : ∀ (W1 : World) (i : Nat) (v : Value), W.grownBy W1 (some rb) → W.grownBy (W1.setCell ⟨W.heap.size, i, none⟩ v) (some rb) := fun W1 i v h => ⟨h.os, h.tape, h.output, by simpa using h.size, fun q hq hr => (Below.heap_setCell _ _ _ _ (by show q ≠ W.heap.size; omega)).trans (h.block q hq hr)⟩
        iterate 7 with_reducible refine hk _ _ _ ?_
        exact HQ.out.gr
end Go.Proofs.YtbjadgggpkbjmaaGreat
namespace Go.Proofs.YtbjadgggpkbjmaaGreat
open Go.RowKit
open Runes (bs bt)

structure ScSt (W0 W : World) (rb : Nat) (l : List Int) (lim : Nat) (cfg : CfgV) (v8 v9 : Value) (ps : List (List OpV)) (ks : List Int) : Prop where
  str : StrBox W rb 73 (bs l)
  res : W.heap[W0.heap.size]? = some zeroScr
  bld : Bld W W0.heap.size (W0.heap.size + 1) lim cfg v8 v9 ps ks
  gr : W0.grownBy W (some rb)
  hrb : rb < W0.heap.size
section
variable {W0 W W' : World} {rb lim : Nat} {l l' : List Int} {cfg : CfgV} {v8 v9 : Value} {ps : List (List OpV)} {ks : List Int}
theorem ScSt.lt (h : ScSt W0 W rb l lim cfg v8 v9 ps ks) : W0.heap.size + 1 < W.heap.size := h.bld.t.lt
theorem ScSt.next (h : ScSt W0 W rb l lim cfg v8 v9 ps ks) (hs : StrBox W' rb 73 (bs l')) (hg : W.grownBy W' (some rb)) : ScSt W0 W' rb l' lim cfg v8 v9 ps ks := by
  have h1 := h.hrb
  exact ⟨hs, (hg.block _ (heap_lt h.res) (by intro e; injection e; omega)).trans h.res, h.bld.mild (Mild.grown hg fun q e => by injection e with e; subst e; exact ⟨73, h.str.elem, .inl (by decide)⟩), grown_trans h.gr hg, h.hrb⟩
theorem ScSt.other (h : ScSt W0 W rb l lim cfg v8 v9 ps ks) (hm : Mild W W' lim) (hk : ∀ q, q < W0.heap.size + 1 → W'.heap[q]? = W.heap[q]?) : ScSt W0 W' rb l lim cfg v8 v9 ps ks := by
  have h1 := h.hrb
  exact ⟨h.str.grownN (hk rb (by omega)), (hk _ (by omega)).trans h.res, h.bld.mild hm, ⟨hm.1.trans h.gr.os, hm.2.1.trans h.gr.tape, hm.2.2.1.trans h.gr.output, Nat.le_trans h.gr.size hm.2.2.2.1, fun q hq hr => (hk q (by omega)).trans (h.gr.block q hq hr)⟩, h.hrb⟩
theorem ScSt.alloc (h : ScSt W0 W rb l lim cfg v8 v9 ps ks) (o : Obj) : ScSt W0 (W.alloc o) rb l lim cfg v8 v9 ps ks := by
  have := h.lt
  exact h.other (Mild.alloc _ _ _) fun q hq => Below.heap_alloc _ _ _ (by omega)
theorem ScSt.drewN (h : ScSt W0 W rb l lim cfg v8 v9 ps ks) (k : Nat) : ScSt W0 (W.drewN k) rb l lim cfg v8 v9 ps ks := h.other (Mild.drewN W k lim) fun _ _ => rfl
theorem ScSt.more {lim' : Nat} (h : ScSt W0 W rb l lim cfg v8 v9 ps ks) (hl : lim ≤ lim') : ScSt W0 W rb l lim' cfg v8 v9 ps ks := ⟨h.str, h.res, h.bld.more hl, h.gr, h.hrb⟩
theorem ScSt.fr (h : ScSt W0 W rb l lim cfg v8 v9 ps ks) (i : Nat) : W.frozen? ⟨W0.heap.size + 1, i, none⟩ = false := h.bld.t.frozen i
theorem ScSt.put {cfg' : CfgV} {v8' v9' : Value} {ps' : List (List OpV)} {ks' : List Int} (h : ScSt W0 W rb l lim cfg v8 v9 ps ks) (i : Nat) (v : Value) (hb : Bld (W.setCell ⟨W0.heap.size + 1, i, none⟩ v) W0.heap.size (W0.heap.size + 1) lim cfg' v8' v9' ps' ks') :
    ScSt W0 (W.setCell ⟨W0.heap.size + 1, i, none⟩ v) rb l lim cfg' v8' v9' ps' ks' := by
  have h1 := h.hrb
  have hk : ∀ q, q ≠ W0.heap.size + 1 → (W.setCell ⟨W0.heap.size + 1, i, none⟩ v).heap[q]? = W.heap[q]? := fun q hq => Below.heap_setCell _ _ _ _ hq
  exact ⟨h.str.grownN (hk rb (by omega)), (hk _ (by omega)).trans h.res, hb, ⟨h.gr.os, h.gr.tape, h.gr.output, by simpa using h.gr.size, fun q hq hr => (hk q (by omega)).trans (h.gr.block q hq hr)⟩, h.hrb⟩
end
theorem scst_start {W : World} {rb : Nat} {l : List Int} (h : StrBox W rb 73 (bs l)) : ScSt W ((W.alloc zeroScr).alloc zeroScr) rb l W.heap.size cfg0 (.slice none 0 0) (.slice none 0 0) [] [] := by
  have hlt := h.elem.lt
  have h1 : ((W.alloc zeroScr).alloc zeroScr).heap[W.heap.size]? = some zeroScr := (Below.heap_alloc _ _ _ (by simp)).trans (heap_alloc_new _ _)
  have h2 : ((W.alloc zeroScr).alloc zeroScr).heap[W.heap.size + 1]? = some zeroScr := heap_new _ (by simp)
  have hk : ∀ q, q < W.heap.size → ((W.alloc zeroScr).alloc zeroScr).heap[q]? = W.heap[q]? := fun q hq => (Below.heap_alloc _ _ _ (by simp; omega)).trans (Below.heap_alloc _ _ _ hq)
  have hc : ∀ i u, (#[.int .i64 0, .int .u64 0, .int .i64 0, .int .i64 0, .int .i64 0, .int .i64 0, .int .i64 0, .string ⟨#[]⟩, .slice none 0 0, .slice none 0 0] : Array Value)[i]? = some u → ((W.alloc zeroScr).alloc zeroScr).cell? ⟨W.heap.size + 1, i, none⟩ = some u := fun i u hu => by
    rw [cell_of_row _ _ i _ _ _ h2]; exact hu
  exact ⟨h.grownN (hk rb hlt), h1, ⟨⟨_, h2⟩, by omega, hc 0 _ rfl, hc 1 _ rfl, hc 2 _ rfl, hc 3 _ rfl, hc 4 _ rfl, hc 5 _ rfl, hc 6 _ rfl, hc 7 _ rfl, hc 8 _ rfl, hc 9 _ rfl, ⟨[], World.ownsRow_nil _ _ _ _, rfl, fun j hj => absurd hj (by simp)⟩, World.ownsRow_nil _ _ _ _⟩,
    ⟨rfl, rfl, rfl, by simp; omega, fun q hq _ => hk q hq⟩, hlt⟩
theorem prog_pushedS {W0 W w1 : World} {rb lim lim' n c : Nat} {A : Option Addr} {l : List Int} {cf : CfgV} {v8 v9 v1 : Value} {ps : List (List OpV)} {ks : List Int} {xs : List OpV} {O : Obj} {vals : List Value}
    (h : ScSt W0 W rb l lim cf v8 v9 ps ks) (hc : CurRow W lim' (.slice A n c) xs) (hl : lim ≤ W.heap.size) (h8 : W.ownsRow W0.heap.size 41 1 v8 ps.length vals) (hp : ProgVals W lim vals ps)
    (hown : w1.ownsRow W0.heap.size 41 1 v1 (ps.length + 1) (vals ++ [.slice A n c])) (hg : (W.alloc O).grownBy w1 v8.ownBlock) :
    w1.cell? ⟨W0.heap.size + 1, 8, none⟩ = some v8 ∧ w1.frozen? ⟨W0.heap.size + 1, 8, none⟩ = false ∧ ScSt W0 (w1.setCell ⟨W0.heap.size + 1, 8, none⟩ v1) rb l W.heap.size cf v1 v9 (ps ++ [xs]) ks := by
  obtain ⟨rfl, hx⟩ := opsIn_of_cur hc
  have ha := h.alloc O
  have h1 := h.hrb
  have h8a : (W.alloc O).ownsRow W0.heap.size 41 1 v8 ps.length vals := World.ownsRow.alloc h8 _
  have hne : ∀ {q : Nat} {t : TypeId}, ElemT (W.alloc O) q t → t ≠ 41 → w1.heap[q]? = (W.alloc O).heap[q]? := fun {q t} ht hn => hg.block q ht.lt (fun e => absurd rfl (ht.ne (own_elem h8a e.symm) hn))
  have hk0 := hne ha.str.elem (by decide)
  have hk1 : w1.heap[W0.heap.size]? = (W.alloc O).heap[W0.heap.size]? := hne (t := 28) ⟨_, ha.res⟩ (by decide)
  have hk2 := hne ha.bld.t (by decide)
  have hxa : OpsIn (W.alloc O) W.heap.size A xs := fun hpos => by
    obtain ⟨b, o, e, hb, ht, hcl⟩ := hx hpos
    have hkb : (W.alloc O).heap[b]? = W.heap[b]? := Below.heap_alloc _ _ _ ht.lt
    exact ⟨b, o, e, hb, ht.keep hkb, fun j hj => (hcl j hj).keep hkb⟩
  have hpa : ProgVals (W.alloc O) lim vals ps := hp.mild (Mild.alloc W O lim)
  have hb := Bld.push_prog ha.bld hl hxa vals hpa hown hg h8a
  refine ⟨(World.cell?_of_block (a := ⟨W0.heap.size + 1, 8, none⟩) hk2).trans ha.bld.c8, (ha.bld.t.keep hk2).frozen 8, ?_, ?_, hb, ?_, h1⟩
  · exact (ha.str.grownN hk0).grownN (Below.heap_setCell _ _ _ _ (by show rb ≠ W0.heap.size + 1; omega))
  · exact (Below.heap_setCell _ _ _ _ (by show W0.heap.size ≠ W0.heap.size + 1; omega)).trans (hk1.trans ha.res)
  · have hgs := hg.size
    refine ⟨hg.os.trans ha.gr.os, hg.tape.trans ha.gr.tape, hg.output.trans ha.gr.output, by simpa using Nat.le_trans ha.gr.size hgs, fun q hq hr => ?_⟩
    rw [Below.heap_setCell _ _ _ _ (by show q ≠ W0.heap.size + 1; omega), hg.block q (Nat.lt_of_lt_of_le hq ha.gr.size) (fun e => by have := (World.ownsRow.lt h8a q e.symm).1; omega)]
    exact ha.gr.block q hq hr
theorem pick_pushedS {W0 W w1 : World} {rb lim : Nat} {l : List Int} {cf : CfgV} {v8 v9 v1 : Value} {ps : List (List OpV)} {ks : List Int} {x : Int} {O : Obj} {k : Nat}
    (h : ScSt W0 W rb l lim cf v8 v9 ps ks) (hk : ks.length = k)
    (hown : w1.ownsRow W0.heap.size 3 1 v1 (k + 1) (ks.map (Value.int .i64) ++ [.int .i64 x])) (hg : (W.alloc O).grownBy w1 v9.ownBlock) :
    w1.cell? ⟨W0.heap.size + 1, 9, none⟩ = some v9 ∧ w1.frozen? ⟨W0.heap.size + 1, 9, none⟩ = false ∧ ScSt W0 (w1.setCell ⟨W0.heap.size + 1, 9, none⟩ v1) rb l lim cf v8 v1 ps (ks ++ [x]) := by
  subst hk
  have ha := h.alloc O
  have h1 := h.hrb
  have h9a := ha.bld.picks
  have hne : ∀ {q : Nat} {t : TypeId}, ElemT (W.alloc O) q t → t ≠ 3 → w1.heap[q]? = (W.alloc O).heap[q]? := fun {q t} ht hn => hg.block q ht.lt (fun e => absurd rfl (ht.ne (own_elem h9a e.symm) hn))
  have hk0 := hne ha.str.elem (by decide)
  have hk1 : w1.heap[W0.heap.size]? = (W.alloc O).heap[W0.heap.size]? := hne (t := 28) ⟨_, ha.res⟩ (by decide)
  have hk2 := hne ha.bld.t (by decide)
  have hb := Bld.push_pick ha.bld hown hg
  refine ⟨(World.cell?_of_block (a := ⟨W0.heap.size + 1, 9, none⟩) hk2).trans ha.bld.c9, (ha.bld.t.keep hk2).frozen 9, ?_, ?_, hb, ?_, h1⟩
  · exact (ha.str.grownN hk0).grownN (Below.heap_setCell _ _ _ _ (by show rb ≠ W0.heap.size + 1; omega))
  · exact (Below.heap_setCell _ _ _ _ (by show W0.heap.size ≠ W0.heap.size + 1; omega)).trans (hk1.trans ha.res)
  · have hgs := hg.size
    refine ⟨hg.os.trans ha.gr.os, hg.tape.trans ha.gr.tape, hg.output.trans ha.gr.output, by simpa using Nat.le_trans ha.gr.size hgs, fun q hq hr => ?_⟩
    rw [Below.heap_setCell _ _ _ _ (by show q ≠ W0.heap.size + 1; omega), hg.block q (Nat.lt_of_lt_of_le hq ha.gr.size) (fun e => by have := (World.ownsRow.lt h9a q e.symm).1; omega)]
    exact ha.gr.block q hq hr
theorem ops_pushedS {W0 W w1 : World} {rb lim : Nat} {l : List Int} {cf : CfgV} {v8 v9 v7 v1 : Value} {ps : List (List OpV)} {ks : List Int} {xs : List OpV} {o : OpV} {O : Obj}
    (h : ScSt W0 W rb l lim cf v8 v9 ps ks) (hc : CurRow W lim v7 xs) (hl : lim ≤ W.heap.size) (h4 : W0.heap.size + 1 < lim)
    (hown : w1.ownsRow lim 40 7 v1 (xs.length + 1) ((xs.flatMap opCells) ++ opCells o)) (hg : (W.alloc O).grownBy w1 v7.ownBlock) :
    ScSt W0 w1 rb l lim cf v8 v9 ps ks ∧ CurRow w1 lim v1 (xs ++ [o]) ∧ lim ≤ w1.heap.size := by
  have hca : CurRow (W.alloc O) lim v7 xs := World.ownsRow.alloc hc _
  have hs := hg.size
  refine ⟨(h.alloc O).other (Mild.grown hg fun q e => ⟨40, own_elem hca e, .inr ⟨rfl, (World.ownsRow.lt hca q e).1⟩⟩) fun q hq => hg.block q (by simp; omega) (fun e => ?_), ?_, by simp at hs; omega⟩
  · have := (World.ownsRow.lt hca q e.symm).1
    omega
  · show w1.ownsRow lim 40 7 v1 (xs ++ [o]).length ((xs ++ [o]).flatMap opCells)
    rw [List.length_append, List.flatMap_append, show [o].flatMap opCells = opCells o from by simp]
    exact hown

/-! ### Five numbers -/
def dFive : Nat → List Int → Option (List Int × List Int)
  | 0, l => some ([], l)
  | n + 1, l => (dFive n l).bind fun y => (dNum y.2 1).map fun z => (y.1 ++ [z.1], z.2)
def mkCfg (a b : Int) (ys : List Int) (t : ByteArray) : CfgV := ⟨a, b, ys.getD 0 0, ys.getD 1 0, ys.getD 2 0, ys.getD 3 0, ys.getD 4 0, t⟩
theorem dCfg_eq (l : List Int) : dCfg l = (dNum l 2).bind fun a => (dNum a.2 4).bind fun b => (dFive 5 b.2).bind fun y => (dText y.2).map fun t => (mkCfg a.1 b.1 y.1 t.1, t.2) := by
  unfold dCfg
  cases dNum l 2 with
  | none => rfl
  | some a =>
    simp only [Option.bind_some]
    cases dNum a.2 4 with
    | none => rfl
    | some b =>
      simp only [Option.bind_some, dFive]
      cases dNum b.2 1 with
      | none => rfl
      | some c =>
        simp only [Option.bind_some, Option.map_some]
        cases dNum c.2 1 with
        | none => rfl
        | some d =>
          simp only [Option.bind_some, Option.map_some]
          cases dNum d.2 1 with
          | none => rfl
          | some e =>
            simp only [Option.bind_some, Option.map_some]
            cases dNum e.2 1 with
            | none => rfl
            | some g =>
              simp only [Option.bind_some, Option.map_some]
              cases dNum g.2 1 with
              | none => rfl
              | some h => rfl
theorem dFive_len (n : Nat) : ∀ {l ys r : List Int}, dFive n l = some (ys, r) → ys.length = n := by
  induction n with
  | zero => intro l ys r h; simp only [dFive, Option.some.injEq, Prod.mk.injEq] at h; rw [← h.1]; rfl
  | succ n ih =>
    intro l ys r h
    simp only [dFive, Option.bind_eq_some_iff, Option.map_eq_some_iff] at h
    obtain ⟨⟨y, r1⟩, h1, ⟨z, r2⟩, h2, h3⟩ := h
    simp only [Prod.mk.injEq] at h3
    obtain ⟨rfl, rfl⟩ := h3
    simp [ih h1]
theorem dFive_none {n m : Nat} {l : List Int} (hn : n ≤ m) (h : dFive n l = none) : dFive m l = none := by
  induction m with
  | zero => obtain rfl : n = 0 := by omega
            exact h
  | succ m ih =>
    by_cases e : n = m + 1
    · subst e; exact h
    · simp only [dFive, ih (by omega), Option.bind_none]
theorem dOps_none {n m : Nat} {l : List Int} (hn : n ≤ m) (h : dOps n l = none) : dOps m l = none := by
  induction m with
  | zero => obtain rfl : n = 0 := by omega
            exact h
  | succ m ih =>
    by_cases e : n = m + 1
    · subst e; exact h
    · simp only [dOps, ih (by omega), Option.bind_none]
theorem dProgs_none {n m : Nat} {l : List Int} (hn : n ≤ m) (h : dProgs n l = none) : dProgs m l = none := by
  induction m with
  | zero => obtain rfl : n = 0 := by omega
            exact h
  | succ m ih =>
    by_cases e : n = m + 1
    · subst e; exact h
    · simp only [dProgs, ih (by omega), Option.bind_none]
end Go.Proofs.YtbjadgggpkbjmaaGreat
